import Derived.Test.YtpjkepfplhllfaaDoorAv4
namespace Go.Proofs.YtpjkepfplhllfaaDoor.Av
set_option linter.unusedSimpArgs false
set_option linter.unusedVariables false
open Go
section
variable {P : Program} {w : World} {φ : Nat → Nat} {E : Env} {f : Fm} {σ : St} {a : Act} {Ω : List Own}

theorem eqGuard_int (op : BinOp) (t : TypeId) (x y : Operand) (k j : IntKind) (m n : Int) (w : World) : (eqGuard op t x y (.int k m) (.int j n)).run P w = .ok () w := by cases op <;> rfl
theorem eqGuard_str (op : BinOp) (t : TypeId) (x y : Operand) (m n : ByteArray) (w : World) : (eqGuard op t x y (.string m) (.string n)).run P w = .ok () w := by cases op <;> rfl
theorem eqGuard_bool (op : BinOp) (t : TypeId) (x y : Operand) (m n : Bool) (w : World) : (eqGuard op t x y (.bool m) (.bool n)).run P w = .ok () w := by cases op <;> rfl
theorem eqGuard_slice (op : BinOp) (t : TypeId) (x y : Operand) (A B : Option Addr) (m n c d : Nat) (w : World) : (eqGuard op t x y (.slice A m c) (.slice B n d)).run P w = .ok () w := by cases op <;> rfl

theorem maxDepth_succ : Op.maxDepth = 9999 + 1 := rfl
theorem equal_bool {t : TypeId} (hd : P.underlying t = some .bool) (a b : Bool) (w : World) : (Op.equal t (.bool a) (.bool b)).run P w = .ok (a == b) w := by
  rw [Op.equal, maxDepth_succ, Op.equalIn]
  simp only [Sem.run_bind, run_underlying hd, Result.andThen_ok, Sem.run_pure]
theorem equal_nil {t e : TypeId} (hd : P.underlying t = some (.slice e)) (A : Option Addr) (n c : Nat) (w : World) : (Op.equal t (.slice A n c) (.slice none 0 0)).run P w = .ok A.isNone w := by
  rw [Op.equal, maxDepth_succ, Op.equalIn]
  cases A <;> simp only [Sem.run_bind, run_underlying hd, Result.andThen_ok] <;> rfl

theorem binA_run (hE : EnvOK P E) {op : BinOp} {t : TypeId} {x y r : AV} {xv yv : Value} (ox oy : Operand) (h : binA E op t x y = some r) (hx : Rep w φ x xv) (hy : Rep w φ y yv) :
    ∃ v, (do eqGuard op t ox oy xv yv; binOp op t xv yv : Sem Value).run P w = .ok v w ∧ Rep w φ r v ∧ TagOK Ω r v := by
  have guard : ∀ {xv yv : Value} {R : Result Value}, (eqGuard op t ox oy xv yv).run P w = .ok () w → (binOp op t xv yv).run P w = R →
      (do eqGuard op t ox oy xv yv; binOp op t xv yv : Sem Value).run P w = R := by
    intro xv yv R h1 h3
    simp only [Sem.run_bind, h1, Result.andThen_ok, h3]
  unfold binA at h
  split at h
  · rename_i k x j y
    simp only [Rep] at hx hy
    subst hx hy
    split at h
    · split at h
      · rename_i hy
        simp only [Option.some.injEq] at h; subst h
        refine ⟨_, guard (eqGuard_int .. ) (by simp [binOp, Op.shift, Int.not_lt.2 hy]; rfl), by simp [Rep], trivial⟩
      · cases h
    · split at h
      · rename_i hy
        simp only [Option.some.injEq] at h; subst h
        refine ⟨_, guard (eqGuard_int .. ) (by simp [binOp, Op.shift, Int.not_lt.2 hy]; rfl), by simp [Rep], trivial⟩
      · cases h
    · rename_i n1 n2
      split at h
      · rename_i hk
        subst hk
        obtain ⟨v, hv, hr⟩ := intOp_run (P := P) (Ω := Ω) h ⟨n1, n2⟩ t w
        exact ⟨v, guard (eqGuard_int .. ) hv, hr w φ⟩
      · cases h
  · simp only [Rep] at hx hy
    subst hx hy
    obtain ⟨v, hv, hr⟩ := strOp_run (P := P) (Ω := Ω) h t w
    exact ⟨v, guard (eqGuard_str .. ) hv, hr w φ⟩
  · rename_i x y
    simp only [Rep] at hx hy
    subst hx hy
    split at h
    · rename_i l hl
      obtain ⟨ti, d, hi, hd, e1, e2, e3, e4, e5⟩ := mkLay_spec (hE t _ hl)
      have := mkKind_bool e4
      subst this
      split at h
      all_goals first | (cases h; done) | skip
      all_goals
        simp only [Option.some.injEq] at h; subst h
        refine ⟨_, guard (eqGuard_bool .. ) (by simp only [binOp, Sem.run_bind, equal_bool hd, Result.andThen_ok]; rfl), by simp only [Rep] <;> cases x <;> cases y <;> rfl, trivial⟩
    · cases h
  · simp only [Rep] at hx hy
    subst hx hy
    split at h
    · rename_i l hl
      obtain ⟨ti, d, hi, hd, e1, e2, e3, e4, e5⟩ := mkLay_spec (hE t _ hl)
      have := mkKind_slice e4
      subst this
      split at h
      all_goals first | (cases h; done) | skip
      all_goals
        simp only [Option.some.injEq] at h; subst h
        refine ⟨_, guard (eqGuard_slice .. ) (by simp only [binOp, Sem.run_bind, equal_nil hd, Result.andThen_ok]; rfl), by simp [Rep], trivial⟩
    · cases h
  · simp only [Rep] at hx hy
    subst hy
    obtain ⟨A, n, c, rfl, h1, h2, h3⟩ := hx
    obtain ⟨b, o, sz, rfl, h3⟩ := h3.resolve_left (by simp)
    split at h
    · rename_i l hl
      obtain ⟨ti, d, hi, hd, e1, e2, e3, e4, e5⟩ := mkLay_spec (hE t _ hl)
      have := mkKind_slice e4
      subst this
      split at h
      all_goals first | (cases h; done) | skip
      all_goals
        simp only [Option.some.injEq] at h; subst h
        refine ⟨_, guard (eqGuard_slice .. ) (by simp only [binOp, Sem.run_bind, equal_nil hd, Result.andThen_ok]; rfl), by simp [Rep], trivial⟩
    · cases h
  · cases h

theorem unA_run {op : UnOp} {x r : AV} {xv : Value} (h : unA op x = some r) (hx : Rep w φ x xv) : ∃ v, (Op.unary op xv).run P w = .ok v w ∧ Rep w φ r v ∧ TagOK Ω r v := by
  unfold unA at h
  split at h
  · simp only [Option.some.injEq] at h; subst h
    simp only [Rep] at hx; subst hx
    exact ⟨_, by simp [Op.unary]; rfl, by simp [Rep], trivial⟩
  · simp only [Option.some.injEq] at h; subst h
    simp only [Rep] at hx; subst hx
    exact ⟨_, by simp [Op.unary, Op.intArith]; rfl, by simp [Rep], trivial⟩
  · simp only [Option.some.injEq] at h; subst h
    simp only [Rep] at hx; subst hx
    exact ⟨_, by simp [Op.unary, Op.intBits]; rfl, by simp [Rep], trivial⟩
  · cases h

theorem convA_run (hE : EnvOK P E) {src dst : TypeId} {x r : AV} {xv : Value} (h : convA E dst x = some r) (hx : Rep w φ x xv) (hsrc : ∃ d, P.underlying src = some d) :
    ∃ v, (convert src dst xv).run P w = .ok v w ∧ Rep w φ r v ∧ TagOK Ω r v := by
  unfold convA at h
  split at h
  · rename_i l k n hl
    obtain ⟨ti, d, hi, hd, e1, e2, e3, e4, e5⟩ := mkLay_spec (hE dst _ hl)
    have := mkKind_int e4
    subst this
    simp only [Option.some.injEq] at h; subst h
    simp only [Rep] at hx; subst hx
    obtain ⟨sd, hsd⟩ := hsrc
    refine ⟨_, by simp [convert, run_underlying hd, run_underlying hsd, Conv.intToInt]; rfl, by simp [Rep], trivial⟩
  · cases h

theorem indexAddrA_run (hE : EnvOK P E) {t : TypeId} {x i r : AV} {xv iv : Value} (h : indexAddrA E t x i = some r) (hx : Rep w φ x xv) (hi : Rep w φ i iv) :
    ∃ v, (Instr.indexAt t xv iv).run P w = .ok v w ∧ Rep w φ r v ∧ TagOK Ω r v := by
  unfold indexAddrA at h
  split at h
  · rename_i l e k n hl
    obtain ⟨ti, d, hti, hd, e1, e2, e3, e4, e5⟩ := mkLay_spec (hE t _ hl)
    have := mkKind_slice e4
    subst this
    split at h
    · rename_i le tg xs hle
      obtain ⟨te, de, hte, hde, f1, f2, f3, f4, f5⟩ := mkLay_spec (hE e _ hle)
      split at h
      · rename_i hn
        simp only [Option.some.injEq] at h; subst h
        simp only [Rep] at hx hi
        subst hi
        obtain ⟨A, m, c, rfl, h1, h2, h3⟩ := hx
        have hne : xs ≠ [] := by intro e; subst e; simp at hn; omega
        obtain ⟨b, o, sz, rfl, h4⟩ := h3.resolve_left hne
        obtain ⟨hn1, hn2, hn3⟩ := hn
        have hlt : n.toNat < xs.length := by omega
        have hget : xs[n.toNat]? = some (xs.getD n.toNat []) := by simp [List.getD, List.getElem?_eq_getElem hlt]
        obtain ⟨hl1, hl2⟩ := RepRows.get h4 hget
        refine ⟨.pointer (some ⟨b, o + n.toNat * sz, none⟩), ?_, by simp only [Rep]; exact ⟨_, _, rfl, hl2⟩, trivial⟩
        have hb1 : n < (m : Int) := by omega
        have hsz : te.size = sz := by rw [← f1, ← hn3, hl1]
        simp [Instr.indexAt, asIntOf, run_underlying hd, hn1, hb1, run_sizeOf' hte, addr_add, hsz]
      · cases h
    · cases h
  · rename_i l len e k n hl
    obtain ⟨ti, d, hti, hd, e1, e2, e3, e4, e5⟩ := mkLay_spec (hE t _ hl)
    have := mkKind_array e4
    subst this
    split at h
    · cases h
    rename_i le hle
    obtain ⟨te, de, hte, hde, f1, f2, f3, f4, f5⟩ := mkLay_spec (hE e _ hle)
    simp only [Rep] at hi
    subst hi
    split at h
    · rename_i hn
      obtain ⟨hn1, hn2⟩ := hn
      split at h
      · simp only [Option.some.injEq] at h; subst h
        simp only [Rep] at hx
        obtain ⟨b, o, rfl, hx⟩ := hx
        refine ⟨.pointer (some ⟨b, o + n.toNat * le.size, none⟩), ?_, by simp only [Rep]; exact ⟨_, _, rfl, hx.drop _⟩, trivial⟩
        simp [Instr.indexAt, asIntOf, run_underlying hd, hn1, hn2, run_sizeOf' hte, addr_add, Instr.sureAddr, f1]
      · rename_i b o
        simp only [Option.some.injEq] at h; subst h
        simp only [Rep] at hx
        subst hx
        refine ⟨.pointer (some ⟨b, o + n.toNat * le.size, none⟩), ?_, by simp only [Rep], trivial⟩
        simp [Instr.indexAt, asIntOf, run_underlying hd, hn1, hn2, run_sizeOf' hte, addr_add, Instr.sureAddr, f1]
      · cases h
    · cases h
  · cases h

theorem indexA_run (hE : EnvOK P E) {t : TypeId} {x i r : AV} {xv iv : Value} (h : indexA E t x i = some r) (hx : Rep w φ x xv) (hi : Rep w φ i iv) :
    ∃ v, (Instr.index t xv iv).run P w = .ok v w ∧ Rep w φ r v ∧ TagOK Ω r v := by
  unfold indexA at h
  split at h
  · rename_i l s k n hl
    obtain ⟨ti, d, hti, hd, e1, e2, e3, e4, e5⟩ := mkLay_spec (hE t _ hl)
    have := mkKind_string e4
    subst this
    simp only [Rep] at hx hi
    subst hx hi
    split at h
    · rename_i hn
      obtain ⟨hn1, hn2⟩ := hn
      simp only [Option.some.injEq] at h; subst h
      have hlt : n.toNat < s.length := by omega
      have hget : (⟨s.toArray⟩ : ByteArray)[n.toNat]? = some (s.getD n.toNat 0) := by
        have hsz : n.toNat < (⟨s.toArray⟩ : ByteArray).size := by rw [bs_size]; exact hlt
        rw [getElem?_pos (⟨s.toArray⟩ : ByteArray) n.toNat hsz]
        simp [List.getD, List.getElem?_eq_getElem hlt]
        rfl
      refine ⟨.int .u8 (s.getD n.toNat 0).toNat, ?_, by simp only [Rep], trivial⟩
      simp only [Instr.index, asIntOf, Sem.run_bind, Sem.run_pure, Result.andThen_ok, run_underlying hd, if_pos hn1, hget]
    · cases h
  · cases h

theorem optI_int {x : AV} {xv : Value} {o : Option Int} (h : optI (some x) = some o) (hx : Rep w φ x xv) : ∃ k n, xv = .int k n ∧ o = some n := by
  cases x <;> simp only [optI, reduceCtorEq, Option.some.injEq] at h
  simp only [Rep] at hx
  exact ⟨_, _, hx, h.symm⟩
theorem run_sliceBound {k : IntKind} {n : Int} {y : Nat} {code : BoundsCode} (h1 : 0 ≤ n) (h2 : n ≤ y) (w : World) : (Instr.sliceBound (.int k n) y code).run P w = .ok n.toNat w := by
  simp [Instr.sliceBound, asIntOf, h1, h2]
theorem run_sliceBounds {isS : Bool} {len cap : Nat} {lo hi : Option AV} {lv hv : Option Value} {l h : Option Int} (hl : optI lo = some l) (hh : optI hi = some h)
    (rl : ∀ x, lo = some x → ∃ v, lv = some v ∧ Rep w φ x v) (nl : lo = none → lv = none) (rh : ∀ x, hi = some x → ∃ v, hv = some v ∧ Rep w φ x v) (nh : hi = none → hv = none)
    (hc : len ≤ cap) (h1 : 0 ≤ l.getD 0) (h2 : l.getD 0 ≤ h.getD len) (h3 : h.getD len ≤ len) :
    (Instr.sliceBounds isS len cap lv hv none).run P w = .ok ((l.getD 0).toNat, (h.getD len).toNat, cap) w := by
  cases hi with
  | none =>
    rw [nh rfl]
    simp only [optI, Option.some.injEq] at hh
    subst hh
    simp only [Option.getD_none] at h2 h3 ⊢
    cases lo with
    | none =>
      rw [nl rfl]
      simp only [optI, Option.some.injEq] at hl
      subst hl
      simp [Instr.sliceBounds]
    | some x =>
      obtain ⟨v, hv', hr⟩ := rl x rfl
      obtain ⟨k, n, rfl, rfl⟩ := optI_int hl hr
      rw [hv']
      simp only [Option.getD_some] at h1 h2 ⊢
      simp [Instr.sliceBounds, run_sliceBound (P := P) (k := k) (n := n) (y := len) h1 h2]
  | some y =>
    obtain ⟨u, hu', hru⟩ := rh y rfl
    obtain ⟨j, m, rfl, rfl⟩ := optI_int hh hru
    rw [hu']
    simp only [Option.getD_some] at h2 h3 ⊢
    have hm := fun code => run_sliceBound (P := P) (k := j) (n := m) (y := cap) (code := code) (by omega) (by omega) w
    cases lo with
    | none =>
      rw [nl rfl]
      simp only [optI, Option.some.injEq] at hl
      subst hl
      simp [Instr.sliceBounds, hm]
    | some x =>
      obtain ⟨v, hv', hr⟩ := rl x rfl
      obtain ⟨k, n, rfl, rfl⟩ := optI_int hl hr
      rw [hv']
      simp only [Option.getD_some] at h1 h2 ⊢
      simp [Instr.sliceBounds, hm, run_sliceBound (P := P) (k := k) (n := n) (y := m.toNat) h1 (by omega)]

theorem RepRows.nil_iff {b sz o : Nat} : RepRows w φ b sz o [] := by simp only [RepRows]

theorem sliceA_run (hE : EnvOK P E) {t : TypeId} {x r : AV} {xv : Value} {lo hi : Option AV} {lv hv : Option Value} (h : sliceA E t x lo hi = some r) (hx : Rep w φ x xv)
    (rl : ∀ x, lo = some x → ∃ v, lv = some v ∧ Rep w φ x v) (nl : lo = none → lv = none) (rh : ∀ x, hi = some x → ∃ v, hv = some v ∧ Rep w φ x v) (nh : hi = none → hv = none) (hΩ : ∀ x ∈ Ω, x.tag ≠ .none) :
    ∃ v, (Instr.sliceAt t xv lv hv none).run P w = .ok v w ∧ Rep w φ r v ∧ TagOK Ω r v := by
  unfold sliceA at h
  split at h
  · rename_i l e lo' hi' hl hlo hhi
    obtain ⟨ti, d, hti, hd, e1, e2, e3, e4, e5⟩ := mkLay_spec (hE t _ hl)
    have := mkKind_slice e4
    subst this
    split at h
    · rename_i le tg xs hle
      obtain ⟨te, de, hte, hde, f1, f2, f3, f4, f5⟩ := mkLay_spec (hE e _ hle)
      simp only [Rep] at hx
      obtain ⟨A, m, c, rfl, h1, h2, h3⟩ := hx
      split at h
      · rename_i hn
        obtain ⟨n1, n2, n3, n4⟩ := hn
        rw [h1] at n2 n3
        simp only [Option.some.injEq] at h; subst h
        have hb := run_sliceBounds (P := P) (isS := true) (cap := c) hlo hhi rl nl rh nh h2 n1 n2 n3
        refine ⟨_, by simp only [Instr.sliceAt, Instr.slice, Sem.run_bind, run_underlying hd, Result.andThen_ok, hb, run_sizeOf' hte, Sem.run_pure]; rfl, ?_, TagOK.none hΩ⟩
        simp only [Rep]
        refine ⟨_, _, _, rfl, ?_, ?_, ?_⟩
        · simp only [List.length_drop, List.length_take, h1]; omega
        · omega
        · by_cases hemp : (xs.take (hi'.getD ↑xs.length).toNat).drop (lo'.getD 0).toNat = []
          · exact .inl hemp
          · right
            rcases h3 with h3 | ⟨b, o, sz, rfl, h4⟩
            · subst h3; simp at hemp
            · rw [h1] at hemp
              have hlt : (lo'.getD 0).toNat < m := by
                rcases Nat.lt_or_ge (lo'.getD 0).toNat m with h | h
                · exact h
                · exact absurd (List.drop_eq_nil_of_le (by simp only [List.length_take]; omega)) hemp
              have hsz : te.size = sz := by
                cases xs with
                | nil => simp at hemp
                | cons x0 xs0 => simp only [RepRows] at h4; rw [← f1, ← n4 x0 (by simp), h4.1]
              refine ⟨b, o + (lo'.getD 0).toNat * sz, sz, ?_, ?_⟩
              · rw [if_neg (by omega)]
                simp [addr_add, hsz]
              · rw [h1]
                exact (h4.take _).drop _
      · cases h
    · rename_i le hle
      obtain ⟨te, de, hte, hde, f1, f2, f3, f4, f5⟩ := mkLay_spec (hE e _ hle)
      simp only [Rep] at hx
      subst hx
      split at h
      · rename_i hn
        obtain ⟨n1, n2⟩ := hn
        simp only [Option.some.injEq] at h; subst h
        have hb : (Instr.sliceBounds true 0 0 lv hv none).run P w = .ok ((lo'.getD 0).toNat, (hi'.getD (0 : Nat)).toNat, 0) w :=
          run_sliceBounds (P := P) (isS := true) (cap := 0) hlo hhi rl nl rh nh (Nat.le_refl _) (by omega) (by cases hi' <;> simp_all) (by cases hi' <;> simp_all)
        refine ⟨.slice none 0 0, ?_, by simp only [Rep], trivial⟩
        have h0 : (hi'.getD (0 : Nat)).toNat = 0 := by cases hi' <;> simp_all
        have h1 : (lo'.getD 0).toNat = 0 := by omega
        rw [h0, h1] at hb
        simp [Instr.sliceAt, Instr.slice, run_underlying hd, hb, run_sizeOf' hte]
      · cases h
    · cases h
  · rename_i l lo' hi' hl hlo hhi
    obtain ⟨ti, d, hti, hd, e1, e2, e3, e4, e5⟩ := mkLay_spec (hE t _ hl)
    have := mkKind_string e4
    subst this
    split at h
    · rename_i s
      simp only [Rep] at hx
      subst hx
      split at h
      · rename_i hn
        obtain ⟨n1, n2, n3⟩ := hn
        simp only [Option.some.injEq] at h; subst h
        have hb := run_sliceBounds (P := P) (isS := false) (cap := s.length) hlo hhi rl nl rh nh (Nat.le_refl _) n1 n2 n3
        refine ⟨.string ⟨((s.take (hi'.getD s.length).toNat).drop (lo'.getD 0).toNat).toArray⟩, ?_, by simp only [Rep], trivial⟩
        have hx : (⟨s.toArray⟩ : ByteArray).extract (lo'.getD 0).toNat (hi'.getD s.length).toNat = ⟨((s.take (hi'.getD s.length).toNat).drop (lo'.getD 0).toNat).toArray⟩ := by
          rw [← Lib.mk_data ((⟨s.toArray⟩ : ByteArray).extract _ _), ← Lib.toList_data, Lib.extract_toList]
          simp [List.drop_take]
        simp [Instr.sliceAt, Instr.slice, run_underlying hd, bs_size, hb, hx]
      · cases h
    · cases h
  · cases h

theorem lenA_run (hE : EnvOK P E) (hs : SS E w φ Ω σ) {t ty : TypeId} {x r : AV} {xv : Value} (h : lenA E σ t x = some r) (hx : Rep w φ x xv) :
    ∃ v, (Builtin.len_ #[t] ty #[xv]).run P w = .ok v w ∧ Rep w φ r v ∧ TagOK Ω r v := by
  unfold lenA at h
  split at h
  · cases h
  rename_i l hl
  obtain ⟨ti, d, hti, hd, e1, e2, e3, e4, e5⟩ := mkLay_spec (hE t _ hl)
  split at h
  · rename_i e tg xs hk
    have := mkKind_slice (hk.symm.trans e4)
    subst this
    simp only [Option.some.injEq] at h; subst h
    simp only [Rep] at hx
    obtain ⟨A, m, c, rfl, h1, h2, h3⟩ := hx
    subst h1
    exact ⟨_, by simp [Builtin.len_, run_underlying hd, goInt]; rfl, by simp [Rep], trivial⟩
  · rename_i e hk
    have := mkKind_slice (hk.symm.trans e4)
    subst this
    simp only [Option.some.injEq] at h; subst h
    simp only [Rep] at hx
    subst hx
    exact ⟨_, by simp [Builtin.len_, run_underlying hd, goInt]; rfl, by simp [Rep], trivial⟩
  · rename_i s hk
    have := mkKind_string (hk.symm.trans e4)
    subst this
    simp only [Option.some.injEq] at h; subst h
    simp only [Rep] at hx
    subst hx
    exact ⟨_, by simp [Builtin.len_, run_underlying hd, bs_size, goInt]; rfl, by simp [Rep], trivial⟩
  · rename_i k e hk
    have := mkKind_map (hk.symm.trans e4)
    subst this
    simp only [Option.some.injEq] at h; subst h
    simp only [Rep] at hx
    subst hx
    exact ⟨_, by simp [Builtin.len_, run_underlying hd, goInt]; rfl, by simp [Rep], trivial⟩
  · rename_i k e b hk
    have := mkKind_map (hk.symm.trans e4)
    subst this
    obtain ⟨es, hb, rfl⟩ := Option.map_eq_some_iff.1 h
    simp only [Rep] at hx
    subst hx
    obtain ⟨⟨ms, clock, hrow, hrep⟩, _⟩ := map_get hs hb
    have hlen : ∀ (l : List (AV × AV)) (m : List MapEntry), MapRep w φ l m → m.length = l.length := by
      intro l
      induction l with
      | nil => intro m hm; simp only [MapRep] at hm; simp [hm]
      | cons p l ih => intro m hm; obtain ⟨k, v⟩ := p; simp only [MapRep] at hm; obtain ⟨_, m', rfl, _, _, _, hm⟩ := hm; simp [ih m' hm]
    have hl := hlen _ _ hrep
    refine ⟨.int .i64 ms.size, ?_, by simp only [Rep]; rw [← hl]; simp, trivial⟩
    simp [Builtin.len_, run_underlying hd, getObj, Sem.run, hrow]
    rfl
  · cases h

theorem maxA_run {x y r : AV} {xv yv : Value} {ts : Array TypeId} {ty : TypeId} (h : maxA [x, y] = some r) (hx : Rep w φ x xv) (hy : Rep w φ y yv) :
    ∃ v, (Builtin.max_ ts ty #[xv, yv]).run P w = .ok v w ∧ Rep w φ r v ∧ TagOK Ω r v := by
  cases x <;> cases y <;> simp only [maxA, reduceCtorEq] at h
  split at h
  · rename_i hk
    subst hk
    simp only [Option.some.injEq] at h; subst h
    simp only [Rep] at hx hy
    subst hx hy
    exact ⟨_, by simp [Builtin.max_, Builtin.max2]; rfl, by simp [Rep], trivial⟩
  · cases h
theorem minA_run {x y r : AV} {xv yv : Value} {ts : Array TypeId} {ty : TypeId} (h : minA [x, y] = some r) (hx : Rep w φ x xv) (hy : Rep w φ y yv) :
    ∃ v, (Builtin.min_ ts ty #[xv, yv]).run P w = .ok v w ∧ Rep w φ r v ∧ TagOK Ω r v := by
  cases x <;> cases y <;> simp only [minA, reduceCtorEq] at h
  split at h
  · rename_i hk
    subst hk
    simp only [Option.some.injEq] at h; subst h
    simp only [Rep] at hx hy
    subst hx hy
    exact ⟨_, by simp [Builtin.min_, Builtin.min2]; rfl, by simp [Rep], trivial⟩
  · cases h

end
end Go.Proofs.YtpjkepfplhllfaaDoor.Av
