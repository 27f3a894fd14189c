/-
Arrays of one's own: from nil, from a literal; maps.
-/
import Derived.Test.YtpjkepfplhllfaaDoorAv11
namespace Go.Proofs.YtpjkepfplhllfaaDoor.Av
set_option linter.unusedSimpArgs false
set_option linter.unusedVariables false
open Go
section
variable {P : Program} {w : World} {φ : Nat → Nat} {E : Env} {f : Fm} {σ : St} {a : Act} {Ω : List Own} {g : Gh}

/-- A new array whose cells are known. -/
theorem SR.fresh (h : SR E g f σ a w φ Ω) {w' : World} {d n sz cap : Nat} {e : TypeId} {cur : Array Value} {zs : List Value} {xs : List (List AV)} (hx : RepL w φ xs.flatten zs) (hsz : ∀ x ∈ xs, x.length = sz) (hn : xs.length = n) (hpos : 0 < sz)
    (hrow : w'.heap[w.heap.size]? = some (.cells cur e (0, 0))) (h1 : n ≤ cap) (h2 : cap ≤ maxLen) (h3 : cur.size = cap * sz) (h4 : cur.toList.take (n * sz) = zs) (hos : w'.os = w.os) (htape : w'.tape = w.tape) (hout : w'.output = w.output) (hs : w.heap.size ≤ w'.heap.size)
    (hk : ∀ k, k < w.heap.size → w'.heap[k]? = w.heap[k]?) :
    ∃ φ' Ω', SR E g { f with sl := untagS (.slot d) f.sl, ow := (.slot d, (n, sz)) :: delT f.ow (.slot d) } σ a w' φ' Ω' ∧ Rep w' φ' (.list (.slot d) xs) (.slice (some ⟨w.heap.size, 0, none⟩) n cap) ∧ TagOK Ω' (.list (.slot d) xs) (.slice (some ⟨w.heap.size, 0, none⟩) n cap) ∧ (n = cap → Rep w' φ' (.full xs) (.slice (some ⟨w.heap.size, 0, none⟩) n cap)) := by
  have hzl : zs.length = n * sz := by rw [hx.length, flatten_len hsz, hn]
  have hown : w'.ownsRow 0 e sz (.slice (some ⟨w.heap.size, 0, none⟩) n cap) n zs := ownsRow_of hzl hrow h1 h2 h3 h4
  have hsr := h.newArr (t := .slot d) (n' := n) (by simp) (by simp) hown rfl hpos hos htape hout (.inl ⟨rfl, hs, hk⟩)
  have H : Ext w φ w' (fun b => if b = w.heap.size then n * sz else φ b) := by
    intro b off hb
    have hlt : b < w.heap.size := by
      rcases Nat.lt_or_ge b w.heap.size with h' | h'
      · exact h'
      · have := h.ss.fits b h'; omega
    simp only [if_neg (Nat.ne_of_lt hlt)]
    exact ⟨hb, World.cell?_of_block (hk b hlt)⟩
  have hrows : RepRows w' (fun b => if b = w.heap.size then n * sz else φ b) w.heap.size sz 0 xs := by
    refine RepRows.of_vals hsz (RepL.mono H _ _ hx) (by simp [hzl]) fun j u hj => ?_
    rw [Nat.zero_add, row_cell hrow]
    rw [← h4, List.getElem?_take] at hj
    split at hj
    · simpa using hj
    · cases hj
  refine ⟨_, _, hsr, ?_, ?_, fun e => ?_⟩
  · simp only [Rep]
    exact ⟨_, _, _, rfl, hn, h1, .inr ⟨w.heap.size, 0, sz, rfl, hrows⟩⟩
  · intro y hy hyt hyn
    rcases List.mem_cons.1 hy with rfl | hy
    · rfl
    · have := (List.mem_filter.1 hy).2
      simp only [decide_eq_true_eq] at this
      exact absurd hyt this
  · subst e
    simp only [Rep]
    exact ⟨_, _, rfl, hn, .inr ⟨w.heap.size, 0, sz, rfl, hrows⟩⟩

/-- append to nil. -/
theorem SR.appendNil (hE : EnvOK P E) (h : SR E g f σ a w φ Ω) {t ty e : TypeId} {l le : Lay} {d : Nat} {tgy : Tag} {ys : List (List AV)} {u : Value} (hl : E.lay t = some l) (hk : l.kind = .slice e) (hle : E.lay e = some le) (hz : isAny le.zero = false) (hzc : le.zero.cells.length = le.size) (hzo : le.zero.cells.all AV.one = true)
    (hpos : 0 < le.size) (hu : Rep w φ (.list tgy ys) u) (hys : ∀ y ∈ ys, y.length = le.size) (hyo : ys.flatten.all AV.one = true) (hne : ys ≠ [])
    (hmax : ys.length * (le.bytes + 1) ≤ 140737488351232) :
    ∃ v' w' φ' Ω', (Builtin.append_ #[t, t] ty #[.slice none 0 0, u]).run P w = .ok v' w' ∧ Rep w' φ' (.list (.slot d) (ys.map fun y => y.map er)) v' ∧ TagOK Ω' (.list (.slot d) (ys.map fun y => y.map er)) v' ∧
      SR E g { f with sl := untagS (.slot d) f.sl, ow := (.slot d, (ys.length, le.size)) :: delT f.ow (.slot d) } σ a w' φ' Ω' := by
  obtain ⟨ti, dd, hti, hd, _, _, _, e4, _⟩ := mkLay_spec (hE t l hl)
  have := mkKind_slice (hk.symm.trans e4)
  subst this
  obtain ⟨te, de, hte, hde, f1, f2, f3, f4, f5⟩ := mkLay_spec (hE e le hle)
  obtain ⟨z, hz1, hz2⟩ := zero_rep f5 hz
  have hrz : Rep w φ le.zero z := by rw [hz2]; exact Rep.ofC z
  have hzs : z.cells.size = le.size := by rw [(hrz.cellsOf hzo).2, hzc]
  obtain ⟨A, c, news, rfl, n1, n2, n3⟩ := list_vals hu hne hys
  have hym : 0 < ys.length := List.length_pos_iff.2 hne
  have hml : ys.length ≤ ys.length * (le.bytes + 1) := Nat.le_mul_of_pos_right _ (by omega)
  have hmb : ys.length * le.bytes ≤ ys.length * (le.bytes + 1) := Nat.mul_le_mul_left _ (by omega)
  obtain ⟨w', g', cap', cur', e1', r1, r2, r3, r4, r5, r6, r7, r8⟩ := append_cases (P := P) t ty e e te z le.size le.bytes hd hte hz1 f1.symm f2.symm hzs hpos _ 0 [] (World.ownsRow_nil w 0 e le.size) A ys.length c news n1 n3 (n2.one hyo) hym (by unfold maxLen; omega) (by rw [Nat.zero_add]; omega)
  simp only [Nat.zero_add, List.nil_append] at r1 r3 r6
  rcases r8 with ⟨rfl, hkk⟩ | ⟨hb, _⟩
  · obtain ⟨φ', Ω', s1, s2, s3, _⟩ := h.fresh (d := d) (w' := w') (zs := news) (xs := ys.map fun y => y.map er) n2.erRows (fun x hx => by
      obtain ⟨y, hy, rfl⟩ := List.mem_map.1 hx; simp [hys y hy]) (by simp) hpos r2 r3 r4 r5 r6 r7.os r7.tape r7.output r7.size hkk
    exact ⟨_, w', φ', Ω', r1, s2, s3, s1⟩
  · cases hb

/-- append to a slice whose array is full. -/
theorem SR.appendFull1 (hE : EnvOK P E) (h : SR E g f σ a w φ Ω) {t ty e : TypeId} {l le : Lay} {d : Nat} {tgy : Tag} {xs ys : List (List AV)} {u v : Value} (hl : E.lay t = some l) (hk : l.kind = .slice e) (hle : E.lay e = some le) (hz : isAny le.zero = false) (hzc : le.zero.cells.length = le.size) (hzo : le.zero.cells.all AV.one = true)
    (hpos : 0 < le.size) (hv : Rep w φ (.full xs) v) (hxs : ∀ y ∈ xs, y.length = le.size) (hx0 : xs ≠ []) (hu : Rep w φ (.list tgy ys) u) (hys : ∀ y ∈ ys, y.length = le.size) (hne : ys ≠ [])
    (hmax : (xs.length + ys.length) * (le.bytes + 1) ≤ 140737488351232) :
    ∃ v' w' φ' Ω', (Builtin.append_ #[t, t] ty #[v, u]).run P w = .ok v' w' ∧ Rep w' φ' (.list (.slot d) (xs.map (fun y => y.map er) ++ ys.map fun y => y.map er)) v' ∧ TagOK Ω' (.list (.slot d) (xs.map (fun y => y.map er) ++ ys.map fun y => y.map er)) v' ∧
      SR E g { f with sl := untagS (.slot d) f.sl, ow := (.slot d, (xs.length + ys.length, le.size)) :: delT f.ow (.slot d) } σ a w' φ' Ω' := by
  obtain ⟨ti, dd, hti, hd, _, _, _, e4, _⟩ := mkLay_spec (hE t l hl)
  have := mkKind_slice (hk.symm.trans e4)
  subst this
  obtain ⟨te, de, hte, hde, f1, f2, f3, f4, f5⟩ := mkLay_spec (hE e le hle)
  obtain ⟨z, hz1, hz2⟩ := zero_rep f5 hz
  have hrz : Rep w φ le.zero z := by rw [hz2]; exact Rep.ofC z
  have hzs : z.cells.size = le.size := by rw [(hrz.cellsOf hzo).2, hzc]
  have hvl : Rep w φ (.list .none xs) v := hv.unfull
  have hcap : ∃ A, v = .slice A xs.length xs.length := by
    simp only [Rep] at hv
    obtain ⟨A, n, rfl, h1, _⟩ := hv
    exact ⟨A, by rw [h1]⟩
  obtain ⟨A0, hA0⟩ := hcap
  obtain ⟨B, c0, olds, hv0, m1, m2, m3⟩ := list_vals hvl hx0 hxs
  rw [hA0] at hv0
  injection hv0 with e1 e2 e3
  subst e1 hA0
  obtain ⟨A, c, news, rfl, n1, n2, n3⟩ := list_vals hu hne hys
  have hym : 0 < ys.length := List.length_pos_iff.2 hne
  have hml : xs.length + ys.length ≤ (xs.length + ys.length) * (le.bytes + 1) := Nat.le_mul_of_pos_right _ (by omega)
  have hmb : (xs.length + ys.length) * le.bytes ≤ (xs.length + ys.length) * (le.bytes + 1) := Nat.mul_le_mul_left _ (by omega)
  rw [f1] at m1 n1
  have hr := run_append_grow (P := P) w t ty e te z hd hte hz1 B xs.length xs.length olds m1 m3 A ys.length c news n1 n3 (by omega) (by omega) (growslice_fits (by omega) (by rw [← f2]; omega))
  have hge := grownCap_ge w (xs.length + ys.length) xs.length e
  have hcm : grownCap w (xs.length + ys.length) xs.length e ≤ maxLen := grownCap_le_maxLen w _ _ e (by unfold maxLen; omega)
  have hlen : (olds ++ news).length = (xs.length + ys.length) * le.size := by rw [List.length_append, m1, n1, Nat.add_mul, f1]
  obtain ⟨φ', Ω', s1, s2, s3, _⟩ := h.fresh (d := d) (zs := olds ++ news) (n := xs.length + ys.length) (xs := xs.map (fun y => y.map er) ++ ys.map fun y => y.map er)
    (w' := w.drew.alloc (.cells (olds.toArray ++ news.toArray ++ Builtin.zeroCells z.cells (grownCap w (xs.length + ys.length) xs.length e - (xs.length + ys.length))) e))
    (by rw [List.flatten_append]; exact RepL.append m2.erRows n2.erRows) (fun x hx => by
      rcases List.mem_append.1 hx with hx | hx
      · obtain ⟨y, hy, rfl⟩ := List.mem_map.1 hx; simp [hxs y hy]
      · obtain ⟨y, hy, rfl⟩ := List.mem_map.1 hx; simp [hys y hy]) (by simp) hpos (heap_alloc_new w.drew _) hge hcm
    (by
      simp only [Array.size_append, List.size_toArray, size_zeroCells, hzs, m1, n1, ← f1, ← Nat.add_mul]
      congr 1
      omega) (by
      simp only [Array.toList_append, List.append_assoc]
      rw [← List.append_assoc, ← hlen]
      exact List.take_left) rfl rfl rfl (by simp) (fun k hk => heap_alloc_old w.drew _ hk)
  exact ⟨_, _, φ', Ω', hr, s2, s3, s1⟩

/-- append to an empty slice whose array is full. -/
theorem SR.appendFull0 (hE : EnvOK P E) (h : SR E g f σ a w φ Ω) {t ty e : TypeId} {l le : Lay} {d : Nat} {tgy : Tag} {ys : List (List AV)} {u : Value} {A0 : Addr} (hl : E.lay t = some l) (hk : l.kind = .slice e) (hle : E.lay e = some le) (hz : isAny le.zero = false) (hzc : le.zero.cells.length = le.size) (hzo : le.zero.cells.all AV.one = true)
    (hpos : 0 < le.size) (hu : Rep w φ (.list tgy ys) u) (hys : ∀ y ∈ ys, y.length = le.size) (hne : ys ≠ [])
    (hmax : ys.length * (le.bytes + 1) ≤ 140737488351232) :
    ∃ v' w' φ' Ω', (Builtin.append_ #[t, t] ty #[.slice (some A0) 0 0, u]).run P w = .ok v' w' ∧ Rep w' φ' (.list (.slot d) (ys.map fun y => y.map er)) v' ∧ TagOK Ω' (.list (.slot d) (ys.map fun y => y.map er)) v' ∧
      SR E g { f with sl := untagS (.slot d) f.sl, ow := (.slot d, (ys.length, le.size)) :: delT f.ow (.slot d) } σ a w' φ' Ω' := by
  obtain ⟨ti, dd, hti, hd, _, _, _, e4, _⟩ := mkLay_spec (hE t l hl)
  have := mkKind_slice (hk.symm.trans e4)
  subst this
  obtain ⟨te, de, hte, hde, f1, f2, f3, f4, f5⟩ := mkLay_spec (hE e le hle)
  obtain ⟨z, hz1, hz2⟩ := zero_rep f5 hz
  have hrz : Rep w φ le.zero z := by rw [hz2]; exact Rep.ofC z
  have hzs : z.cells.size = le.size := by rw [(hrz.cellsOf hzo).2, hzc]
  obtain ⟨A, c, news, rfl, n1, n2, n3⟩ := list_vals hu hne hys
  have hym : 0 < ys.length := List.length_pos_iff.2 hne
  have hml : ys.length ≤ ys.length * (le.bytes + 1) := Nat.le_mul_of_pos_right _ (by omega)
  have hmb : ys.length * le.bytes ≤ ys.length * (le.bytes + 1) := Nat.mul_le_mul_left _ (by omega)
  rw [f1] at n1
  have hr := run_append_grow (P := P) w t ty e te z hd hte hz1 A0 0 0 [] (by simp) (by simp) A ys.length c news n1 n3 (by omega) (by omega) (growslice_fits (by omega) (by rw [← f2, Nat.zero_add]; omega))
  simp only [Nat.zero_add] at hr
  have hge := grownCap_ge w ys.length 0 e
  have hcm : grownCap w ys.length 0 e ≤ maxLen := grownCap_le_maxLen w _ _ e (by unfold maxLen; omega)
  obtain ⟨φ', Ω', s1, s2, s3, _⟩ := h.fresh (d := d) (zs := news) (n := ys.length) (xs := ys.map fun y => y.map er)
    (w' := w.drew.alloc (.cells ((([] : List Value).toArray) ++ news.toArray ++ Builtin.zeroCells z.cells (grownCap w ys.length 0 e - ys.length)) e))
    n2.erRows (fun x hx => by obtain ⟨y, hy, rfl⟩ := List.mem_map.1 hx; simp [hys y hy]) (by simp) hpos (heap_alloc_new w.drew _) hge hcm
    (by
      simp only [Array.size_append, List.size_toArray, size_zeroCells, hzs, n1, ← f1, List.length_nil, Nat.zero_add, ← Nat.add_mul]
      congr 1
      omega) (by
      have : news.length = ys.length * le.size := by rw [n1, f1]
      simp only [Array.toList_append, List.append_assoc, List.nil_append, ← this]
      exact List.take_left) rfl rfl rfl (by simp) (fun k hk => heap_alloc_old w.drew _ hk)
  exact ⟨_, _, φ', Ω', hr, s2, s3, s1⟩
theorem SR.appendFull (hE : EnvOK P E) (h : SR E g f σ a w φ Ω) {t ty e : TypeId} {l le : Lay} {d : Nat} {tgy : Tag} {xs ys : List (List AV)} {u v : Value} (hl : E.lay t = some l) (hk : l.kind = .slice e) (hle : E.lay e = some le) (hz : isAny le.zero = false) (hzc : le.zero.cells.length = le.size) (hzo : le.zero.cells.all AV.one = true)
    (hpos : 0 < le.size) (hv : Rep w φ (.full xs) v) (hxs : ∀ y ∈ xs, y.length = le.size) (hu : Rep w φ (.list tgy ys) u) (hys : ∀ y ∈ ys, y.length = le.size) (hyo : ys.flatten.all AV.one = true) (hne : ys ≠ [])
    (hmax : (xs.length + ys.length) * (le.bytes + 1) ≤ 140737488351232) :
    ∃ v' w' φ' Ω', (Builtin.append_ #[t, t] ty #[v, u]).run P w = .ok v' w' ∧ Rep w' φ' (.list (.slot d) (xs.map (fun y => y.map er) ++ ys.map fun y => y.map er)) v' ∧ TagOK Ω' (.list (.slot d) (xs.map (fun y => y.map er) ++ ys.map fun y => y.map er)) v' ∧
      SR E g { f with sl := untagS (.slot d) f.sl, ow := (.slot d, (xs.length + ys.length, le.size)) :: delT f.ow (.slot d) } σ a w' φ' Ω' := by
  cases xs with
  | nil =>
    simp only [Rep] at hv
    obtain ⟨A, n, rfl, h1, _⟩ := hv
    simp only [List.length_nil] at h1
    subst h1
    simp only [List.length_nil, Nat.zero_add] at hmax
    simp only [List.map_nil, List.nil_append, List.length_nil, Nat.zero_add]
    cases A with
    | none => exact h.appendNil hE hl hk hle hz hzc hzo hpos hu hys hyo hne hmax
    | some A0 => exact h.appendFull0 hE hl hk hle hz hzc hzo hpos hu hys hne hmax
  | cons x xs => exact h.appendFull1 hE hl hk hle hz hzc hzo hpos hv hxs (by simp) hu hys hne hmax

/-- append of nothing. -/
theorem append_zero {t ty e : TypeId} (hd : P.underlying t = some (.slice e)) {i : TypeInfo} (hi : P.info? e = some i) (A : Option Addr) (n c : Nat) (B : Option Addr) (c' : Nat) (hn : n ≤ c) (w : World) :
    (Builtin.append_ #[t, t] ty #[.slice A n c, .slice B 0 c']).run P w = .ok (.slice A n c) w := by
  have hf : (Builtin.firstCells i.size 0 (.slice B 0 c')).run P w = .ok #[] w := by
    cases B <;> simp [Builtin.firstCells, loadCells, loadCellsFrom]
  cases A <;> simp [Builtin.append_, run_underlying hd, sizeOf, typeInfo, hi, Builtin.lenOf, hn, hf, storeCells]

/-- Parts that fill a slice, one after the other. -/
def seqA (sz : Nat) : Nat → List (Nat × AV) → Option (List (List AV))
  | _, [] => some []
  | k, (i, x) :: ps => if i = k ∧ x.cells.length = sz ∧ x.cells.all AV.one = true then (seqA sz (k + 1) ps).map fun r => x.cells :: r else none

theorem seqA_fill {sz : Nat} : ∀ {ps : List (Nat × AV)} {k : Nat} {rows : List (List AV)} (pre suf : List AV), seqA sz k ps = some rows → pre.length = k * sz → suf.length = ps.length * sz →
    fillA (fun i => some (i * sz, sz)) (pre ++ suf) ps = some (pre ++ rows.flatten) ∧ (∀ r ∈ rows, r.length = sz) ∧ rows.length = ps.length
  | [], k, rows, pre, suf, h, hp, hs => by
    simp only [seqA, Option.some.injEq] at h; subst h
    have : suf = [] := List.eq_nil_of_length_eq_zero (by simpa using hs)
    subst this
    simp [fillA]
  | (i, x) :: ps, k, rows, pre, suf, h, hp, hs => by
    simp only [seqA] at h
    split at h
    · rename_i hc
      obtain ⟨rfl, h2, h3⟩ := hc
      obtain ⟨r, hr, rfl⟩ := Option.map_eq_some_iff.1 h
      simp only [List.length_cons, Nat.add_mul] at hs
      have hsl : sz ≤ suf.length := by omega
      obtain ⟨k1, k2, k3⟩ := seqA_fill (pre ++ x.cells) (suf.drop sz) hr (by simp [hp, h2, Nat.add_mul]) (by simp; omega)
      refine ⟨?_, ?_, by simp [k3]⟩
      · simp only [fillA]
        rw [if_pos ⟨h2, by simp; omega, h3⟩]
        have e1 : (pre ++ suf).take (i * sz) = pre := by rw [← hp]; simp
        have e2 : (pre ++ suf).drop (i * sz + sz) = suf.drop sz := by rw [← hp, List.drop_append]; simp
        rw [e1, e2, k1]
        simp
      · intro y hy
        rcases List.mem_cons.1 hy with rfl | hy
        · exact h2
        · exact k2 y hy
    · cases h

theorem anys_rep : ∀ (us : List Value), RepL w φ (List.replicate us.length .any) us
  | [] => RepL.nil
  | u :: us => RepL.cons (by simp only [Rep]) (anys_rep us)

/-- A slice literal. -/
theorem SR.buildSlice (hE : EnvOK P E) (h : SR E g f σ a w φ Ω) {α : Type} {gA : α → AV} {uA : α → Value} {t e : TypeId} {l le : Lay} {len d : Nat} {ps : List (Nat × α)} {rows : List (List AV)} (hl : E.lay t = some l) (hk : l.kind = .slice e) (hle : E.lay e = some le) (hz : isAny le.zero = false) (hzc : le.zero.cells.length = le.size) (hzo : le.zero.cells.all AV.one = true)
    (hpos : 0 < le.size) (hseq : seqA le.size 0 (ps.map fun p => (p.1, gA p.2)) = some rows) (hlen : ps.length = len) (hmax : len * le.size ≤ 16777216) (hv : ∀ p ∈ ps, Rep w φ (gA p.2) (uA p.2) ∧ TagOK Ω (gA p.2) (uA p.2)) :
    ∃ v' w' φ' Ω', (Instr.buildSlice t len (ps.map fun p => (p.1, uA p.2)).toArray).run P w = .ok v' w' ∧ Rep w' φ' (.list (.slot d) (rows.map fun y => y.map er)) v' ∧ TagOK Ω' (.list (.slot d) (rows.map fun y => y.map er)) v' ∧
      SR E g { f with sl := untagS (.slot d) f.sl, ow := (.slot d, (len, le.size)) :: delT f.ow (.slot d) } σ a w' φ' Ω' ∧ Rep w' φ' (.full (rows.map fun y => y.map er)) v' := by
  obtain ⟨ti, dd, hti, hd, _, _, _, e4, _⟩ := mkLay_spec (hE t l hl)
  have := mkKind_slice (hk.symm.trans e4)
  subst this
  obtain ⟨te, de, hte, hde, f1, f2, f3, f4, f5⟩ := mkLay_spec (hE e le hle)
  obtain ⟨z, hz1, hz2⟩ := zero_rep f5 hz
  have hzr := run_zeroValue (P := P) hte hz1 w
  have hsz := run_sizeOf' (P := P) hte w
  rw [← f1] at hsz
  obtain ⟨zc, hzc'⟩ : ∃ zc : Array Value, zc = if len * le.size = 0 then #[] else z.cells := ⟨_, rfl⟩
  obtain ⟨us, hus⟩ : ∃ us : List Value, us = ((Array.range (len * le.size)).map (fun i => zc[i % zc.size]!)).toList := ⟨_, rfl⟩
  have husl : us.length = len * le.size := by rw [hus]; simp
  have hfl := seqA_fill (sz := le.size) (ps := ps.map fun p => (p.1, gA p.2)) (k := 0) [] (List.replicate us.length .any) hseq (by simp) (by simp [husl, hlen])
  obtain ⟨k1, k2, k3⟩ := hfl
  simp only [List.nil_append] at k1
  obtain ⟨ws, w1, w2, _⟩ := fill_run (Ω := Ω) (g := gA) (u := uA) k1 (anys_rep us) (by
    intro i t' xs hi
    rw [List.getElem?_replicate] at hi
    split at hi
    · cases hi
    · cases hi) hv
  simp only [List.length_map] at k3
  have hrl : rows.length = len := by rw [k3, hlen]
  have hwl : ws.length = len * le.size := by rw [w2.length, flatten_len k2, hrl]
  have hml : len ≤ len * le.size := Nat.le_mul_of_pos_right _ hpos
  obtain ⟨φ', Ω', s1, s2, s3, s4⟩ := h.fresh (d := d) (w' := w.alloc (.cells ws.toArray e)) (zs := ws) (cap := len) (xs := rows.map fun y => y.map er) w2.erRows (fun x hx => by
      obtain ⟨y, hy, rfl⟩ := List.mem_map.1 hx; simp [k2 y hy]) (by simp [hrl]) hpos (heap_alloc_new w _) (Nat.le_refl _) (by unfold maxLen; omega) (by simp [hwl]) (by simp [← hwl]) rfl rfl rfl (by simp) (fun k hk => heap_alloc_old w _ hk)
  refine ⟨_, _, φ', Ω', ?_, s2, s3, s1, s4 rfl⟩
  have hus' : (Array.range (len * le.size)).map (fun i => zc[i % zc.size]!) = us.toArray := by rw [hus]
  have hle0 : ¬ len * le.size > 2 ^ 24 := by omega
  have hfill : Instr.fill (fun i => some (i * le.size, le.size)) ((Array.range (len * le.size)).map (fun i => zc[i % zc.size]!)) (ps.map fun p => (p.1, uA p.2)) = some ws.toArray := by rw [hus']; exact w1
  unfold Instr.buildSlice
  simp only [Sem.run_bind, run_underlying hd, Result.andThen_ok, hsz]
  rw [if_neg hle0]
  by_cases h0 : len * le.size = 0
  · rw [if_pos h0] at hzc'
    subst hzc'
    rw [if_pos h0]
    simp only [pure_bind, hfill, Sem.run_bind, newRow, run_newObj, Result.andThen_ok, Sem.run_pure]
    rfl
  · rw [if_neg h0] at hzc'
    subst hzc'
    rw [if_neg h0]
    simp only [pure_bind, Sem.run_bind, hzr, Result.andThen_ok, hfill, newRow, run_newObj, Sem.run_pure]
    rfl
end
end Go.Proofs.YtpjkepfplhllfaaDoor.Av
