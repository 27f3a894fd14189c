import Derived.Test.YtpjkepfplhllfaaDoorAv5
namespace Go.Proofs.YtpjkepfplhllfaaDoor.Av
set_option linter.unusedSimpArgs false
set_option linter.unusedVariables false
open Go
section
variable {P : Program} {w : World} {φ : Nat → Nat} {E : Env} {f : Fm} {σ : St} {a : Act} {Ω : List Own}

theorem ba_beq (a b : List UInt8) : ((⟨a.toArray⟩ : ByteArray) == ⟨b.toArray⟩) = decide (a = b) := by
  show ByteArray.beq _ _ = _
  unfold ByteArray.beq
  by_cases h : a = b <;> simp [h]
/-- A key: its value is what it stands for. -/
theorem keyEq_now {k k' : AV} {v v' : Value} {b : Bool} (h : keyEq k k' = some b) (hk : Rep w φ k v) (hk' : Rep w φ k' v') {d : TypeDesc} (hd : (∃ i, d = .int i) ∨ d = .string ∨ d = .bool)
    (hd' : ∀ i n, v = .int i n → ∃ j, d = .int j) (hds : ∀ s, v = .string s → d = .string) (hdb : ∀ s, v = .bool s → d = .bool) : Instr.sameNow d v v' = some b := by
  cases k <;> cases k' <;> simp only [keyEq, reduceCtorEq] at h
  · simp only [Option.some.injEq] at h; subst h
    simp only [Rep] at hk hk'; subst hk hk'
    rw [hdb _ rfl]; simp [Instr.sameNow]
  · split at h
    · rename_i e; subst e
      simp only [Option.some.injEq] at h; subst h
      simp only [Rep] at hk hk'; subst hk hk'
      obtain ⟨j, rfl⟩ := hd' _ _ rfl
      simp [Instr.sameNow]
    · cases h
  · simp only [Option.some.injEq] at h; subst h
    simp only [Rep] at hk hk'; subst hk hk'
    rw [hds _ rfl]
    simp only [Instr.sameNow, ba_beq]

theorem findNow_of {d : TypeDesc} {k : AV} {v : Value} (hk : Rep w φ k v) (hlk : keyLK k (mkKind P d) = true) : ∀ {l : List (AV × AV)} {es : List MapEntry} {r : Option AV} (i : Nat), findA k l = some r → MapRep w φ l es →
    (r = none ∧ Instr.findNow d v es i = some none) ∨ ∃ x u j, r = some x ∧ Instr.findNow d v es i = some (some (i + j, u)) ∧ Rep w φ x u ∧ l[j]?.map (·.2) = some x ∧ (es[j]?).map (·.val) = some u ∧ (∃ k' e, (l[j]?).map (·.1) = some k' ∧ keyEq k k' = some true ∧ es[j]? = some e ∧ Rep w φ k' e.key)
  | [], es, r, i, h, hm => by
    simp only [findA, Option.some.injEq] at h
    simp only [MapRep] at hm
    subst h hm
    exact .inl ⟨rfl, rfl⟩
  | (k', x) :: l, es, r, i, h, hm => by
    simp only [MapRep] at hm
    obtain ⟨e, es', rfl, h1, _, h2, h3⟩ := hm
    have hdd : ((∃ i, d = .int i) ∨ d = .string ∨ d = .bool) ∧ (∀ i n, v = .int i n → ∃ j, d = .int j) ∧ (∀ s, v = .string s → d = .string) ∧ (∀ s, v = .bool s → d = .bool) := by
      cases k <;> simp only [keyLK, Bool.false_eq_true] at hlk <;> simp only [Rep] at hk <;> subst hk
      · generalize hg : mkKind P d = g at hlk
        cases g <;> simp only [Bool.false_eq_true] at hlk
        have := mkKind_bool hg.symm
        subst this
        simp
      · generalize hg : mkKind P d = g at hlk
        cases g <;> simp only [Bool.false_eq_true] at hlk
        have := mkKind_int hg.symm
        subst this
        simp
      · generalize hg : mkKind P d = g at hlk
        cases g <;> simp only [Bool.false_eq_true] at hlk
        have := mkKind_string hg.symm
        subst this
        simp
    obtain ⟨d1, d2, d3, d4⟩ := hdd
    simp only [findA] at h
    cases hq : keyEq k k' with
    | none => rw [hq] at h; cases h
    | some b =>
      rw [hq] at h
      have hnow := keyEq_now hq hk h1 d1 d2 d3 d4
      cases b with
      | true =>
        simp only [Option.some.injEq] at h
        subst h
        exact .inr ⟨x, e.val, 0, rfl, by simp [Instr.findNow, hnow], h2, rfl, rfl, k', e, rfl, hq, rfl, h1⟩
      | false =>
        simp only at h
        rcases findNow_of hk hlk (i + 1) h h3 with ⟨rfl, h4⟩ | ⟨y, u, j, rfl, h4, h5, h6, h7, h8⟩
        · exact .inl ⟨rfl, by simp [Instr.findNow, hnow, h4]⟩
        · exact .inr ⟨y, u, j + 1, rfl, by simp [Instr.findNow, hnow, h4]; omega, h5, by simpa using h6, by simpa using h7, by simpa using h8⟩

theorem run_checkKey {d : TypeDesc} {k : TypeId} (hd : P.underlying k = some d) {key : AV} {v : Value} (hk : Rep w φ key v) (hlk : keyLK key (mkKind P d) = true) (emp : Bool) (w' : World) : (Instr.checkKey emp 10000 k v).run P w' = .ok () w' := by
  rw [show (10000 : Nat) = 9999 + 1 from rfl, Instr.checkKey]
  simp only [Sem.run_bind, run_underlying hd, Result.andThen_ok]
  cases key <;> simp only [keyLK, Bool.false_eq_true] at hlk <;> simp only [Rep] at hk <;> subst hk <;> (generalize hg : mkKind P d = g at hlk) <;> cases g <;> simp only [Bool.false_eq_true] at hlk
  · have := mkKind_bool hg.symm; subst this; rfl
  · have := mkKind_int hg.symm; subst this; rfl
  · have := mkKind_string hg.symm; subst this; rfl

theorem run_zeroValue {t : TypeId} {i : TypeInfo} {z : Value} (hi : P.info? t = some i) (hz : i.zero = some z) (w : World) : (zeroValue t).run P w = .ok z w := by
  simp [zeroValue, typeInfo, hi, hz]

/-- The zero value, as the layout tells it. -/
theorem zero_rep {l : Lay} {i : TypeInfo} (h : l.zero = (i.zero.map ofC).getD .any) (hne : isAny l.zero = false) : ∃ z, i.zero = some z ∧ l.zero = ofC z := by
  cases hz : i.zero with
  | none => rw [hz] at h; simp at h; rw [h] at hne; cases hne
  | some z => rw [hz] at h; exact ⟨z, rfl, by simpa using h⟩

theorem run_getMap {r : Nat} {es : Array MapEntry} {c : Nat} (h : w.heap[r]? = some (.map es c)) : (getObj r).run P w = .ok (.map es c) w := by
  simp [getObj, Sem.run, h]

theorem lookup_core {t kt e : TypeId} {mv kv z : Value} {ok : Bool} {ms : Array MapEntry} {q : Option (Nat × Value)} (hmv : (mv = .map none ∧ ms = #[]) ∨ ∃ r c, mv = .map (some r) ∧ w.heap[r]? = some (.map ms c))
    (hd : P.underlying t = some (.map kt e)) (hck : (Instr.checkKey ms.isEmpty 10000 kt kv).run P w = .ok () w) (hf : (Instr.findKey kt kv ms.toList).run P w = .ok q w) (hz : (zeroValue e).run P w = .ok z w) :
    (Instr.lookup t mv kv ok).run P w = .ok (match q with | some (_, v) => if ok then .tuple #[v, .bool true] else v | none => if ok then .tuple #[z, .bool false] else z) w := by
  rcases hmv with ⟨rfl, rfl⟩ | ⟨r, c, rfl, hr⟩ <;> cases q
  · simp [Instr.lookup, run_underlying hd] at hck hf ⊢; simp [hck, hf, hz]
  · simp [Instr.lookup, run_underlying hd] at hck hf ⊢; simp [hck, hf]
  · simp [Instr.lookup, run_underlying hd, run_getMap hr] at hck hf ⊢; simp [hck, hf, hz]
  · simp [Instr.lookup, run_underlying hd, run_getMap hr] at hck hf ⊢; simp [hck, hf]

theorem lookA_run (hE : EnvOK P E) (hs : SS E w φ Ω σ) {t : TypeId} {m k r : AV} {mv kv : Value} {ok : Bool} (h : lookA E σ t m k ok = some r) (hm : Rep w φ m mv) (hk : Rep w φ k kv) :
    ∃ v, (Instr.lookup t mv kv ok).run P w = .ok v w ∧ Rep w φ r v ∧ TagOK Ω r v := by
  have hΩ : ∀ x ∈ Ω, x.tag ≠ .none := fun x hx => (hs.own x hx).tag
  unfold lookA at h
  split at h
  · rename_i l kt e hl
    obtain ⟨ti, d, hti, hd, e1, e2, e3, e4, e5⟩ := mkLay_spec (hE t _ hl)
    have := mkKind_map e4
    subst this
    split at h
    · rename_i lk le hlk hle
      obtain ⟨tk, dk, htk, hdk, f1, f2, f3, f4, f5⟩ := mkLay_spec (hE kt _ hlk)
      obtain ⟨te, de, hte, hde, g1, g2, g3, g4, g5⟩ := mkLay_spec (hE e _ hle)
      split at h
      · rename_i hcond
        obtain ⟨c1, c2⟩ := hcond
        rw [f4] at c1
        obtain ⟨z, hz, hzl⟩ := zero_rep g5 c2
        have hzr := run_zeroValue (P := P) hte hz w
        split at h
        · cases h
        rename_i es hes
        split at h
        · cases h
        rename_i r' hfind
        simp only [Option.some.injEq] at h
        have hmem : ∃ ms : Array MapEntry, ((mv = .map none ∧ ms = #[]) ∨ ∃ r c, mv = .map (some r) ∧ w.heap[r]? = some (.map ms c)) ∧ MapRep w φ es ms.toList := by
          split at hes
          · simp only [Option.some.injEq] at hes; subst hes
            simp only [Rep] at hm; subst hm
            exact ⟨#[], .inl ⟨rfl, rfl⟩, by simp [MapRep]⟩
          · simp only [Rep] at hm; subst hm
            obtain ⟨⟨ms, clock, hrow, hrep⟩, _⟩ := map_get hs hes
            exact ⟨ms, .inr ⟨_, clock, rfl, hrow⟩, hrep⟩
          · cases hes
        obtain ⟨ms, hms, hrep⟩ := hmem
        have hck := run_checkKey (P := P) hdk hk c1 ms.isEmpty w
        have hfk : ∀ q, Instr.findNow dk kv ms.toList 0 = some q → (Instr.findKey kt kv ms.toList).run P w = .ok q w := by
          intro q hq
          simp only [Instr.findKey, Sem.run_bind, run_underlying hdk, Result.andThen_ok, hq, Sem.run_pure]
        rcases findNow_of (d := dk) hk c1 0 hfind hrep with ⟨rfl, h4⟩ | ⟨x, u, j, rfl, h4, h5, _⟩
        · refine ⟨_, lookup_core hms hd hck (hfk _ h4) hzr, ?_, ?_⟩
          · have hrz : Rep w φ (ers le.zero) z := by rw [hzl]; exact (Rep.ofC z).ers
            subst h
            cases ok
            · exact hrz
            · simp only [if_true, Rep]; exact ⟨[z, .bool false], rfl, RepL.cons hrz (RepL.cons (by simp only [Rep]; rfl) RepL.nil)⟩
          · subst h
            cases ok
            · exact TagOK.ers hΩ _
            · trivial
        · refine ⟨_, lookup_core hms hd hck (hfk _ h4) hzr, ?_, ?_⟩
          · subst h
            cases ok
            · exact h5.ers
            · simp only [if_true, Rep]; exact ⟨[u, .bool true], rfl, RepL.cons h5.ers (RepL.cons (by simp only [Rep]; rfl) RepL.nil)⟩
          · subst h
            cases ok
            · exact TagOK.ers hΩ _
            · trivial
      · cases h
    · cases h
  · cases h

theorem Rep.cellsOf {a : AV} {v : Value} (h : Rep w φ a v) (ha : a.cells.all AV.one = true) : RepL w φ a.cells v.cells.toList ∧ v.cells.size = a.cells.length := by
  have := h.cells ha
  exact ⟨this, by simpa using this.length⟩

theorem foldl_set (v : List Value) : ∀ (pre suf : List Value) (mid : List Value) (off k : Nat), mid.length = v.length → pre.length = off + k →
    (v.zipIdx k).foldl (fun (cs : Array Value) (p : Value × Nat) => cs.setIfInBounds (off + p.2) p.1) (pre ++ mid ++ suf).toArray = (pre ++ v ++ suf).toArray := by
  induction v with
  | nil => intro pre suf mid off k h _; have := List.eq_nil_of_length_eq_zero h; subst this; simp
  | cons x v ih =>
    intro pre suf mid off k h hp
    cases mid with
    | nil => simp at h
    | cons m mid =>
      simp only [List.length_cons, Nat.add_right_cancel_iff] at h
      simp only [List.zipIdx_cons, List.foldl_cons]
      have e : ((pre ++ m :: mid ++ suf).toArray).setIfInBounds (off + k) x = ((pre ++ [x]) ++ mid ++ suf).toArray := by
        simp [List.setIfInBounds_toArray, ← hp]
      rw [e, ih (pre ++ [x]) suf mid off (k + 1) h (by simp; omega)]
      simp

/-- The cells' values are the very ones that their tags' arrays have. -/
def TagL (Ω : List Own) (cs : List AV) (vs : List Value) : Prop :=
  ∀ (i : Nat) (t : Tag) (xs : List (List AV)), cs[i]? = some (AV.list t xs) → ∀ x ∈ Ω, x.tag = t → x.n = xs.length → vs[i]? = some x.v
theorem TagL.append {cs ds : List AV} {vs us : List Value} (h : TagL Ω cs vs) (k : TagL Ω ds us) (hl : vs.length = cs.length) : TagL Ω (cs ++ ds) (vs ++ us) := by
  intro i t xs hi x hx ht hn
  rw [List.getElem?_append] at hi ⊢
  rw [hl]
  split at hi
  · rename_i hlt; rw [if_pos hlt]; exact h i t xs hi x hx ht hn
  · rename_i hlt; rw [if_neg hlt]; exact k _ t xs hi x hx ht hn
theorem TagL.take {cs : List AV} {vs : List Value} (n : Nat) (h : TagL Ω cs vs) : TagL Ω (cs.take n) (vs.take n) := by
  intro i t xs hi x hx ht hn
  rw [List.getElem?_take] at hi ⊢
  split at hi
  · rename_i hlt; rw [if_pos hlt]; exact h i t xs hi x hx ht hn
  · cases hi
theorem TagL.drop {cs : List AV} {vs : List Value} (n : Nat) (h : TagL Ω cs vs) : TagL Ω (cs.drop n) (vs.drop n) := by
  intro i t xs hi x hx ht hn
  rw [List.getElem?_drop] at hi ⊢
  exact h _ t xs hi x hx ht hn
theorem TagL.ofC1 (us : List Value) : TagL Ω (us.map Av.ofC1) us := by
  intro i t xs hi
  simp only [List.getElem?_map, Option.map_eq_some_iff] at hi
  obtain ⟨u, _, hu⟩ := hi
  exact absurd hu (ofC1_not_list u t xs)
theorem TagOK.cells {a : AV} {v : Value} (h : TagOK Ω a v) (hr : Rep w φ a v) (ha : a.cells.all AV.one = true) : TagL Ω a.cells v.cells.toList := by
  cases a with
  | agg cs =>
    simp only [Rep] at hr
    obtain ⟨vs, rfl, hr⟩ := hr
    intro i t xs hi x hx ht hn
    have := h vs.toArray rfl i t xs hi x hx ht hn
    simpa [Value.cells] using this
  | list t xs =>
    simp only [Rep] at hr
    obtain ⟨A, n, c, rfl, _⟩ := hr
    intro i t' xs' hi x hx ht hn
    cases i with
    | zero =>
      simp only [AV.cells, List.getElem?_cons_zero, Option.some.injEq, AV.list.injEq] at hi
      obtain ⟨rfl, rfl⟩ := hi
      have := h x hx ht hn
      simp [Value.cells, this]
    | succ i => simp [AV.cells] at hi
  | any => simp [AV.cells, AV.one] at ha
  | tup cs => simp [AV.cells, AV.one] at ha
  | _ => intro i t' xs' hi; cases i <;> simp [AV.cells] at hi

theorem fill_run {α : Type} {g : α → AV} {u : α → Value} {place : Nat → Option (Nat × Nat)} : ∀ {ps : List (Nat × α)} {cs r : List AV} {us : List Value}, fillA place cs (ps.map fun p => (p.1, g p.2)) = some r → RepL w φ cs us → TagL Ω cs us →
    (∀ p ∈ ps, Rep w φ (g p.2) (u p.2) ∧ TagOK Ω (g p.2) (u p.2)) → ∃ ws : List Value, Instr.fill place us.toArray (ps.map fun p => (p.1, u p.2)) = some ws.toArray ∧ RepL w φ r ws ∧ TagL Ω r ws
  | [], cs, r, us, h, hu, ht, hv => by
    simp only [List.map_nil, fillA, Option.some.injEq] at h; subst h
    exact ⟨us, rfl, hu, ht⟩
  | (i, x) :: ps, cs, r, us, h, hu, ht, hv => by
      obtain ⟨hx, htx⟩ := hv (i, x) (by simp)
      simp only at hx htx
      simp only [List.map_cons, fillA] at h
      split at h
      · cases h
      rename_i off sz hp
      split at h
      · rename_i hc
        obtain ⟨c1, c2, c3⟩ := hc
        obtain ⟨k1, k2⟩ := hx.cellsOf c3
        have hlen := hu.length
        have hfold := foldl_set (u x).cells.toList (us.take off) (us.drop (off + sz)) ((us.drop off).take sz) off 0 (by simp; omega) (by simp; omega)
        have hus : us.take off ++ (us.drop off).take sz ++ us.drop (off + sz) = us := by
          rw [List.append_assoc, ← List.drop_drop, List.take_append_drop, List.take_append_drop]
        rw [hus] at hfold
        obtain ⟨ws, h1, h2⟩ := fill_run h (RepL.append (RepL.append (hu.take off) k1) (hu.drop (off + sz)))
          (((ht.take off).append (htx.cells hx c3) (by simp [hlen])).append (ht.drop (off + sz)) (by simp [hlen, k2])) fun p hp => hv p (by simp [hp])
        refine ⟨ws, ?_, h2⟩
        simp only [List.map_cons, Instr.fill, hp]
        rw [if_neg (by simp; omega)]
        rw [← h1]
        congr 1
        rw [← hfold, ← Array.foldl_toList, Array.toList_zipIdx]
      · cases h

theorem buildA_run (hE : EnvOK P E) {α : Type} {g : α → AV} {u : α → Value} {t : TypeId} {ps : List (Nat × α)} {r : AV} (h : buildA E t (ps.map fun p => (p.1, g p.2)) = some r)
    (hv : ∀ p ∈ ps, Rep w φ (g p.2) (u p.2) ∧ TagOK Ω (g p.2) (u p.2)) :
    ∃ v, (Instr.build t (ps.map fun p => (p.1, u p.2)).toArray).run P w = .ok v w ∧ Rep w φ r v ∧ TagOK Ω r v := by
  unfold buildA at h
  split at h
  · rename_i size agg bytes z fs hl
    obtain ⟨ti, d, hti, hd, e1, e2, e3, e4, e5⟩ := mkLay_spec (hE t _ hl)
    obtain ⟨fields, rfl, hfs, hall⟩ := mkKind_struct e4
    obtain ⟨z', hz, hzl⟩ := zero_rep e5 rfl
    obtain ⟨cs, hcs, rfl⟩ := Option.map_eq_some_iff.1 h
    have hzr := run_zeroValue (P := P) hti hz w
    obtain ⟨us, rfl, hus⟩ : ∃ us : List Value, z' = .agg us.toArray ∧ RepL w φ z us := by
      have := Rep.ofC (w := w) (φ := φ) z'
      rw [← hzl] at this
      simpa only [Rep] using this
    have htz : TagL Ω z us := by
      simp only [Av.ofC, AV.agg.injEq] at hzl
      rw [hzl]; exact TagL.ofC1 us
    obtain ⟨ws, h1, h2, h3⟩ := fill_run hcs hus htz hv
    refine ⟨.agg ws.toArray, ?_, by simp only [Rep]; exact ⟨ws, rfl, h2⟩, by
      intro vs hvs i t xs hi x hx ht hn
      injection hvs with hvs
      subst hvs
      simpa using h3 i t xs hi x hx ht hn⟩
    have hplaces : (fields.mapM fun f => do pure (f.offset, ← sizeOf f.type) : Sem (Array (Nat × Nat))).run P w = .ok (fields.map fun f => (f.offset, ((P.info? f.type).map (·.size)).getD 0)) w := by
      have key : ∀ (l : List Field), (∀ f ∈ l, ∃ i d, P.info? f.type = some i ∧ P.underlying f.type = some d) →
          (l.mapM fun f => do pure (f.offset, ← sizeOf f.type) : Sem (List (Nat × Nat))).run P w = .ok (l.map fun f => (f.offset, ((P.info? f.type).map (·.size)).getD 0)) w := by
        intro l
        induction l with
        | nil => intro _; rfl
        | cons f l ih =>
          intro hl
          obtain ⟨i, d, hi, _⟩ := hl f (by simp)
          simp only [List.mapM_cons, Sem.run_bind, run_sizeOf' hi, Result.andThen_ok, Sem.run_pure, ih (fun g hg => hl g (by simp [hg])), List.map_cons, hi, Option.map_some, Option.getD_some]
      have := key fields.toList hall
      rw [Array.mapM_eq_mapM_toList, Sem.run_map, this]
      simp only [Result.andThen_ok]
      congr 1
      apply Array.ext'
      simp
    have hpl : ∀ i : Nat, (fields.map fun f => (f.offset, ((P.info? f.type).map (·.size)).getD 0))[i]? = (fs[i]?).map fun (f : Nat × Nat × Bool) => (f.1, f.2.1) := by
      intro i
      rw [hfs]
      simp [List.getElem?_map, Array.getElem?_map]
      cases fields[i]? <;> rfl
    have hfill : Instr.fill (fun x => (fields.map fun f => (f.offset, ((P.info? f.type).map (·.size)).getD 0))[x]?) us.toArray (ps.map fun p => (p.1, u p.2)) = some ws.toArray := by
      rw [← h1]; congr 1; funext i; exact hpl i
    simp only [Instr.build, Sem.run_bind, hzr, run_underlying hd, Result.andThen_ok, hplaces, Value.cells, hfill, Sem.run_pure]
  · cases h
end
end Go.Proofs.YtpjkepfplhllfaaDoor.Av
