/-
Maps of one's own.
-/
import Derived.Test.YtpjkepfplhllfaaDoorAv12
namespace Go.Proofs.YtpjkepfplhllfaaDoor.Av
set_option linter.unusedSimpArgs false
set_option linter.unusedVariables false
open Go
/-- A map with a new value for a key. -/
def putA (k v : AV) : List (AV × AV) → Option (List (AV × AV))
  | [] => some [(k, v)]
  | (k', v') :: es => match keyEq k k' with
    | some true => some ((k, v) :: es)
    | some false => (putA k v es).map fun r => (k', v') :: r
    | none => none
/-- A map without a key. -/
def dropA (k : AV) : List (AV × AV) → Option (List (AV × AV))
  | [] => some []
  | (k', v') :: es => match keyEq k k' with
    | some true => some es
    | some false => (dropA k es).map fun r => (k', v') :: r
    | none => none
section
variable {P : Program} {w : World} {φ : Nat → Nat} {E : Env} {f : Fm} {σ : St} {a : Act} {Ω : List Own} {g : Gh}

theorem SR.newMap (h : SR E g f σ a w φ Ω) : SR E g f { σ with map := (w.heap.size, .mp []) :: σ.map } a (w.alloc (.map #[] 0)) φ Ω := by
  have H := h.ss.ext_alloc (.map #[] 0) φ fun _ _ => rfl
  have hold : ∀ b ∈ owned Ω σ, (w.alloc (.map #[] 0)).heap[b]? = w.heap[b]? ∧ φ b = φ b := fun b hb => ⟨heap_alloc_old w _ (owned_lt h.ss hb), rfl⟩
  have hss := h.ss.keep H hold (fun b hb => h.ss.fits b (by simp at hb; omega)) (by simp)
  have hperm : (owned Ω { σ with map := (w.heap.size, .mp []) :: σ.map }).Perm (w.heap.size :: owned Ω σ) := by
    simp only [owned, List.map_cons, List.append_assoc, List.cons_append]
    exact List.perm_middle
  refine ⟨⟨hss.box, fun b l hm => ?_, hss.own, hss.tags, ?_, hss.glob, hss.fits⟩, h.fs.mono H, h.since.step H rfl rfl rfl (by simp) fun b hb _ => ⟨heap_alloc_old w _ (by have := h.since.size; omega), rfl⟩, fun b hb => ?_⟩
  · rcases List.mem_cons.1 hm with hm | hm
    · injection hm with h1 h2
      subst h1 h2
      exact ⟨⟨_, heap_alloc_new w _, by simp [MORep, MapRep]⟩, h.ss.fits _ (Nat.le_refl _)⟩
    · exact hss.map b l hm
  · exact hperm.nodup_iff.2 (List.nodup_cons.2 ⟨fun hm => by have := owned_lt h.ss (b := w.heap.size) hm; omega, h.ss.nodup⟩)
  · rcases List.mem_cons.1 (hperm.mem_iff.1 hb) with rfl | hb
    · exact .inr h.since.size
    · exact h.mine b hb

theorem mem_setB' {α : Type} {l : List (Nat × α)} {b b' : Nat} {x y : α} (hn : (l.map (·.1)).Nodup) (h : (b', y) ∈ setB l b x) : (b' = b ∧ y = x) ∨ (b' ≠ b ∧ (b', y) ∈ l) := mem_setB hn h

/-- The map's object has turned. -/
theorem SR.setObj (h : SR E g f σ a w φ Ω) {b : Nat} {l l' : MO} {o' : Obj} (hb : getB σ.map b = some l) (hm' : MORep w φ l' o') :
    SR E g f { σ with map := setB σ.map b l' } a { w with heap := w.heap.setIfInBounds b o' } φ Ω := by
  obtain ⟨⟨o, h1, h2⟩, h4⟩ := mo_get h.ss hb
  have hlt : b < w.heap.size := (Array.getElem?_eq_some_iff.1 h1).1
  have hrow : ({ w with heap := w.heap.setIfInBounds b o' } : World).heap[b]? = some o' := by simp [Array.getElem?_setIfInBounds, hlt]
  have hoth : ∀ k, k ≠ b → ({ w with heap := w.heap.setIfInBounds b o' } : World).heap[k]? = w.heap[k]? := fun k hk => by
    simp only [Array.getElem?_setIfInBounds]; rw [if_neg (fun e => hk e.symm)]
  have H : Ext w φ { w with heap := w.heap.setIfInBounds b o' } φ := by
    intro b' off hb'
    have hne : b' ≠ b := fun e => by subst e; omega
    exact ⟨hb', World.cell?_of_block (hoth b' hne)⟩
  generalize hw' : ({ w with heap := w.heap.setIfInBounds b o' } : World) = w' at H hrow hoth
  have hsz : w'.heap.size = w.heap.size := by rw [← hw']; simp
  have hmem : b ∈ owned Ω σ := by simp only [owned, List.mem_append, List.mem_map]; exact .inl (.inr ⟨_, getB_mem hb, rfl⟩)
  have hnd : (σ.box.map (·.1) ++ σ.map.map (·.1) ++ Ω.filterMap (·.v.ownBlock)).Nodup := h.ss.nodup
  have hnm : (σ.map.map (·.1)).Nodup := (List.nodup_append.1 (nodup_app_left hnd)).2.1
  have hbm : b ∈ σ.map.map (·.1) := List.mem_map.2 ⟨_, getB_mem hb, rfl⟩
  have hneB : ∀ k cs, (k, cs) ∈ σ.box → k ≠ b := fun k cs hk e =>
    (List.nodup_append.1 (nodup_app_left hnd)).2.2 k (List.mem_map.2 ⟨_, hk, rfl⟩) b hbm e
  have hneO : ∀ x ∈ Ω, ∀ k, x.v.ownBlock = some k → k ≠ b := fun x hx k hk e =>
    (List.nodup_append.1 hnd).2.2 b (List.mem_append.2 (.inr hbm)) k (List.mem_filterMap.2 ⟨x, hx, hk⟩) e.symm
  have how : owned Ω { σ with map := setB σ.map b l' } = owned Ω σ := by simp only [owned, setB_keys]
  refine ⟨⟨fun b' cs hm => ?_, fun b' l2 hm => ?_, fun x hx => ?_, h.ss.tags, by rw [how]; exact h.ss.nodup, fun g => RepAt.mono H _ _ _ (h.ss.glob g), fun b' hb' => h.ss.fits b' (by omega)⟩, h.fs.mono H,
    h.since.step H (by rw [← hw']) (by rw [← hw']) (by rw [← hw']) (by omega) fun b' hb' hD => ⟨hoth b' ?_, rfl⟩, fun b' hb' => h.mine b' (by rw [how] at hb'; exact hb')⟩
  · obtain ⟨⟨c, T, k1, k2, k3⟩, k4, k5⟩ := h.ss.box b' cs hm
    exact ⟨⟨c, T, (hoth b' (hneB b' cs hm)).trans k1, RepL.mono H _ _ k2, k3⟩, k4, k5⟩
  · rcases mem_setB hnm hm with ⟨rfl, rfl⟩ | ⟨hk, hm⟩
    · exact ⟨⟨o', hrow, MORep.mono H hm'⟩, h4⟩
    · obtain ⟨⟨o2, k1, k2⟩, k3⟩ := h.ss.map b' l2 hm
      exact ⟨⟨o2, (hoth b' hk).trans k1, MORep.mono H k2⟩, k3⟩
  · exact (h.ss.own x hx).keep (fun k hk => ⟨hoth k (hneO x hx k hk), rfl⟩) (by omega)
  · intro e
    subst e
    rcases h.mine b' hmem with hh | hh
    · exact hD hh
    · omega

theorem SR.setMap (h : SR E g f σ a w φ Ω) {b : Nat} {l l' : List (AV × AV)} {es' : Array MapEntry} {cl' : Nat} (hb : getM σ.map b = some l) (hm' : MapRep w φ l' es'.toList) :
    SR E g f { σ with map := setB σ.map b (.mp l') } a { w with heap := w.heap.setIfInBounds b (.map es' cl') } φ Ω :=
  h.setObj (l' := .mp l') (getM_some hb) (by simpa only [MORep] using hm')

theorem keyEq_bits {k k' : AV} {v v' : Value} (h : keyEq k k' = some true) (hk : Rep w φ k v) (hk' : Rep w φ k' v') : Instr.sameBits 10000 v' v = true := by
  cases k <;> cases k' <;> simp only [keyEq, reduceCtorEq] at h
  · simp only [Option.some.injEq, beq_iff_eq] at h; subst h
    simp only [Rep] at hk hk'; subst hk hk'
    rw [show (10000 : Nat) = 9999 + 1 from rfl]; simp [Instr.sameBits]
  · split at h
    · rename_i e; subst e
      simp only [Option.some.injEq, beq_iff_eq] at h; subst h
      simp only [Rep] at hk hk'; subst hk hk'
      rw [show (10000 : Nat) = 9999 + 1 from rfl]; simp [Instr.sameBits]
    · cases h
  · simp only [Option.some.injEq, decide_eq_true_eq] at h; subst h
    simp only [Rep] at hk hk'; subst hk hk'
    rw [show (10000 : Nat) = 9999 + 1 from rfl]; simp [Instr.sameBits, ba_beq]

theorem putA_rep {d : TypeDesc} {k v : AV} {kv vv : Value} (hk : Rep w φ k kv) (hke : er k = k ∧ k.one = true) (hv : Rep w φ v vv) (hlk : keyLK k (mkKind P d) = true) (clock : Nat) : ∀ {l r : List (AV × AV)} {es : List MapEntry} (i : Nat), putA k v l = some r → MapRep w φ l es →
    (Instr.findNow d kv es i = some none ∧ MapRep w φ r (es ++ [{ key := kv, val := vv, born := clock }])) ∨
    (∃ j u e, Instr.findNow d kv es i = some (some (i + j, u)) ∧ es[j]? = some e ∧ Instr.sameBits 10000 e.key kv = true ∧ MapRep w φ r (es.modify j fun e => { e with key := kv, val := vv }))
  | [], r, es, i, h, hm => by
    simp only [putA, Option.some.injEq] at h; subst h
    simp only [MapRep] at hm; subst hm
    exact .inl ⟨rfl, by simp only [List.nil_append, MapRep]; exact ⟨_, [], rfl, hk, hke, hv, rfl⟩⟩
  | (k', x) :: l, r, es, i, h, hm => by
    have hm0 := hm
    simp only [MapRep] at hm
    obtain ⟨e, es', rfl, h1, h1e, h2, h3⟩ := hm
    have hfa : ∀ (rr : Option AV), findA k ((k', x) :: l) = some rr → True := fun _ _ => trivial
    cases hq : keyEq k k' with
    | none => simp only [putA, hq] at h; cases h
    | some b =>
      have hnow : Instr.sameNow d kv e.key = some b := by
        -- through the one entry alone
        have h4 := findNow_of (P := P) (d := d) hk hlk (l := [(k', x)]) (es := [e]) (r := if b then some x else none) 0 (by cases b <;> simp [findA, hq]) (by simp only [MapRep]; exact ⟨e, [], rfl, h1, h1e, h2, rfl⟩)
        cases b with
        | true =>
          rcases h4 with ⟨h5, _⟩ | ⟨_, _, j, _, h6, _⟩
          · simp at h5
          · simp only [Instr.findNow] at h6
            cases hs : Instr.sameNow d kv e.key with
            | none => rw [hs] at h6; simp at h6
            | some c => cases c with
              | true => rfl
              | false => rw [hs] at h6; simp at h6
        | false =>
          rcases h4 with ⟨_, h6⟩ | ⟨_, _, _, h5, _⟩
          · simp only [Instr.findNow] at h6
            cases hs : Instr.sameNow d kv e.key with
            | none => rw [hs] at h6; simp at h6
            | some c => cases c with
              | false => rfl
              | true => rw [hs] at h6; simp at h6
          · simp at h5
      cases b with
      | true =>
        simp only [putA, hq, Option.some.injEq] at h
        subst h
        refine .inr ⟨0, e.val, e, by simp [Instr.findNow, hnow], rfl, keyEq_bits hq hk h1, ?_⟩
        simp only [List.modify_zero_cons, MapRep]
        exact ⟨_, es', rfl, hk, hke, hv, h3⟩
      | false =>
        simp only [putA, hq] at h
        obtain ⟨r', hr', rfl⟩ := Option.map_eq_some_iff.1 h
        rcases putA_rep hk hke hv hlk clock (i + 1) hr' h3 with ⟨h4, h5⟩ | ⟨j, u, e2, h4, h5, h6, h7⟩
        · exact .inl ⟨by simp [Instr.findNow, hnow, h4], by simp only [List.cons_append, MapRep]; exact ⟨e, _, rfl, h1, h1e, h2, h5⟩⟩
        · refine .inr ⟨j + 1, u, e2, by simp [Instr.findNow, hnow, h4]; omega, by simpa using h5, h6, ?_⟩
          simp only [List.modify_succ_cons, MapRep]
          exact ⟨e, _, rfl, h1, h1e, h2, h7⟩

theorem dropA_rep {d : TypeDesc} {k : AV} {kv : Value} (hk : Rep w φ k kv) (hlk : keyLK k (mkKind P d) = true) : ∀ {l r : List (AV × AV)} {es : List MapEntry} (i : Nat), dropA k l = some r → MapRep w φ l es →
    (Instr.findNow d kv es i = some none ∧ MapRep w φ r es) ∨ (∃ j u, Instr.findNow d kv es i = some (some (i + j, u)) ∧ j < es.length ∧ MapRep w φ r (es.eraseIdx j))
  | [], r, es, i, h, hm => by
    simp only [dropA, Option.some.injEq] at h; subst h
    simp only [MapRep] at hm; subst hm
    exact .inl ⟨rfl, by simp only [MapRep]⟩
  | (k', x) :: l, r, es, i, h, hm => by
    simp only [MapRep] at hm
    obtain ⟨e, es', rfl, h1, h1e, h2, h3⟩ := hm
    cases hq : keyEq k k' with
    | none => simp only [dropA, hq] at h; cases h
    | some b =>
      have hnow : Instr.sameNow d kv e.key = some b := by
        have h4 := findNow_of (P := P) (d := d) hk hlk (l := [(k', x)]) (es := [e]) (r := if b then some x else none) 0 (by cases b <;> simp [findA, hq]) (by simp only [MapRep]; exact ⟨e, [], rfl, h1, h1e, h2, rfl⟩)
        cases b with
        | true =>
          rcases h4 with ⟨h5, _⟩ | ⟨_, _, j, _, h6, _⟩
          · simp at h5
          · simp only [Instr.findNow] at h6
            cases hs : Instr.sameNow d kv e.key with
            | none => rw [hs] at h6; simp at h6
            | some c => cases c with
              | true => rfl
              | false => rw [hs] at h6; simp at h6
        | false =>
          rcases h4 with ⟨_, h6⟩ | ⟨_, _, _, h5, _⟩
          · simp only [Instr.findNow] at h6
            cases hs : Instr.sameNow d kv e.key with
            | none => rw [hs] at h6; simp at h6
            | some c => cases c with
              | false => rfl
              | true => rw [hs] at h6; simp at h6
          · simp at h5
      cases b with
      | true =>
        simp only [dropA, hq, Option.some.injEq] at h
        subst h
        exact .inr ⟨0, e.val, by simp [Instr.findNow, hnow], by simp, by simpa using h3⟩
      | false =>
        simp only [dropA, hq] at h
        obtain ⟨r', hr', rfl⟩ := Option.map_eq_some_iff.1 h
        rcases dropA_rep hk hlk (i + 1) hr' h3 with ⟨h4, h5⟩ | ⟨j, u, h4, h5, h6⟩
        · exact .inl ⟨by simp [Instr.findNow, hnow, h4], by simp only [MapRep]; exact ⟨e, _, rfl, h1, h1e, h2, h5⟩⟩
        · refine .inr ⟨j + 1, u, by simp [Instr.findNow, hnow, h4]; omega, by simpa using h5, ?_⟩
          simp only [List.eraseIdx_cons_succ, MapRep]
          exact ⟨e, _, rfl, h1, h1e, h2, h6⟩

theorem run_setObj {r : Nat} {es es' : Array MapEntry} {c c' : Nat} (h : w.heap[r]? = some (.map es c)) : (setObj r (.map es' c')).run P w = .ok () { w with heap := w.heap.setIfInBounds r (.map es' c') } := by
  simp [setObj, Sem.run, h]

/-- A store into a map. -/
theorem SR.mapUpdate (hE : EnvOK P E) (h : SR E g f σ a w φ Ω) {t kt e : TypeId} {l lk : Lay} {b : Nat} {k v : AV} {kv vv : Value} {es r : List (AV × AV)} (hl : E.lay t = some l) (hkd : l.kind = .map kt e) (hlk : E.lay kt = some lk) (hkl : keyLK k lk.kind = true)
    (hb : getM σ.map b = some es) (hk : Rep w φ k kv) (hv : Rep w φ v vv) (hp : putA k (ers v) es = some r) :
    ∃ w', (Instr.mapUpdate t (.map (some b)) kv vv).run P w = .ok () w' ∧ SR E g f { σ with map := setB σ.map b (.mp r) } a w' φ Ω := by
  obtain ⟨ti, d, hti, hd, _, _, _, e4, _⟩ := mkLay_spec (hE t l hl)
  have := mkKind_map (hkd.symm.trans e4)
  subst this
  obtain ⟨tk, dk, htk, hdk, _, _, _, f4, _⟩ := mkLay_spec (hE kt lk hlk)
  rw [f4] at hkl
  obtain ⟨⟨ms, clock, hrow, hrep⟩, _⟩ := map_get h.ss hb
  have hke : er k = k ∧ k.one = true := by cases k <;> simp only [keyLK, Bool.false_eq_true] at hkl <;> exact ⟨rfl, rfl⟩
  have hck := run_checkKey (P := P) hdk hk hkl false w
  rcases putA_rep (P := P) hk hke hv.ers hkl clock 0 hp hrep with ⟨h4, h5⟩ | ⟨j, u, e2, h4, h5, h6, h7⟩
  · refine ⟨_, ?_, h.setMap (es' := ms.push { key := kv, val := vv, born := clock }) (cl' := clock + 1) hb (by simpa using h5)⟩
    simp only [Instr.mapUpdate, Sem.run_bind, run_underlying hd, Result.andThen_ok, run_getMap hrow, hck, Instr.findKey, run_underlying hdk, h4, Sem.run_pure, run_setObj hrow]
  · refine ⟨_, ?_, h.setMap (es' := ms.modify j fun e => { e with key := kv, val := vv }) (cl' := clock) hb (by simpa [Array.toList_modify] using h7)⟩
    have hej : ms[j]? = some e2 := by simpa using h5
    simp only [Instr.mapUpdate, Sem.run_bind, run_underlying hd, Result.andThen_ok, run_getMap hrow, hck, Instr.findKey, run_underlying hdk, h4, Sem.run_pure, Nat.zero_add, hej, Option.map_some, Option.getD_some, Instr.keyThatStays, h6, if_true, run_setObj hrow]
/-- delete from a map. -/
theorem SR.mapDelete (hE : EnvOK P E) (h : SR E g f σ a w φ Ω) {t t2 ty kt e : TypeId} {l lk : Lay} {b : Nat} {k : AV} {kv : Value} {es r : List (AV × AV)} (hl : E.lay t = some l) (hkd : l.kind = .map kt e) (hlk : E.lay kt = some lk) (hkl : keyLK k lk.kind = true)
    (hb : getM σ.map b = some es) (hk : Rep w φ k kv) (hp : dropA k es = some r) :
    ∃ w', (Builtin.delete_ #[t, t2] ty #[.map (some b), kv]).run P w = .ok (.tuple #[]) w' ∧ SR E g f { σ with map := setB σ.map b (.mp r) } a w' φ Ω := by
  obtain ⟨ti, d, hti, hd, _, _, _, e4, _⟩ := mkLay_spec (hE t l hl)
  have := mkKind_map (hkd.symm.trans e4)
  subst this
  obtain ⟨tk, dk, htk, hdk, _, _, _, f4, _⟩ := mkLay_spec (hE kt lk hlk)
  rw [f4] at hkl
  obtain ⟨⟨ms, clock, hrow, hrep⟩, _⟩ := map_get h.ss hb
  have hck := run_checkKey (P := P) hdk hk hkl ms.isEmpty w
  have hgo : (getObj b).run P w = .ok (.map ms clock) w := by simp [getObj, Sem.run, hrow]
  rcases dropA_rep (P := P) hk hkl 0 hp hrep with ⟨h4, h5⟩ | ⟨j, u, h4, h5, h6⟩
  · refine ⟨_, ?_, h.setMap (es' := ms) (cl' := clock) hb h5⟩
    simp only [Builtin.delete_, List.getElem?_toArray, List.getElem?_cons_zero, List.getElem?_cons_succ, Sem.run_bind, run_underlying hd, Result.andThen_ok, hgo, hck, Instr.findKey, run_underlying hdk, h4, Sem.run_pure, run_setObj hrow]
  · refine ⟨_, ?_, h.setMap (es' := ms.eraseIdxIfInBounds j) (cl' := clock) hb (by
      have hj : j < ms.size := by simpa using h5
      simp only [Array.eraseIdxIfInBounds, hj, dif_pos]
      simpa using h6)⟩
    simp only [Builtin.delete_, List.getElem?_toArray, List.getElem?_cons_zero, List.getElem?_cons_succ, Sem.run_bind, run_underlying hd, Result.andThen_ok, hgo, hck, Instr.findKey, run_underlying hdk, h4, Sem.run_pure, Nat.zero_add, run_setObj hrow]
end
end Go.Proofs.YtpjkepfplhllfaaDoor.Av
