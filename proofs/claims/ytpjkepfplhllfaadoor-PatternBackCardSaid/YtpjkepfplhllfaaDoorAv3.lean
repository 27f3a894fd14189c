/-
What operations without effects yield: the machine does it.
-/
import Derived.Test.YtpjkepfplhllfaaDoorAv2
namespace Go.Proofs.YtpjkepfplhllfaaDoor.Av
set_option linter.unusedSimpArgs false
set_option linter.unusedVariables false
open Go

def EnvOK (P : Program) (E : Env) : Prop := ∀ t l, E.lay t = some l → mkLay P t = some l

section
variable {P : Program}

theorem mkLay_spec {t : TypeId} {l : Lay} (h : mkLay P t = some l) : ∃ i d, P.info? t = some i ∧ P.underlying t = some d ∧
    l.size = i.size ∧ l.bytes = i.bytes ∧ l.agg = aggOf d ∧ l.kind = mkKind P d ∧ l.zero = (i.zero.map ofC).getD .any := by
  unfold mkLay at h
  split at h
  · rename_i i d hi hd
    simp only [Option.some.injEq] at h
    subst h
    exact ⟨i, d, hi, hd, rfl, rfl, rfl, rfl, rfl⟩
  · cases h

theorem run_isAgg {t : TypeId} {d : TypeDesc} (hd : P.underlying t = some d) (w : World) : (isAgg t).run P w = .ok (aggOf d) w := by
  unfold isAgg
  simp only [Sem.run_bind, run_underlying hd, Result.andThen_ok]
  cases d <;> rfl
theorem run_sizeOf' {t : TypeId} {i : TypeInfo} (hi : P.info? t = some i) (w : World) : (sizeOf t).run P w = .ok i.size w := by
  simp [sizeOf, typeInfo, hi]

variable {w : World} {φ : Nat → Nat}

theorem Rep.ofC1 (v : Value) : Rep w φ (ofC1 v) v := by
  unfold Av.ofC1
  split <;> simp only [Rep]
theorem RepL.ofC1 : ∀ vs : List Value, RepL w φ (vs.map Av.ofC1) vs
  | [] => RepL.nil
  | v :: vs => RepL.cons (Rep.ofC1 v) (RepL.ofC1 vs)
theorem Rep.ofC (v : Value) : Rep w φ (ofC v) v := by
  unfold Av.ofC
  split
  · rename_i cs; simp only [Rep]; exact ⟨cs.toList, by simp, RepL.ofC1 _⟩
  · exact Rep.ofC1 v
theorem ofC1_not_list (v : Value) (t : Tag) (xs : List (List AV)) : ofC1 v ≠ .list t xs := by
  unfold Av.ofC1; split <;> simp
theorem ofC1_not_agg (v : Value) (cs : List AV) : ofC1 v ≠ .agg cs := by
  unfold Av.ofC1; split <;> simp
theorem TagOK.ofC (Ω : List Own) (v : Value) : TagOK Ω (ofC v) v := by
  cases v <;> unfold Av.ofC <;> simp only
  case agg cs =>
    intro vs h i t xs hi
    simp only [List.getElem?_map, Option.map_eq_some_iff] at hi
    obtain ⟨u, _, hu⟩ := hi
    exact absurd hu (ofC1_not_list u t xs)
  all_goals (unfold Av.ofC1; split <;> trivial)
theorem TagOK.none {Ω : List Own} {xs : List (List AV)} {v : Value} (hΩ : ∀ x ∈ Ω, x.tag ≠ .none) : TagOK Ω (.list .none xs) v :=
  fun x hx ht => absurd ht (hΩ x hx)
theorem TagOK.er {Ω : List Own} (hΩ : ∀ x ∈ Ω, x.tag ≠ .none) (a : AV) {v : Value} (h : TagOK Ω a v) : TagOK Ω (er a) v := by
  cases a with
  | list t xs => exact TagOK.none hΩ
  | grow _ xs => exact TagOK.none hΩ
  | nils => exact TagOK.none hΩ
  | _ => exact h
theorem er_list {a : AV} {t : Tag} {xs : List (List AV)} (h : er a = .list t xs) : t = .none := by
  cases a <;> simp [Av.er] at h
  all_goals exact h.1.symm
theorem TagOK.aggEr {Ω : List Own} (hΩ : ∀ x ∈ Ω, x.tag ≠ .none) (cs : List AV) (v : Value) : TagOK Ω (.agg (cs.map Av.er)) v := by
  intro vs _ i t xs hi x hx ht
  simp only [List.getElem?_map, Option.map_eq_some_iff] at hi
  obtain ⟨a, _, ha⟩ := hi
  have := er_list ha
  subst this
  exact absurd ht (hΩ x hx)
theorem TagOK.ers {Ω : List Own} (hΩ : ∀ x ∈ Ω, x.tag ≠ .none) (a : AV) {v : Value} : TagOK Ω (ers a) v := by
  cases a with
  | agg cs => exact TagOK.aggEr hΩ cs v
  | list t xs => exact TagOK.none hΩ
  | grow _ xs => exact TagOK.none hΩ
  | nils => exact TagOK.none hΩ
  | _ => trivial
theorem ec_list {a : AV} {t : Tag} {xs : List (List AV)} (h : ec a = .list t xs) : t = .none := by
  cases a <;> simp [Av.ec] at h
  all_goals exact h.1.symm
theorem TagOK.es {Ω : List Own} (hΩ : ∀ x ∈ Ω, x.tag ≠ .none) (a : AV) {v : Value} : TagOK Ω (es a) v := by
  cases a with
  | agg cs =>
    intro vs _ i t xs hi x hx ht
    simp only [List.getElem?_map, Option.map_eq_some_iff] at hi
    obtain ⟨a, _, ha⟩ := hi
    have := ec_list ha
    subst this
    exact absurd ht (hΩ x hx)
  | list t xs => exact TagOK.none hΩ
  | grow _ xs => exact TagOK.none hΩ
  | _ => trivial
/-- What has no tag at all. -/
theorem TagOK.erOf {Ω : List Own} (hΩ : ∀ x ∈ Ω, x.tag ≠ .none) (a : AV) (ha : a.one = true) {v : Value} : TagOK Ω (Av.er a) v := by
  cases a with
  | agg cs => simp [AV.one] at ha
  | list t xs => exact TagOK.none hΩ
  | grow _ xs => exact TagOK.none hΩ
  | nils => exact TagOK.none hΩ
  | _ => trivial

variable {E : Env} {f : Fm} {σ : St} {a : Act} {Ω : List Own}

theorem Rep.unfull {x : AV} {v : Value} (h : Rep w φ x v) : Rep w φ (unfull x) v := by
  cases x with
  | full xs =>
    simp only [Av.unfull, Rep] at h ⊢
    obtain ⟨A, n, rfl, h1, h2⟩ := h
    exact ⟨A, n, n, rfl, h1, Nat.le_refl _, h2⟩
  | _ => exact h
theorem stripW_rep {x : AV} {v : Value} (hΩ : ∀ y ∈ Ω, y.tag ≠ .none) (hr : Rep w φ x v) (ht : TagOK Ω x v) : Rep w φ (stripW x) v ∧ TagOK Ω (stripW x) v := by
  cases x with
  | when g y => cases g with
    | true => simp only [Rep] at hr; exact ⟨(hr.1 trivial).es, TagOK.es hΩ _⟩
    | false => exact ⟨hr, trivial⟩
  | _ => exact ⟨hr, ht⟩
theorem evX_rep (hs : SS E w φ Ω σ) (hf : FS w φ Ω f a) (x : Operand) : Rep w φ (evX E f x) (a.eval x) ∧ TagOK Ω (evX E f x) (a.eval x) := by
  cases x with
  | tmp t => exact stripW_rep (fun y hy => (hs.own y hy).tag) (hf.rep t) (hf.tag t)
  | const v => exact ⟨Rep.ofC v, TagOK.ofC Ω v⟩
  | global g => exact ⟨by simp only [evX, Rep]; exact ⟨g, 0, rfl, hs.glob g⟩, trivial⟩
  | func g => exact ⟨by simp only [evX, Rep]; exact ⟨[], rfl, RepL.nil⟩, trivial⟩

theorem loadCells_run {b o n : Nat} (vs : List Value) (hl : vs.length = n) (h : ∀ j u, vs[j]? = some u → w.cell? ⟨b, o + j, none⟩ = some u) :
    (loadCells ⟨b, o, none⟩ n).run P w = .ok vs.toArray w := by
  subst hl
  refine run_loadCells_list w _ vs fun j v hj => ?_
  have hadd : (⟨b, o, none⟩ : Addr).add j = ⟨b, o + j, none⟩ := by unfold Addr.add; split <;> simp_all
  rw [hadd]; exact h j v hj

theorem box_get (hs : SS E w φ Ω σ) {b : Nat} {cs : List AV} (h : getB σ.box b = some cs) : BoxOK w φ Ω b cs := by
  refine hs.box b cs ?_
  generalize σ.box = l at h
  induction l with
  | nil => simp [getB] at h
  | cons p l ih =>
    obtain ⟨k, v⟩ := p
    simp only [getB] at h
    split at h
    · rename_i e; subst e; simp only [Option.some.injEq] at h; subst h; exact List.mem_cons_self
    · exact List.mem_cons_of_mem _ (ih h)
theorem mo_get (hs : SS E w φ Ω σ) {b : Nat} {l : MO} (h : getB σ.map b = some l) : MapOK w φ b l := by
  refine hs.map b l ?_
  generalize σ.map = m at h
  induction m with
  | nil => simp [getB] at h
  | cons p m ih =>
    obtain ⟨k, v⟩ := p
    simp only [getB] at h
    split at h
    · rename_i e; subst e; simp only [Option.some.injEq] at h; subst h; exact List.mem_cons_self
    · exact List.mem_cons_of_mem _ (ih h)
theorem map_get (hs : SS E w φ Ω σ) {b : Nat} {l : List (AV × AV)} (h : getM σ.map b = some l) : (∃ es clock, w.heap[b]? = some (.map es clock) ∧ MapRep w φ l es.toList) ∧ φ b = 0 := by
  obtain ⟨⟨o, h1, h2⟩, h3⟩ := mo_get hs (getM_some h)
  cases o <;> simp only [MORep] at h2
  exact ⟨⟨_, _, h1, h2⟩, h3⟩

theorem ldC_rep {b : Nat} : ∀ {cs : List AV} {vs : List Value} (o : Nat), RepL w φ cs vs → RepL w φ (ldC b o cs) vs
  | [], _, _, h => by simpa [ldC] using h
  | c :: cs, _, o, h => by
    simp only [RepL] at h
    obtain ⟨v, vs', rfl, h1, h2⟩ := h
    have ih := ldC_rep (b := b) (o + 1) h2
    cases c <;> simp only [ldC] <;> refine RepL.cons ?_ ih <;> first | exact h1 | (simp only [Rep] at h1 ⊢; exact h1)
theorem ldC_length {b : Nat} : ∀ (cs : List AV) (o : Nat), (ldC b o cs).length = cs.length
  | [], _ => rfl
  | c :: cs, o => by cases c <;> simp [ldC, ldC_length cs (o + 1)]
theorem ldC_list {b : Nat} : ∀ {cs : List AV} {o i : Nat} {t : Tag} {xs : List (List AV)}, (ldC b o cs)[i]? = some (.list t xs) → t ≠ .none → t = .cell b (o + i) ∧ ∃ sz, cs[i]? = some (.grow sz xs)
  | [], _, _, _, _, h, _ => by simp [ldC] at h
  | c :: cs, o, i, t, xs, h, ht => by
    cases i with
    | zero =>
      cases c <;> simp only [ldC, List.getElem?_cons_zero, Option.some.injEq, AV.list.injEq, reduceCtorEq] at h
      · exact absurd h.1.symm ht
      · obtain ⟨rfl, rfl⟩ := h; exact ⟨rfl, _, rfl⟩
    | succ i =>
      have h' : (ldC b (o + 1) cs)[i]? = some (.list t xs) := by cases c <;> simpa [ldC] using h
      obtain ⟨h1, sz, h2⟩ := ldC_list h' ht
      exact ⟨by rw [h1]; congr 1; omega, sz, by simpa using h2⟩
theorem ldC_agg {b : Nat} : ∀ {cs : List AV} {o i : Nat} {ds : List AV}, (ldC b o cs)[i]? = some (.agg ds) → cs[i]? = some (.agg ds)
  | [], _, _, _, h => by simp [ldC] at h
  | c :: cs, o, i, ds, h => by
    cases i with
    | zero => cases c <;> simp only [ldC, List.getElem?_cons_zero, Option.some.injEq, AV.agg.injEq, reduceCtorEq] at h ⊢; exact h
    | succ i => have h' : (ldC b (o + 1) cs)[i]? = some (.agg ds) := by cases c <;> simpa [ldC] using h
                simpa using ldC_agg h'

theorem ldC_take {b : Nat} : ∀ (cs : List AV) (o n : Nat), ldC b o (cs.take n) = (ldC b o cs).take n
  | [], _, _ => by simp [ldC]
  | c :: cs, o, 0 => by simp [ldC]
  | c :: cs, o, n + 1 => by cases c <;> simp [ldC, ldC_take cs (o + 1) n]
theorem nodup_map_eq {α β : Type} {g : α → β} : ∀ {l : List α}, (l.map g).Nodup → ∀ {x y : α}, x ∈ l → y ∈ l → g x = g y → x = y
  | [], _, _, _, hx, _, _ => by simp at hx
  | z :: l, h, x, y, hx, hy, e => by
    simp only [List.map_cons, List.nodup_cons] at h
    rcases List.mem_cons.1 hx with h1 | h1 <;> rcases List.mem_cons.1 hy with h2 | h2
    · rw [h1, h2]
    · rw [h1] at e; exact (h.1 (List.mem_map.2 ⟨y, h2, e.symm⟩)).elim
    · rw [h2] at e; exact (h.1 (List.mem_map.2 ⟨x, h1, e⟩)).elim
    · exact nodup_map_eq h.2 h1 h2 e
theorem loadA_run (hE : EnvOK P E) (hs : SS E w φ Ω σ) {t : TypeId} {p x : AV} {u : Value} (h : loadA E σ t p = some x) (hp : Rep w φ p u) :
    ∃ v, (Instr.loadAt t u).run P w = .ok v w ∧ Rep w φ x v ∧ TagOK Ω x v := by
  have hΩ : ∀ x ∈ Ω, x.tag ≠ .none := fun x hx => (hs.own x hx).tag
  unfold loadA at h
  split at h
  · cases h
  rename_i l hl
  obtain ⟨i, d, hi, hd, e1, e2, e3, e4, e5⟩ := mkLay_spec (hE t l hl)
  have hag := run_isAgg hd w
  rw [← e3] at hag
  have hsz := run_sizeOf' hi w
  rw [← e1] at hsz
  split at h
  · rename_i cs
    simp only [Rep] at hp
    obtain ⟨b, o, rfl, hp⟩ := hp
    by_cases hg : l.agg = true
    · simp only [hg, if_true] at h
      split at h
      · rename_i hle
        simp only [Option.some.injEq] at h
        subst h
        obtain ⟨vs, h1, h2⟩ := hp.vals
        have hlen : (vs.take l.size).length = l.size := by rw [List.length_take, h1.length]; omega
        refine ⟨.agg (vs.take l.size).toArray, ?_, ?_, TagOK.aggEr hΩ _ _⟩
        · have := loadCells_run (P := P) (w := w) (b := b) (o := o) (vs.take l.size) hlen fun j u hj => h2 j u (by
            rw [List.getElem?_take] at hj; split at hj <;> simp_all)
          simp [Instr.loadAt, Instr.sureAddr, loadVar, hag, hg, hsz, this]
        · simp only [Rep]; exact ⟨_, rfl, (h1.take l.size).er⟩
      · cases h
    · simp only [hg, Bool.false_eq_true, if_false] at h
      cases cs with
      | nil => simp at h
      | cons c cs =>
        simp only at h
        split at h
        · rename_i hc
          simp only [Option.some.injEq] at h
          subst h
          simp only [RepAt] at hp
          obtain ⟨_, ⟨v, h1, h2⟩, _⟩ := hp
          refine ⟨v, ?_, h2.er, TagOK.erOf hΩ c hc⟩
          have hg' : l.agg = false := by simpa using hg
          simp [Instr.loadAt, Instr.sureAddr, loadVar, hag, hg', h1]
        · cases h
  · rename_i b o
    simp only [Rep] at hp
    subst hp
    split at h
    · cases h
    rename_i cs hb
    obtain ⟨⟨c, T, hrow, hrep, hgrow⟩, _, hone⟩ := box_get hs hb
    have hlen := hrep.length
    have hcell : ∀ j u, c.toList[j]? = some u → w.cell? ⟨b, j, none⟩ = some u := fun j u hj => by
      simp only [World.cell?, hrow]; simpa using hj
    have hld := ldC_rep (b := b) o (hrep.drop o)
    have htag : ∀ (i : Nat) (t' : Tag) (xs : List (List AV)), (ldC b o (cs.drop o))[i]? = some (AV.list t' xs) → ∀ x ∈ Ω, x.tag = t' → x.n = xs.length → (c.toList.drop o)[i]? = some x.v := by
      intro i t' xs hi x hx ht hn
      have hne : t' ≠ .none := fun e => hΩ x hx (ht.trans e)
      obtain ⟨e, sz, hg⟩ := ldC_list hi hne
      simp only [List.getElem?_drop] at hg ⊢
      obtain ⟨y, hy, hyt, hyn, hyv⟩ := hgrow _ _ _ hg
      have : x = y := by
        have hn := hs.tags
        exact nodup_map_eq hn hx hy (by rw [ht, e, hyt])
      subst this
      simpa using hyv
    by_cases hg : l.agg = true
    · simp only [hg, if_true] at h
      split at h
      · rename_i hle
        simp only [Option.some.injEq] at h
        subst h
        have hl2 : ((c.toList.drop o).take l.size).length = l.size := by simp; simp at hlen; omega
        have hEq : ldC b o ((cs.drop o).take l.size) = (ldC b o (cs.drop o)).take l.size := ldC_take _ _ _
        rw [hEq]
        refine ⟨.agg ((c.toList.drop o).take l.size).toArray, ?_, ?_, ?_⟩
        · have := loadCells_run (P := P) (w := w) (b := b) (o := o) _ hl2 fun j u hj => hcell (o + j) u (by
            rw [List.getElem?_take] at hj; split at hj <;> simp_all)
          simp [Instr.loadAt, Instr.sureAddr, loadVar, hag, hg, hsz, this]
        · simp only [Rep]; exact ⟨_, rfl, hld.take l.size⟩
        · intro vs hvs i t' xs hi x hx ht hn
          rw [List.getElem?_take] at hi
          split at hi
          · rename_i hlt
            have := htag i t' xs hi x hx ht hn
            injection hvs with hvs
            subst hvs
            simp only [List.getElem?_toArray, List.getElem?_take, hlt, if_true]
            exact this
          · cases hi
      · cases h
    · have hg' : l.agg = false := by simpa using hg
      simp only [hg', Bool.false_eq_true, if_false] at h
      have hEq : ldC b o ((cs.drop o).take 1) = (ldC b o (cs.drop o)).take 1 := ldC_take _ _ _
      rw [hEq] at h
      have h0 : (ldC b o (cs.drop o))[0]? = some x := by
        rw [← h, List.head?_eq_getElem?, List.getElem?_take]; simp
      obtain ⟨v, hv, hr⟩ := hld.get h0
      refine ⟨v, ?_, hr, ?_⟩
      · have h1 : w.cell? ⟨b, o, none⟩ = some v := hcell o v (by simpa using hv)
        simp [Instr.loadAt, Instr.sureAddr, loadVar, hag, hg', h1]
      · cases x with
        | list t' xs => intro x hx ht hn; have := htag 0 t' xs h0 x hx ht hn; rw [hv] at this; simpa using this
        | agg ds =>
          have := ldC_agg h0
          have hm : AV.agg ds ∈ cs := List.mem_of_mem_drop (List.mem_of_getElem? this)
          have := List.all_eq_true.1 hone _ hm
          simp [AV.one] at this
        | _ => trivial
  · cases h

end
end Go.Proofs.YtpjkepfplhllfaaDoor.Av
