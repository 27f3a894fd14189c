/-
Loops as functions; joins; typed values.
-/
import Derived.Test.YtpjkepfplhllfaaDoorAv22
namespace Go.Proofs.YtpjkepfplhllfaaDoor.Av
set_option linter.unusedSimpArgs false
set_option linter.unusedVariables false
open Go

/-- Rounds: on, or done; at most so many. -/
def fixN {V R : Type} (step : V → Option (V ⊕ R)) : Nat → V → Option R
  | 0, _ => none
  | n + 1, v => match step v with
    | none => none
    | some (.inl v') => fixN step n v'
    | some (.inr r) => some r
theorem fixN_add {V R : Type} {step : V → Option (V ⊕ R)} {r : R} : ∀ (n k : Nat) {v : V}, fixN step n v = some r → fixN step (n + k) v = some r
  | 0, _, _, h => by cases h
  | n + 1, k, v, h => by
    rw [show n + 1 + k = (n + k) + 1 by omega]
    simp only [fixN] at h ⊢
    cases hs : step v with
    | none => rw [hs] at h; cases h
    | some y =>
      rw [hs] at h
      cases y with
      | inl v' => exact fixN_add n k h
      | inr r' => exact h
theorem fixN_one {V R : Type} {step : V → Option (V ⊕ R)} {r s : R} {n m : Nat} {v : V} (h : fixN step n v = some r) (k : fixN step m v = some s) : r = s := by
  have h1 := fixN_add n m h
  have h2 := fixN_add m n k
  rw [show m + n = n + m by omega, h1] at h2
  exact Option.some.inj h2
/-- As many rounds as it takes. -/
noncomputable def fixL {V R : Type} (step : V → Option (V ⊕ R)) (v : V) : Option R :=
  open Classical in if h : ∃ r, ∃ n, fixN step n v = some r then some h.choose else none
theorem fixL_iff {V R : Type} {step : V → Option (V ⊕ R)} {v : V} {r : R} : fixL step v = some r ↔ ∃ n, fixN step n v = some r := by
  unfold fixL
  constructor
  · intro h
    split at h
    · rename_i hx
      obtain ⟨n, hn⟩ := hx.choose_spec
      exact ⟨n, by rw [hn, ← h]⟩
    · cases h
  · rintro ⟨n, hn⟩
    have hx : ∃ r, ∃ n, fixN step n v = some r := ⟨r, n, hn⟩
    rw [dif_pos hx]
    obtain ⟨m, hm⟩ := hx.choose_spec
    rw [fixN_one hm hn]
theorem fixL_on {V R : Type} {step : V → Option (V ⊕ R)} {v v' : V} (h : step v = some (.inl v')) : fixL step v = fixL step v' := by
  refine Option.ext fun r => ?_
  rw [fixL_iff, fixL_iff]
  constructor
  · rintro ⟨n, hn⟩
    cases n with
    | zero => cases hn
    | succ n => simp only [fixN, h] at hn; exact ⟨n, hn⟩
  · rintro ⟨n, hn⟩
    exact ⟨n + 1, by simp only [fixN, h]; exact hn⟩
theorem fixL_done {V R : Type} {step : V → Option (V ⊕ R)} {v : V} {r : R} (h : step v = some (.inr r)) : fixL step v = some r := fixL_iff.2 ⟨1, by simp only [fixN, h]⟩

section
variable {P : Program} {E : Env} {f : Fm} {σ : St} {a : Act} {w : World} {φ : Nat → Nat} {Ω : List Own} {g : Gh}
/-- What is nil is looked at as a list without elements. -/
def nn1 : AV → AV
  | .nils => .list .none []
  | a => a
def nn : AV → AV
  | .agg cs => .agg (cs.map nn1)
  | a => nn1 a
theorem Rep.nn1 {x : AV} {v : Value} (h : Rep w φ x v) : Rep w φ (nn1 x) v := by
  cases x with
  | nils => exact h.er
  | _ => exact h
theorem Rep.nn {x : AV} {v : Value} (h : Rep w φ x v) : Rep w φ (nn x) v := by
  cases x with
  | agg cs => simp only [Av.nn, Rep] at h ⊢; obtain ⟨vs, rfl, h⟩ := h; exact ⟨vs, rfl, h.map_of fun _ _ h => h.nn1⟩
  | nils => exact h.nn1
  | _ => exact h
theorem nn1_list {x : AV} {t : Tag} {xs : List (List AV)} (h : nn1 x = .list t xs) : x = .list t xs ∨ (t = .none) := by
  cases x <;> simp only [Av.nn1, reduceCtorEq, AV.list.injEq] at h
  · exact .inl (by rw [h.1, h.2])
  · exact .inr h.1.symm
theorem TagOK.nn {x : AV} {v : Value} (hΩ : ∀ y ∈ Ω, y.tag ≠ .none) (h : TagOK Ω x v) : TagOK Ω (nn x) v := by
  cases x with
  | agg cs =>
    intro vs hv i t xs hi y hy hyt hyn
    simp only [List.getElem?_map, Option.map_eq_some_iff] at hi
    obtain ⟨c, hc, he⟩ := hi
    rcases nn1_list he with rfl | rfl
    · exact h vs hv i t xs hc y hy hyt hyn
    · exact absurd hyt (hΩ y hy)
  | nils => intro y hy hyt; exact absurd hyt (hΩ y hy)
  | _ => exact h
def Fm.rst (f : Fm) (ss : List Nat) (ts : List Tag) : Fm := { f with sl := ss.map fun s => (s, Av.nn (getA f.sl s)), ow := ts.filterMap fun t => (getT f.ow t).map fun n => (t, n) }
theorem getA_rst (l : List (Nat × AV)) (ss : List Nat) (s : Nat) : getA (ss.map fun s => (s, Av.nn (getA l s))) s = .any ∨ getA (ss.map fun s => (s, Av.nn (getA l s))) s = Av.nn (getA l s) := by
  induction ss with
  | nil => exact .inl rfl
  | cons u ss ih =>
    simp only [List.map_cons, getA]
    split
    · rename_i e; right; rw [e]
    · exact ih
theorem SR.rst {g : Gh} {a : Act} {w : World} {φ : Nat → Nat} {Ω : List Own} (h : SR E g f σ a w φ Ω) (ss : List Nat) (ts : List Tag) : SR E g (f.rst ss ts) σ a w φ Ω := by
  refine ⟨h.ss, ⟨h.fs.size, h.fs.defers, fun s => ?_, fun s => ?_, fun t n ht => h.fs.ow t n (getT_only _ _ _ _ ht)⟩, h.since, h.mine⟩
  · rcases getA_rst f.sl ss s with e | e <;> simp only [Fm.rst, e]
    · simp only [Rep]
    · exact (h.fs.rep s).nn
  · rcases getA_rst f.sl ss s with e | e <;> simp only [Fm.rst, e]
    · trivial
    · exact TagOK.nn (fun y hy => (h.ss.own y hy).tag) (h.fs.tag s)
/-- A part of the state. -/
def St.only (σ : St) (bs ms : List Nat) : St := ⟨bs.filterMap fun b => (getB σ.box b).map fun c => (b, c.map nn1), ms.filterMap fun b => (getB σ.map b).map fun c => (b, c)⟩
theorem only_mem {α : Type} {F : α → α} {l : List (Nat × α)} {bs : List Nat} {b : Nat} {x : α} (h : (b, x) ∈ bs.filterMap fun b => (getB l b).map fun c => (b, F c)) : b ∈ bs ∧ ∃ y, x = F y ∧ (b, y) ∈ l := by
  obtain ⟨b', hb, h⟩ := List.mem_filterMap.1 h
  obtain ⟨c, hc, e⟩ := Option.map_eq_some_iff.1 h
  cases e
  exact ⟨hb, c, rfl, getB_mem hc⟩
theorem only_keys {α : Type} (F : α → α) (l : List (Nat × α)) : ∀ (bs : List Nat), bs.Nodup → ((bs.filterMap fun b => (getB l b).map fun c => (b, F c)).map (·.1)).Nodup
  | [], _ => List.nodup_nil
  | b :: bs, h => by
    obtain ⟨h1, h2⟩ := List.nodup_cons.1 h
    have ih := only_keys F l bs h2
    simp only [List.filterMap_cons]
    cases hg : getB l b with
    | none => simpa using ih
    | some c =>
      simp only [Option.map_some, List.map_cons]
      refine List.nodup_cons.2 ⟨fun hm => ?_, ih⟩
      obtain ⟨p, hp, e⟩ := List.mem_map.1 hm
      obtain ⟨b', x⟩ := p
      simp only at e; subst e
      exact h1 (only_mem hp).1
theorem SR.restrict (h : SR E g f σ a w φ Ω) (ss : List Nat) (ts : List Tag) (bs ms : List Nat) (nb : bs.Nodup) (nm : ms.Nodup) (hts : ∀ t ∈ ts, ∃ k, t = .slot k) : SR E g (f.rst ss ts) (σ.only bs ms) a w φ (Ω.filter (inRest bs)) := by
  have h1 := h.rst ss ts
  have hkb : ∀ b ∈ (σ.only bs ms).box.map (·.1), b ∈ σ.box.map (·.1) := fun b hb => by
    obtain ⟨⟨b', x⟩, hp, rfl⟩ := List.mem_map.1 hb
    obtain ⟨_, y, _, hy⟩ := only_mem hp
    exact List.mem_map.2 ⟨_, hy, rfl⟩
  have hkm : ∀ b ∈ (σ.only bs ms).map.map (·.1), b ∈ σ.map.map (·.1) := fun b hb => by
    obtain ⟨⟨b', x⟩, hp, rfl⟩ := List.mem_map.1 hb
    obtain ⟨_, y, _, hy⟩ := only_mem (F := fun c => c) hp
    exact List.mem_map.2 ⟨_, hy, rfl⟩
  have hown : ∀ b ∈ owned (Ω.filter (inRest bs)) (σ.only bs ms), b ∈ owned Ω σ := fun b hb => by
    simp only [owned, List.mem_append] at hb ⊢
    rcases hb with (hb | hb) | hb
    · exact .inl (.inl (hkb b hb))
    · exact .inl (.inr (hkm b hb))
    · exact .inr ((List.Sublist.filterMap _ List.filter_sublist).subset hb)
  have hnd := h.ss.nodup
  refine ⟨⟨fun b cs hm => ?_, fun b l hm => (by obtain ⟨_, y, rfl, hy⟩ := only_mem (F := fun c => c) hm; exact h.ss.map b _ hy), fun x hx => h.ss.own x (List.mem_filter.1 hx).1, h.ss.tags.sublist (List.Sublist.map _ List.filter_sublist), ?_, h.ss.glob, h.ss.fits⟩, ⟨h1.fs.size, h1.fs.defers, h1.fs.rep, fun s => ?_, fun t n ht => ?_⟩, h.since, fun b hb => h.mine b (hown b hb)⟩
  · obtain ⟨hb, cs0, rfl, hmm⟩ := only_mem hm
    obtain ⟨⟨c, T, k1, k2, k3⟩, k4, k5⟩ := h.ss.box b cs0 hmm
    refine ⟨⟨c, T, k1, k2.map_of fun _ _ h => h.nn1, fun o sz xs ho => ?_⟩, k4, ?_⟩
    · have ho' : cs0[o]? = some (.grow sz xs) := by
        rw [List.getElem?_map] at ho
        obtain ⟨c, hc, he⟩ := Option.map_eq_some_iff.1 ho
        rw [hc]
        cases c <;> simp only [nn1, reduceCtorEq] at he
        rw [he]
      obtain ⟨x, hx, e1, e2⟩ := k3 o sz xs ho'
      exact ⟨x, List.mem_filter.2 ⟨hx, inRest_of e1 hb⟩, e1, e2⟩
    · rw [List.all_eq_true] at k5 ⊢
      intro z hz
      obtain ⟨y, hy, rfl⟩ := List.mem_map.1 hz
      have := k5 y hy
      cases y <;> first | exact this | rfl
  · have n1 := nodup_app_left hnd
    have n2 := List.nodup_append.1 n1
    have n3 := List.nodup_append.1 hnd
    refine List.nodup_append.2 ⟨List.nodup_append.2 ⟨only_keys _ _ bs nb, only_keys (fun c => c) _ ms nm, fun x hx y hy => n2.2.2 x (hkb x hx) y (hkm y hy)⟩, n3.2.1.sublist (List.Sublist.filterMap _ List.filter_sublist), fun x hx y hy => ?_⟩
    refine n3.2.2 x ?_ y ((List.Sublist.filterMap _ List.filter_sublist).subset hy)
    rcases List.mem_append.1 hx with hx | hx
    · exact List.mem_append.2 (.inl (hkb x hx))
    · exact List.mem_append.2 (.inr (hkm x hx))
  · have hsub : ∀ x ∈ Ω.filter (inRest bs), x ∈ Ω := fun x hx => (List.mem_filter.1 hx).1
    have := h1.fs.tag s
    revert this
    generalize getA (f.rst ss ts).sl s = v
    intro ht
    cases v with
    | list t xs => exact fun x hx => ht x (hsub x hx)
    | agg cs => exact fun vs hv i t xs hi x hx => ht vs hv i t xs hi x (hsub x hx)
    | _ => trivial
  · obtain ⟨x, hx, e1, e2⟩ := h1.fs.ow t n ht
    refine ⟨x, List.mem_filter.2 ⟨hx, ?_⟩, e1, e2⟩
    have : t ∈ ts := by
      have key : ∀ (ts : List Tag), getT (ts.filterMap fun t => (getT f.ow t).map fun n => (t, n)) t = some n → t ∈ ts := by
        intro ts
        induction ts with
        | nil => intro h; simp [getT] at h
        | cons u ts ih =>
          intro h
          simp only [List.filterMap_cons] at h
          cases hu : getT f.ow u with
          | none => rw [hu] at h; exact List.mem_cons_of_mem _ (ih h)
          | some m =>
            rw [hu] at h
            simp only [Option.map_some, getT] at h
            split at h
            · rename_i e; subst e; exact List.mem_cons_self
            · exact List.mem_cons_of_mem _ (ih h)
      exact key ts ht
    obtain ⟨k, rfl⟩ := hts t this
    exact inRest_slot e1
/-- Only a part counts from here on. -/
theorem Run.restrict {c : Code} {Q : Post} (ss : List Nat) (ts : List Tag) (bs ms : List Nat) (nb : bs.Nodup) (nm : ms.Nodup) (hts : ∀ t ∈ ts, ∃ k, t = .slot k) (h : Run P E c (f.rst ss ts) (σ.only bs ms) Q) : Run P E c f σ Q :=
  fun g a w φ Ω hs => h g a w φ _ (hs.restrict ss ts bs ms nb nm hts)
/-- Ways come together. -/
theorem Run.join {x y : Code} {Q : Post} (ss : List Nat) (ts : List Tag) (bs ms : List Nat) (nb : bs.Nodup) (nm : ms.Nodup) (hts : ∀ t ∈ ts, ∃ k, t = .slot k) (J : Fm → St → Prop)
    (h2 : ∀ f σ, J f σ → Run P E y f σ Q) (h1 : Run P E x f σ (Q.then fun f' σ' => J (f'.rst ss ts) (σ'.only bs ms))) : Run P E (.seq x y) f σ Q := by
  refine Run.seq (Run.mono h1 fun e f' σ' h => ?_)
  cases e with
  | normal => exact Run.restrict ss ts bs ms nb nm hts (h2 _ _ h)
  | _ => exact h
/-- A loop whose function answers. -/
theorem Run.fix {V R : Type} {step : V → Option (V ⊕ R)} {v0 : V} {r : R} {c : Code} {Q : Post} (hF : fixL step v0 = some r) (ss : List Nat) (ts : List Tag) (bs ms : List Nat) (nb : bs.Nodup) (nm : ms.Nodup) (hts : ∀ t ∈ ts, ∃ k, t = .slot k) (J : V → Fm → St → Prop)
    (h0 : J v0 (f.rst ss ts) (σ.only bs ms)) (round : ∀ v f σ y, J v f σ → step v = some y → (∀ r', y = .inr r' → r' = r) → Run P E c f σ (Q.then fun f' σ' => ∃ v', y = .inl v' ∧ J v' (f'.rst ss ts) (σ'.only bs ms))) : Run P E (.loop c) f σ Q := by
  refine Run.restrict ss ts bs ms nb nm hts ?_
  intro g a w φ Ω hs b k cs hro hb hr
  have key : ∀ n v, fixN step n v = some r → ∀ f σ a w φ Ω, J v f σ → SR E g f σ a w φ Ω →
      ∃ e a' w', Q.lift E g e a' w' ∧ ArrivesIn (Machine.fenced P (Fw E.rd)) P (lone (b.atR a (.code c :: .inLoop c :: k)) cs w) b k cs e a' w' := by
    intro n
    induction n with
    | zero => intro v hv; cases hv
    | succ n ih =>
    intro v hv f σ a w φ Ω hJ hs
    cases hy : step v with
    | none => simp only [fixN, hy] at hv; cases hv
    | some y =>
    have hyr : ∀ r2, y = .inr r2 → r2 = r := fun r2 e => by
      subst e
      simp only [fixN, hy, Option.some.injEq] at hv
      exact hv
    obtain ⟨e, a₁, w₁, ⟨f', σ', φ', Ω', k1, k2⟩, harr⟩ := round v f σ y hJ hy hyr g a w φ Ω hs b (.inLoop c :: k) cs hro hb hr
    cases e with
    | normal =>
      obtain ⟨v', rfl, hJ'⟩ := k2
      simp only [fixN, hy] at hv
      obtain ⟨e₂, a₂, w₂, hq₂, harr₂⟩ := ih v' hv _ _ a₁ w₁ φ' _ hJ' (k1.restrict ss ts bs ms nb nm hts)
      exact ⟨e₂, a₂, w₂, hq₂, .of_steps (StepsIn.trans harr (.one (fenced_calm hb hr rfl) stepR_inLoop)) harr₂⟩
    | exit id => exact ⟨_, a₁, w₁, ⟨f', σ', φ', Ω', k1, k2⟩, .pass (x := .inLoop c) rfl (fun _ _ => .inl (by simp)) harr⟩
    | goto l => exact ⟨_, a₁, w₁, ⟨f', σ', φ', Ω', k1, k2⟩, .pass (x := .inLoop c) rfl (fun _ _ => .inl (by simp)) harr⟩
    | ret => exact ⟨_, a₁, w₁, ⟨f', σ', φ', Ω', k1, k2⟩, .pass (x := .inLoop c) rfl (fun _ _ => .inl (by simp)) harr⟩
    | panic ch => exact ⟨_, a₁, w₁, ⟨f', σ', φ', Ω', k1, k2⟩, .pass (x := .inLoop c) rfl (fun _ _ => .inl (by simp)) harr⟩
    | outgrown => exact ⟨_, a₁, w₁, ⟨f', σ', φ', Ω', k1, k2⟩, .pass (x := .inLoop c) rfl (fun _ _ => .inl (by simp)) harr⟩
  obtain ⟨n, hn⟩ := fixL_iff.1 hF
  obtain ⟨e, a', w', hq, harr⟩ := key n v0 hn _ _ a w φ Ω h0 hs
  exact ⟨e, a', w', hq, .of_steps (.one (fenced_calm hb hr rfl) stepR_loop) harr⟩

/-- What is nil in a box may be grown. -/
theorem SR.retagB (h : SR E g f σ a w φ Ω) {b o sz : Nat} {cs : List AV} (hb : getB σ.box b = some cs) (ho : cs[o]? = some .nils) (hz : 0 < sz) :
    ∃ Ω', SR E g { f with sl := untagS (.cell b o) f.sl, ow := delT f.ow (.cell b o) } { σ with box := setB σ.box b (cs.set o (.grow sz [])) } a w φ Ω' := by
  have hu := h.untag (.cell b o)
  have hnt : ∀ s, NoTag (.cell b o) (getA (untagS (.cell b o) f.sl) s) := fun s => by rw [getA_untag]; exact NoTag.self (by simp) _
  obtain ⟨⟨c, T, k1, k2, k3⟩, k4, k5⟩ := box_get h.ss hb
  have hblt : b < w.heap.size := (Array.getElem?_eq_some_iff.1 k1).1
  obtain ⟨u, hcu, hru⟩ := k2.get ho
  simp only [Rep] at hru
  subst hru
  have hce : c[o]? = some (.slice none 0 0) := by simpa using hcu
  have how : owned (⟨.cell b o, .slice none 0 0, 0, sz, 0⟩ :: Ω.filter (fun x => decide (x.tag ≠ .cell b o))) { σ with box := setB σ.box b (cs.set o (.grow sz [])) } = owned (Ω.filter (fun x => decide (x.tag ≠ .cell b o))) σ := by
    simp only [owned, List.filterMap_cons, Value.ownBlock, setB_keys]
  have hsubl : (owned (Ω.filter (fun x => decide (x.tag ≠ .cell b o))) σ).Sublist (owned Ω σ) := List.Sublist.append (List.Sublist.refl _) (List.Sublist.filterMap _ List.filter_sublist)
  have hnb : (σ.box.map (·.1)).Nodup := nodup_app_left (nodup_app_left h.ss.nodup)
  refine ⟨⟨.cell b o, .slice none 0 0, 0, sz, 0⟩ :: Ω.filter (fun x => decide (x.tag ≠ .cell b o)), ⟨fun b' es hm => ?_, h.ss.map, fun x hx => ?_, ?_, ?_, h.ss.glob, h.ss.fits⟩, ⟨h.fs.size, h.fs.defers, hu.fs.rep, fun s' => ?_, fun t n ht => ?_⟩, h.since, fun b hb => ?_⟩
  · rcases mem_setB hnb hm with ⟨rfl, rfl⟩ | ⟨hk, hm⟩
    · have k2' : RepL w φ (cs.set o (.grow sz [])) c.toList := by
        have := k2.set (i := o) (c := .grow sz []) (v := .slice none 0 0) (by simp only [Rep]; exact ⟨_, _, _, rfl, rfl, Nat.le_refl _, .inl trivial⟩)
        rwa [show c.toList.set o (.slice none 0 0) = c.toList from List.ext_getElem? fun i => by
          rw [List.getElem?_set]
          split
          · rename_i e; subst e; split
            · rw [← hce]; simp
            · rename_i hn; rw [List.getElem?_eq_none (by omega)]
          · rfl] at this
      refine ⟨⟨c, T, k1, k2', fun i sz' xs hi => ?_⟩, k4, ?_⟩
      · rw [List.getElem?_set] at hi
        by_cases e : o = i
        · subst e
          have hlt : o < cs.length := (List.getElem?_eq_some_iff.1 ho).1
          rw [if_pos rfl, if_pos hlt] at hi
          simp only [Option.some.injEq, AV.grow.injEq] at hi
          obtain ⟨rfl, rfl⟩ := hi
          exact ⟨_, List.mem_cons_self, rfl, rfl, hce⟩
        · rw [if_neg e] at hi
          obtain ⟨x, hx, e1, e2, e3⟩ := k3 i sz' xs hi
          exact ⟨x, List.mem_cons_of_mem _ (List.mem_filter.2 ⟨hx, by simp only [decide_eq_true_eq]; rw [e1]; intro e4; injection e4 with _ e5; exact e e5.symm⟩), e1, e2, e3⟩
      · rw [List.all_eq_true] at k5 ⊢
        intro z hz
        rcases List.mem_or_eq_of_mem_set hz with hz | rfl
        · exact k5 z hz
        · rfl
    · obtain ⟨⟨c', T', l1, l2, l3⟩, l4, l5⟩ := h.ss.box b' es hm
      refine ⟨⟨c', T', l1, l2, fun i sz xs hi => ?_⟩, l4, l5⟩
      obtain ⟨x, hx, e1, e2, e3⟩ := l3 i sz xs hi
      exact ⟨x, List.mem_cons_of_mem _ (List.mem_filter.2 ⟨hx, by simp only [decide_eq_true_eq]; rw [e1]; intro e4; injection e4 with e5 _; exact hk e5⟩), e1, e2, e3⟩
  · rcases List.mem_cons.1 hx with rfl | hx
    · exact ⟨by simp, ⟨[], World.ownsRow_nil w 0 0 sz⟩, hz, fun g hg => by simp [Value.ownBlock] at hg, fun b' o' e => by injection e with e1 _; subst e1; exact hblt⟩
    · exact h.ss.own x (List.mem_filter.1 hx).1
  · simp only [List.map_cons, List.nodup_cons]
    refine ⟨fun hm => ?_, h.ss.tags.sublist (List.Sublist.map _ List.filter_sublist)⟩
    obtain ⟨y, hy, e⟩ := List.mem_map.1 hm
    have := (List.mem_filter.1 hy).2
    simp only [decide_eq_true_eq] at this
    exact this e
  · rw [how]; exact h.ss.nodup.sublist hsubl
  · have hto := hu.fs.tag s'
    have hnt' := hnt s'
    simp only at hto
    revert hto hnt'
    generalize getA (untagS (.cell b o) f.sl) s' = v
    intro hto hnt'
    cases v with
    | list t' ys =>
      intro x hx hxt hxn
      rcases List.mem_cons.1 hx with rfl | hx
      · exact absurd rfl (fun e : AV.list t' ys = AV.list t' ys => hnt'.1 ys (by rw [← hxt]))
      · exact hto x (List.mem_filter.1 hx).1 hxt hxn
    | agg es =>
      intro vs hvs i t' ys hi x hx hxt hxn
      rcases List.mem_cons.1 hx with rfl | hx
      · exact absurd (List.mem_of_getElem? hi) (by rw [← hxt]; exact hnt'.2 es rfl ys)
      · exact hto vs hvs i t' ys hi x (List.mem_filter.1 hx).1 hxt hxn
    | _ => trivial
  · simp only at ht
    rw [getT_del] at ht
    split at ht
    · cases ht
    · rename_i e1
      obtain ⟨x, hx, k1, k2⟩ := h.fs.ow t n ht
      exact ⟨x, List.mem_cons_of_mem _ (List.mem_filter.2 ⟨hx, by simp only [decide_eq_true_eq]; rw [k1]; exact fun e => e1 e.symm⟩), k1, k2⟩
  · rw [how] at hb; exact h.mine _ (hsubl.subset hb)
theorem Run.retagB {c : Code} {Q : Post} (b o sz : Nat) {cs : List AV} (hb : getB σ.box b = some cs) (ho : cs[o]? = some .nils) (hz : 0 < sz) (h : Run P E c { f with sl := untagS (.cell b o) f.sl, ow := delT f.ow (.cell b o) } { σ with box := setB σ.box b (cs.set o (.grow sz [])) } Q) : Run P E c f σ Q := by
  intro g a w φ Ω hh
  obtain ⟨Ω', h1⟩ := hh.retagB (b := b) (o := o) hb ho hz
  exact h g a w φ Ω' h1
end
end Go.Proofs.YtpjkepfplhllfaaDoor.Av
