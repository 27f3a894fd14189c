/-
Calls.
-/
import Derived.Test.YtpjkepfplhllfaaDoorAv14
namespace Go.Proofs.YtpjkepfplhllfaaDoor.Av
set_option linter.unusedSimpArgs false
set_option linter.unusedVariables false
open Go
section
variable {P : Program} {w : World} {φ : Nat → Nat} {E : Env} {f : Fm} {σ : St} {a : Act} {Ω : List Own} {g : Gh}

theorem free_c : ∀ cs : List AV, ∃ N, ∀ d, N ≤ d → (cs.map fun c => match c with | .list t' xs => if t' = Tag.slot d then AV.list .none xs else .list t' xs | c => c) = cs
  | [] => ⟨0, fun _ _ => rfl⟩
  | c :: cs => by
    obtain ⟨N, hN⟩ := free_c cs
    cases c with
    | list t xs =>
      cases t with
      | slot k => exact ⟨max N (k + 1), fun d hd => by rw [List.map_cons, hN d (by omega)]; simp only [Tag.slot.injEq]; rw [if_neg (by omega)]⟩
      | _ => exact ⟨N, fun d hd => by rw [List.map_cons, hN d hd]; simp⟩
    | _ => exact ⟨N, fun d hd => by rw [List.map_cons, hN d hd]⟩
theorem free_v (x : AV) : ∃ N, ∀ d, N ≤ d → untagV (.slot d) x = x := by
  cases x with
  | list t xs =>
    cases t with
    | slot k => exact ⟨k + 1, fun d hd => by simp only [untagV, Tag.slot.injEq]; rw [if_neg (by omega)]⟩
    | _ => exact ⟨0, fun d _ => by simp [untagV]⟩
  | agg cs =>
    obtain ⟨N, hN⟩ := free_c cs
    exact ⟨N, fun d hd => by simp only [untagV]; exact congrArg AV.agg (hN d hd)⟩
  | _ => exact ⟨0, fun _ _ => rfl⟩
theorem free_s : ∀ l : List (Nat × AV), ∃ N, ∀ d, N ≤ d → untagS (.slot d) l = l
  | [] => ⟨0, fun _ _ => rfl⟩
  | (k, v) :: l => by
    obtain ⟨N, hN⟩ := free_s l
    obtain ⟨M, hM⟩ := free_v v
    exact ⟨max N M, fun d hd => by simp only [untagS]; rw [hN d (by omega), hM d (by omega)]⟩
theorem free_o : ∀ l : List (Tag × (Nat × Nat)), ∃ N, ∀ d, N ≤ d → getT l (.slot d) = none
  | [] => ⟨0, fun _ _ => rfl⟩
  | (k, v) :: l => by
    obtain ⟨N, hN⟩ := free_o l
    cases k with
    | slot k => exact ⟨max N (k + 1), fun d hd => by simp only [getT, Tag.slot.injEq]; rw [if_neg (by omega)]; exact hN d (by omega)⟩
    | _ => exact ⟨N, fun d hd => by simp only [getT]; rw [if_neg (by simp)]; exact hN d hd⟩

/-- A new array that nobody grows. -/
theorem SR.unslot {d : Nat} {n : Nat × Nat} (h1 : untagS (.slot d) f.sl = f.sl) (h2 : getT f.ow (.slot d) = none) (h : SR E g { f with sl := untagS (.slot d) f.sl, ow := (.slot d, n) :: delT f.ow (.slot d) } σ a w φ Ω) : SR E g f σ a w φ Ω := by
  refine ⟨h.ss, ⟨h.fs.size, h.fs.defers, fun s => ?_, fun s => ?_, fun t m ht => h.fs.ow t m ?_⟩, h.since, h.mine⟩
  · have := h.fs.rep s; simp only [h1] at this; exact this
  · have := h.fs.tag s; simp only [h1] at this; exact this
  · have hne : Tag.slot d ≠ t := fun e => by rw [← e, h2] at ht; cases ht
    simp only [getT]
    rw [if_neg hne, getT_del, if_neg hne]
    exact ht

theorem getA_noCell : ∀ (l : List (Nat × AV)) (s : Nat), getA (noCellS l) s = noCellV (getA l s)
  | [], _ => rfl
  | (k, v) :: l, s => by simp only [noCellS, getA]; split <;> simp [getA_noCell l s]
theorem Rep.noCellC {x : AV} {v : Value} (h : Rep w φ x v) : Rep w φ (noCellC x) v := by
  cases x with
  | list t xs => cases t <;> first | exact h | (simp only [Av.noCellC, Rep] at h ⊢; exact h)
  | _ => exact h
theorem Rep.noCellV {x : AV} {v : Value} (h : Rep w φ x v) : Rep w φ (noCellV x) v := by
  cases x with
  | list t xs => cases t <;> first | exact h | (simp only [Av.noCellV, Rep] at h ⊢; exact h)
  | agg cs =>
    simp only [Av.noCellV, Rep] at h ⊢
    obtain ⟨vs, rfl, h⟩ := h
    exact ⟨vs, rfl, h.map_of fun x v hx => hx.noCellC⟩
  | _ => exact h
theorem noCellC_list {x : AV} {t : Tag} {xs : List (List AV)} (h : noCellC x = .list t xs) : t = .none ∨ (∃ k, t = .slot k) ∧ x = .list t xs := by
  cases x with
  | list t' ys => cases t' <;> simp only [noCellC, AV.list.injEq] at h
                  · exact .inl h.1.symm
                  · exact .inr ⟨⟨_, h.1.symm⟩, by rw [h.1, h.2]⟩
                  · exact .inl h.1.symm
  | _ => simp [noCellC] at h
/-- Without cells' tags in the frame only entries of slots count. -/
theorem TagOK.noCells {Ω' : List Own} {x : AV} {v : Value} (h : TagOK Ω x v) (hΩ' : ∀ y ∈ Ω', y.tag ≠ .none) (hsub : ∀ y ∈ Ω', ∀ k, y.tag = .slot k → y ∈ Ω) : TagOK Ω' (noCellV x) v := by
  cases x with
  | list t xs =>
    cases t with
    | slot k => intro y hy hyt hyn; exact h y (hsub y hy k hyt) hyt hyn
    | none => intro y hy hyt; exact absurd hyt (hΩ' y hy)
    | cell b o => intro y hy hyt; exact absurd hyt (hΩ' y hy)
  | agg cs =>
    intro vs hv i t xs hi y hy hyt hyn
    simp only [List.getElem?_map, Option.map_eq_some_iff] at hi
    obtain ⟨c, hc, he⟩ := hi
    rcases noCellC_list he with rfl | ⟨⟨k, rfl⟩, rfl⟩
    · exact absurd hyt (hΩ' y hy)
    · exact h vs hv i _ xs hc y (hsub y hy k hyt) hyt hyn
  | _ => trivial
theorem getT_noCell : ∀ (l : List (Tag × (Nat × Nat))) (t : Tag) (n : Nat × Nat), getT (noCellT l) t = some n → getT l t = some n ∧ ∃ k, t = .slot k
  | [], _, _, h => by simp [noCellT, getT] at h
  | (k, v) :: l, t, n, h => by
    cases k with
    | slot k =>
      simp only [noCellT, getT] at h ⊢
      split at h
      · rename_i e; rw [if_pos e]; exact ⟨h, k, e.symm⟩
      · rename_i e; rw [if_neg e]; exact getT_noCell l t n h
    | none =>
      simp only [noCellT] at h
      obtain ⟨h1, j, rfl⟩ := getT_noCell l t n h
      exact ⟨by simp [getT, h1], j, rfl⟩
    | cell b o =>
      simp only [noCellT] at h
      obtain ⟨h1, j, rfl⟩ := getT_noCell l t n h
      exact ⟨by simp [getT, h1], j, rfl⟩

theorem SS.perm (h : SS E w φ Ω σ) {σ' : St} (hb : σ.box.Perm σ'.box) (hm : σ.map.Perm σ'.map) : SS E w φ Ω σ' :=
  ⟨fun b cs hc => h.box b cs (hb.mem_iff.2 hc), fun b l hl => h.map b l (hm.mem_iff.2 hl), h.own, h.tags, by
    have := h.nodup
    simp only [owned] at this ⊢
    exact ((((hb.map _).append (hm.map _)).append_right _).nodup_iff).1 this, h.glob, h.fits⟩

def inBox (keys : List Nat) (x : Own) : Bool := match x.tag with | .cell b _ => decide (b ∈ keys) | _ => false
def inRest (keys : List Nat) (x : Own) : Bool := match x.tag with | .cell b _ => decide (b ∈ keys) | .slot _ => true | .none => false
theorem inBox_true {keys : List Nat} {x : Own} (h : inBox keys x = true) : ∃ b o, x.tag = .cell b o ∧ b ∈ keys := by
  unfold inBox at h
  split at h
  · rename_i b o e; exact ⟨b, o, e, by simpa using h⟩
  · cases h
theorem inBox_of {keys : List Nat} {x : Own} {b o : Nat} (h : x.tag = .cell b o) (hb : b ∈ keys) : inBox keys x = true := by
  unfold inBox; rw [h]; simpa using hb
theorem inRest_true {keys : List Nat} {x : Own} (h : inRest keys x = true) : (∃ k, x.tag = .slot k) ∨ ∃ b o, x.tag = .cell b o ∧ b ∈ keys := by
  unfold inRest at h
  split at h
  · rename_i b o e; exact .inr ⟨b, o, e, by simpa using h⟩
  · rename_i k e; exact .inl ⟨k, e⟩
  · cases h
theorem inRest_slot {keys : List Nat} {x : Own} {k : Nat} (h : x.tag = .slot k) : inRest keys x = true := by
  unfold inRest; rw [h]
theorem inRest_of {keys : List Nat} {x : Own} {b o : Nat} (h : x.tag = .cell b o) (hb : b ∈ keys) : inRest keys x = true := by
  unfold inRest; rw [h]; simpa using hb

theorem ec_ec (x : AV) : ec (ec x) = ec x := by cases x <;> rfl
theorem es_es (x : AV) : es (es x) = es x := by
  have hc : ∀ c : AV, ec (ec c) = ec c := ec_ec
  cases x with
  | agg cs => simp only [es, List.map_map]; congr 2; funext c; exact ec_ec c
  | func f cs => simp only [es, List.map_map]; congr 2; funext c; exact ec_ec c
  | tup cs =>
    simp only [es, List.map_map]
    congr 2
    funext c
    cases c <;> first | rfl | (simp only [Function.comp_apply, List.map_map]; congr 2; funext d; exact ec_ec d)
  | _ => rfl
theorem ACall.mono {fn : FuncId} {args : List AV} {R R' : AV → St → Prop} (h : ACall P E fn args σ R) (hr : ∀ r σ, R r σ → R' r σ) : ACall P E fn args σ R' :=
  ⟨h.callable, fun w φ Ω vs h1 h2 => (h.calls w φ Ω vs h1 h2).mono fun e w' ⟨v, φ', Ω', r, σ', k1, k2, k3⟩ => ⟨v, φ', Ω', r, σ', k1, hr _ _ k2, k3⟩⟩
/-- A call of a function that owns nothing of ours. -/
theorem SR.callPure {fn : FuncId} {args : List AV} {vs : List Value} {K : AV → Prop} (h : SR E g f σ a w φ Ω) (hc : CallPure P E fn args K) (hr : RepL w φ args vs) :
    Calls P fn vs.toArray w fun e w' => ∃ v φ' r, e = .returned v ∧ K (es r) ∧ Rep w' φ' (es r) v ∧ SR E g f σ a w' φ' Ω := by
  have hss : SS E w φ [] .empty := ⟨fun b cs hm => (by cases hm), fun b l hm => (by cases hm), fun x hx => (by cases hx), List.nodup_nil, List.nodup_nil, h.ss.glob, h.ss.fits⟩
  refine (hc.calls w φ [] vs hss hr).mono ?_
  rintro e w' ⟨v, φ', Ω', r, σ', rfl, ⟨rfl, hK⟩, h1, h2, h3, h4, h5⟩
  refine ⟨v, φ', r, rfl, hK, h1.es, ?_⟩
  have H : Ext w φ w' φ' := h3.ext
  have hk : ∀ b, b < w.heap.size → w'.heap[b]? = w.heap[b]? ∧ φ' b = φ b := fun b hb => h3.block b hb (by simp [owned, St.empty])
  exact ⟨h.ss.keep H (fun b hb => hk b (owned_lt h.ss hb)) h2.fits h3.size, h.fs.mono H, h.since.step H h3.os h3.tape h3.output h3.size fun b hb _ => hk b (Nat.lt_of_lt_of_le hb h.since.size), h.mine⟩

theorem SR.perm (h : SR E g f σ a w φ Ω) {σ' : St} (hb : σ.box.Perm σ'.box) (hm : σ.map.Perm σ'.map) : SR E g f σ' a w φ Ω :=
  ⟨h.ss.perm hb hm, h.fs, h.since, fun b hbm => h.mine b ((((hb.map _).append (hm.map _)).append_right _).mem_iff.2 hbm)⟩
/-- A part of what we own is given away, and comes back. -/
theorem SR.split (h : SR E g f σ a w φ Ω) {σ1 σ2 : St} (pb : σ.box.Perm (σ1.box ++ σ2.box)) (pm : σ.map.Perm (σ1.map ++ σ2.map)) :
    ∃ Ω1, SS E w φ Ω1 σ1 ∧ ∀ (R : AV → St → Prop) e w', APost E w φ Ω1 σ1 R e w' →
      ∃ v φ' Ω' r σ1', e = .returned v ∧ R r σ1' ∧ Rep w' φ' (es r) v ∧ SR E g (noCells f) (σ2.add σ1') a w' φ' Ω' := by
  have hp : SS E w φ Ω (σ1.add σ2) := h.ss.perm pb pm
  have hnd0 : (σ1.box.map (·.1) ++ σ2.box.map (·.1) ++ (σ1.map.map (·.1) ++ σ2.map.map (·.1)) ++ Ω.filterMap (·.v.ownBlock)).Nodup := by
    have := hp.nodup
    simpa only [owned, St.add, List.map_append] using this
  have hdis : ∀ b, b ∈ σ1.box.map (·.1) → b ∉ σ2.box.map (·.1) := fun b h1 h2 =>
    (List.nodup_append.1 (nodup_app_left (nodup_app_left hnd0))).2.2 b h1 b h2 rfl
  have hsub2 : (Ω.filter (inRest (σ2.box.map (·.1)))).Sublist (Ω.filter fun x => !inBox (σ1.box.map (·.1)) x) := by
    have : Ω.filter (inRest (σ2.box.map (·.1))) = (Ω.filter fun x => !inBox (σ1.box.map (·.1)) x).filter (inRest (σ2.box.map (·.1))) := by
      rw [List.filter_filter]
      apply List.filter_congr
      intro x _
      by_cases h1 : inBox (σ1.box.map (·.1)) x = true
      · obtain ⟨b, o, e, hb⟩ := inBox_true h1
        have : inRest (σ2.box.map (·.1)) x = false := by
          rw [Bool.eq_false_iff]
          intro h2
          rcases inRest_true h2 with ⟨k, e2⟩ | ⟨b2, o2, e2, hb2⟩
          · rw [e] at e2; cases e2
          · rw [e] at e2; injection e2 with e3 _; subst e3; exact hdis b hb hb2
        simp [this]
      · simp [Bool.eq_false_iff.2 h1]
    rw [this]
    exact List.filter_sublist
  have hO : ((Ω.filter (inBox (σ1.box.map (·.1)))).filterMap (·.v.ownBlock) ++ (Ω.filter (inRest (σ2.box.map (·.1)))).filterMap (·.v.ownBlock)).Sublist
      ((Ω.filter (inBox (σ1.box.map (·.1)))).filterMap (·.v.ownBlock) ++ (Ω.filter fun x => !inBox (σ1.box.map (·.1)) x).filterMap (·.v.ownBlock)) :=
    List.Sublist.append (List.Sublist.refl _) (List.Sublist.filterMap _ hsub2)
  have hOp : ((Ω.filter (inBox (σ1.box.map (·.1)))).filterMap (·.v.ownBlock) ++ (Ω.filter fun x => !inBox (σ1.box.map (·.1)) x).filterMap (·.v.ownBlock)).Perm (Ω.filterMap (·.v.ownBlock)) := by
    rw [← List.filterMap_append]
    exact (List.filter_append_perm _ _).filterMap _
  have hndP : (owned (Ω.filter (inBox (σ1.box.map (·.1)))) σ1 ++ owned (Ω.filter (inRest (σ2.box.map (·.1)))) σ2).Nodup := by
    have h1 : (σ1.box.map (·.1) ++ σ2.box.map (·.1) ++ (σ1.map.map (·.1) ++ σ2.map.map (·.1)) ++ ((Ω.filter (inBox (σ1.box.map (·.1)))).filterMap (·.v.ownBlock) ++ (Ω.filter (inRest (σ2.box.map (·.1)))).filterMap (·.v.ownBlock))).Nodup :=
      (((hOp.symm.append_left _).nodup_iff).1 hnd0).sublist (List.Sublist.append (List.Sublist.refl _) hO)
    refine (List.Perm.nodup_iff ?_).1 h1
    rw [List.perm_iff_count]
    intro x
    simp only [owned, List.count_append]
    omega
  obtain ⟨nd1, nd2, ndx⟩ := List.nodup_append.1 hndP
  have hss1 : SS E w φ (Ω.filter (inBox (σ1.box.map (·.1)))) σ1 := by
    refine ⟨fun b cs hm => ?_, fun b l hm => hp.map b l (List.mem_append_left _ hm), fun x hx => hp.own x (List.mem_filter.1 hx).1, hp.tags.sublist (List.Sublist.map _ List.filter_sublist), nd1, hp.glob, hp.fits⟩
    obtain ⟨⟨c, T, k1, k2, k3⟩, k4, k5⟩ := hp.box b cs (List.mem_append_left _ hm)
    refine ⟨⟨c, T, k1, k2, fun o sz xs ho => ?_⟩, k4, k5⟩
    obtain ⟨x, hx, e1, e2⟩ := k3 o sz xs ho
    exact ⟨x, List.mem_filter.2 ⟨hx, inBox_of e1 (List.mem_map.2 ⟨_, hm, rfl⟩)⟩, e1, e2⟩
  have hss2 : SS E w φ (Ω.filter (inRest (σ2.box.map (·.1)))) σ2 := by
    refine ⟨fun b cs hm => ?_, fun b l hm => hp.map b l (List.mem_append_right _ hm), fun x hx => hp.own x (List.mem_filter.1 hx).1, hp.tags.sublist (List.Sublist.map _ List.filter_sublist), nd2, hp.glob, hp.fits⟩
    obtain ⟨⟨c, T, k1, k2, k3⟩, k4, k5⟩ := hp.box b cs (List.mem_append_right _ hm)
    refine ⟨⟨c, T, k1, k2, fun o sz xs ho => ?_⟩, k4, k5⟩
    obtain ⟨x, hx, e1, e2⟩ := k3 o sz xs ho
    exact ⟨x, List.mem_filter.2 ⟨hx, inRest_of e1 (List.mem_map.2 ⟨_, hm, rfl⟩)⟩, e1, e2⟩
  refine ⟨_, hss1, ?_⟩
  rintro R e w' ⟨v, φ', Ω', r, σ1', rfl, hK, h1, h2, h3, h4, h5⟩
  have H : Ext w φ w' φ' := h3.ext
  have hk : ∀ b, b < w.heap.size → b ∉ owned (Ω.filter (inBox (σ1.box.map (·.1)))) σ1 → w'.heap[b]? = w.heap[b]? ∧ φ' b = φ b := fun b hb hn => h3.block b hb hn
  have hss2' : SS E w' φ' (Ω.filter (inRest (σ2.box.map (·.1)))) σ2 := hss2.keep H (fun b hb => hk b (owned_lt hss2 hb) fun hb1 => ndx b hb1 b hb rfl) h2.fits h3.size
  have hx12 : ∀ b, b ∈ owned Ω' σ1' → b ∉ owned (Ω.filter (inRest (σ2.box.map (·.1)))) σ2 := by
    intro b hb hb2
    rcases h5 b hb with hb | hb
    · exact ndx b hb b hb2 rfl
    · have := owned_lt hss2 hb2; omega
  have hbk : ∀ b, b ∈ σ1'.box.map (·.1) → b ∉ σ2.box.map (·.1) := fun b hb hb2 =>
    hx12 b (by simp only [owned, List.mem_append]; exact .inl (.inl hb)) (by simp only [owned, List.mem_append]; exact .inl (.inl hb2))
  refine ⟨v, φ', Ω' ++ Ω.filter (inRest (σ2.box.map (·.1))), r, σ1', rfl, hK, h1.es, SR.perm (σ := σ1'.add σ2) ?_ List.perm_append_comm List.perm_append_comm⟩
  have hown : (owned (Ω' ++ Ω.filter (inRest (σ2.box.map (·.1)))) (σ1'.add σ2)).Perm (owned Ω' σ1' ++ owned (Ω.filter (inRest (σ2.box.map (·.1)))) σ2) := by
    rw [List.perm_iff_count]
    intro x
    simp only [owned, St.add, List.map_append, List.filterMap_append, List.count_append]
    omega
  have hfs := h.fs.mono H
  refine ⟨⟨fun b cs hm => ?_, fun b l hm => ?_, fun x hx => ?_, ?_, ?_, h2.glob, h2.fits⟩, ⟨hfs.size, hfs.defers, fun s => ?_, fun s => ?_, fun t n ht => ?_⟩, h.since.step H h3.os h3.tape h3.output h3.size fun b hb hD => ?_, fun b hb => ?_⟩
  · rcases List.mem_append.1 hm with hm | hm
    · obtain ⟨⟨c, T, k1, k2, k3⟩, k4, k5⟩ := h2.box b cs hm
      refine ⟨⟨c, T, k1, k2, fun o sz xs ho => ?_⟩, k4, k5⟩
      obtain ⟨x, hx, e⟩ := k3 o sz xs ho
      exact ⟨x, List.mem_append_left _ hx, e⟩
    · obtain ⟨⟨c, T, k1, k2, k3⟩, k4, k5⟩ := hss2'.box b cs hm
      refine ⟨⟨c, T, k1, k2, fun o sz xs ho => ?_⟩, k4, k5⟩
      obtain ⟨x, hx, e⟩ := k3 o sz xs ho
      exact ⟨x, List.mem_append_right _ hx, e⟩
  · rcases List.mem_append.1 hm with hm | hm
    · exact h2.map b l hm
    · exact hss2'.map b l hm
  · rcases List.mem_append.1 hx with hx | hx
    · exact h2.own x hx
    · exact hss2'.own x hx
  · rw [List.map_append, List.nodup_append]
    refine ⟨h2.tags, hss2'.tags, fun t ht u hu e => ?_⟩
    subst e
    obtain ⟨x, hx, rfl⟩ := List.mem_map.1 ht
    obtain ⟨y, hy, hyx⟩ := List.mem_map.1 hu
    obtain ⟨b, o, e1, hb1⟩ := h4 x hx
    rcases inRest_true (List.mem_filter.1 hy).2 with ⟨k, e2⟩ | ⟨b2, o2, e2, hb2⟩
    · rw [hyx, e1] at e2; cases e2
    · rw [hyx, e1] at e2; injection e2 with e3 _; subst e3; exact hbk b hb1 hb2
  · rw [hown.nodup_iff, List.nodup_append]
    exact ⟨h2.nodup, hss2'.nodup, fun x hx y hy e => by subst e; exact hx12 x hx hy⟩
  · simp only [noCells]; rw [getA_noCell]; exact (hfs.rep s).noCellV
  · simp only [noCells]; rw [getA_noCell]
    refine (hfs.tag s).noCells (fun y hy => ?_) fun y hy k hyk => ?_
    · rcases List.mem_append.1 hy with hy | hy
      · exact (h2.own y hy).tag
      · exact (hss2'.own y hy).tag
    · rcases List.mem_append.1 hy with hy | hy
      · obtain ⟨b, o, e1, _⟩ := h4 y hy; rw [hyk] at e1; cases e1
      · exact (List.mem_filter.1 hy).1
  · simp only [noCells] at ht
    obtain ⟨ht1, k, rfl⟩ := getT_noCell _ _ _ ht
    obtain ⟨x, hx, e1, e2⟩ := h.fs.ow _ _ ht1
    exact ⟨x, List.mem_append_right _ (List.mem_filter.2 ⟨hx, inRest_slot e1⟩), e1, e2⟩
  · refine hk b (Nat.lt_of_lt_of_le hb h.since.size) fun hb1 => ?_
    have : b ∈ owned Ω σ := by
      simp only [owned, List.mem_append] at hb1 ⊢
      rcases hb1 with (hb1 | hb1) | hb1
      · obtain ⟨p, hp1, rfl⟩ := List.mem_map.1 hb1
        exact .inl (.inl (List.mem_map.2 ⟨p, pb.mem_iff.2 (List.mem_append_left _ hp1), rfl⟩))
      · obtain ⟨p, hp1, rfl⟩ := List.mem_map.1 hb1
        exact .inl (.inr (List.mem_map.2 ⟨p, pm.mem_iff.2 (List.mem_append_left _ hp1), rfl⟩))
      · obtain ⟨x, hx, e⟩ := List.mem_filterMap.1 hb1
        exact .inr (List.mem_filterMap.2 ⟨x, (List.mem_filter.1 hx).1, e⟩)
    rcases h.mine b this with hh | hh
    · exact hD hh
    · omega
  · have hmine : ∀ b, b ∈ owned (Ω.filter (inBox (σ1.box.map (·.1)))) σ1 ∨ b ∈ owned (Ω.filter (inRest (σ2.box.map (·.1)))) σ2 → b ∈ owned Ω σ := by
      intro b hb
      simp only [owned, List.mem_append] at hb ⊢
      rcases hb with ((hb | hb) | hb) | ((hb | hb) | hb)
      · obtain ⟨p, hp1, rfl⟩ := List.mem_map.1 hb
        exact .inl (.inl (List.mem_map.2 ⟨p, pb.mem_iff.2 (List.mem_append_left _ hp1), rfl⟩))
      · obtain ⟨p, hp1, rfl⟩ := List.mem_map.1 hb
        exact .inl (.inr (List.mem_map.2 ⟨p, pm.mem_iff.2 (List.mem_append_left _ hp1), rfl⟩))
      · obtain ⟨x, hx, e⟩ := List.mem_filterMap.1 hb
        exact .inr (List.mem_filterMap.2 ⟨x, (List.mem_filter.1 hx).1, e⟩)
      · obtain ⟨p, hp1, rfl⟩ := List.mem_map.1 hb
        exact .inl (.inl (List.mem_map.2 ⟨p, pb.mem_iff.2 (List.mem_append_right _ hp1), rfl⟩))
      · obtain ⟨p, hp1, rfl⟩ := List.mem_map.1 hb
        exact .inl (.inr (List.mem_map.2 ⟨p, pm.mem_iff.2 (List.mem_append_right _ hp1), rfl⟩))
      · obtain ⟨x, hx, e⟩ := List.mem_filterMap.1 hb
        exact .inr (List.mem_filterMap.2 ⟨x, (List.mem_filter.1 hx).1, e⟩)
    rcases List.mem_append.1 (hown.mem_iff.1 hb) with hb | hb
    · rcases h5 b hb with hb | hb
      · exact h.mine b (hmine b (.inl hb))
      · exact .inr (Nat.le_trans h.since.size hb)
    · exact h.mine b (hmine b (.inr hb))
/-- A call of a function that is given a part of what we own. -/
theorem SR.callW {fn : FuncId} {args : List AV} {vs : List Value} {K : Fm → St → AV → Prop} (h : SR E g f σ a w φ Ω) (hc : CallW P E fn args f σ K) (hr : RepL w φ args vs) :
    Calls P fn vs.toArray w fun e w' => ∃ v φ' Ω' r σ', e = .returned v ∧ K (noCells f) σ' (es r) ∧ Rep w' φ' (es r) v ∧ SR E g (noCells f) σ' a w' φ' Ω' := by
  obtain ⟨σ1, σ2, pb, pm, hcall⟩ := hc
  obtain ⟨Ω1, h1, h2⟩ := h.split pb pm
  refine (hcall.calls w φ _ vs h1 hr).mono fun e w' hp => ?_
  obtain ⟨v, φ', Ω', r, σ1', k1, k2, k3, k4⟩ := h2 _ e w' hp
  exact ⟨v, φ', Ω', r, _, k1, k2, k3, k4⟩
theorem SR.callY {l : Nat} {args : List AV} {vs : List Value} {K : Fm → St → AV → Prop} (h : SR E g f σ a w φ Ω) (hc : CallY P E l args f σ K) (hr : RepL w φ args vs) :
    ∃ fn tmps assign body, (Instr.yield l vs.toArray).run P w = .ok (.round l fn tmps assign body) w ∧ RoundIn Fence.wide 0 P l fn tmps assign body w fun e w' =>
      ∃ v φ' Ω' r σ', e = .returned v ∧ K (noCells f) σ' (es r) ∧ Rep w' φ' (es r) v ∧ SR E g (noCells f) σ' a w' φ' Ω' := by
  obtain ⟨σ1, σ2, pb, pm, hcall⟩ := hc
  obtain ⟨Ω1, h1, h2⟩ := h.split pb pm
  obtain ⟨fn, tmps, assign, body, k1, k2⟩ := hcall w φ _ vs h1 hr
  refine ⟨fn, tmps, assign, body, k1, k2.mono fun e w' hp => ?_⟩
  obtain ⟨v, φ', Ω', r, σ1', k1, k2, k3, k4⟩ := h2 _ e w' hp
  exact ⟨v, φ', Ω', r, _, k1, k2, k3, k4⟩
end
end Go.Proofs.YtpjkepfplhllfaaDoor.Av
