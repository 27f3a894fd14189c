/-
Regions that draw their order: what the machine does.
-/
import Derived.Test.YtpjkepfplhllfaaDoorAv18
namespace Go.Proofs.YtpjkepfplhllfaaDoor.Av
set_option linter.unusedSimpArgs false
set_option linter.unusedVariables false
open Go
section
variable {P : Program} {E : Env} {f f' : Fm} {σ : St} {ops : Array Oper} {w : World} {φ : Nat → Nat} {a : Act} {Ω : List Own} {g : Gh}

theorem SR.alike (ha : Alike f f') (h : SR E g f σ a w φ Ω) : SR E g f' σ a w φ Ω :=
  ⟨h.ss, ⟨by rw [← ha.1]; exact h.fs.size, by rw [← ha.2.1.2]; exact h.fs.defers, fun s => by rw [← ha.2.2 s]; exact h.fs.rep s, fun s => by rw [← ha.2.2 s]; exact h.fs.tag s, fun t n ht => h.fs.ow t n (by rw [ha.2.1.1]; exact ht)⟩, h.since, h.mine⟩

theorem oneP_wp (hE : EnvOK P E) (h : SR E g f σ a w φ Ω) {o : Oper} {K : Fm → Prop} (hk : OneP P E f σ o K) (hd : ∀ d, o.dst = some d → d < f.nt) {nx : Act → World → Prop} {Q : Exit → Act → World → Prop}
    (hn : ∀ f' a' φ' Ω' w', K f' → f'.nt = f.nt → SR E g f' σ a' w' φ' Ω' → nx a' w') : o.wpIn (Fw E.rd) 0 P a w nx Q := by
  have hnd : ∀ c, o.op ≠ .defer c := fun c e => by unfold OneP evP at hk; rw [e] at hk; simp [evF] at hk
  have ev := fun x => evX_rep (E := E) h.ss h.fs x
  unfold OneP at hk
  split at hk
  · rename_i x hx
    unfold evP at hx
    split at hx
    · rename_i y hy
      cases hx
      obtain ⟨v, r1, r2, r3⟩ := evF_run hE h.ss h.fs hy
      refine wpIn_of_run hnd r1 ?_
      exact hn _ _ φ Ω w hk (by cases o.dst <;> rfl) (h.put hd r2 r3)
    · split at hx
      · rename_i t len ps hop
        split at hx
        · rename_i size agg bytes zero e hl
          split at hx
          · rename_i le hle
            split at hx
            · rename_i hc
              obtain ⟨⟨z1, z2, z3, z4⟩, k1, k2⟩ := hc
              obtain ⟨rows, hseq, rfl⟩ := Option.map_eq_some_iff.1 hx
              obtain ⟨N1, hN1⟩ := free_s f.sl
              obtain ⟨N2, hN2⟩ := free_o f.ow
              obtain ⟨v, w', φ', Ω', r1, r2, r3, r4, r5⟩ := h.buildSlice (gA := evX E f) (uA := a.eval) (d := max N1 N2) hE hl rfl hle z1 z2 z3 z4 hseq k1 k2 (fun p _ => ev p.2)
              have r4' := r4.unslot (hN1 _ (Nat.le_max_left _ _)) (hN2 _ (Nat.le_max_right _ _))
              have : (execOp a.eval o).run P w = .ok (.value v) w' := by
                unfold execOp
                simp only [hop, Sem.run_bind]
                have e : (ps.map fun (i, x) => (i, a.eval x)) = (ps.toList.map fun p => (p.1, a.eval p.2)).toArray := by apply Array.ext'; simp
                rw [e, r1]
                rfl
              refine wpIn_of_run hnd this ?_
              refine hn _ _ φ' Ω' w' hk (by cases o.dst <;> rfl) (r4'.put hd r5 trivial)
            · cases hx
          · cases hx
        · cases hx
      · cases hx
  · split at hk
    · rename_i c hop
      split at hk
      · rename_i x hc
        split at hk
        · rename_i fn caps hx
          have hxv := (ev x).1
          rw [hx] at hxv
          simp only [Rep] at hxv
          obtain ⟨cvs, hxv, hcr⟩ := hxv
          have hargs := RepL.append (evXs_rep h.ss h.fs c.args.toList) hcr
          refine wpIn_call hnd (run_callee hop hc hxv hk.callable) ((h.callPure hk hargs).mono ?_)
          rintro e w' ⟨v, φ', r, rfl, k1, k2, k3⟩
          refine ⟨v, rfl, ?_⟩
          exact hn _ _ φ' Ω w' k1 (by cases o.dst <;> rfl) (k3.put hd k2 (TagOK.es (fun y hy => (k3.ss.own y hy).tag) _))
        · exact hk.elim
      · exact hk.elim
    · exact hk.elim

theorem stepP_wp (hE : EnvOK P E) (h : SR E g f σ a w φ Ω) {o : Oper} {K : Fm → Prop} (hk : StepP P E ops σ o f K) (hd : ∀ d, o.dst = some d → d < f.nt) {nx : Act → World → Prop} {Q : Exit → Act → World → Prop}
    (hn : ∀ f' a' φ' Ω' w', K f' → f'.nt = f.nt → SR E g f' σ a' w' φ' Ω' → nx a' w') :
    if Region.wanted o (yielded ops a.tmps) then o.wpIn (Fw E.rd) 0 P a w nx Q else (∀ f, o.about P w a.eval = some f → (Fw E.rd).fn f) ∧ nx (a.put o.dst undef) w := by
  unfold StepP at hk
  split at hk
  · rename_i hg
    have : Region.wanted o (yielded ops a.tmps) = true := by unfold Region.wanted; rw [hg]
    rw [if_pos this]
    rcases hk with hk | ⟨z, hz, hk⟩
    · exact oneP_wp hE h hk hd hn
    · refine oneQP_wp (d := fun _ x => x) hE h hz hd fun a' φ' Ω' w' v e h1 h2 h3 => ?_
      subst e
      exact hn _ _ φ' Ω' w' hk (by cases o.dst <;> rfl) (h2.put hd h1 h3)
  · rename_i j want hg
    split at hk
    · rename_i d hdj
      split at hk
      · rename_i b hb
        rw [guardB_wanted h hg hdj hb]
        cases b with
        | true =>
          rw [if_pos rfl]
          rcases hk with hk | ⟨z, hz, hk⟩ | ⟨_, z, hz, hk⟩
          · exact oneP_wp hE h ((iteW.1 hk).1 rfl) hd hn
          · refine oneQP_wp (d := fun _ x => x) hE h (hz rfl) hd fun a' φ' Ω' w' v e h1 h2 h3 => ?_
            subst e
            exact hn _ _ φ' Ω' w' hk (by cases o.dst <;> rfl) (h2.put hd (by simp only [Rep]; exact ⟨fun _ => h1.es, fun e => Bool.noConfusion e⟩) trivial)
          · refine oneG_wp (K := fun f' σ' => σ' = σ ∧ K f') hE h (.inr ⟨z, hz, rfl, hk⟩) hd fun f' σ' a' φ' Ω' w' k1 k2 k3 => ?_
            obtain ⟨rfl, k1⟩ := k1
            exact hn _ _ φ' Ω' w' k1 k2 k3
        | false =>
          rw [if_neg (by simp)]
          refine ⟨fun _ _ => trivial, ?_⟩
          have skip : ∀ {w φ} {x : AV}, Rep w φ (.when false x) undef := by intro w φ x; simp only [Rep]; exact ⟨fun e => Bool.noConfusion e, fun _ => trivial⟩
          rcases hk with hk | ⟨z, _, hk⟩ | ⟨_, z, _, hk⟩
          · exact hn _ _ φ Ω w ((iteW.1 hk).2 (by simp)) (by cases o.dst <;> rfl) (h.put hd (by simp only [Rep]) trivial)
          · exact hn _ _ φ Ω w hk (by cases o.dst <;> rfl) (h.put hd skip trivial)
          · exact hn _ _ φ Ω w hk (by cases o.dst <;> rfl) (h.put hd skip trivial)
      · exact hk.elim
    · exact hk.elim

/-- Edges go back. -/
def edgesOK (ops : Array Oper) : Bool := (List.range ops.size).all fun j => match ops[j]? with | some o => o.after.all fun e => !Region.binds .any e || decide (e.on < j) | none => true
def predsOf (ops : Array Oper) (j : Nat) : List Nat := match ops[j]? with | some o => (o.after.toList.filter fun e => Region.binds .any e).map (·.on) | none => []
def backOf (ops : Array Oper) : Nat → List Nat → List Nat
  | 0, S => S
  | k + 1, S => backOf ops k (if S.contains k then predsOf ops k ++ S else S)
/-- Each of the last operations comes after all before it. -/
def lastOK (ops : Array Oper) (n : Nat) : Bool := (List.range ops.size).all fun j => decide (j < n) || (List.range j).all fun i => (backOf ops j (predsOf ops j)).contains i

def Closed (ops : Array Oper) (L : Array Bool) : Prop := ∀ j o, ops[j]? = some o → L.getD j false = true → ∀ e ∈ o.after, Region.binds .any e = true → L.getD e.on false = true
theorem preds_listed {L : Array Bool} (hc : Closed ops L) {j : Nat} (hj : L.getD j false = true) : ∀ i ∈ predsOf ops j, L.getD i false = true := by
  intro i hi
  unfold predsOf at hi
  split at hi
  · rename_i o ho
    obtain ⟨e, he, rfl⟩ := List.mem_map.1 hi
    have := List.mem_filter.1 he
    exact hc j o ho hj e (by simpa using this.1) this.2
  · cases hi
theorem back_listed {L : Array Bool} (hc : Closed ops L) : ∀ (k : Nat) (S : List Nat), (∀ i ∈ S, L.getD i false = true) → ∀ i ∈ backOf ops k S, L.getD i false = true
  | 0, S, h => h
  | k + 1, S, h => by
    simp only [backOf]
    refine back_listed hc k _ ?_
    split
    · rename_i hk
      intro i hi
      rcases List.mem_append.1 hi with hi | hi
      · exact preds_listed hc (h k (by simpa using hk)) i hi
      · exact h i hi
    · exact h
theorem last_ready {n : Nat} {L : Array Bool} (hl : lastOK ops n = true) (hc : Closed ops L) {j : Nat} (hj : j ∈ Region.ready .any ops L) (hn : n ≤ j) : ∀ i, i < j → L.getD i false = true := by
  intro i hi
  obtain ⟨_, o, ho, hall⟩ := mem_ready.1 hj
  have hlt : j < ops.size := (Array.getElem?_eq_some_iff.1 ho).1
  simp only [lastOK, List.all_eq_true, List.mem_range, Bool.or_eq_true, decide_eq_true_eq] at hl
  rcases hl j hlt with h | h
  · omega
  · refine back_listed hc j _ (fun i hi => ?_) i (by simpa using h i hi)
    unfold predsOf at hi
    rw [ho] at hi
    obtain ⟨e, he, rfl⟩ := List.mem_map.1 hi
    have := List.mem_filter.1 he
    exact hall e (by simpa using this.1) this.2
theorem Closed.list {L : Array Bool} (hc : Closed ops L) {j : Nat} (hj : j ∈ Region.ready .any ops L) : Closed ops (L.setIfInBounds j true) := by
  intro k o ho hk e he hb
  obtain ⟨_, oj, hoj, hall⟩ := mem_ready.1 hj
  by_cases h : j = k
  · subst h
    rw [hoj] at ho; cases ho
    exact getD_set_true (hall e he hb)
  · rw [getD_set_ne false h] at hk
    exact getD_set_true (hc k o ho hk e he hb)

theorem none_ready {L : Array Bool} (h : ∀ i, i < ops.size → L.getD i false = true) : Region.ready .any ops L = [] := by
  rcases hr : Region.ready .any ops L with _ | ⟨j, l⟩
  · rfl
  · have hj : j ∈ Region.ready .any ops L := by rw [hr]; simp
    obtain ⟨hju, o, ho, _⟩ := mem_ready.1 hj
    exact absurd (h j (Array.getElem?_eq_some_iff.1 ho).1) (unlisted_ne (j := j) hju)
theorem first_ready {L : Array Bool} (he : edgesOK ops = true) {p : Nat} (hlt : p < ops.size) (h1 : ∀ i, i < p → L.getD i false = true) (h2 : L.getD p true = false) : p ∈ Region.ready .any ops L := by
  rw [mem_ready]
  refine ⟨h2, _, Array.getElem?_eq_getElem hlt, fun e hem hb => h1 _ ?_⟩
  simp only [edgesOK, List.all_eq_true, List.mem_range] at he
  have := he p hlt
  rw [Array.getElem?_eq_getElem hlt] at this
  simp only [Array.all_eq_true_iff_forall_mem, Bool.or_eq_true, Bool.not_eq_true', decide_eq_true_eq] at this
  rcases this e hem with h | h
  · rw [hb] at h; cases h
  · exact h

/-- The last ones, in their order. -/
theorem last_wp (hE : EnvOK P E) {K : Fm → St → Prop} {Q : Exit → Act → World → Prop} (hQ : ∀ f' σ' a' φ' Ω' w', K f' σ' → SR E g f' σ' a' w' φ' Ω' → Q .normal a' w') {n : Nat} (he : edgesOK ops = true) (hlast : lastOK ops n = true) :
    ∀ (m p : Nat) (L : Array Bool) {f : Fm} {σ : St} {a : Act} {w : World} {φ : Nat → Nat} {Ω : List Own}, n ≤ p → ops.size ≤ p + m → L.size = ops.size → Closed ops L → (∀ i, i < p → L.getD i false = true ∨ ops.size ≤ i) → (∀ i, p ≤ i → i < ops.size → L.getD i true = false) →
      SR E g f σ a w φ Ω → dstsOK f.nt (ops.toList.drop p) = true → W P E ops (ops.toList.drop p) f σ K → wpAnyIn (Fw E.rd) 0 P .any ops Q m L a w := by
  intro m
  induction m with
  | zero =>
    intro p L f σ a w φ Ω hp hm hL hc h1 h2 hs hd hk
    have hnil : ops.toList.drop p = [] := List.drop_eq_nil_of_le (by simp; omega)
    rw [hnil] at hk
    exact ⟨none_ready (fun i hi => (h1 i (by omega)).resolve_right (by omega)), hQ _ _ _ _ _ _ hk hs⟩
  | succ m ih =>
    intro p L f σ a w φ Ω hp hm hL hc h1 h2 hs hd hk
    rcases Nat.lt_or_ge p ops.size with hlt | hge
    case inr =>
      have hnil : ops.toList.drop p = [] := List.drop_eq_nil_of_le (by simp; omega)
      rw [hnil] at hk
      have hr : Region.ready .any ops L = [] := none_ready (fun i hi => (h1 i (by omega)).resolve_right (by omega))
      exact ⟨fun _ => hQ _ _ _ _ _ _ hk hs, fun j hj => by rw [hr] at hj; cases hj⟩
    have hpo : ops[p]? = some ops[p] := Array.getElem?_eq_getElem hlt
    have hdrop : ops.toList.drop p = ops[p] :: ops.toList.drop (p + 1) := by
      rw [List.drop_eq_getElem_cons (by simpa using hlt)]; simp
    rw [hdrop] at hk hd
    simp only [dstsOK, List.all_cons, Bool.and_eq_true] at hd
    obtain ⟨hd1, hd2⟩ := hd
    have hdo : ∀ d, (ops[p]).dst = some d → d < f.nt := fun d e => by rw [e] at hd1; simpa using hd1
    have h1' : ∀ i, i < p → L.getD i false = true := fun i hi => (h1 i hi).resolve_right (by omega)
    have hpr : p ∈ Region.ready .any ops L := first_ready he hlt h1' (h2 p (Nat.le_refl _) hlt)
    refine ⟨fun h => (by rw [h] at hpr; cases hpr), fun j hj => ?_⟩
    have hjp : j = p := by
      obtain ⟨hju, o, ho, _⟩ := mem_ready.1 hj
      have hjlt : j < ops.size := (Array.getElem?_eq_some_iff.1 ho).1
      have hge : p ≤ j := by
        rcases Nat.lt_or_ge j p with h | h
        · exact absurd (h1' j h) (unlisted_ne (j := j) hju)
        · exact h
      rcases Nat.lt_or_ge p j with h | h
      · exact absurd (last_ready hlast hc hj (by omega) p h) (unlisted_ne (j := p) (h2 p (Nat.le_refl _) hlt))
      · omega
    subst hjp
    have rest : ∀ f' σ' a' φ' Ω' w', W P E ops (ops.toList.drop (j + 1)) f' σ' K → f'.nt = f.nt → SR E g f' σ' a' w' φ' Ω' → wpAnyIn (Fw E.rd) 0 P .any ops Q m (L.setIfInBounds j true) a' w' := fun f' σ' a' φ' Ω' w' k1 k2 k3 => by
      refine ih (j + 1) _ (by omega) (by omega) (by simpa using hL) (hc.list hj) (fun i hi => ?_) (fun i hi hil => ?_) k3 (by rw [k2]; exact hd2) k1
      · left
        rcases Nat.lt_or_ge i j with h | h
        · exact getD_set_true (h1' i h)
        · have : i = j := by omega
          subst this
          simp [hL, hlt]
      · rw [getD_set_ne true (by omega)]; exact h2 i (by omega) hil
    unfold wpOpIn
    simp only [hpo]
    simp only [W] at hk
    split at hk
    · rename_i hg
      have : Region.wanted ops[j] (yielded ops a.tmps) = true := by unfold Region.wanted; rw [hg]
      rw [if_pos this]
      rcases hk with hk | ⟨z, hz, hk⟩
      · exact one_wp hE hs hk hdo rest
      · obtain ⟨v, r1, r2, r3⟩ := QW_run hE hs rfl hz
        exact wpIn_of_run (QW_defer hz) r1 (rest _ _ _ φ Ω w hk (by cases (ops[j]).dst <;> rfl) (hs.put hdo r2 r3))
    · rename_i i want hg
      split at hk
      · rename_i d hdj
        split at hk
        · rename_i b hb
          rw [guardB_wanted hs hg hdj hb]
          cases b with
          | true =>
            rw [if_pos rfl]
            rcases hk with hk | hk
            · exact one_wp hE hs ((iteW.1 hk).1 rfl) hdo rest
            · exact oneG_wp hE hs hk hdo rest
          | false =>
            rw [if_neg (by simp)]
            refine ⟨fun _ _ => trivial, ?_⟩
            have skip : ∀ {w φ} {x : AV}, Rep w φ (.when false x) undef := by intro w φ x; simp only [Rep]; exact ⟨fun e => Bool.noConfusion e, fun _ => trivial⟩
            rcases hk with hk | ⟨z, _, hk⟩ | ⟨z, _, hk⟩
            · exact rest _ _ _ φ Ω w ((iteW.1 hk).2 (by simp)) (by cases (ops[j]).dst <;> rfl) (hs.put hdo (by simp only [Rep]) trivial)
            · exact rest _ _ _ φ Ω w hk (by cases (ops[j]).dst <;> rfl) (hs.put hdo skip trivial)
            · exact rest _ _ _ φ Ω w hk (by cases (ops[j]).dst <;> rfl) (hs.put hdo skip trivial)
        · exact hk.elim
      · exact hk.elim

/-- The first ones, in any order. -/
theorem any_wp (hE : EnvOK P E) {n m : Nat} {K : Fm → Prop} {Q : Exit → Act → World → Prop} (he : edgesOK ops = true) (hlast : lastOK ops n = true) (hnm : n + m = ops.size)
    (hK : ∀ k L f' a' φ' Ω' w', m ≤ k → K f' → dstsOK f'.nt ops.toList = true → SR E g f' σ a' w' φ' Ω' → L.size = ops.size → Closed ops L → (∀ i, i < n → L.getD i false = true) → (∀ i, n ≤ i → i < ops.size → L.getD i true = false) → wpAnyIn (Fw E.rd) 0 P .any ops Q k L a' w') :
    ∀ (k : Nat) (L : Array Bool) {f : Fm} {a : Act} {w : World} {φ : Nat → Nat} {Ω : List Own}, L.size = ops.size → Closed ops L → (∀ i, n ≤ i → i < ops.size → L.getD i true = false) →
      SR E g f σ a w φ Ω → dstsOK f.nt ops.toList = true → PAny P E ops n σ K k L f → wpAnyIn (Fw E.rd) 0 P .any ops Q (k + m) L a w := by
  intro k
  induction k with
  | zero =>
    intro L f a w φ Ω hL hc h2 hs hd hk
    exact hK _ L f a φ Ω w (by omega) hk.2 hd hs hL hc hk.1 h2
  | succ k ih =>
    intro L f a w φ Ω hL hc h2 hs hd hk
    by_cases hall : allL n L
    · exact hK _ L f a φ Ω w (by omega) (hk.1 hall) hd hs hL hc hall h2
    rw [show k + 1 + m = (k + m) + 1 by omega]
    have hlow : ∀ j ∈ Region.ready .any ops L, j < n := fun j hj => by
      rcases Nat.lt_or_ge j n with h | h
      · exact h
      · exact absurd (fun i hi => last_ready hlast hc hj h i (by omega)) hall
    refine ⟨fun hr => ?_, fun j hj => ?_⟩
    · exfalso
      have key : ∀ p, p ≤ n → ∀ i, i < p → L.getD i false = true := by
        intro p
        induction p with
        | zero => intro _ i hi; omega
        | succ p ihp =>
          intro hp i hi
          rcases Nat.lt_or_ge i p with h | h
          · exact ihp (by omega) i h
          · have : i = p := by omega
            subst this
            cases hl : L.getD i true with
            | true =>
              have hlt : i < L.size := by omega
              simpa [hlt] using hl
            | false =>
              have := first_ready he (by omega : i < ops.size) (ihp (by omega)) hl
              rw [hr] at this; cases this
      exact hall (key n (Nat.le_refl _))
    · have hjn := hlow j hj
      have hlt : j < ops.size := by omega
      have ho : ops[j]? = some ops[j] := Array.getElem?_eq_getElem hlt
      have hst := hk.2 j hj hjn _ ho
      have hdo : ∀ d, (ops[j]).dst = some d → d < f.nt := fun d e => by
        simp only [dstsOK, List.all_eq_true] at hd
        have := hd ops[j] (by simp)
        rw [e] at this; simpa using this
      unfold wpOpIn
      simp only [ho]
      exact stepP_wp hE hs hst hdo fun f' a' φ' Ω' w' k1 k2 k3 =>
        ih _ (by simpa using hL) (hc.list hj) (fun i hi hil => by rw [getD_set_ne true (by omega)]; exact h2 i hi hil) k3 (by rw [k2]; exact hd) k1

def drawOK (ops : Array Oper) (n : Nat) (ord : List Nat) : Bool := edgesOK ops && lastOK ops n && decide (n ≤ ops.size) && decide (ord.length = n) && chkOrd ops n (Array.replicate ops.size false) ord

theorem WP.mono {K K' : Fm → Prop} (hk : ∀ f, K f → K' f) : ∀ (ord : List Nat) (f : Fm), WP P E ops σ K ord f → WP P E ops σ K' ord f
  | [], f, h => hk f h
  | i :: ord, f, h => by
    simp only [WP] at h ⊢
    split
    · rename_i o ho
      rw [ho] at h
      exact StepP.congr (fun _ _ => rfl) (fun r hr => WP.mono hk ord _ hr) h
    · rename_i ho; rw [ho] at h; exact h.elim

/-- A region that draws its order. -/
theorem Run.draw (hE : EnvOK P E) (hm : P.follows .mixedOrders = true) {id : Nat} {Q : Post} (n : Nat) (ord : List Nat) (hd : dstsOK f.nt ops.toList = true) (hc : drawOK ops n ord = true)
    (h : ∀ K : Fm → St → Prop, (∀ f σ, Q .normal f σ → K f σ) → WP P E ops σ (fun f => W P E ops (ops.toList.drop n) f σ K) ord f) : Run P E (.region id ops true) f σ Q := by
  intro g a w φ Ω hs
  simp only [drawOK, Bool.and_eq_true, decide_eq_true_eq] at hc
  obtain ⟨⟨⟨⟨c1, c2⟩, c3⟩, c4⟩, c5⟩ := hc
  refine wpIn_region_any hm ?_
  have hs' : SR E g f σ a { w with drawn := w.drawn + 1 } φ Ω :=
    have H : Ext w φ { w with drawn := w.drawn + 1 } φ := fun b off hb => ⟨hb, rfl⟩
    ⟨hs.ss.keep H (fun b _ => ⟨rfl, rfl⟩) hs.ss.fits (Nat.le_refl _), hs.fs.mono H, hs.since.step H rfl rfl rfl (Nat.le_refl _) (fun b _ _ => ⟨rfl, rfl⟩), hs.mine⟩
  have hQ : ∀ f' σ' a' φ' Ω' w', Q .normal f' σ' → SR E g f' σ' a' w' φ' Ω' → (Q.lift E g) .normal a' w' := fun f' σ' a' φ' Ω' w' k1 k2 => ⟨f', σ', φ', Ω', k2, k1⟩
  have hw := h (fun f σ => Q .normal f σ) (fun _ _ h => h)
  have hp := PAny.of_WP (n := n) (K := fun f => ∀ (k : Nat) (L : Array Bool) a φ Ω w, ops.size - n ≤ k → dstsOK f.nt ops.toList = true → SR E g f σ a w φ Ω → L.size = ops.size → Closed ops L → (∀ i, i < n → L.getD i false = true) → (∀ i, n ≤ i → i < ops.size → L.getD i true = false) → wpAnyIn (Fw E.rd) 0 P .any ops (Q.lift E g) k L a w)
    (fun f f' ha hk k L a φ Ω w k1 k2 k3 k4 k5 k6 k7 => hk k L a φ Ω w k1 (by rw [ha.1]; exact k2) (k3.alike ⟨ha.1.symm, ⟨ha.2.1.1.symm, ha.2.1.2.symm⟩, fun s => (ha.2.2 s).symm⟩) k4 k5 k6 k7) ord _ f c5 (WP.mono (fun f hk k L a φ Ω w k1 k2 k3 k4 k5 k6 k7 => ?_) ord f hw)
  · have := any_wp (n := n) (m := ops.size - n) hE c1 c2 (by omega) (fun k L f' a' φ' Ω' w' k1 k2 k3 k4 => k2 k L a' φ' Ω' w' k1 k3 k4) ord.length (Array.replicate ops.size false) (by simp) (fun j o ho hj => by
      rcases Nat.lt_or_ge j ops.size with h | h
      · simp [h] at hj
      · have := (Array.getElem?_eq_some_iff.1 ho).1; omega) (fun i hi hil => by simp [hil]) hs' hd hp
    rw [c4, show n + (ops.size - n) = ops.size by omega] at this
    exact this
  · refine last_wp hE hQ c1 c2 k n L (Nat.le_refl _) (by omega) k4 k5 (fun i hi => .inl (k6 i hi)) k7 k3 ?_ hk
    simp only [dstsOK, List.all_eq_true] at k2 ⊢
    exact fun o ho => k2 o (List.mem_of_mem_drop ho)
end
end Go.Proofs.YtpjkepfplhllfaaDoor.Av
