/-
Plain words about matching: a term is a pattern with terms in the places of its variables.
-/
import Derived.Test.YtpjkepfplhllfaaDoorL9
import Derived.Test.YtpjkepfplhllfaaDoorL10
import Derived.Test.YtpjkepfplhllfaaDoorFe
namespace Go.Proofs.YtpjkepfplhllfaaDoor.Av
set_option linter.unusedSimpArgs false
set_option linter.unusedVariables false
open Go
theorem TTerm.eq_iff {a b : TTerm} : a = b ↔ ((((a.kind = b.kind ∧ a.width = b.width) ∧ a.bits = b.bits) ∧ a.name = b.name) ∧ a.low = b.low) ∧ a.sub = b.sub := by
  cases a; cases b; simp [and_assoc]
theorem list_eq_take {α : Type} {a b : List α} (hl : a.length = b.length) : a = b ↔ ∀ i (h : i < a.length), a[i] = b[i]'(by omega) :=
  ⟨fun h i hi => by subst h; rfl, fun h => List.ext_getElem hl fun i h1 h2 => h i h1⟩
theorem Same_eq {a b : TTerm} (h : a.nodes.length < 4611686018427387904) : Tells (term_Same a b) (a = b) := by
  unfold term_Same
  refine itr_tells (G := fun self a => term_Same.G self a.1 a.2) (fun p : TTerm × TTerm => p.1.nodes.length) (fun p => p.1.nodes.length < 4611686018427387904) (fun p r => r = true ↔ p.1 = p.2) (fun self p hp ih => ?_) (a.nodes.length + 1) (a, b) (Nat.lt_succ_self _) h
  obtain ⟨a, b⟩ := p
  simp only at hp ih ⊢
  have subs : Tells (slices_EqualFunc_api_Term a.sub b.sub (fun x0 x1 => self (x0, x1))) (a.sub = b.sub) := by
    unfold slices_EqualFunc_api_Term
    by_cases hl : a.sub.length = b.sub.length
    · rw [if_neg (by simp; omega)]
      have hsl := sub_len a
      refine fx_for (step := slices_EqualFunc_api_Term.l0 a.sub b.sub (fun x0 x1 => self (x0, x1))) a.sub.length (fun i w => w = (i : Int) ∧ ∀ j (h : j < a.sub.length), j < i → a.sub[j] = b.sub[j]'(by omega)) _ ⟨rfl, fun j _ h => by omega⟩ (fun i w hi ⟨w1, w2⟩ => ?_) (fun w ⟨w1, w2⟩ => ?_)
      · subst w1
        simp only [slices_EqualFunc_api_Term.l0]
        obtain ⟨r, hr, e⟩ := ih (a.sub[i], b.sub[i]'(by omega)) (sub_lt (List.getElem_mem hi)) (by have := sub_lt (List.getElem_mem hi); show a.sub[i].nodes.length < 4611686018427387904; omega)
        rw [if_pos (by simpa using hi), if_pos (inb hi), if_pos (by omega), nth_nat _ hi, nth_nat _ (show i < b.sub.length by omega), hr, Option.bind_some]
        cases hb : r with
        | true =>
          rw [if_neg (by simp)]
          refine .inl ⟨_, rfl, wrap_succ (by omega), fun j hj hji => ?_⟩
          by_cases e2 : j = i
          · subst e2; exact e.1 hb
          · exact w2 j hj (by omega)
        | false =>
          rw [if_pos (by rfl)]
          refine .inr ⟨_, rfl, ⟨fun e => by simp at e, fun h => ?_⟩⟩
          have := e.2 (by show a.sub[i] = b.sub[i]'(by omega); simp only [h])
          rw [hb] at this; cases this
      · subst w1
        simp only [slices_EqualFunc_api_Term.l0]
        rw [if_neg (by simp)]
        exact ⟨_, rfl, by simp only [true_iff]; exact (list_eq_take hl).2 fun i hi => w2 i hi hi⟩
    · rw [if_pos (by simp; omega)]
      exact ⟨_, rfl, ⟨fun e => by simp at e, fun h => absurd (congrArg List.length h) hl⟩⟩
  obtain ⟨b1, h1, h2⟩ := subs
  unfold term_Same.G
  rw [h1, if_some, Option.bind_some, and_in]
  exact ⟨_, rfl, by rw [TTerm.eq_iff, ← h2]; simp only [Bool.and_eq_true, decide_eq_true_eq]⟩
theorem SameR_eq {a b : TTerm} (h : a.nodes.length < 4611686018427387904) : Tells (retargetref02_Same a b) (a = b) := by
  unfold retargetref02_Same
  refine itr_tells (G := fun self a => retargetref02_Same.G self a.1 a.2) (fun p : TTerm × TTerm => p.1.nodes.length) (fun p => p.1.nodes.length < 4611686018427387904) (fun p r => r = true ↔ p.1 = p.2) (fun self p hp ih => ?_) (a.nodes.length + 1) (a, b) (Nat.lt_succ_self _) h
  obtain ⟨a, b⟩ := p
  simp only at hp ih ⊢
  unfold retargetref02_Same.G
  have hc : ((((((!decide (a.kind = b.kind)) || (!decide (a.width = b.width))) || (!decide (a.bits = b.bits))) || (!decide (a.name = b.name))) || (!decide (a.low = b.low))) || (!decide ((a.sub.length : Int) = (b.sub.length : Int)))) = true ↔ ¬ (((((a.kind = b.kind ∧ a.width = b.width) ∧ a.bits = b.bits) ∧ a.name = b.name) ∧ a.low = b.low) ∧ a.sub.length = b.sub.length) := by
    simp only [Bool.or_eq_true, Bool.not_eq_true', decide_eq_false_iff_not]
    have e : ((a.sub.length : Int) = (b.sub.length : Int)) ↔ a.sub.length = b.sub.length := by omega
    rw [e]
    simp only [Classical.not_and_iff_not_or_not]
  by_cases hall : ((((a.kind = b.kind ∧ a.width = b.width) ∧ a.bits = b.bits) ∧ a.name = b.name) ∧ a.low = b.low) ∧ a.sub.length = b.sub.length
  · rw [if_neg (fun h => hc.1 h hall)]
    have hl := hall.2
    have hsl := sub_len a
    refine fx_for (step := retargetref02_Same.l0 a b self) a.sub.length (fun i w => w = (i : Int) ∧ ∀ j (h : j < a.sub.length), j < i → a.sub[j] = b.sub[j]'(by omega)) _ ⟨rfl, fun j _ h => by omega⟩ (fun i w hi ⟨w1, w2⟩ => ?_) (fun w ⟨w1, w2⟩ => ?_)
    · subst w1
      simp only [retargetref02_Same.l0]
      obtain ⟨r, hr, e⟩ := ih (a.sub[i], b.sub[i]'(by omega)) (sub_lt (List.getElem_mem hi)) (by have := sub_lt (List.getElem_mem hi); show a.sub[i].nodes.length < 4611686018427387904; omega)
      rw [if_pos (by simpa using hi), if_pos (inb hi), if_pos (by omega), nth_nat _ hi, nth_nat _ (show i < b.sub.length by omega), hr, Option.bind_some]
      cases hb : r with
      | true =>
        rw [if_neg (by simp)]
        refine .inl ⟨_, rfl, wrap_succ (by omega), fun j hj hji => ?_⟩
        by_cases e2 : j = i
        · subst e2; exact e.1 hb
        · exact w2 j hj (by omega)
      | false =>
        rw [if_pos (by rfl)]
        refine .inr ⟨_, rfl, ⟨fun e => by simp at e, fun h => ?_⟩⟩
        have := e.2 (by show a.sub[i] = b.sub[i]'(by omega); subst h; rfl)
        rw [hb] at this; cases this
    · subst w1
      simp only [retargetref02_Same.l0]
      rw [if_neg (by simp)]
      exact ⟨_, rfl, by simp only [true_iff]; exact TTerm.eq_iff.2 ⟨hall.1, (list_eq_take hl).2 fun i hi => w2 i hi hi⟩⟩
  · rw [if_pos (hc.2 hall)]
    exact ⟨_, rfl, ⟨fun e => by simp at e, fun h => absurd ⟨(TTerm.eq_iff.1 h).1, by rw [h]⟩ hall⟩⟩
theorem fwithin_one (a b n : Int) : format_within a b [n] = some (decide (a ≤ n) && decide (n ≤ b)) := by
  unfold format_within
  have e0 : nth [n] (0 : Int) = n := rfl
  by_cases h : a ≤ n ∧ n ≤ b
  · have s1 : format_within.l0 a b [n] 0 = some (.inl 1) := by
      simp only [format_within.l0]
      rw [if_pos (by simp), if_pos (by simp), e0, if_neg (by simp; omega)]
      rfl
    have s2 : format_within.l0 a b [n] 1 = some (.inr true) := by
      simp only [format_within.l0]
      rw [if_neg (by simp)]
      rfl
    rw [fx_on s1, fx_done s2, inrT h]
  · have s1 : format_within.l0 a b [n] 0 = some (.inr false) := by
      simp only [format_within.l0]
      rw [if_pos (by simp), if_pos (by simp), e0, if_pos (by simp; omega)]
    rw [fx_done s1, inrF h]
theorem Range_some (k w s : Int) : ∃ r, format_Range k w s = some r ∧ (r.2.2 = 0 → 0 ≤ s ∧ s ≤ 3) := by
  unfold format_Range
  simp only [fwithin_one, Option.bind_some, if_some]
  split
  · exact ⟨_, rfl, fun h => by simp at h⟩
  · rename_i h
    simp only [Bool.or_eq_true, Bool.not_eq_true', not_or, Bool.not_eq_false, Bool.and_eq_true, decide_eq_true_eq] at h
    have hw : 0 ≤ w := by omega
    have hs : 0 ≤ s ∧ s ≤ 3 := by omega
    rw [if_pos hw]
    unfold format_Range.j0
    split
    · rw [if_pos hs.1, if_pos hs.1]; exact ⟨_, rfl, fun _ => hs⟩
    · rw [if_pos hs.1, if_pos hs.1]; exact ⟨_, rfl, fun _ => hs⟩
theorem Field_some (k w s n : Int) : ∃ r, format_Field k w s n = some r := by
  unfold format_Field
  obtain ⟨r, hr, h⟩ := Range_some k w s
  rw [hr, Option.bind_some]
  split
  · exact ⟨_, rfl⟩
  · rename_i h0
    simp only [Bool.not_eq_true', Bool.not_eq_false, decide_eq_true_eq, decide_eq_false_iff_not, Classical.not_not] at h0
    have hs := h h0
    rw [if_pos (fun _ => hs.1), if_pos (fun _ => hs.1)]
    split
    · exact ⟨_, rfl⟩
    · rw [if_pos hs.1, Mask_eq]; exact ⟨_, rfl⟩
theorem Signed_some (w x : Int) : ∃ r, bits_Signed w x = some r := by
  unfold bits_Signed bits_check bits_wide
  simp only [Option.bind_some]
  by_cases h : 1 ≤ w ∧ w ≤ 64
  · rw [inrT h, if_neg (by simp)]
    have key : ∃ e, Fx.fx (bits_check.l0 w [x]) 0 = some e := by
      have e0 : nth [x] (0 : Int) = x := rfl
      by_cases hx : maskV w < x
      · have s1 : bits_check.l0 w [x] 0 = some (.inr 8) := by
          simp only [bits_check.l0]
          rw [if_pos (by simp), if_pos (by simp), Mask_eq, Option.bind_some, e0, if_pos (by simpa using hx)]
        exact ⟨_, fx_done s1⟩
      · have s1 : bits_check.l0 w [x] 0 = some (.inl 1) := by
          simp only [bits_check.l0]
          rw [if_pos (by simp), if_pos (by simp), Mask_eq, Option.bind_some, e0, if_neg (by simpa using hx)]
          rfl
        have s2 : bits_check.l0 w [x] 1 = some (.inr 0) := by
          simp only [bits_check.l0]
          rw [if_neg (by simp)]
          rfl
        exact ⟨_, by rw [fx_on s1, fx_done s2]⟩
    obtain ⟨e, he⟩ := key
    rw [he, Option.bind_some]
    split
    · exact ⟨_, rfl⟩
    · unfold bits_signed
      rw [if_pos (by rw [wrap_i64 (by omega) (by omega)]; omega), if_pos (by rw [wrap_i64 (by omega) (by omega)]; omega)]
      exact ⟨_, rfl⟩
  · rw [inrF h, if_pos (by rfl)]
    exact ⟨_, rfl⟩
theorem fits_some {m : TMachine} {o : TMachOperand} {w : Int} {t : TTerm} (hl : o.pieces.length ≤ 1000) : ∃ b, pattern_fits m o w t = some b := by
  have j0 : ∀ n, ∃ b, pattern_fits.j0 o n = some b := fun n => by
    unfold pattern_fits.j0
    refine (fx_for (step := pattern_fits.l0 o n) o.pieces.length (fun i w => w.2 = (i : Int)) (fun _ => True) rfl (fun i w hi hw => ?_) (fun w hw => ?_)).imp fun r h => h.1
    · obtain ⟨a, b⟩ := w
      simp only at hw
      subst hw
      simp only [pattern_fits.l0]
      rw [if_pos (by simpa using hi), if_pos (inb hi)]
      exact .inl ⟨_, rfl, wrap_succ (by omega)⟩
    · obtain ⟨a, b⟩ := w
      simp only at hw
      subst hw
      simp only [pattern_fits.l0]
      rw [if_neg (by simp)]
      obtain ⟨r, hr⟩ := Field_some o.kind a o.scale n
      rw [hr]
      exact ⟨_, rfl, trivial⟩
  unfold pattern_fits
  split
  · exact ⟨_, rfl⟩
  · split
    · exact ⟨_, rfl⟩
    · split
      · obtain ⟨r, hr⟩ := Signed_some t.width t.bits
        rw [hr]; exact j0 _
      · exact j0 _
/-- Does a term fit in an operand's place? -/
noncomputable def fitsB (m : TMachine) (o : TMachOperand) (w : Int) (t : TTerm) : Bool := (pattern_fits m o w t).getD false
theorem fitsB_eq {m : TMachine} {o : TMachOperand} {w : Int} {t : TTerm} (hl : o.pieces.length ≤ 1000) : pattern_fits m o w t = some (fitsB m o w t) := by
  obtain ⟨b, h⟩ := fits_some (m := m) (o := o) (w := w) (t := t) hl
  simp [fitsB, h]
theorem node_wide {t : TTerm} (h : nodeB t = true) : 1 ≤ t.width ∧ t.width ≤ 64 := by
  unfold nodeB term_node term_wide at h
  simp only [Option.bind_some] at h
  split at h
  · simp at h
  · rename_i hh
    simpa using hh
/-- What is no variable has no name. -/
theorem node_name {t : TTerm} (h : nodeB t = true) (hk : t.kind ≠ 2) (h0 : 0 ≤ t.kind) : t.name = [] := by
  unfold nodeB term_node term_wide at h
  simp only [Option.bind_some] at h
  split at h
  · simp at h
  · have one : ∀ {a b c d : Bool} {o p : Option Bool}, (((if (((a && b) && (c && decide (t.name = [])))) = true then o else some default).bind fun y9 => ((if (((a && b) && (!((c && decide (t.name = [])) && y9))) && (decide (t.kind = 2) && d)) = true then p else some default).bind fun y13 => some ((a && b) && (((c && decide (t.name = [])) && y9) || ((decide (t.kind = 2) && d) && y13))))).getD false) = true → t.name = [] := by
      intro a b c d o p h
      have e2 : decide (t.kind = 2) = false := by simpa using hk
      simp only [e2, Bool.false_and, Bool.and_false, Bool.or_false, Bool.false_eq_true, if_false] at h
      by_cases hn : t.name = []
      · exact hn
      · have e3 : decide (t.name = []) = false := by simpa using hn
        simp only [e3, Bool.and_false, Bool.false_eq_true, if_false, Bool.false_and, Option.bind_some, Option.getD_some] at h
    unfold term_shaped at h
    by_cases h24 : 24 < t.kind
    · rw [if_pos (by simpa using h24)] at h
      simp only [Option.bind_some, Bool.not_false, if_true] at h
      exact one h
    · rw [if_neg (by simpa using h24), if_pos (by omega), if_pos (by omega)] at h
      simp only [Option.bind_some] at h
      split at h
      · exact one h
      · by_cases hn : t.name = []
        · exact hn
        · have e3 : decide (t.name = []) = false := by simpa using hn
          simp [e3] at h
/-- The width of a variable. -/
theorem width_eq {t : TTerm} {n : List UInt8} (hn : ∀ x ∈ t.nodes, nodeB x = true) (h1 : OneWidth t.nodes) (hl : t.nodes.length ≤ 100000) :
    ∃ w, pattern_width t n = some w ∧ (∀ x ∈ t.nodes, x.kind = 2 → x.name = n → w = x.width) ∧ (varB n t = false → w = 0) := by
  unfold pattern_width
  obtain ⟨w, hw, h2⟩ := itr_tells (G := fun self a => pattern_width.G self a.1 a.2) (fun a : TTerm × List UInt8 => a.1.nodes.length) (fun a => (∀ x ∈ a.1.nodes, nodeB x = true) ∧ a.1.nodes.length ≤ 100000) (fun a w => (∃ x ∈ a.1.nodes, x.kind = 2 ∧ x.name = a.2 ∧ w = x.width) ∨ (w = 0 ∧ varB a.2 a.1 = false)) (fun self a ⟨a1, a2⟩ ih => by
    obtain ⟨t, n⟩ := a
    simp only at a1 a2 ih ⊢
    unfold pattern_width.G
    by_cases hc : t.kind = 2 ∧ t.name = n
    · rw [if_pos (by simpa using hc)]
      exact ⟨_, rfl, .inl ⟨t, self_nodes t, hc.1, hc.2, rfl⟩⟩
    · rw [if_neg (by simpa using hc)]
      have hsl := sub_len t
      refine fx_for (step := pattern_width.l0 t n self) t.sub.length (fun i w => w = (i : Int) ∧ ∀ s ∈ t.sub.take i, varB n s = false) _ ⟨rfl, by simp⟩ (fun i w hi ⟨w1, w2⟩ => ?_) (fun w ⟨w1, w2⟩ => ?_)
      · subst w1
        simp only [pattern_width.l0]
        have hs := List.getElem_mem hi
        obtain ⟨w, hw, h⟩ := ih (t.sub[i], n) (sub_lt hs) ⟨fun x hx => a1 x (sub_nodes hs hx), by have := sub_lt hs; show t.sub[i].nodes.length ≤ 100000; omega⟩
        rw [if_pos (by simpa using hi), if_pos (inb hi), nth_nat _ hi, hw, Option.bind_some]
        rcases h with ⟨x, hx, k1, k2, k3⟩ | ⟨h, hv⟩
        · have := (node_wide (a1 x (sub_nodes hs hx))).1
          rw [if_pos (by simp; omega)]
          exact .inr ⟨_, rfl, .inl ⟨x, sub_nodes hs hx, k1, k2, k3⟩⟩
        · rw [if_neg (by simp; omega)]
          exact .inl ⟨_, rfl, wrap_succ (by omega), by rw [take_all hi]; exact ⟨w2, hv⟩⟩
      · subst w1
        simp only [pattern_width.l0]
        rw [if_neg (by simp)]
        rw [List.take_length] at w2
        refine ⟨_, rfl, .inr ⟨rfl, ?_⟩⟩
        rw [Bool.eq_false_iff]
        intro hv
        rcases varB_sub.1 hv with h | ⟨s, hs, h⟩
        · exact hc h
        · rw [w2 s hs] at h; cases h) (t.nodes.length + 1) (t, n) (Nat.lt_succ_self _) ⟨hn, hl⟩
  refine ⟨w, hw, fun x hx k1 k2 => ?_, fun hv => ?_⟩
  · rcases h2 with ⟨y, hy, l1, l2, l3⟩ | ⟨_, hv⟩
    · rw [l3]; exact h1 y hy x hx l1 k1 (by rw [l2, k2])
    · rw [varB_iff.2 ⟨x, hx, k1, k2⟩] at hv; cases hv
  · rcases h2 with ⟨y, hy, l1, l2, l3⟩ | ⟨h, _⟩
    · rw [varB_iff.2 ⟨y, hy, l1, l2⟩] at hv; cases hv
    · exact h
end Go.Proofs.YtpjkepfplhllfaaDoor.Av
namespace Go.Proofs.YtpjkepfplhllfaaDoor.Av
set_option linter.unusedSimpArgs false
set_option linter.unusedVariables false
open Go
mutual
/-- Terms in the places of variables. -/
def TTerm.inst (σ : List UInt8 → TTerm) : TTerm → TTerm
  | ⟨k, w, b, n, l, sub⟩ => if k = 2 then σ n else ⟨k, w, b, n, l, TTerm.instL σ sub⟩
def TTerm.instL (σ : List UInt8 → TTerm) : List TTerm → List TTerm
  | [] => []
  | x :: xs => x.inst σ :: TTerm.instL σ xs
end
theorem instL_map (σ : List UInt8 → TTerm) : ∀ l : List TTerm, TTerm.instL σ l = l.map (TTerm.inst σ)
  | [] => rfl
  | x :: l => by simp only [TTerm.instL, List.map_cons, instL_map σ l]
theorem inst_eq (σ : List UInt8 → TTerm) (t : TTerm) : t.inst σ = if t.kind = 2 then σ t.name else ⟨t.kind, t.width, t.bits, t.name, t.low, t.sub.map (TTerm.inst σ)⟩ := by
  cases t
  simp only [TTerm.inst, instL_map]
theorem nodes_le : ∀ {t v : TTerm}, v ∈ t.nodes → v.nodes.length ≤ t.nodes.length := by
  intro t
  refine term_ind (P := fun t => ∀ {v : TTerm}, v ∈ t.nodes → v.nodes.length ≤ t.nodes.length) (fun t ih v hv => ?_) t
  rw [t.nodes_eq] at hv
  rcases List.mem_cons.1 hv with rfl | hv
  · exact Nat.le_refl _
  · obtain ⟨s, hs, hv⟩ := mem_nodesL.1 hv
    have := ih s hs hv
    have := sub_lt hs
    omega
theorem depth_pos (t : TTerm) : 1 ≤ t.depth := by rw [depth_eq]; omega
theorem depth_sub {t s : TTerm} (h : s ∈ t.sub) : s.depth + 1 ≤ t.depth := by
  rw [depth_eq t]
  have key : ∀ l : List TTerm, s ∈ l → s.depth ≤ TTerm.depthL l := by
    intro l
    induction l with
    | nil => intro h; cases h
    | cons x l ih =>
      intro h
      simp only [TTerm.depthL]
      rcases List.mem_cons.1 h with rfl | h
      · omega
      · have := ih h; omega
  have := key t.sub h
  omega
noncomputable def idx (l : List TMachOperand) (n : List UInt8) : Int := (pattern_find l n).getD (-1)
theorem find_eq {l : List TMachOperand} (hl : l.length ≤ 1000) (n : List UInt8) : pattern_find l n = some (idx l n) ∧ (n ∈ l.map (·.name) → ∃ k, ∃ h : k < l.length, idx l n = (k : Int) ∧ l[k].name = n) := by
  have key : ∃ r, slices_IndexFunc_api_MachOperand l (fun x0 => pattern_find_1 x0 n) = some r ∧ (n ∈ l.map (·.name) → ∃ k, ∃ h : k < l.length, r = (k : Int) ∧ l[k].name = n) := by
    unfold slices_IndexFunc_api_MachOperand
    refine fx_for (step := slices_IndexFunc_api_MachOperand.l0 l (fun x0 => pattern_find_1 x0 n)) l.length (fun i w => w = (i : Int) ∧ ∀ o ∈ l.take i, o.name ≠ n) _ ⟨rfl, by simp⟩ (fun i w hi ⟨w1, w2⟩ => ?_) (fun w ⟨w1, w2⟩ => ?_)
    · subst w1
      simp only [slices_IndexFunc_api_MachOperand.l0, pattern_find_1]
      rw [if_pos (by simpa using hi), if_pos (inb hi), nth_nat _ hi, Option.bind_some]
      split
      · rename_i h
        exact .inr ⟨_, rfl, fun _ => ⟨i, hi, rfl, by simpa using h⟩⟩
      · rename_i h
        exact .inl ⟨_, rfl, wrap_succ (by omega), by rw [take_all hi]; exact ⟨w2, by simpa using h⟩⟩
    · subst w1
      simp only [slices_IndexFunc_api_MachOperand.l0]
      rw [if_neg (by simp)]
      refine ⟨_, rfl, fun h => ?_⟩
      obtain ⟨o, ho, e⟩ := List.mem_map.1 h
      rw [List.take_length] at w2
      exact absurd e (w2 o ho)
  obtain ⟨r, h1, h2⟩ := key
  have e : pattern_find l n = some r := by unfold pattern_find; rw [h1]; rfl
  have e2 : idx l n = r := by unfold idx; rw [e]; rfl
  rw [e2]
  exact ⟨e, h2⟩
theorem idx_at {l : List TMachOperand} (hl : l.length ≤ 1000) (hn : (l.map (·.name)).Nodup) {k : Nat} (hk : k < l.length) : idx l l[k].name = (k : Int) := by
  obtain ⟨j, hj, e1, e2⟩ := (find_eq hl l[k].name).2 (List.mem_map.2 ⟨l[k], List.getElem_mem hk, rfl⟩)
  rw [e1]
  by_cases h : j = k
  · rw [h]
  · exfalso
    have hp := List.pairwise_iff_getElem.1 hn
    rcases Nat.lt_or_gt_of_ne h with h | h
    · exact hp j k (by simpa using hj) (by simpa using hk) h (by simpa using e2)
    · exact hp k j (by simpa using hk) (by simpa using hj) h (by simpa using e2.symm)
def Cons (l : List TMachOperand) (σ : List UInt8 → TTerm) (F : List (Int × TTerm)) : Prop := ∀ n ∈ l.map (·.name), ∀ v, aget F (idx l n) = some v → v = σ n
def FitsAll (m : TMachine) (l : List TMachOperand) (σ : List UInt8 → TTerm) (P : TTerm) : Prop := ∀ x ∈ P.nodes, x.kind = 2 → fitsB m (nth l (idx l x.name)) x.width (σ x.name) = true
def Orig (m : TMachine) (l : List TMachOperand) (P t : TTerm) (F F' : List (Int × TTerm)) : Prop := ∀ k v, aget F' k = some v → aget F k = some v ∨ ∃ x ∈ P.nodes, x.kind = 2 ∧ k = idx l x.name ∧ fitsB m (nth l k) x.width v = true ∧ v ∈ t.nodes
def MatchQ (m : TMachine) (l : List TMachOperand) (P t : TTerm) (F : List (Int × TTerm)) (r : List (Int × TTerm) × Bool) : Prop :=
  (r.2 = true → (∀ k v, aget F k = some v → aget r.1 k = some v) ∧ (∀ n, varB n P = true → (aget r.1 (idx l n)).isSome = true) ∧ (∀ σ, (∀ n, varB n P = true → aget r.1 (idx l n) = some (σ n)) → P.inst σ = t) ∧ Orig m l P t F r.1) ∧
  (∀ σ, P.inst σ = t → Cons l σ F → FitsAll m l σ P → r.2 = true ∧ Cons l σ r.1)
structure PatT (l : List TMachOperand) (P : TTerm) : Prop where
  node : ∀ x ∈ P.nodes, nodeB x = true ∧ 0 ≤ x.kind
  name : ∀ n, varB n P = true → n ∈ l.map (·.name)
  len : P.nodes.length ≤ 100000
structure TermT (t : TTerm) : Prop where
  node : ∀ x ∈ t.nodes, nodeB x = true ∧ 0 ≤ x.kind
  len : t.nodes.length ≤ 100000
theorem PatT.sub {l : List TMachOperand} {P s : TTerm} (h : PatT l P) (hs : s ∈ P.sub) : PatT l s :=
  ⟨fun x hx => h.node x (sub_nodes hs hx), fun n hn => h.name n (varB_sub.2 (.inr ⟨s, hs, hn⟩)), by have := sub_lt hs; have := h.len; omega⟩
theorem TermT.sub {P s : TTerm} (h : TermT P) (hs : s ∈ P.sub) : TermT s :=
  ⟨fun x hx => h.node x (sub_nodes hs hx), by have := sub_lt hs; have := h.len; omega⟩
theorem match_eq {m : TMachine} {l : List TMachOperand} {P t : TTerm} {F : List (Int × TTerm)} (hl : l.length ≤ 1000) (hp : ∀ o ∈ l, o.pieces.length ≤ 1000) (hP : PatT l P) (ht : TermT t) (hF : ∀ k v, aget F k = some v → v.nodes.length ≤ 100000) (fuel : Nat) (hf : P.depth ≤ fuel) :
    ∃ r, pattern_Match_1 fuel P t l F m = some r ∧ MatchQ m l P t F r := by
  unfold pattern_Match_1
  have := itr_tells (G := fun self a => pattern_Match_1.G self a.1 a.2.1 a.2.2.1 a.2.2.2.1 a.2.2.2.2) (fun a : TTerm × TTerm × (List TMachOperand) × (List (Int × TTerm)) × TMachine => a.1.depth - 1)
    (fun a => a.2.2.1 = l ∧ a.2.2.2.2 = m ∧ PatT l a.1 ∧ TermT a.2.1 ∧ (∀ k v, aget a.2.2.2.1 k = some v → v.nodes.length ≤ 100000)) (fun a r => MatchQ m l a.1 a.2.1 a.2.2.2.1 r) (fun self a ⟨a1, a2, a3, a4, a5⟩ ih => by
    obtain ⟨P, t, l', F, m'⟩ := a
    simp only at a1 a2 a3 a4 a5 ih ⊢
    subst a1 a2
    unfold pattern_Match_1.G
    by_cases hk : P.kind = 2
    · rw [if_pos (by simpa using hk)]
      have hvar : ∀ n, varB n P = true ↔ n = P.name ∨ ∃ s ∈ P.sub, varB n s = true := fun n => by
        rw [varB_sub]
        constructor
        · rintro (⟨_, h⟩ | h)
          · exact .inl h.symm
          · exact .inr h
        · rintro (h | h)
          · exact .inl ⟨hk, h.symm⟩
          · exact .inr h
      have hnm := a3.name P.name ((hvar _).2 (.inl rfl))
      obtain ⟨f1, f2⟩ := find_eq (l := l') hl P.name
      obtain ⟨k, hkl, e1, e2⟩ := f2 hnm
      -- a variable has no parts
      have hsub : P.sub = [] := by
        have hb := (a3.node P (self_nodes P)).1
        unfold nodeB term_node term_wide at hb
        simp only [Option.bind_some] at hb
        split at hb
        · simp at hb
        · unfold term_shaped at hb
          rw [hk, if_neg (by simp), if_pos (by simp), if_pos (by simp)] at hb
          have e : nth shapesL (2 : Int) = ⟨[], 0, 0⟩ := rfl
          simp only [Option.bind_some, e] at hb
          rw [if_pos (by simp)] at hb
          by_cases hz : P.sub = []
          · exact hz
          · have e3 : decide ((P.sub.length : Int) = 0) = false := by
              simp only [decide_eq_false_iff_not]
              intro h
              exact hz (List.length_eq_zero_iff.1 (by omega))
            simp only [e3, Bool.false_and, Bool.false_eq_true, if_false, Option.bind_some, Option.getD_some] at hb
      have hone : ∀ n, varB n P = true ↔ n = P.name := fun n => by rw [hvar n, hsub]; simp
      have hinst : ∀ σ, P.inst σ = σ P.name := fun σ => by rw [inst_eq, if_pos hk]
      rw [f1, Option.bind_some]
      cases hg : aget F (idx l' P.name) with
      | some old =>
        rw [if_pos (by rfl)]
        simp only [Option.getD_some]
        obtain ⟨b, hb, hb2⟩ := Same_eq (a := old) (b := t) (by have := a5 _ _ hg; omega)
        rw [hb]
        refine ⟨_, rfl, fun h => ⟨fun _ _ h => h, fun n hn => by rw [(hone n).1 hn, hg]; rfl, fun σ hσ => ?_, fun k v h => .inl h⟩, fun σ h1 h2 h3 => ⟨?_, h2⟩⟩
        · rw [hinst]
          have := hσ P.name ((hone _).2 rfl)
          rw [show (aget F (idx l' P.name)) = some old from hg] at this
          cases this
          exact hb2.1 h
        · rw [hinst] at h1
          exact hb2.2 (by rw [← h1]; exact h2 _ hnm _ hg)
      | none =>
        rw [if_neg (by simp)]
        have hin : 0 ≤ idx l' P.name ∧ idx l' P.name < (l'.length : Int) := by rw [e1]; omega
        have hpl : (nth l' (idx l' P.name)).pieces.length ≤ 1000 := hp _ (nth_mem hin.1 hin.2)
        rw [if_pos hin, fitsB_eq hpl]
        refine ⟨_, rfl, fun h => ⟨fun k v hkv => ?_, fun n hn => ?_, fun σ hσ => ?_, fun k v hkv => ?_⟩, fun σ h1 h2 h3 => ⟨?_, fun n hn v hv => ?_⟩⟩
        · simp only
          rw [aget_aput, if_neg (fun e => by rw [e, hg] at hkv; cases hkv)]; exact hkv
        · rw [(hone n).1 hn]; simp only; rw [aget_aput, if_pos rfl]; rfl
        · rw [hinst]
          have := hσ P.name ((hone _).2 rfl)
          simp only at this
          rw [aget_aput, if_pos rfl] at this
          cases this; rfl
        · simp only at hkv
          rw [aget_aput] at hkv
          split at hkv
          · rename_i e
            cases hkv
            exact .inr ⟨P, self_nodes P, hk, e, by rw [e]; exact h, self_nodes t⟩
          · exact .inl hkv
        · have := h3 P (self_nodes P) hk
          rw [hinst] at h1
          rw [h1] at this; exact this
        · simp only at hv
          rw [aget_aput] at hv
          split at hv
          · rename_i e
            cases hv
            obtain ⟨j, hj, j1, j2⟩ := (find_eq (l := l') hl n).2 hn
            rw [hinst] at h1
            rw [j1, e1] at e
            have : j = k := by omega
            subst this
            rw [← j2, e2, h1]
          · exact h2 n hn v hv
    · rw [if_neg (by simpa using hk)]
      have hvar : ∀ n, varB n P = true ↔ ∃ s ∈ P.sub, varB n s = true := fun n => by
        rw [varB_sub]
        constructor
        · rintro (⟨h, _⟩ | h)
          · exact absurd h hk
          · exact h
        · exact .inr
      have hinst : ∀ σ, P.inst σ = ⟨P.kind, P.width, P.bits, P.name, P.low, P.sub.map (TTerm.inst σ)⟩ := fun σ => by rw [inst_eq, if_neg hk]
      by_cases hc : ((((P.kind = t.kind ∧ P.width = t.width) ∧ P.bits = t.bits) ∧ P.low = t.low) ∧ P.sub.length = t.sub.length)
      · rw [if_neg (by
          simp only [Bool.or_eq_true, Bool.not_eq_true', decide_eq_false_iff_not]
          rintro ((((h | h) | h) | h) | h)
          · exact h hc.1.1.1.1
          · exact h hc.1.1.1.2
          · exact h hc.1.1.2
          · exact h hc.1.2
          · have := hc.2; omega)]
        have hlen := hc.2
        have hnames : P.name = t.name := by
          have h1 := a3.node P (self_nodes P)
          have h2 := a4.node t (self_nodes t)
          rw [node_name h1.1 hk h1.2, node_name h2.1 (by rw [← hc.1.1.1.1]; exact hk) h2.2]
        have hsl := sub_len P
        have hPl := a3.len
        refine fx_for (step := pattern_Match_1.l0 P t l' m' self) P.sub.length (fun i w => w.1 = (i : Int) ∧ (∀ k v, aget F k = some v → aget w.2 k = some v) ∧ (∀ n, (∃ s ∈ P.sub.take i, varB n s = true) → (aget w.2 (idx l' n)).isSome = true) ∧
          (∀ j (h : j < P.sub.length), j < i → ∀ σ, (∀ n, varB n P.sub[j] = true → aget w.2 (idx l' n) = some (σ n)) → P.sub[j].inst σ = t.sub[j]'(by omega)) ∧ Orig m' l' P t F w.2 ∧
          (∀ σ, P.inst σ = t → Cons l' σ F → FitsAll m' l' σ P → Cons l' σ w.2)) _ ⟨rfl, fun _ _ h => h, by simp, fun j _ h => by omega, fun k v h => .inl h, fun σ _ h _ => h⟩ (fun i w hi ⟨w1, w2, w3, w4, w5, w6⟩ => ?_) (fun w ⟨w1, w2, w3, w4, w5, w6⟩ => ?_)
        · obtain ⟨j, G⟩ := w
          simp only at w1 w2 w3 w4 w5 w6
          subst w1
          simp only [pattern_Match_1.l0]
          have hit : i < t.sub.length := by omega
          have hs := List.getElem_mem hi
          have hst := List.getElem_mem hit
          have hG : ∀ k v, aget G k = some v → v.nodes.length ≤ 100000 := fun k v h => by
            rcases w5 k v h with h | ⟨_, _, _, _, _, h⟩
            · exact a5 k v h
            · have := nodes_le h; have := a4.len; omega
          have hds := depth_sub hs
          have hps := depth_pos P.sub[i]
          obtain ⟨⟨G', b⟩, hr, q1, q3⟩ := ih (P.sub[i], t.sub[i], l', G, m') (by show P.sub[i].depth - 1 < P.depth - 1; omega) ⟨rfl, rfl, a3.sub hs, a4.sub hst, hG⟩
          simp only at q1 q3
          rw [if_pos (by simpa using hi), if_pos (inb hi), if_pos (inb hit), nth_nat _ hi, nth_nat _ hit, hr, Option.bind_some]
          have hcons : ∀ σ, P.inst σ = t → Cons l' σ F → FitsAll m' l' σ P → b = true ∧ Cons l' σ G' := fun σ h1 h2 h3 => by
            refine q3 σ ?_ (w6 σ h1 h2 h3) (fun x hx => h3 x (sub_nodes hs hx))
            rw [hinst] at h1
            have h4 : P.sub.map (TTerm.inst σ) = t.sub := by rw [← h1]
            have h5 : (P.sub.map (TTerm.inst σ))[i]'(by simpa using hi) = t.sub[i] := by simp only [h4]
            simpa using h5
          cases hb : b with
          | false =>
            rw [if_pos (by rfl)]
            refine .inr ⟨_, rfl, fun h => by simp at h, fun σ h1 h2 h3 => ?_⟩
            have := (hcons σ h1 h2 h3).1
            rw [hb] at this; cases this
          | true =>
            rw [if_neg (by simp)]
            obtain ⟨p1, p2, p3, p4⟩ := q1 hb
            refine .inl ⟨_, rfl, wrap_succ (by omega), fun k v h => p1 k v (w2 k v h), fun n hn => ?_, fun j hj hji σ hσ => ?_, fun k v h => ?_, fun σ h1 h2 h3 => (hcons σ h1 h2 h3).2⟩
            · obtain ⟨s, hs', hv⟩ := hn
              rw [take_snoc hi] at hs'
              rcases List.mem_append.1 hs' with hs' | hs'
              · have := w3 n ⟨s, hs', hv⟩
                cases hg : aget G (idx l' n) with
                | none => rw [hg] at this; cases this
                | some v => show (aget G' (idx l' n)).isSome = true; rw [p1 _ _ hg]; rfl
              · rw [List.mem_singleton] at hs'; subst hs'; exact p2 n hv
            · by_cases e : j = i
              · subst e; exact p3 σ hσ
              · refine w4 j hj (by omega) σ fun n hn => ?_
                have h1 := w3 n ⟨P.sub[j], List.mem_take_iff_getElem.2 ⟨j, by omega, rfl⟩, hn⟩
                cases hg : aget G (idx l' n) with
                | none => rw [hg] at h1; cases h1
                | some v =>
                  have h2 := p1 _ _ hg
                  have h3 := hσ n hn
                  simp only at h3
                  rw [h2] at h3
                  exact h3
            · rcases p4 k v h with h | ⟨x, hx, h1, h2, h3, h4⟩
              · exact w5 k v h
              · exact .inr ⟨x, sub_nodes hs hx, h1, h2, h3, sub_nodes hst h4⟩
        · obtain ⟨j, G⟩ := w
          simp only at w1 w2 w3 w4 w5 w6
          subst w1
          simp only [pattern_Match_1.l0]
          rw [if_neg (by simp)]
          rw [List.take_length] at w3
          refine ⟨_, rfl, fun _ => ⟨w2, fun n hn => w3 n ((hvar n).1 hn), fun σ hσ => ?_, w5⟩, fun σ h1 h2 h3 => ⟨rfl, w6 σ h1 h2 h3⟩⟩
          rw [hinst]
          refine TTerm.eq_iff.2 ⟨⟨⟨⟨⟨hc.1.1.1.1, hc.1.1.1.2⟩, hc.1.1.2⟩, hnames⟩, hc.1.2⟩, ?_⟩
          refine List.ext_getElem (by simpa using hlen) fun i h1 h2 => ?_
          have hi : i < P.sub.length := by simpa using h1
          simp only [List.getElem_map]
          exact w4 i hi hi σ fun n hn => hσ n ((hvar n).2 ⟨_, List.getElem_mem hi, hn⟩)
      · rw [if_pos (by
          simp only [Bool.or_eq_true, Bool.not_eq_true', decide_eq_false_iff_not]
          by_cases h1 : P.kind = t.kind
          · by_cases h2 : P.width = t.width
            · by_cases h3 : P.bits = t.bits
              · by_cases h4 : P.low = t.low
                · exact .inr fun h => hc ⟨⟨⟨⟨h1, h2⟩, h3⟩, h4⟩, by omega⟩
                · exact .inl (.inr h4)
              · exact .inl (.inl (.inr h3))
            · exact .inl (.inl (.inl (.inr h2)))
          · exact .inl (.inl (.inl (.inl h1))))]
        refine ⟨_, rfl, fun h => by simp at h, fun σ h1 _ _ => absurd ?_ hc⟩
        rw [hinst] at h1
        rw [← h1]
        exact ⟨⟨⟨⟨rfl, rfl⟩, rfl⟩, rfl⟩, by simp⟩) fuel (P, t, l, F, m) (by have := depth_pos P; show P.depth - 1 < fuel; omega) ⟨rfl, rfl, hP, ht, hF⟩
  exact this
end Go.Proofs.YtpjkepfplhllfaaDoor.Av
