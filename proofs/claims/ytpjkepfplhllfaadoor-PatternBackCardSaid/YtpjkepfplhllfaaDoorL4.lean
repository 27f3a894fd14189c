/-
Plain words about terms: nodes, depth, variables, which terms are valid.
-/
import Derived.Test.YtpjkepfplhllfaaDoorL3
import Derived.Test.YtpjkepfplhllfaaDoorFb
import Derived.Test.YtpjkepfplhllfaaDoorR
namespace Go.Proofs.YtpjkepfplhllfaaDoor.Av
set_option linter.unusedSimpArgs false
set_option linter.unusedVariables false
open Go
theorem itr_tells {A R : Type} {G : (A → Option R) → A → Option R} (m : A → Nat) (P : A → Prop) (Q : A → R → Prop)
    (h : ∀ self a, P a → (∀ b, m b < m a → P b → ∃ r, self b = some r ∧ Q b r) → ∃ r, G self a = some r ∧ Q a r) : ∀ n a, m a < n → P a → ∃ r, itr G n a = some r ∧ Q a r := by
  intro n
  induction n with
  | zero => intro a ha; omega
  | succ n ih => intro a ha hp; exact h _ _ hp fun b hb hpb => ih b (by omega) hpb
theorem mem_nodesL {x : TTerm} : ∀ {l : List TTerm}, x ∈ TTerm.nodesL l ↔ ∃ s ∈ l, x ∈ s.nodes
  | [] => by simp [TTerm.nodesL]
  | s :: l => by simp [TTerm.nodesL, mem_nodesL (l := l)]
theorem nodesL_le {s : TTerm} : ∀ {l : List TTerm}, s ∈ l → s.nodes.length ≤ (TTerm.nodesL l).length
  | [], h => by cases h
  | x :: l, h => by
    simp only [TTerm.nodesL, List.length_append]
    rcases List.mem_cons.1 h with rfl | h
    · omega
    · have := nodesL_le h; omega
theorem sub_lt {s t : TTerm} (h : s ∈ t.sub) : s.nodes.length < t.nodes.length := by
  rw [t.nodes_eq]
  have := nodesL_le h
  simp only [List.length_cons]; omega
theorem sub_nodes {s t x : TTerm} (h : s ∈ t.sub) (hx : x ∈ s.nodes) : x ∈ t.nodes := by
  rw [t.nodes_eq]
  exact List.mem_cons_of_mem _ (mem_nodesL.2 ⟨s, h, hx⟩)
theorem self_nodes (t : TTerm) : t ∈ t.nodes := by rw [t.nodes_eq]; exact List.mem_cons_self
theorem nodes_forall {t : TTerm} {P : TTerm → Prop} : (∀ x ∈ t.nodes, P x) ↔ P t ∧ ∀ s ∈ t.sub, ∀ x ∈ s.nodes, P x := by
  rw [t.nodes_eq]
  simp only [List.mem_cons, forall_eq_or_imp]
  refine and_congr_right fun _ => ⟨fun h s hs x hx => h x (mem_nodesL.2 ⟨s, hs, hx⟩), fun h x hx => ?_⟩
  obtain ⟨s, hs, hx⟩ := mem_nodesL.1 hx
  exact h s hs x hx
/-- Induction over a term's parts. -/
theorem term_ind {P : TTerm → Prop} (h : ∀ t : TTerm, (∀ s ∈ t.sub, P s) → P t) : ∀ t, P t := by
  have key : ∀ n (t : TTerm), t.nodes.length < n → P t := by
    intro n
    induction n with
    | zero => intro t ht; omega
    | succ n ih => intro t ht; exact h t fun s hs => ih s (by have := sub_lt hs; omega)
  exact fun t => key _ t (Nat.lt_succ_self _)
theorem sub_len (t : TTerm) : t.sub.length < t.nodes.length := by
  rw [t.nodes_eq]
  have := TTerm.nodesL_len t.sub
  simp only [List.length_cons]; omega
mutual
def TTerm.depth : TTerm → Nat
  | ⟨_, _, _, _, _, sub⟩ => TTerm.depthL sub + 1
def TTerm.depthL : List TTerm → Nat
  | [] => 0
  | x :: xs => max x.depth (TTerm.depthL xs)
end
theorem depth_eq (t : TTerm) : t.depth = TTerm.depthL t.sub + 1 := by cases t; rfl
theorem depthL_snoc : ∀ (l : List TTerm) (x : TTerm), TTerm.depthL (l ++ [x]) = max (TTerm.depthL l) x.depth
  | [], x => by simp [TTerm.depthL]
  | y :: l, x => by simp only [List.cons_append, TTerm.depthL, depthL_snoc l x]; omega
theorem depth_le : ∀ t : TTerm, t.depth ≤ t.nodes.length := by
  refine term_ind fun t ih => ?_
  have key : ∀ l : List TTerm, (∀ s ∈ l, s.depth ≤ s.nodes.length) → TTerm.depthL l ≤ (TTerm.nodesL l).length := by
    intro l
    induction l with
    | nil => intro _; simp [TTerm.depthL]
    | cons x l ih =>
      intro h
      have h1 := h x List.mem_cons_self
      have h2 := ih fun s hs => h s (List.mem_cons_of_mem _ hs)
      simp only [TTerm.depthL, TTerm.nodesL, List.length_append]; omega
  rw [depth_eq, t.nodes_eq]
  have := key t.sub ih
  simp only [List.length_cons]; omega
theorem Size_eq {t : TTerm} (h : t.nodes.length < 4611686018427387904) : term_Size t = some (t.nodes.length : Int) := by
  unfold term_Size
  rw [if_pos h]
  have key : ∀ (l : List TTerm) (k : Nat), k + l.length < 4611686018427387904 → forL term_Size.r0 (k : Int) l = some (.inl ((k + l.length : Nat) : Int)) := by
    intro l
    induction l with
    | nil => intro k _; rfl
    | cons x l ih =>
      intro k hk
      simp only [List.length_cons] at hk
      simp only [forL, term_Size.r0]
      rw [wrap_succ (by omega), ih (k + 1) (by omega)]
      congr 3
      simp only [List.length_cons]; omega
  have := key t.nodes 0 (by omega)
  rw [show ((0 : Nat) : Int) = 0 from rfl] at this
  rw [this]
  simp
theorem Depth_eq {t : TTerm} (h : t.nodes.length < 4611686018427387904) : term_Depth t = some (t.depth : Int) := by
  unfold term_Depth
  obtain ⟨r, h1, h2⟩ := itr_tells (G := fun self a => term_Depth.G self a) (fun t : TTerm => t.nodes.length) (fun t => t.nodes.length < 4611686018427387904) (fun t r => r = (t.depth : Int)) (fun self a ha ih => by
    unfold term_Depth.G
    refine fx_for (step := term_Depth.l0 a self) a.sub.length (fun i w => w = ((TTerm.depthL (a.sub.take i) : Int), (i : Int))) _ rfl (fun i w hi hw => ?_) (fun w hw => ?_)
    · subst hw
      simp only [term_Depth.l0]
      have hs := List.getElem_mem hi
      have hlt := sub_lt hs
      obtain ⟨r, hr, e⟩ := ih _ hlt (by omega)
      have hsl := sub_len a
      rw [if_pos (by simpa using hi), if_pos (inb hi), nth_nat _ hi, hr]
      subst e
      refine .inl ⟨_, rfl, ?_⟩
      rw [wrap_succ (by omega), take_snoc hi, depthL_snoc]
      congr 1
      unfold imax
      split <;> omega
    · subst hw
      simp only [term_Depth.l0]
      rw [if_neg (by simp)]
      refine ⟨_, rfl, ?_⟩
      have := depth_le a
      rw [depth_eq] at this ⊢
      rw [List.take_length, wrap_succ (by omega)]) (t.nodes.length + 1) t (Nat.lt_succ_self _) h
  rw [h1, h2]
theorem Mask_some (w : Int) : ∃ x, bits_Mask w = some x := by
  unfold bits_Mask bits_wide
  simp only [Option.bind_some]
  split
  · exact ⟨_, rfl⟩
  · rename_i h
    simp only [Bool.not_eq_true', Bool.not_eq_false, Bool.and_eq_true, decide_eq_true_eq] at h
    rw [if_pos (by rw [wrap_i64 (by omega) (by omega)]; omega)]
    exact ⟨_, rfl⟩
theorem Ok_some (w x : Int) : ∃ b, bits_Ok w x = some b := by
  unfold bits_Ok bits_wide
  simp only [Option.bind_some]
  split
  · obtain ⟨y, hy⟩ := Mask_some w
    rw [hy]; exact ⟨_, rfl⟩
  · exact ⟨_, rfl⟩
theorem TrimPrefix_eq (s p : List UInt8) : strings_TrimPrefix s p = some (if p <+: s then s.drop p.length else s) := by
  have e : internal_stringslite_HasPrefix s p = some (decide (p <+: s)) := by
    unfold internal_stringslite_HasPrefix
    rw [if_pos (fun h => by simp only [decide_eq_true_eq] at h; omega)]
    congr 1
    rw [Bool.eq_iff_iff]
    simp only [Bool.and_eq_true, decide_eq_true_eq, Int.toNat_natCast, Int.toNat_zero, List.drop_zero]
    constructor
    · rintro ⟨_, h⟩; rw [← h]; exact List.take_prefix _ _
    · intro h; exact ⟨by have := h.length_le; omega, (List.prefix_iff_eq_take.1 h).symm⟩
  unfold strings_TrimPrefix internal_stringslite_TrimPrefix
  rw [e]
  simp only [Option.bind_some, decide_eq_true_eq]
  split
  · rename_i h
    have := h.length_le
    rw [if_pos (by omega)]
    simp
  · rfl
theorem variable_some (s : List UInt8) : ∃ b, term_variable s = some b := by
  unfold term_variable
  rw [TrimPrefix_eq]
  simp only [Option.bind_some, bits_Name_eq]
  exact ⟨_, rfl⟩
theorem shapes_facts : ∀ k : Nat, k < 25 → 0 < (nth shapesL (k : Int)).parts → ((nth shapesL (k : Int)).how = 2 → (nth shapesL (k : Int)).parts = 2) ∧ ((nth shapesL (k : Int)).how = 3 → (nth shapesL (k : Int)).parts = 3) ∧ ((nth shapesL (k : Int)).how = 4 → (nth shapesL (k : Int)).parts = 2) := by decide
theorem IndexFunc_some {l : List TTerm} {f : TTerm → Option Bool} {p : TTerm → Bool} (hl : l.length ≤ maxLen) (hf : ∀ x ∈ l, f x = some (p x)) : ∃ r, slices_IndexFunc_api_Term l f = some r ∧ (0 ≤ r ↔ ∃ x ∈ l, p x = true) := by
  rw [maxLen_eq] at hl
  unfold slices_IndexFunc_api_Term
  refine fx_for (step := slices_IndexFunc_api_Term.l0 l f) l.length (fun i w => w = (i : Int) ∧ ∀ x ∈ l.take i, p x = false) _ ⟨rfl, by simp⟩ (fun i w hi ⟨hw, hn⟩ => ?_) (fun w ⟨hw, hn⟩ => ?_)
  · subst hw
    simp only [slices_IndexFunc_api_Term.l0]
    rw [if_pos (by simpa using hi), if_pos (inb hi), nth_nat _ hi, hf _ (List.getElem_mem hi), Option.bind_some]
    split
    · rename_i h; exact .inr ⟨_, rfl, ⟨fun _ => ⟨_, List.getElem_mem hi, h⟩, fun _ => by omega⟩⟩
    · rename_i h
      exact .inl ⟨_, rfl, wrap_succ (by omega), by rw [take_all hi]; exact ⟨hn, by simpa using h⟩⟩
  · subst hw
    simp only [slices_IndexFunc_api_Term.l0]
    rw [if_neg (by simp)]
    refine ⟨_, rfl, ⟨fun h => absurd h (by omega), ?_⟩⟩
    rintro ⟨x, hx, e⟩
    rw [List.take_length] at hn
    rw [hn x hx] at e; cases e
theorem widths_some {t : TTerm} {how : Int} (hl : t.sub.length ≤ maxLen) (h0 : 0 < t.sub.length) (h2 : how = 2 → 2 ≤ t.sub.length) (h3 : how = 3 → 3 ≤ t.sub.length) (h4 : how = 4 → 2 ≤ t.sub.length) : ∃ b, term_widths t how = some b := by
  unfold term_widths
  rw [if_pos (by omega)]
  split
  · obtain ⟨r, hr, _⟩ := IndexFunc_some (l := t.sub) (f := fun x0 => term_widths_1 x0 t.width) (p := fun x => !decide (x.width = t.width)) hl (fun x _ => rfl)
    unfold slices_ContainsFunc_api_Term
    rw [hr]; exact ⟨_, rfl⟩
  · split
    · rename_i h; simp only [decide_eq_true_eq] at h; have := h2 h
      rw [if_pos (fun _ => by omega)]; exact ⟨_, rfl⟩
    · split
      · rename_i h; simp only [decide_eq_true_eq] at h; have := h3 h
        rw [if_pos (fun _ => by omega), if_pos (fun _ => by omega)]; exact ⟨_, rfl⟩
      · split
        · rename_i h; simp only [decide_eq_true_eq] at h; have := h4 h
          simp only [term_wide, Option.bind_some]
          rw [if_pos (fun _ => by omega), if_some, Option.bind_some, if_pos (fun _ => by omega)]; exact ⟨_, rfl⟩
        · split
          · simp only [term_wide, if_some, Option.bind_some]; exact ⟨_, rfl⟩
          · split
            · exact ⟨_, rfl⟩
            · simp only [term_loadable, Option.bind_some]; exact ⟨_, rfl⟩
theorem if_total {c : Bool} {o : Option Bool} (h : ∃ b, o = some b) : ∃ b, (if c = true then o else some default) = some b := by
  cases c with
  | true => simpa using h
  | false => exact ⟨_, rfl⟩
theorem node_some {t : TTerm} (hk : 0 ≤ t.kind) (hl : t.sub.length ≤ maxLen) : ∃ b, term_node t = some b := by
  unfold term_node term_wide
  simp only [Option.bind_some]
  split
  · exact ⟨_, rfl⟩
  · unfold term_shaped
    by_cases h24 : 24 < t.kind
    · rw [if_pos (by simpa using h24)]
      simp only [Option.bind_some, Bool.not_false, if_true]
      obtain ⟨b, hb⟩ := if_total (c := (((decide ((t.sub.length : Int) = 0)) && (decide (t.low = 0))) && ((decide (t.kind = 1)) && (decide (t.name = []))))) (Ok_some t.width t.bits)
      rw [hb, Option.bind_some]
      obtain ⟨b2, hb2⟩ := if_total (c := ((((decide ((t.sub.length : Int) = 0)) && (decide (t.low = 0))) && (!(((decide (t.kind = 1)) && (decide (t.name = []))) && b))) && ((decide (t.kind = 2)) && (decide (t.bits = 0))))) (variable_some t.name)
      rw [hb2]; exact ⟨_, rfl⟩
    · rw [if_neg (by simpa using h24), if_pos (by omega), if_pos (by omega)]
      simp only [Option.bind_some]
      split
      · obtain ⟨b, hb⟩ := if_total (c := (((decide ((t.sub.length : Int) = 0)) && (decide (t.low = 0))) && ((decide (t.kind = 1)) && (decide (t.name = []))))) (Ok_some t.width t.bits)
        rw [hb, Option.bind_some]
        obtain ⟨b2, hb2⟩ := if_total (c := ((((decide ((t.sub.length : Int) = 0)) && (decide (t.low = 0))) && (!(((decide (t.kind = 1)) && (decide (t.name = []))) && b))) && ((decide (t.kind = 2)) && (decide (t.bits = 0))))) (variable_some t.name)
        rw [hb2]; exact ⟨_, rfl⟩
      · rename_i hp
        simp only [Bool.not_eq_true', Bool.not_eq_false, decide_eq_true_eq] at hp
        obtain ⟨k, hk'⟩ : ∃ k : Nat, t.kind = k := ⟨t.kind.toNat, by omega⟩
        have hf := shapes_facts k (by omega)
        rw [← hk'] at hf
        obtain ⟨f2, f3, f4⟩ := hf hp
        split
        · rename_i hc
          simp only [Bool.and_eq_true, decide_eq_true_eq] at hc
          obtain ⟨_, hc⟩ := hc
          obtain ⟨b, hb⟩ := widths_some (t := t) (how := (nth shapesL t.kind).how) hl (by omega) (fun e => by have := f2 e; omega) (fun e => by have := f3 e; omega) (fun e => by have := f4 e; omega)
          rw [hb]; exact ⟨_, rfl⟩
        · exact ⟨_, rfl⟩
/-- Is a node well-formed, but for its parts? -/
noncomputable def nodeB (t : TTerm) : Bool := (term_node t).getD false
theorem node_eq {t : TTerm} (hk : 0 ≤ t.kind) (hl : t.sub.length ≤ maxLen) : term_node t = some (nodeB t) := by
  obtain ⟨b, h⟩ := node_some hk hl
  simp [nodeB, h]
end Go.Proofs.YtpjkepfplhllfaaDoor.Av
