/-
Plain words about the small functions: names, numbers in range, lists that hold something.
-/
import Derived.Test.YtpjkepfplhllfaaDoorAv27
import Derived.Test.YtpjkepfplhllfaaDoorFa
namespace Go.Proofs.YtpjkepfplhllfaaDoor.Av
set_option linter.unusedSimpArgs false
set_option linter.unusedVariables false
open Go
noncomputable instance fxLeast : Fx := Fx.least
theorem fx_on {V R : Type} {step : V → Option (V ⊕ R)} {v v' : V} (h : step v = some (.inl v')) : Fx.fx step v = Fx.fx step v' := fixL_on h
theorem fx_done {V R : Type} {step : V → Option (V ⊕ R)} {v : V} {r : R} (h : step v = some (.inr r)) : Fx.fx step v = some r := fixL_done h
/-- Rounds that are counted. -/
theorem fx_for {V R : Type} {step : V → Option (V ⊕ R)} (n : Nat) (I : Nat → V → Prop) (Q : R → Prop) {v0 : V} (h0 : I 0 v0)
    (h1 : ∀ i v, i < n → I i v → (∃ v', step v = some (.inl v') ∧ I (i + 1) v') ∨ (∃ r, step v = some (.inr r) ∧ Q r))
    (h2 : ∀ v, I n v → ∃ r, step v = some (.inr r) ∧ Q r) : ∃ r, Fx.fx step v0 = some r ∧ Q r := by
  have key : ∀ k i v, i + k = n → I i v → ∃ r, Fx.fx step v = some r ∧ Q r := by
    intro k
    induction k with
    | zero =>
      intro i v hi hv
      obtain rfl : i = n := by omega
      obtain ⟨r, hr, hq⟩ := h2 v hv
      exact ⟨r, fx_done hr, hq⟩
    | succ k ih =>
      intro i v hi hv
      rcases h1 i v (by omega) hv with ⟨v', hs, hv'⟩ | ⟨r, hr, hq⟩
      · rw [fx_on hs]; exact ih (i + 1) v' (by omega) hv'
      · exact ⟨r, fx_done hr, hq⟩
  exact key n 0 v0 (by omega) h0
/-- Rounds that make something smaller. -/
theorem fx_while {V R : Type} {step : V → Option (V ⊕ R)} (m : V → Nat) (I : V → Prop) (Q : R → Prop)
    (h1 : ∀ v, I v → (∃ v', step v = some (.inl v') ∧ I v' ∧ m v' < m v) ∨ (∃ r, step v = some (.inr r) ∧ Q r)) {v0 : V} (h0 : I v0) : ∃ r, Fx.fx step v0 = some r ∧ Q r := by
  have key : ∀ k v, m v < k → I v → ∃ r, Fx.fx step v = some r ∧ Q r := by
    intro k
    induction k with
    | zero => intro v hv; omega
    | succ k ih =>
      intro v hk hv
      rcases h1 v hv with ⟨v', hs, hv', hm⟩ | ⟨r, hr, hq⟩
      · rw [fx_on hs]; exact ih v' (by omega) hv'
      · exact ⟨r, fx_done hr, hq⟩
  exact key (m v0 + 1) v0 (by omega) h0
theorem wrap_i64 {n : Int} (h0 : -9223372036854775808 ≤ n) (h1 : n ≤ 9223372036854775807) : IntKind.i64.wrap n = n := by
  have e : IntKind.i64.wrap n = (if (true && decide (n % 18446744073709551616 ≥ 9223372036854775808)) then n % 18446744073709551616 - 18446744073709551616 else n % 18446744073709551616) := rfl
  rw [e]
  simp only [Bool.true_and, decide_eq_true_eq]
  split <;> omega
theorem wrap_succ {i : Nat} (h : i < 9223372036854775807) : IntKind.i64.wrap ((i : Int) + 1) = ((i + 1 : Nat) : Int) := by
  rw [wrap_i64 (by omega) (by omega)]; rfl
theorem nth_nat {α : Type} [Inhabited α] (xs : List α) {i : Nat} (h : i < xs.length) : nth xs (i : Int) = xs[i] := by
  simp [nth, h]
theorem nth_mem {α : Type} [Inhabited α] {xs : List α} {i : Int} (h0 : 0 ≤ i) (h1 : i < (xs.length : Int)) : nth xs i ∈ xs := by
  obtain ⟨k, rfl⟩ : ∃ k : Nat, i = k := ⟨i.toNat, by omega⟩
  rw [nth_nat xs (by omega)]
  exact List.getElem_mem _
theorem inb {α : Type} {xs : List α} {i : Nat} (h : i < xs.length) : (0 : Int) ≤ (i : Int) ∧ (i : Int) < (xs.length : Int) := ⟨by omega, by omega⟩
end Go.Proofs.YtpjkepfplhllfaaDoor.Av
namespace Go.Proofs.YtpjkepfplhllfaaDoor.Av
set_option linter.unusedSimpArgs false
set_option linter.unusedVariables false
open Go
theorem maxLen_eq : maxLen = 9223372036854775807 := rfl
/-- A function that answers whether something holds. -/
def Tells (o : Option Bool) (P : Prop) : Prop := ∃ b, o = some b ∧ (b = true ↔ P)
theorem Tells.mono {o : Option Bool} {P P' : Prop} (h : Tells o P) (e : P ↔ P') : Tells o P' := by
  obtain ⟨b, h1, h2⟩ := h; exact ⟨b, h1, h2.trans e⟩
theorem Tells.of {b : Bool} {P : Prop} (h : b = true ↔ P) : Tells (some b) P := ⟨b, rfl, h⟩
theorem bits_Name_some (s : List UInt8) : ∃ b, bits_Name s = some b := by
  unfold bits_Name
  split
  · exact ⟨_, rfl⟩
  · rename_i h
    simp only [Bool.or_eq_true, decide_eq_true_eq, not_or] at h
    obtain ⟨r, hr, _⟩ := fx_for (step := bits_Name.l0 s) (v0 := 0) s.length (fun i v => v = (i : Int)) (fun _ => True) rfl
      (fun i v hi hv => by
        subst hv
        simp only [bits_Name.l0]
        rw [if_pos (by simpa using hi), if_pos (inb hi)]
        split
        · exact .inr ⟨_, rfl, trivial⟩
        · exact .inl ⟨_, rfl, wrap_succ (by omega)⟩)
      (fun v hv => by
        subst hv
        simp only [bits_Name.l0]
        rw [if_neg (by simp)]
        exact ⟨_, rfl, trivial⟩)
    exact ⟨r, hr⟩
/-- Is it a name? -/
noncomputable def nameB (s : List UInt8) : Bool := (bits_Name s).getD false
theorem bits_Name_eq (s : List UInt8) : bits_Name s = some (nameB s) := by
  obtain ⟨b, h⟩ := bits_Name_some s
  simp [nameB, h]
theorem slices_Index_string_eq (l : List (List UInt8)) (v : List UInt8) (hl : l.length ≤ maxLen) : ∃ r, slices_Index_string l v = some r ∧ (0 ≤ r ↔ v ∈ l) := by
  rw [maxLen_eq] at hl
  unfold slices_Index_string
  refine fx_for l.length (fun i w => w = (i : Int) ∧ ∀ j (h : j < l.length), j < i → l[j] ≠ v) (fun r => 0 ≤ r ↔ v ∈ l) ⟨rfl, fun j _ h => by omega⟩ (fun i w hi ⟨hw, hn⟩ => ?_) (fun w ⟨hw, hn⟩ => ?_)
  · subst hw
    simp only [slices_Index_string.l0]
    rw [if_pos (by simpa using hi), if_pos (inb hi), nth_nat l hi]
    split
    · rename_i h
      simp only [decide_eq_true_eq] at h
      exact .inr ⟨_, rfl, ⟨fun _ => by rw [h]; exact List.getElem_mem _, fun _ => by omega⟩⟩
    · rename_i h
      simp only [decide_eq_true_eq] at h
      refine .inl ⟨_, rfl, wrap_succ (by omega), fun j hj hji => ?_⟩
      by_cases e : j = i
      · subst e; exact fun e => h e.symm
      · exact hn j hj (by omega)
  · subst hw
    simp only [slices_Index_string.l0]
    rw [if_neg (by simp)]
    refine ⟨_, rfl, ⟨fun h => absurd h (by omega), fun h => ?_⟩⟩
    obtain ⟨j, hj, e⟩ := List.getElem_of_mem h
    exact absurd e (hn j hj hj)
theorem slices_Index_int_eq (l : List Int) (v : Int) (hl : l.length ≤ maxLen) : ∃ r, slices_Index_int l v = some r ∧ (0 ≤ r ↔ v ∈ l) := by
  rw [maxLen_eq] at hl
  unfold slices_Index_int
  refine fx_for l.length (fun i w => w = (i : Int) ∧ ∀ j (h : j < l.length), j < i → l[j] ≠ v) (fun r => 0 ≤ r ↔ v ∈ l) ⟨rfl, fun j _ h => by omega⟩ (fun i w hi ⟨hw, hn⟩ => ?_) (fun w ⟨hw, hn⟩ => ?_)
  · subst hw
    simp only [slices_Index_int.l0]
    rw [if_pos (by simpa using hi), if_pos (inb hi), nth_nat l hi]
    split
    · rename_i h
      simp only [decide_eq_true_eq] at h
      exact .inr ⟨_, rfl, ⟨fun _ => by rw [h]; exact List.getElem_mem _, fun _ => by omega⟩⟩
    · rename_i h
      simp only [decide_eq_true_eq] at h
      refine .inl ⟨_, rfl, wrap_succ (by omega), fun j hj hji => ?_⟩
      by_cases e : j = i
      · subst e; exact fun e => h e.symm
      · exact hn j hj (by omega)
  · subst hw
    simp only [slices_Index_int.l0]
    rw [if_neg (by simp)]
    refine ⟨_, rfl, ⟨fun h => absurd h (by omega), fun h => ?_⟩⟩
    obtain ⟨j, hj, e⟩ := List.getElem_of_mem h
    exact absurd e (hn j hj hj)
theorem contains_string {l : List (List UInt8)} {v : List UInt8} (hl : l.length ≤ maxLen) : Tells (slices_Contains_string l v) (v ∈ l) := by
  obtain ⟨r, h, hr⟩ := slices_Index_string_eq l v hl
  unfold slices_Contains_string
  rw [h]
  exact ⟨_, rfl, by simpa using hr⟩
theorem contains_int {l : List Int} {v : Int} (hl : l.length ≤ maxLen) : Tells (slices_Contains_int l v) (v ∈ l) := by
  obtain ⟨r, h, hr⟩ := slices_Index_int_eq l v hl
  unfold slices_Contains_int
  rw [h]
  exact ⟨_, rfl, by simpa using hr⟩
theorem within_eq (n a b : Int) : machine_within n a b = some (decide (a ≤ n) && decide (n ≤ b)) := rfl
theorem fewer_one {k n : Int} (hn : 0 ≤ n) : machine_fewer k [n] = some (decide (n ≤ k)) := by
  have e : Fx.fx (slices_Max_int.l0 [n, 0]) (n, 1) = some (imax n 0) := by
    have h1 : slices_Max_int.l0 [n, 0] (n, 1) = some (.inl (imax n 0, 2)) := by
      simp only [slices_Max_int.l0]
      rw [if_pos (by simp), if_pos (by simp)]
      rfl
    rw [fx_on h1]
    apply fx_done
    simp only [slices_Max_int.l0]
    rw [if_neg (by simp)]
    rfl
  unfold machine_fewer
  rw [if_pos (by simp)]
  have e2 : slices_Max_int ([n] ++ [0]) = some (imax n 0) := by
    unfold slices_Max_int
    rw [if_neg (by simp), if_pos (by simp)]
    exact e
  rw [e2]
  have e3 : imax n 0 = n := by unfold imax; split <;> omega
  rw [e3]
  rfl
theorem must_eq (c : TMachineChecker) (l : List Bool) (hl : l.length ≤ maxLen) : machine_checker_must c l = some ⟨c.machine, c.ok && l.all id⟩ := by
  rw [maxLen_eq] at hl
  unfold machine_checker_must
  have key : ∃ r, Fx.fx (machine_checker_must.l0 l) (0, c) = some r ∧ r = ⟨c.machine, c.ok && l.all id⟩ := by
    refine fx_for (step := machine_checker_must.l0 l) (v0 := (0, c)) l.length (fun i w => w = ((i : Int), ⟨c.machine, c.ok && (l.take i).all id⟩)) (fun r => r = ⟨c.machine, c.ok && l.all id⟩) (by simp) (fun i w hi hw => ?_) (fun w hw => ?_)
    · subst hw
      simp only [machine_checker_must.l0]
      rw [if_pos (by simpa using hi), if_pos (inb hi), nth_nat l hi]
      refine .inl ⟨_, rfl, ?_⟩
      rw [wrap_succ (by omega), List.take_succ_eq_append_getElem hi, List.all_append]
      simp [Bool.and_assoc]
    · subst hw
      simp only [machine_checker_must.l0]
      rw [if_neg (by simp)]
      exact ⟨_, rfl, by simp⟩
  obtain ⟨r, h1, h2⟩ := key
  rw [h1, h2]
theorem must1 (c : TMachineChecker) (a : Bool) : machine_checker_must c [a] = some ⟨c.machine, c.ok && a⟩ := by
  rw [must_eq _ _ (by simp [maxLen_eq])]; simp
theorem must2 (c : TMachineChecker) (a b : Bool) : machine_checker_must c [a, b] = some ⟨c.machine, c.ok && (a && b)⟩ := by
  rw [must_eq _ _ (by simp [maxLen_eq])]; simp
theorem must3 (c : TMachineChecker) (a b d : Bool) : machine_checker_must c [a, b, d] = some ⟨c.machine, c.ok && (a && (b && d))⟩ := by
  rw [must_eq _ _ (by simp [maxLen_eq])]; simp
theorem must4 (c : TMachineChecker) (a b d e : Bool) : machine_checker_must c [a, b, d, e] = some ⟨c.machine, c.ok && (a && (b && (d && e)))⟩ := by
  rw [must_eq _ _ (by simp [maxLen_eq])]; simp
theorem must5 (c : TMachineChecker) (a b d e f : Bool) : machine_checker_must c [a, b, d, e, f] = some ⟨c.machine, c.ok && (a && (b && (d && (e && f))))⟩ := by
  rw [must_eq _ _ (by simp [maxLen_eq])]; simp
theorem must7 (c : TMachineChecker) (a b d e f g h : Bool) : machine_checker_must c [a, b, d, e, f, g, h] = some ⟨c.machine, c.ok && (a && (b && (d && (e && (f && (g && h))))))⟩ := by
  rw [must_eq _ _ (by simp [maxLen_eq])]; simp
theorem inrT {n a b : Int} (h : a ≤ n ∧ n ≤ b) : (decide (a ≤ n) && decide (n ≤ b)) = true := by simpa using h
theorem inrF {n a b : Int} (h : ¬(a ≤ n ∧ n ≤ b)) : (decide (a ≤ n) && decide (n ≤ b)) = false := by
  rw [Bool.eq_false_iff]; intro e; exact h (by simpa using e)
/-- A check that notes whether something holds. -/
def Chk (o : Option TMachineChecker) (c : TMachineChecker) (P : Prop) : Prop := ∃ c', o = some c' ∧ c'.machine = c.machine ∧ (c'.ok = true ↔ c.ok = true ∧ P)
theorem Chk.mono {o : Option TMachineChecker} {c : TMachineChecker} {P P' : Prop} (h : Chk o c P) (e : P ↔ P') : Chk o c P' := by
  obtain ⟨b, h1, h2, h3⟩ := h; exact ⟨b, h1, h2, h3.trans (and_congr_right fun _ => e)⟩
theorem must_chk (c : TMachineChecker) (l : List Bool) (hl : l.length ≤ maxLen) : Chk (machine_checker_must c l) c (∀ b ∈ l, b = true) :=
  ⟨_, must_eq c l hl, rfl, by simp⟩
theorem fresh_eq (n : TMachineNames) (s : List UInt8) (hl : n.used.length ≤ 10000) : ∃ b, machine_names_fresh n s = some (⟨n.used ++ [s]⟩, b) ∧ (b = true ↔ nameB s = true ∧ s ∉ n.used) := by
  unfold machine_names_fresh
  rw [bits_Name_eq, Option.bind_some]
  cases hn : nameB s with
  | true =>
    obtain ⟨b, hb, hb2⟩ := contains_string (l := n.used) (v := s) (by rw [maxLen_eq]; omega)
    rw [if_pos rfl, hb, Option.bind_some, if_pos (by omega)]
    exact ⟨_, rfl, by cases b <;> simp_all⟩
  | false =>
    rw [if_neg (by simp), Option.bind_some, if_pos (by omega)]
    exact ⟨_, rfl, by simp⟩
theorem field_eq (o : TMachOperand) (hl : o.pieces.length ≤ maxLen) : ∃ n, machine_field o = some n := by
  rw [maxLen_eq] at hl
  unfold machine_field
  refine (fx_for (step := machine_field.l0 o) (v0 := (0, 0)) o.pieces.length (fun i w => w.2 = (i : Int)) (fun r => True) rfl (fun i w hi hw => ?_) (fun w hw => ?_)).imp fun r h => h.1
  · obtain ⟨a, b⟩ := w
    simp only at hw
    subst hw
    simp only [machine_field.l0]
    rw [if_pos (by simpa using hi), if_pos (inb hi)]
    exact .inl ⟨_, rfl, wrap_succ (by omega)⟩
  · obtain ⟨a, b⟩ := w
    simp only at hw
    subst hw
    simp only [machine_field.l0]
    rw [if_neg (by simp)]
    exact ⟨_, rfl, trivial⟩
end Go.Proofs.YtpjkepfplhllfaaDoor.Av
