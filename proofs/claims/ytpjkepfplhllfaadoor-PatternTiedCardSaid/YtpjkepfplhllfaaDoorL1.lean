/-
Plain words: loops that end, numbers that fit, elements of lists.
-/
import Derived.Test.YtpjkepfplhllfaaDoorAv27
namespace Go.Proofs.YtpjkepfplhllfaaDoor.Av
set_option linter.unusedSimpArgs false
set_option linter.unusedVariables false
open Go
noncomputable instance fxLeast : Fx := Fx.least
theorem fx_on {V R : Type} {step : V → Option (V ⊕ R)} {v v' : V} (h : step v = some (.inl v')) : Fx.fx step v = Fx.fx step v' := fixL_on h
theorem fx_done {V R : Type} {step : V → Option (V ⊕ R)} {v : V} {r : R} (h : step v = some (.inr r)) : Fx.fx step v = some r := fixL_done h
/-- Rounds that are counted. -/
theorem fx_for {V R : Type} {step : V → Option (V ⊕ R)} (n : Nat) (I : Nat → V → Prop) (Q : R → Prop) {v0 : V} (h0 : I 0 v0)
    (h1 : ∀ i v, i < n → I i v → (∃ v', step v = some (.inl v') ∧ I (i + 1) v') ∨ (∃ r, step v = some (.inr r) ∧ Q r))
    (h2 : ∀ v, I n v → ∃ r, step v = some (.inr r) ∧ Q r) : ∃ r, Fx.fx step v0 = some r ∧ Q r := by
  have key : ∀ k i v, i + k = n → I i v → ∃ r, Fx.fx step v = some r ∧ Q r := by
    intro k
    induction k with
    | zero =>
      intro i v hi hv
      obtain rfl : i = n := by omega
      obtain ⟨r, hr, hq⟩ := h2 v hv
      exact ⟨r, fx_done hr, hq⟩
    | succ k ih =>
      intro i v hi hv
      rcases h1 i v (by omega) hv with ⟨v', hs, hv'⟩ | ⟨r, hr, hq⟩
      · rw [fx_on hs]; exact ih (i + 1) v' (by omega) hv'
      · exact ⟨r, fx_done hr, hq⟩
  exact key n 0 v0 (by omega) h0
/-- Rounds that make something smaller. -/
theorem fx_while {V R : Type} {step : V → Option (V ⊕ R)} (m : V → Nat) (I : V → Prop) (Q : R → Prop)
    (h1 : ∀ v, I v → (∃ v', step v = some (.inl v') ∧ I v' ∧ m v' < m v) ∨ (∃ r, step v = some (.inr r) ∧ Q r)) {v0 : V} (h0 : I v0) : ∃ r, Fx.fx step v0 = some r ∧ Q r := by
  have key : ∀ k v, m v < k → I v → ∃ r, Fx.fx step v = some r ∧ Q r := by
    intro k
    induction k with
    | zero => intro v hv; omega
    | succ k ih =>
      intro v hk hv
      rcases h1 v hv with ⟨v', hs, hv', hm⟩ | ⟨r, hr, hq⟩
      · rw [fx_on hs]; exact ih v' (by omega) hv'
      · exact ⟨r, fx_done hr, hq⟩
  exact key (m v0 + 1) v0 (by omega) h0
theorem wrap_i64 {n : Int} (h0 : -9223372036854775808 ≤ n) (h1 : n ≤ 9223372036854775807) : IntKind.i64.wrap n = n := by
  have e : IntKind.i64.wrap n = (if (true && decide (n % 18446744073709551616 ≥ 9223372036854775808)) then n % 18446744073709551616 - 18446744073709551616 else n % 18446744073709551616) := rfl
  rw [e]
  simp only [Bool.true_and, decide_eq_true_eq]
  split <;> omega
theorem wrap_succ {i : Nat} (h : i < 9223372036854775807) : IntKind.i64.wrap ((i : Int) + 1) = ((i + 1 : Nat) : Int) := by
  rw [wrap_i64 (by omega) (by omega)]; rfl
theorem nth_nat {α : Type} [Inhabited α] (xs : List α) {i : Nat} (h : i < xs.length) : nth xs (i : Int) = xs[i] := by
  simp [nth, h]
theorem nth_mem {α : Type} [Inhabited α] {xs : List α} {i : Int} (h0 : 0 ≤ i) (h1 : i < (xs.length : Int)) : nth xs i ∈ xs := by
  obtain ⟨k, rfl⟩ : ∃ k : Nat, i = k := ⟨i.toNat, by omega⟩
  rw [nth_nat xs (by omega)]
  exact List.getElem_mem _
theorem inb {α : Type} {xs : List α} {i : Nat} (h : i < xs.length) : (0 : Int) ≤ (i : Int) ∧ (i : Int) < (xs.length : Int) := ⟨by omega, by omega⟩
end Go.Proofs.YtpjkepfplhllfaaDoor.Av
