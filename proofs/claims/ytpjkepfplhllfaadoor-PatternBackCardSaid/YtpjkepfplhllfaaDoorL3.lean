/-
Plain words about a machine's sizes, registers, banks and units.
-/
import Derived.Test.YtpjkepfplhllfaaDoorL2
namespace Go.Proofs.YtpjkepfplhllfaaDoor.Av
set_option linter.unusedSimpArgs false
set_option linter.unusedVariables false
open Go
theorem inr_iff {n a b : Int} : (decide (a ≤ n) && decide (n ≤ b)) = true ↔ a ≤ n ∧ n ≤ b := by simp
theorem if_some {b p : Bool} : (if b = true then some p else some default) = some (b && p) := by
  cases b <;> rfl
theorem and_in {b p : Bool} : (b && (b && p)) = (b && p) := by cases b <;> rfl
theorem take_snoc {α : Type} {l : List α} {i : Nat} (h : i < l.length) : l.take (i + 1) = l.take i ++ [l[i]] := List.take_succ_eq_append_getElem h
/-- What holds of the first elements. -/
theorem take_all {α : Type} {l : List α} {P : α → Prop} {i : Nat} (h : i < l.length) : (∀ x ∈ l.take (i + 1), P x) ↔ (∀ x ∈ l.take i, P x) ∧ P l[i] := by
  rw [take_snoc h]
  constructor
  · exact fun h => ⟨fun x hx => h x (List.mem_append_left _ hx), h _ (List.mem_append_right _ (List.mem_singleton.2 rfl))⟩
  · rintro ⟨h1, h2⟩ x hx
    rcases List.mem_append.1 hx with hx | hx
    · exact h1 x hx
    · simp only [List.mem_cons, List.not_mem_nil, or_false] at hx
      subst hx; exact h2
def OperandsSmall (l : List TMachOperand) : Prop := ∀ o ∈ l, o.pieces.length ≤ 4
def SmallP (m : TMachine) : Prop := (m.regs.length ≤ 64 ∧ m.banks.length ≤ 16 ∧ m.units.length ≤ 8 ∧ m.instrs.length ≤ 64) ∧ (∀ b ∈ m.banks, b.regs.length ≤ 64) ∧ ∀ s ∈ m.instrs, s.operands.length ≤ 4 ∧ s.effects.length ≤ 4 ∧ ∀ o ∈ s.operands, o.pieces.length ≤ 4
/-- The lengths of a machine's lists can be counted. -/
structure LenOK (m : TMachine) : Prop where
  regs : m.regs.length ≤ maxLen
  banks : m.banks.length ≤ maxLen
  units : m.units.length ≤ maxLen
  instrs : m.instrs.length ≤ maxLen
  bank : ∀ b ∈ m.banks, b.regs.length ≤ maxLen
  instr : ∀ s ∈ m.instrs, s.operands.length ≤ maxLen ∧ s.effects.length ≤ maxLen
  operand : ∀ s ∈ m.instrs, ∀ o ∈ s.operands, o.pieces.length ≤ maxLen
theorem small_tells {m : TMachine} (L : LenOK m) : Tells (machine_small m) (SmallP m) := by
  obtain ⟨L1, L2, L3, L4, L5, L6, L7⟩ := L
  simp only [maxLen_eq] at L1 L2 L3 L4 L5 L6 L7
  unfold machine_small
  simp only [fewer_one (Int.natCast_nonneg _)]
  simp only [Option.bind_some, if_some, and_in, ← Bool.and_assoc]
  refine fx_for (step := machine_small.l0 m) m.banks.length (fun i w => w.2 = (i : Int) ∧ (w.1 = true ↔ (m.regs.length ≤ 64 ∧ m.banks.length ≤ 16 ∧ m.units.length ≤ 8 ∧ m.instrs.length ≤ 64) ∧ ∀ b ∈ m.banks.take i, b.regs.length ≤ 64)) _ ⟨rfl, ?_⟩ (fun i w hi ⟨hw, hn⟩ => ?_) (fun w ⟨hw, hn⟩ => ?_)
  · simp; omega
  · obtain ⟨ok, j⟩ := w
    simp only at hw hn
    subst hw
    simp only [machine_small.l0, fewer_one (Int.natCast_nonneg _)]
    rw [if_pos (by simpa using hi), if_pos (inb hi), nth_nat _ hi]
    simp only [Option.bind_some, if_some, and_in]
    refine .inl ⟨_, rfl, wrap_succ (by omega), ?_⟩
    rw [take_all hi, ← and_assoc, ← hn]
    simp
    intro _; omega
  · obtain ⟨ok, j⟩ := w
    simp only at hw hn
    subst hw
    simp only [machine_small.l0]
    rw [if_neg (by simp)]
    have key : ∃ b, Fx.fx (machine_small.l1 m) (ok, 0) = some b ∧ (b = true ↔ SmallP m) := by
      refine fx_for (step := machine_small.l1 m) m.instrs.length (fun i w => w.2 = (i : Int) ∧ (w.1 = true ↔ ok = true ∧ ∀ s ∈ m.instrs.take i, s.operands.length ≤ 4 ∧ s.effects.length ≤ 4 ∧ ∀ o ∈ s.operands, o.pieces.length ≤ 4)) _ ⟨rfl, by simp⟩ (fun i w hi ⟨hw, hn'⟩ => ?_) (fun w ⟨hw, hn'⟩ => ?_)
      · obtain ⟨k, j⟩ := w
        simp only at hw hn'
        subst hw
        simp only [machine_small.l1, fewer_one (Int.natCast_nonneg _)]
        have e6 := L6 _ (List.getElem_mem hi)
        have e7 := L7 _ (List.getElem_mem hi)
        rw [if_pos (by simpa using hi), if_pos (inb hi), nth_nat _ hi]
        simp only [Option.bind_some, if_some, and_in]
        have key2 : ∃ v', Fx.fx (machine_small.l2 m (i : Int)) (((k && decide ((m.instrs[i].operands.length : Int) ≤ 4)) && decide ((m.instrs[i].effects.length : Int) ≤ 4)), 0) = some (.inl v') ∧ v'.2 = ((i + 1 : Nat) : Int) ∧ (v'.1 = true ↔ ((k && decide ((m.instrs[i].operands.length : Int) ≤ 4)) && decide ((m.instrs[i].effects.length : Int) ≤ 4)) = true ∧ ∀ o ∈ m.instrs[i].operands, o.pieces.length ≤ 4) := by
          obtain ⟨r, hr, v', hv, hq⟩ : ∃ r, Fx.fx (machine_small.l2 m (i : Int)) (((k && decide ((m.instrs[i].operands.length : Int) ≤ 4)) && decide ((m.instrs[i].effects.length : Int) ≤ 4)), 0) = some r ∧ ∃ v', r = Sum.inl v' ∧ v'.2 = ((i + 1 : Nat) : Int) ∧ (v'.1 = true ↔ ((k && decide ((m.instrs[i].operands.length : Int) ≤ 4)) && decide ((m.instrs[i].effects.length : Int) ≤ 4)) = true ∧ ∀ o ∈ m.instrs[i].operands, o.pieces.length ≤ 4) := by
            generalize ((k && decide ((m.instrs[i].operands.length : Int) ≤ 4)) && decide ((m.instrs[i].effects.length : Int) ≤ 4)) = b0
            refine fx_for (step := machine_small.l2 m (i : Int)) m.instrs[i].operands.length (fun q w => w.2 = (q : Int) ∧ (w.1 = true ↔ b0 = true ∧ ∀ o ∈ m.instrs[i].operands.take q, o.pieces.length ≤ 4)) _ ⟨rfl, by simp⟩ (fun q w hq ⟨hw, hn2⟩ => ?_) (fun w ⟨hw, hn2⟩ => ?_)
            · obtain ⟨k2, j2⟩ := w
              simp only at hw hn2
              subst hw
              simp only [machine_small.l2, fewer_one (Int.natCast_nonneg _)]
              simp only [nth_nat _ hi]
              rw [if_pos (by simpa using hq), if_pos (inb hq), nth_nat _ hq]
              simp only [Option.bind_some, if_some, and_in]
              refine .inl ⟨_, rfl, wrap_succ (by omega), ?_⟩
              rw [take_all hq, ← and_assoc, ← hn2]
              simp
              intro _; omega
            · obtain ⟨k2, j2⟩ := w
              simp only at hw hn2
              subst hw
              simp only [machine_small.l2]
              simp only [nth_nat _ hi]
              rw [if_neg (by simp)]
              refine ⟨_, rfl, _, rfl, wrap_succ (by omega), ?_⟩
              rw [List.take_length] at hn2
              exact hn2
          exact ⟨v', by rw [hr, hv], hq⟩
        obtain ⟨v', hv, h1, h2⟩ := key2
        refine .inl ⟨v', hv, h1, ?_⟩
        rw [take_all hi, ← and_assoc, ← hn', h2]
        simp only [Bool.and_eq_true, decide_eq_true_eq, and_assoc]
        constructor <;> rintro ⟨a, b, c, d⟩ <;> exact ⟨a, by omega, by omega, d⟩
      · obtain ⟨k, j⟩ := w
        simp only at hw hn'
        subst hw
        simp only [machine_small.l1]
        rw [if_neg (by simp)]
        refine ⟨_, rfl, ?_⟩
        rw [hn', hn]
        simp only [List.take_length, SmallP, and_assoc]
    obtain ⟨b, h1, h2⟩ := key
    rw [h1]
    exact ⟨_, rfl, h2⟩
/-- Names: each is one, and none stands twice, nor in what is taken. -/
def NamesP (u0 : List (List UInt8)) (l : List (List UInt8)) (i : Nat) : Prop := ∀ j (h : j < l.length), j < i → nameB l[j] = true ∧ l[j] ∉ u0 ++ l.take j
theorem NamesP.zero {u0 l : List (List UInt8)} : NamesP u0 l 0 := fun j h hj => by omega
theorem NamesP.succ {u0 l : List (List UInt8)} {i : Nat} (h : i < l.length) : NamesP u0 l (i + 1) ↔ NamesP u0 l i ∧ nameB l[i] = true ∧ l[i] ∉ u0 ++ l.take i := by
  constructor
  · exact fun hh => ⟨fun j hj hji => hh j hj (by omega), hh i h (by omega)⟩
  · rintro ⟨h1, h2⟩ j hj hji
    by_cases e : j = i
    · subst e; exact h2
    · exact h1 j hj (by omega)
theorem map_take {α β : Type} (f : α → β) (l : List α) (i : Nat) : (l.take i).map f = (l.map f).take i := by rw [List.map_take]
def RegP (m : TMachine) (r : TMachReg) : Prop := (1 ≤ r.width ∧ r.width ≤ 64) ∧ ((r.of_ = -1 ∧ r.low = 0) ∨ (r.of_ ≠ -1 ∧ (0 ≤ r.of_ ∧ r.of_ < (m.regs.length : Int)) ∧ (nth m.regs r.of_).of_ = -1 ∧ r.width < (nth m.regs r.of_).width ∧ (1 ≤ (nth m.regs r.of_).width ∧ (nth m.regs r.of_).width ≤ 64) ∧ 0 ≤ r.low ∧ r.low ≤ (nth m.regs r.of_).width - r.width))
def RegsP (m : TMachine) : Prop := 0 < m.regs.length ∧ NamesP [] (m.regs.map (·.name)) m.regs.length ∧ ∀ r ∈ m.regs, RegP m r
theorem regs_chk {c : TMachineChecker} (hl : c.machine.regs.length ≤ 1000) : Chk (machine_checker_regs c) c (RegsP c.machine) := by
  unfold machine_checker_regs
  rw [must1]
  simp only [Option.bind_some]
  obtain ⟨M, ok⟩ := c
  simp only at hl ⊢
  generalize hok1 : (ok && decide (0 < (M.regs.length : Int))) = ok1
  have key : ∃ r, Fx.fx (machine_checker_regs.l0 ⟨M, ok1⟩) (0, [], ⟨M, ok1⟩) = some r ∧ r.machine = M ∧ (r.ok = true ↔ ok1 = true ∧ NamesP [] (M.regs.map (·.name)) M.regs.length ∧ ∀ r ∈ M.regs, RegP M r) := by
    refine fx_for (step := machine_checker_regs.l0 ⟨M, ok1⟩) M.regs.length (fun i w => w.1 = (i : Int) ∧ w.2.1 = (M.regs.map (·.name)).take i ∧ w.2.2.machine = M ∧ (w.2.2.ok = true ↔ ok1 = true ∧ NamesP [] (M.regs.map (·.name)) i ∧ ∀ r ∈ M.regs.take i, RegP M r)) _ ⟨rfl, by simp, rfl, by simp [NamesP.zero]⟩ (fun i w hi ⟨h1, h2, h3, h4⟩ => ?_) (fun w ⟨h1, h2, h3, h4⟩ => ?_)
    · obtain ⟨j, u, ⟨M', k⟩⟩ := w
      simp only at h1 h2 h3 h4
      subst h1 h3
      simp only [machine_checker_regs.l0]
      obtain ⟨b, hb, hb2⟩ := fresh_eq ⟨u⟩ (M'.regs[i].name) (by simp only [h2, List.length_take, List.length_map]; omega)
      have hnm : (M'.regs.map (·.name))[i]'(by simpa using hi) = M'.regs[i].name := by simp
      rw [if_pos (by simpa using hi), if_pos (inb hi)]
      simp only [nth_nat _ hi, hb, within_eq, Option.bind_some, must1, must2, must4, machine_checker_regs.j0]
      have hu : u ++ [M'.regs[i].name] = (M'.regs.map (·.name)).take (i + 1) := by
        rw [take_snoc (by simpa using hi), h2, hnm]
      rw [NamesP.succ (by simpa using hi), take_all hi]
      rw [hnm]
      generalize M'.regs[i] = r at *
      left
      have hb3 : b = true ↔ nameB r.name = true ∧ r.name ∉ [] ++ (M'.regs.map (·.name)).take i := by rw [hb2, ← h2, List.nil_append]
      have fin : ∀ (q : Bool) (hq : q = true ↔ (k = true ∧ b = true ∧ (1 ≤ r.width ∧ r.width ≤ 64)) ∧ ((r.of_ = -1 ∧ r.low = 0) ∨ (r.of_ ≠ -1 ∧ (0 ≤ r.of_ ∧ r.of_ < (M'.regs.length : Int)) ∧ (nth M'.regs r.of_).of_ = -1 ∧ r.width < (nth M'.regs r.of_).width ∧ (1 ≤ (nth M'.regs r.of_).width ∧ (nth M'.regs r.of_).width ≤ 64) ∧ 0 ≤ r.low ∧ r.low ≤ (nth M'.regs r.of_).width - r.width))),
          q = true ↔ ok1 = true ∧ (NamesP [] (M'.regs.map (·.name)) i ∧ nameB r.name = true ∧ r.name ∉ [] ++ (M'.regs.map (·.name)).take i) ∧ (∀ x ∈ M'.regs.take i, RegP M' x) ∧ RegP M' r := fun q hq => by
        rw [hq, h4, hb3]; unfold RegP; constructor
        · rintro ⟨⟨⟨a1, a2, a3⟩, a4, a5⟩, a6⟩; exact ⟨a1, ⟨a2, a4⟩, a3, a5, a6⟩
        · rintro ⟨a1, ⟨a2, a4⟩, a3, a5, a6⟩; exact ⟨⟨⟨a1, a2, a3⟩, a4, a5⟩, a6⟩
      by_cases hof : r.of_ = -1
      · rw [if_pos (by simpa using hof)]
        refine ⟨_, rfl, wrap_succ (by omega), hu, rfl, fin _ ?_⟩
        simp [hof, and_assoc]
      · rw [if_neg (by simpa using hof)]
        have hw1 : IntKind.i64.wrap ((M'.regs.length : Int) - 1) = (M'.regs.length : Int) - 1 := wrap_i64 (by omega) (by omega)
        by_cases hin : 0 ≤ r.of_ ∧ r.of_ ≤ (M'.regs.length : Int) - 1
        · rw [if_neg (by rw [hw1, inrT hin]; simp), if_pos ⟨hin.1, by omega⟩]
          refine ⟨_, rfl, wrap_succ (by omega), hu, rfl, fin _ ?_⟩
          generalize nth M'.regs r.of_ = t
          have hw2 : (1 ≤ r.width ∧ r.width ≤ 64) → (1 ≤ t.width ∧ t.width ≤ 64) → IntKind.i64.wrap (t.width - r.width) = t.width - r.width := fun h1 h2 => wrap_i64 (by omega) (by omega)
          have hin' : 0 ≤ r.of_ ∧ r.of_ < (M'.regs.length : Int) := ⟨hin.1, by omega⟩
          simp only [Bool.and_eq_true, decide_eq_true_eq, and_assoc]
          constructor
          · rintro ⟨a1, a2, a3, a3', a4, a5, a6, a6', a7⟩
            rw [hw2 ⟨a3, a3'⟩ ⟨a6, a6'⟩] at a7
            exact ⟨a1, a2, a3, a3', .inr ⟨hof, hin'.1, hin'.2, a4, a5, a6, a6', a7⟩⟩
          · rintro ⟨a1, a2, a3, a3', ⟨a4, _⟩ | ⟨_, _, _, a4, a5, a6, a6', a7⟩⟩
            · exact absurd a4 hof
            · refine ⟨a1, a2, a3, a3', a4, a5, a6, a6', ?_⟩
              rw [hw2 ⟨a3, a3'⟩ ⟨a6, a6'⟩]; exact a7
        · rw [if_pos (by rw [hw1, inrF hin]; rfl)]
          refine ⟨_, rfl, wrap_succ (by omega), hu, rfl, fin _ ?_⟩
          simp only [Bool.and_false, Bool.false_eq_true, false_iff, not_and]
          rintro _ (⟨a4, _⟩ | ⟨_, a5, _⟩)
          · exact hof a4
          · exact hin ⟨a5.1, by omega⟩
    · obtain ⟨j, u, ⟨M', k⟩⟩ := w
      simp only at h1 h2 h3 h4
      subst h1 h3
      simp only [machine_checker_regs.l0]
      rw [if_neg (by simp)]
      exact ⟨_, rfl, rfl, by simpa using h4⟩
  obtain ⟨r, h1, h2, h3⟩ := key
  refine ⟨r, h1, h2, h3.trans ?_⟩
  subst hok1
  simp [RegsP, and_assoc]
def BankUpto (m : TMachine) (l : List Int) (q : Nat) : Prop := ∀ j (h : j < l.length), j < q → (0 ≤ l[j] ∧ l[j] < (m.regs.length : Int)) ∧ l[j] ∉ l.take j ∧ (nth m.regs l[j]).width = (nth m.regs (nth l 0)).width
theorem BankUpto.succ {m : TMachine} {l : List Int} {i : Nat} (h : i < l.length) : BankUpto m l (i + 1) ↔ BankUpto m l i ∧ (0 ≤ l[i] ∧ l[i] < (m.regs.length : Int)) ∧ l[i] ∉ l.take i ∧ (nth m.regs l[i]).width = (nth m.regs (nth l 0)).width := by
  constructor
  · exact fun hh => ⟨fun j hj hji => hh j hj (by omega), hh i h (by omega)⟩
  · rintro ⟨h1, h2⟩ j hj hji
    by_cases e : j = i
    · subst e; exact h2
    · exact h1 j hj (by omega)
def BankP (m : TMachine) (b : TMachBank) : Prop := 0 < b.regs.length ∧ BankUpto m b.regs b.regs.length
def BanksP (m : TMachine) : Prop := NamesP [] (m.banks.map (·.name)) m.banks.length ∧ ∀ b ∈ m.banks, BankP m b
theorem banks_chk {c : TMachineChecker} (hr : c.machine.regs.length ≤ 1000) (hl : c.machine.banks.length ≤ 1000) (hb : ∀ b ∈ c.machine.banks, b.regs.length ≤ 1000) : Chk (machine_checker_banks c) c (BanksP c.machine) := by
  unfold machine_checker_banks
  obtain ⟨M, ok1⟩ := c
  simp only at hr hl hb ⊢
  have key : ∃ r, Fx.fx (machine_checker_banks.l0 ⟨M, ok1⟩) (0, [], ⟨M, ok1⟩) = some r ∧ r.machine = M ∧ (r.ok = true ↔ ok1 = true ∧ NamesP [] (M.banks.map (·.name)) M.banks.length ∧ ∀ r ∈ M.banks, BankP M r) := by
    refine fx_for (step := machine_checker_banks.l0 ⟨M, ok1⟩) M.banks.length (fun i w => w.1 = (i : Int) ∧ w.2.1 = (M.banks.map (·.name)).take i ∧ w.2.2.machine = M ∧ (w.2.2.ok = true ↔ ok1 = true ∧ NamesP [] (M.banks.map (·.name)) i ∧ ∀ r ∈ M.banks.take i, BankP M r)) _ ⟨rfl, by simp, rfl, by simp [NamesP.zero]⟩ (fun i w hi ⟨h1, h2, h3, h4⟩ => ?_) (fun w ⟨h1, h2, h3, h4⟩ => ?_)
    · obtain ⟨j, u, ⟨M', k⟩⟩ := w
      simp only at h1 h2 h3 h4
      subst h1 h3
      simp only [machine_checker_banks.l0]
      obtain ⟨b, hb1, hb2⟩ := fresh_eq ⟨u⟩ (M'.banks[i].name) (by simp only [h2, List.length_take, List.length_map]; omega)
      have hnm : (M'.banks.map (·.name))[i]'(by simpa using hi) = M'.banks[i].name := by simp
      rw [if_pos (by simpa using hi), if_pos (inb hi)]
      simp only [nth_nat _ hi, hb1, Option.bind_some, must2]
      have hu : u ++ [M'.banks[i].name] = (M'.banks.map (·.name)).take (i + 1) := by
        rw [take_snoc (by simpa using hi), h2, hnm]
      rw [NamesP.succ (by simpa using hi), take_all hi, hnm]
      have hbl := hb _ (List.getElem_mem hi)
      have hb3 : b = true ↔ nameB M'.banks[i].name = true ∧ M'.banks[i].name ∉ [] ++ (M'.banks.map (·.name)).take i := by rw [hb2, ← h2, List.nil_append]
      left
      generalize hk0 : (k && (b && decide (0 < (M'.banks[i].regs.length : Int)))) = k0
      have inner : ∃ r, Fx.fx (machine_checker_banks.l1 ⟨M', ok1⟩ (i : Int) (⟨u ++ [M'.banks[i].name]⟩, b)) (0, ⟨M', k0⟩) = some r ∧ ∃ v', r = .inl v' ∧ v'.1 = ((i + 1 : Nat) : Int) ∧ v'.2.1 = u ++ [M'.banks[i].name] ∧ v'.2.2.machine = M' ∧ (v'.2.2.ok = true ↔ k0 = true ∧ BankUpto M' M'.banks[i].regs M'.banks[i].regs.length) := by
        refine fx_for (step := machine_checker_banks.l1 ⟨M', ok1⟩ (i : Int) (⟨u ++ [M'.banks[i].name]⟩, b)) M'.banks[i].regs.length (fun q w => w.1 = (q : Int) ∧ w.2.machine = M' ∧ (w.2.ok = true ↔ k0 = true ∧ BankUpto M' M'.banks[i].regs q)) _ ⟨rfl, rfl, by simp [BankUpto]⟩ (fun q w hq ⟨g1, g2, g3⟩ => ?_) (fun w ⟨g1, g2, g3⟩ => ?_)
        · obtain ⟨j2, ⟨M2, k2⟩⟩ := w
          simp only at g1 g2 g3
          subst g1 g2
          simp only [machine_checker_banks.l1, nth_nat _ hi, machine_checker_banks.j0]
          rw [if_pos (by simpa using hq), if_pos (inb hq), if_pos (by omega)]
          simp only [nth_nat _ hq, within_eq, Option.bind_some]
          obtain ⟨cb, hc1, hc2⟩ := contains_int (l := (M2.banks[i].regs.take (q : Int).toNat).drop (0 : Int).toNat) (v := M2.banks[i].regs[q]) (by simp [maxLen_eq]; omega)
          rw [hc1]
          simp only [Int.toNat_natCast, Int.toNat_zero, List.drop_zero] at hc2
          simp only [Option.bind_some, must1, must2]
          have hw1 : IntKind.i64.wrap ((M2.regs.length : Int) - 1) = (M2.regs.length : Int) - 1 := wrap_i64 (by omega) (by omega)
          rw [hw1, BankUpto.succ hq]
          generalize hl2 : M2.banks[i].regs = l at *
          have hz : nth l 0 = l[0]'(by omega) := nth_nat l (i := 0) (by omega)
          left
          by_cases hok : (k2 && ((decide (0 ≤ l[q]) && decide (l[q] ≤ (M2.regs.length : Int) - 1)) && !cb)) = true
          · rw [if_pos (by simpa using hok)]
            have hokE := hok
            simp only [Bool.and_eq_true, decide_eq_true_eq, Bool.not_eq_true'] at hok
            obtain ⟨k1, ⟨k3, k4⟩, k5⟩ := hok
            have hr0 : 0 ≤ nth l 0 ∧ nth l 0 < (M2.regs.length : Int) := by
              by_cases e : q = 0
              · subst e; rw [hz]; exact ⟨k3, by omega⟩
              · have := ((g3.1 k1).2 0 (by omega) (by omega)).1
                rw [hz]; exact this
            rw [if_pos ⟨k3, by omega⟩, if_pos (by omega), if_pos hr0]
            refine ⟨_, rfl, wrap_succ (by omega), rfl, ?_⟩
            have hcm : l[q] ∉ l.take q := fun hm => by rw [hc2.2 hm] at k5; cases k5
            rw [hokE, Bool.true_and, decide_eq_true_eq]
            constructor
            · intro h; exact ⟨(g3.1 k1).1, (g3.1 k1).2, ⟨k3, by omega⟩, hcm, h⟩
            · rintro ⟨_, _, _, _, h⟩; exact h
          · rw [if_neg (by simpa using hok)]
            refine ⟨_, rfl, wrap_succ (by omega), rfl, ?_⟩
            constructor
            · exact fun h => absurd h hok
            · rintro ⟨a1, a2, a3, a4, a5⟩
              exfalso; apply hok
              have : cb = false := by rw [Bool.eq_false_iff]; exact fun e => a4 (hc2.1 e)
              simp only [Bool.and_eq_true, decide_eq_true_eq, this, Bool.not_false, and_true]
              exact ⟨g3.2 ⟨a1, a2⟩, a3.1, by omega⟩
        · obtain ⟨j2, ⟨M2, k2⟩⟩ := w
          simp only at g1 g2 g3
          subst g1 g2
          simp only [machine_checker_banks.l1, nth_nat _ hi]
          rw [if_neg (by simp)]
          exact ⟨_, rfl, _, rfl, wrap_succ (by omega), rfl, rfl, g3⟩
      obtain ⟨_, hv, v', rfl, e1, e2, e3, e4⟩ := inner
      refine ⟨v', hv, e1, by rw [e2, hu], e3, ?_⟩
      rw [e4, ← hk0]
      simp only [Bool.and_eq_true, decide_eq_true_eq, h4, hb3, BankP]
      constructor
      · rintro ⟨⟨⟨a1, a2, a3⟩, a4, a5⟩, a6⟩; exact ⟨a1, ⟨a2, a4⟩, a3, by omega, a6⟩
      · rintro ⟨a1, ⟨a2, a4⟩, a3, a5, a6⟩; exact ⟨⟨⟨a1, a2, a3⟩, a4, by omega⟩, a6⟩
    · obtain ⟨j, u, ⟨M', k⟩⟩ := w
      simp only at h1 h2 h3 h4
      subst h1 h3
      simp only [machine_checker_banks.l0]
      rw [if_neg (by simp)]
      exact ⟨_, rfl, rfl, by simpa using h4⟩
  obtain ⟨r, h1, h2, h3⟩ := key
  exact ⟨r, h1, h2, h3⟩
def UnitsP (m : TMachine) : Prop := 0 < m.units.length ∧ NamesP [] (m.units.map (·.name)) m.units.length ∧ ∀ u ∈ m.units, 1 ≤ u.count ∧ u.count ≤ 4
theorem units_chk {c : TMachineChecker} (hl : c.machine.units.length ≤ 1000) : Chk (machine_checker_units c) c (UnitsP c.machine) := by
  unfold machine_checker_units
  rw [must1]
  simp only [Option.bind_some]
  obtain ⟨M, ok⟩ := c
  simp only at hl ⊢
  generalize hok1 : (ok && decide (0 < (M.units.length : Int))) = ok1
  have key : ∃ r, Fx.fx (machine_checker_units.l0 ⟨M, ok1⟩) (0, [], ⟨M, ok1⟩) = some r ∧ r.machine = M ∧ (r.ok = true ↔ ok1 = true ∧ NamesP [] (M.units.map (·.name)) M.units.length ∧ ∀ u ∈ M.units, 1 ≤ u.count ∧ u.count ≤ 4) := by
    refine fx_for (step := machine_checker_units.l0 ⟨M, ok1⟩) M.units.length (fun i w => w.1 = (i : Int) ∧ w.2.1 = (M.units.map (·.name)).take i ∧ w.2.2.machine = M ∧ (w.2.2.ok = true ↔ ok1 = true ∧ NamesP [] (M.units.map (·.name)) i ∧ ∀ u ∈ M.units.take i, 1 ≤ u.count ∧ u.count ≤ 4)) _ ⟨rfl, by simp, rfl, by simp [NamesP.zero]⟩ (fun i w hi ⟨h1, h2, h3, h4⟩ => ?_) (fun w ⟨h1, h2, h3, h4⟩ => ?_)
    · obtain ⟨j, u, ⟨M', k⟩⟩ := w
      simp only at h1 h2 h3 h4
      subst h1 h3
      simp only [machine_checker_units.l0]
      obtain ⟨b, hb, hb2⟩ := fresh_eq ⟨u⟩ (M'.units[i].name) (by simp only [h2, List.length_take, List.length_map]; omega)
      have hnm : (M'.units.map (·.name))[i]'(by simpa using hi) = M'.units[i].name := by simp
      rw [if_pos (by simpa using hi), if_pos (inb hi)]
      simp only [nth_nat _ hi, hb, within_eq, Option.bind_some, must2]
      have hu : u ++ [M'.units[i].name] = (M'.units.map (·.name)).take (i + 1) := by
        rw [take_snoc (by simpa using hi), h2, hnm]
      rw [NamesP.succ (by simpa using hi), take_all hi, hnm]
      have hb3 : b = true ↔ nameB M'.units[i].name = true ∧ M'.units[i].name ∉ [] ++ (M'.units.map (·.name)).take i := by rw [hb2, ← h2, List.nil_append]
      refine .inl ⟨_, rfl, wrap_succ (by omega), hu, rfl, ?_⟩
      simp only [Bool.and_eq_true, decide_eq_true_eq, h4, hb3]
      constructor
      · rintro ⟨⟨a1, a2, a3⟩, a4, a5⟩; exact ⟨a1, ⟨a2, a4⟩, a3, a5⟩
      · rintro ⟨a1, ⟨a2, a4⟩, a3, a5⟩; exact ⟨⟨a1, a2, a3⟩, a4, a5⟩
    · obtain ⟨j, u, ⟨M', k⟩⟩ := w
      simp only at h1 h2 h3 h4
      subst h1 h3
      simp only [machine_checker_units.l0]
      rw [if_neg (by simp)]
      exact ⟨_, rfl, rfl, by simpa using h4⟩
  obtain ⟨r, h1, h2, h3⟩ := key
  refine ⟨r, h1, h2, h3.trans ?_⟩
  subst hok1
  simp [UnitsP, and_assoc]
end Go.Proofs.YtpjkepfplhllfaaDoor.Av
