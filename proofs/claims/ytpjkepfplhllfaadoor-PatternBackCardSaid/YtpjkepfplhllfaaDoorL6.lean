/-
Plain words about operands and effects of a machine's instructions.
-/
import Derived.Test.YtpjkepfplhllfaaDoorL5
namespace Go.Proofs.YtpjkepfplhllfaaDoor.Av
set_option linter.unusedSimpArgs false
set_option linter.unusedVariables false
open Go
def WideOK (m : TMachine) (o : TMachOperand) : Prop := o.kind = 1 → (0 ≤ o.bank ∧ o.bank < (m.banks.length : Int)) ∧ 0 < (nth m.banks o.bank).regs.length ∧ 0 ≤ nth (nth m.banks o.bank).regs 0 ∧ nth (nth m.banks o.bank).regs 0 < (m.regs.length : Int)
def wideV (m : TMachine) (o : TMachOperand) : Int := if o.kind = 1 then (nth m.regs (nth (nth m.banks o.bank).regs 0)).width else m.address
theorem wide_eq {m : TMachine} {o : TMachOperand} (h : WideOK m o) : machine_wide m o = some (wideV m o) := by
  unfold machine_wide wideV
  by_cases hk : o.kind = 1
  · obtain ⟨h1, h2, h3, h4⟩ := h hk
    rw [if_neg (by simpa using hk), if_pos h1, if_pos (by omega), if_pos ⟨h3, h4⟩, if_pos hk]
  · rw [if_pos (by simpa using hk), if_neg hk]
/-- The variables of an instruction. -/
def varsR (m : TMachine) (l : List TMachReg) : List (List UInt8 × Int) := l.foldl (fun M r => aput M ([114, 46] ++ r.name) r.width) (aput [] [112, 99] m.address)
def varsOf (m : TMachine) (l : List TMachOperand) : List (List UInt8 × Int) := l.foldl (fun M o => aput M o.name (wideV m o)) (varsR m m.regs)
theorem variables_eq {c : TMachineChecker} {s : TMachInstr} (h : ∀ o ∈ s.operands, WideOK c.machine o) (hn : ∀ r ∈ c.machine.regs, r.name.length ≤ 1000) (hr : c.machine.regs.length ≤ 1000) (ho : s.operands.length ≤ 1000) :
    machine_checker_variables c s = some (c, varsOf c.machine s.operands) := by
  unfold machine_checker_variables
  have key : ∃ r, Fx.fx (machine_checker_variables.l0 c s) (0, (aput [] [112, 99] c.machine.address)) = some r ∧ r = (c, varsOf c.machine s.operands) := by
    refine fx_for (step := machine_checker_variables.l0 c s) c.machine.regs.length (fun i w => w = ((i : Int), varsR c.machine (c.machine.regs.take i))) _ rfl (fun i w hi hw => ?_) (fun w hw => ?_)
    · subst hw
      simp only [machine_checker_variables.l0]
      have := hn _ (List.getElem_mem hi)
      rw [if_pos (by simpa using hi), if_pos (inb hi), nth_nat _ hi, if_pos (by simp only [List.length_cons, List.length_nil]; omega)]
      refine .inl ⟨_, rfl, ?_⟩
      rw [wrap_succ (by omega), take_snoc hi]
      simp only [varsR, List.foldl_append, List.foldl_cons, List.foldl_nil]
    · subst hw
      simp only [machine_checker_variables.l0]
      rw [if_neg (by simp)]
      have inner : ∃ r, Fx.fx (machine_checker_variables.l1 c s) (0, varsR c.machine (c.machine.regs.take c.machine.regs.length)) = some r ∧ r = (c, varsOf c.machine s.operands) := by
        refine fx_for (step := machine_checker_variables.l1 c s) s.operands.length (fun i w => w = ((i : Int), varsOf c.machine (s.operands.take i))) _ (by simp [varsOf]) (fun i w hi hw => ?_) (fun w hw => ?_)
        · subst hw
          simp only [machine_checker_variables.l1]
          rw [if_pos (by simpa using hi), if_pos (inb hi), nth_nat _ hi, wide_eq (h _ (List.getElem_mem hi))]
          refine .inl ⟨_, rfl, ?_⟩
          rw [wrap_succ (by omega), take_snoc hi]
          simp only [varsOf, List.foldl_append, List.foldl_cons, List.foldl_nil]
        · subst hw
          simp only [machine_checker_variables.l1]
          rw [if_neg (by simp)]
          exact ⟨_, rfl, by rw [List.take_length]⟩
      obtain ⟨r, h1, h2⟩ := inner
      rw [h1]
      exact ⟨_, rfl, h2⟩
  obtain ⟨r, h1, h2⟩ := key
  rw [h1, h2]
noncomputable def maskV (w : Int) : Int := (bits_Mask w).getD 0
theorem Mask_eq (w : Int) : bits_Mask w = some (maskV w) := by
  obtain ⟨x, h⟩ := Mask_some w
  simp [maskV, h]
noncomputable def fieldV (o : TMachOperand) : Int := (machine_field o).getD 0
theorem field_val {o : TMachOperand} (hl : o.pieces.length ≤ maxLen) : machine_field o = some (fieldV o) := by
  obtain ⟨x, h⟩ := field_eq o hl
  simp [fieldV, h]
noncomputable def bitsOf (p : TMachPiece) : Int := ishl .u64 (maskV p.len) p.at_
noncomputable def takenOf (l : List TMachPiece) (t : Int) : Int := l.foldl (fun t p => ior .u64 t (bitsOf p)) t
def pieceP (word : Int) (p : TMachPiece) (t : Int) : Prop := (1 ≤ p.len ∧ p.len ≤ IntKind.i64.wrap (8 * word)) ∧ 0 ≤ p.at_ ∧ p.at_ ≤ IntKind.i64.wrap (IntKind.i64.wrap (8 * word) - p.len) ∧ iand .u64 t (bitsOf p) = 0
/-- The first pieces are valid. -/
def PiecesUpto (word : Int) (l : List TMachPiece) (i : Nat) : Prop := ∀ j (h : j < l.length), j < i → pieceP word l[j] (takenOf (l.take j) 0)
theorem PiecesUpto.succ {word : Int} {l : List TMachPiece} {i : Nat} (h : i < l.length) : PiecesUpto word l (i + 1) ↔ PiecesUpto word l i ∧ pieceP word l[i] (takenOf (l.take i) 0) := by
  constructor
  · exact fun hh => ⟨fun j hj hji => hh j hj (by omega), hh i h (by omega)⟩
  · rintro ⟨h1, h2⟩ j hj hji
    by_cases e : j = i
    · subst e; exact h2
    · exact h1 j hj (by omega)
/-- What an operand's kind asks for. -/
def KindP (m : TMachine) (s : TMachInstr) (i : Nat) (o : TMachOperand) : Prop :=
  (o.kind = 1 ∧ (0 ≤ o.bank ∧ o.bank < (m.banks.length : Int)) ∧ o.scale = 0 ∧
    ((o.tied = -1 ∧ 0 < fieldV o ∧ (6 < fieldV o ∨ ((nth m.banks o.bank).regs.length : Int) ≤ ishl .i64 1 (fieldV o))) ∨
     (o.tied ≠ -1 ∧ (0 ≤ o.tied ∧ o.tied < (i : Int)) ∧ o.pieces.length = 0 ∧ (nth s.operands o.tied).kind = 1 ∧ (nth s.operands o.tied).bank = o.bank ∧ (nth s.operands o.tied).tied = -1))) ∨
  ((o.kind = 2 ∨ o.kind = 3 ∨ o.kind = 4) ∧ o.bank = 0 ∧ o.tied = -1 ∧ (0 ≤ o.scale ∧ o.scale ≤ 3) ∧ 0 < fieldV o ∧ IntKind.i64.wrap (fieldV o + o.scale) ≤ m.address)
theorem field_pos {o : TMachOperand} {word : Int} (hw : 1 ≤ word ∧ word ≤ 4) (hl : o.pieces.length ≤ 4) (hp : PiecesUpto word o.pieces o.pieces.length) : 0 ≤ fieldV o ∧ fieldV o ≤ 128 := by
  have key : ∃ r, machine_field o = some r ∧ 0 ≤ r ∧ r ≤ 128 := by
    unfold machine_field
    refine fx_for (step := machine_field.l0 o) (v0 := (0, 0)) o.pieces.length (fun i w => w.2 = (i : Int) ∧ 0 ≤ w.1 ∧ w.1 ≤ 32 * (i : Int)) _ ⟨rfl, by simp⟩ (fun i w hi ⟨h1, h2, h3⟩ => ?_) (fun w ⟨h1, h2, h3⟩ => ?_)
    · obtain ⟨a, b⟩ := w
      simp only at h1 h2 h3
      subst h1
      simp only [machine_field.l0]
      have h8 : IntKind.i64.wrap (8 * word) = 8 * word := wrap_i64 (by omega) (by omega)
      have := (hp i hi hi).1
      rw [h8] at this
      rw [if_pos (by simpa using hi), if_pos (inb hi), nth_nat _ hi, wrap_i64 (by omega) (by omega)]
      exact .inl ⟨_, rfl, wrap_succ (by omega), by simp only; omega, by simp only; omega⟩
    · obtain ⟨a, b⟩ := w
      simp only at h1 h2 h3
      subst h1
      simp only [machine_field.l0]
      rw [if_neg (by simp)]
      exact ⟨_, rfl, h2, by show a ≤ 128; omega⟩
  obtain ⟨r, h1, h2⟩ := key
  simp only [fieldV, h1, Option.getD_some]
  exact h2
theorem operand_eq {c : TMachineChecker} {s : TMachInstr} {i : Nat} (hi : i < s.operands.length) (ho : s.operands.length ≤ 1000) (hb : c.machine.banks.length ≤ 1000) (hbl : ∀ b ∈ c.machine.banks, b.regs.length ≤ 1000) (hl : s.operands[i].pieces.length ≤ 4) (hw : c.ok = true → 1 ≤ c.machine.word ∧ c.machine.word ≤ 4) :
    ∃ c' n, machine_checker_operand c s (i : Int) = some (c', n) ∧ c'.machine = c.machine ∧ (c'.ok = true ↔ c.ok = true ∧ PiecesUpto c.machine.word s.operands[i].pieces s.operands[i].pieces.length ∧ KindP c.machine s i s.operands[i]) ∧ (c'.ok = true → n = takenOf s.operands[i].pieces 0) := by
  obtain ⟨M, ok⟩ := c
  simp only at hb hbl hw ⊢
  unfold machine_checker_operand
  rw [if_pos (inb hi)]
  have key : ∃ r, Fx.fx (machine_checker_operand.l0 s (i : Int)) (0, 0, ⟨M, ok⟩) = some r ∧ r.1.machine = M ∧ (r.1.ok = true ↔ ok = true ∧ PiecesUpto M.word s.operands[i].pieces s.operands[i].pieces.length ∧ KindP M s i s.operands[i]) ∧ (r.1.ok = true → r.2 = takenOf s.operands[i].pieces 0) := by
    refine fx_for (step := machine_checker_operand.l0 s (i : Int)) s.operands[i].pieces.length (fun q w => w.1 = takenOf (s.operands[i].pieces.take q) 0 ∧ w.2.1 = (q : Int) ∧ w.2.2.machine = M ∧ (w.2.2.ok = true ↔ ok = true ∧ PiecesUpto M.word s.operands[i].pieces q)) _ ⟨by simp [takenOf], rfl, rfl, by simp [PiecesUpto]⟩ (fun q w hq ⟨w1, w2, w3, w4⟩ => ?_) (fun w ⟨w1, w2, w3, w4⟩ => ?_)
    · obtain ⟨t, j, ⟨M', k⟩⟩ := w
      simp only at w1 w2 w3 w4
      subst w2 w3
      simp only [machine_checker_operand.l0, nth_nat _ hi]
      rw [if_pos (by simpa using hq), if_pos (inb hq)]
      simp only [nth_nat _ hq, within_eq, Option.bind_some, must1, must3, Mask_eq]
      generalize hp : s.operands[i].pieces[q] = p at *
      by_cases hok : (k && ((decide (1 ≤ p.len) && decide (p.len ≤ IntKind.i64.wrap (8 * M'.word))) && (decide (0 ≤ p.at_) && decide (p.at_ ≤ IntKind.i64.wrap (IntKind.i64.wrap (8 * M'.word) - p.len))))) = true
      · rw [if_neg (by rw [hok]; decide)]
        have hok2 := hok
        simp only [Bool.and_eq_true, decide_eq_true_eq] at hok2
        obtain ⟨k1, ⟨k2, k3⟩, k4, k5⟩ := hok2
        rw [if_pos k4]
        refine .inl ⟨_, rfl, ?_, wrap_succ (by omega), rfl, ?_⟩
        · rw [take_snoc hq, hp]
          simp only [takenOf, List.foldl_append, List.foldl_cons, List.foldl_nil, w1, bitsOf]
        · rw [PiecesUpto.succ hq, hp, hok]
          simp only [Bool.true_and, decide_eq_true_eq, pieceP, w1, bitsOf]
          have := w4.1 k1
          constructor
          · exact fun e => ⟨this.1, this.2, ⟨k2, k3⟩, k4, k5, e⟩
          · rintro ⟨_, _, _, _, _, e⟩; exact e
      · rw [if_pos (by rw [Bool.not_eq_true']; exact Bool.eq_false_iff.2 hok)]
        refine .inr ⟨_, rfl, rfl, ⟨fun h => absurd h hok, ?_⟩, fun h => absurd h hok⟩
        rintro ⟨e1, e2, _⟩
        exfalso
        apply hok
        have h2 := e2 q hq (by omega)
        rw [hp] at h2
        have h3 : k = true := w4.2 ⟨e1, fun j hj hjq => e2 j hj (by omega)⟩
        simp only [Bool.and_eq_true, decide_eq_true_eq]
        exact ⟨h3, h2.1, h2.2.1, h2.2.2.1⟩
    · obtain ⟨t, j, ⟨M', k⟩⟩ := w
      simp only at w1 w2 w3 w4
      subst w2 w3
      rw [List.take_length] at w1
      simp only [machine_checker_operand.l0, machine_checker_operand.j0, machine_checker_operand.j1, nth_nat _ hi]
      rw [if_neg (by simp)]
      generalize hP : PiecesUpto M'.word s.operands[i].pieces s.operands[i].pieces.length = PP at *
      have hfp : k = true → 0 ≤ fieldV s.operands[i] ∧ fieldV s.operands[i] ≤ 128 := fun hk => field_pos (hw (w4.1 hk).1) hl (by rw [hP]; exact (w4.1 hk).2)
      have hfv := field_val (o := s.operands[i]) (by rw [maxLen_eq]; omega)
      have hop := hi
      generalize s.operands[i] = o at *
      have hw1 : IntKind.i64.wrap ((M'.banks.length : Int) - 1) = (M'.banks.length : Int) - 1 := wrap_i64 (by omega) (by omega)
      have hw2 : IntKind.i64.wrap ((i : Int) - 1) = (i : Int) - 1 := wrap_i64 (by omega) (by omega)
      simp only [hfv, within_eq, Option.bind_some, must1, must2, must3, must5, hw1, hw2]
      have fin : ∀ (q : Bool) (n : Int), n = t → (q = true ↔ k = true ∧ KindP M' s i o) → ∃ r, Option.map Sum.inr (some ((⟨M', q⟩ : TMachineChecker), n)) = some (Sum.inr (α := Int × Int × TMachineChecker) r) ∧ r.1.machine = M' ∧ (r.1.ok = true ↔ ok = true ∧ PP ∧ KindP M' s i o) ∧ (r.1.ok = true → r.2 = takenOf o.pieces 0) := fun q n hn hq => by
        subst hn
        refine ⟨_, rfl, rfl, ?_, fun _ => w1⟩
        rw [hq, w4, and_assoc]
      have fin0 : ∀ (q : Bool) (n : Int), q = false → ¬ (k = true ∧ KindP M' s i o) → ∃ r, Option.map Sum.inr (some ((⟨M', q⟩ : TMachineChecker), n)) = some (Sum.inr (α := Int × Int × TMachineChecker) r) ∧ r.1.machine = M' ∧ (r.1.ok = true ↔ ok = true ∧ PP ∧ KindP M' s i o) ∧ (r.1.ok = true → r.2 = takenOf o.pieces 0) := fun q n hq hn => by
        subst hq
        refine ⟨_, rfl, rfl, ⟨fun e => by simp at e, fun e => absurd ⟨w4.2 ⟨e.1, e.2.1⟩, e.2.2⟩ hn⟩, fun e => by simp at e⟩
      by_cases hk1 : o.kind = 1
      · rw [if_pos (by simpa using hk1)]
        have hk2 : ¬ (o.kind = 2 ∨ o.kind = 3 ∨ o.kind = 4) := by omega
        by_cases hok : (k && ((decide (0 ≤ o.bank) && decide (o.bank ≤ (M'.banks.length : Int) - 1)) && decide (o.scale = 0))) = true
        · rw [if_neg (by rw [hok]; decide)]
          have hok2 := hok
          simp only [Bool.and_eq_true, decide_eq_true_eq] at hok2
          obtain ⟨k1, ⟨k2, k3⟩, k4⟩ := hok2
          have hf := hfp k1
          by_cases ht : o.tied = -1
          · rw [if_pos (by simpa using ht), if_pos (fun _ => by omega), if_pos (fun _ => hf.1), hok]
            refine fin _ _ rfl ?_
            simp only [Bool.true_and, Bool.and_eq_true, Bool.or_eq_true, decide_eq_true_eq, KindP, hk1, hk2, k4, ht]
            constructor
            · rintro ⟨a, b⟩; exact ⟨k1, .inl ⟨trivial, ⟨k2, by omega⟩, trivial, .inl ⟨trivial, a, b⟩⟩⟩
            · rintro ⟨_, ⟨_, _, _, ⟨_, a, b⟩ | ⟨a, _⟩⟩ | ⟨a, _⟩⟩
              · exact ⟨a, b⟩
              · exact absurd rfl a
              · exact absurd a (by decide)
          · rw [if_neg (by simpa using ht), hok]
            by_cases hok3 : ((decide (0 ≤ o.tied) && decide (o.tied ≤ (i : Int) - 1)) && decide ((o.pieces.length : Int) = 0)) = true
            · rw [if_pos (by rw [hok3]; rfl)]
              have hok4 := hok3
              simp only [Bool.and_eq_true, decide_eq_true_eq] at hok4
              obtain ⟨⟨g1, g2⟩, g3⟩ := hok4
              rw [if_pos (by omega), hok3]
              refine fin _ _ rfl ?_
              simp only [Bool.true_and, Bool.and_eq_true, decide_eq_true_eq, KindP, hk1, hk2, k4, ht]
              constructor
              · rintro ⟨a, b, d⟩; exact ⟨k1, .inl ⟨trivial, ⟨k2, by omega⟩, trivial, .inr ⟨ht, ⟨g1, by omega⟩, by omega, a, b, d⟩⟩⟩
              · rintro ⟨_, ⟨_, _, _, ⟨a, _⟩ | ⟨_, _, _, a, b, d⟩⟩ | ⟨a, _⟩⟩
                · exact a.elim
                · exact ⟨a, b, d⟩
                · exact absurd a (by decide)
            · rw [if_neg (by rw [Bool.true_and]; exact hok3), Bool.true_and]
              refine fin0 _ _ (Bool.eq_false_iff.2 hok3) ?_
              rintro ⟨_, ⟨_, _, _, ⟨a, _⟩ | ⟨_, a, b, _⟩⟩ | ⟨a, _⟩⟩
              · exact ht a
              · apply hok3; simp only [Bool.and_eq_true, decide_eq_true_eq]; omega
              · exact hk2 a
        · rw [if_pos (by rw [Bool.not_eq_true']; exact Bool.eq_false_iff.2 hok)]
          refine fin0 _ _ (Bool.eq_false_iff.2 hok) ?_
          rintro ⟨k1, ⟨_, a, b, _⟩ | ⟨a, _⟩⟩
          · apply hok; simp only [Bool.and_eq_true, decide_eq_true_eq]; exact ⟨k1, by omega, b⟩
          · exact hk2 a
      · rw [if_neg (by simpa using hk1)]
        have other : ∀ b : Bool, (b = true ↔ (o.kind = 2 ∨ o.kind = 3 ∨ o.kind = 4)) → ∃ r, Option.map Sum.inr (if b = true then some ((⟨M', k && (decide (o.bank = 0) && (decide (o.tied = -1) && ((decide (0 ≤ o.scale) && decide (o.scale ≤ 3)) && (decide (0 < fieldV o) && decide (IntKind.i64.wrap (fieldV o + o.scale) ≤ M'.address)))))⟩ : TMachineChecker), t) else some ((⟨M', k && false⟩ : TMachineChecker), t)) = some (Sum.inr (α := Int × Int × TMachineChecker) r) ∧ r.1.machine = M' ∧ (r.1.ok = true ↔ ok = true ∧ PP ∧ KindP M' s i o) ∧ (r.1.ok = true → r.2 = takenOf o.pieces 0) := fun b hbk => by
          cases b with
          | true =>
            rw [if_pos rfl]
            refine fin _ _ rfl ?_
            simp only [Bool.and_eq_true, decide_eq_true_eq, KindP, hk1, hbk.1 rfl, false_and, false_or, true_and]
          | false =>
            rw [if_neg (by simp)]
            refine fin0 _ _ (by simp) ?_
            rintro ⟨_, ⟨a, _⟩ | ⟨a, _⟩⟩
            · exact hk1 a
            · have := hbk.2 a; cases this
        by_cases hk2 : o.kind = 2
        · rw [if_pos (by simpa using hk2)]
          exact other (decide (o.kind = 2)) (by simp [hk2])
        · rw [if_neg (by simpa using hk2)]
          by_cases hk3 : o.kind = 3
          · rw [if_pos (by simpa using hk3)]
            exact other (decide (o.kind = 3)) (by simp [hk3])
          · rw [if_neg (by simpa using hk3)]
            exact other (decide (o.kind = 4)) (by simp [hk2, hk3])
  obtain ⟨⟨c', n⟩, h1, h2, h3, h4⟩ := key
  exact ⟨c', n, h1, h2, h3, h4⟩
end Go.Proofs.YtpjkepfplhllfaaDoor.Av
