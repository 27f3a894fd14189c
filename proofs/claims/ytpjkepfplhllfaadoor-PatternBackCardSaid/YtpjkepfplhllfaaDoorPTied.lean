/-
Plain words: the patterns of a table are those of instructions of their own, in order; all operands but the result are inputs.
-/
import Derived.Test.YtpjkepfplhllfaaDoorL9
import Derived.Test.YtpjkepfplhllfaaDoorL10
import Derived.Test.YtpjkepfplhllfaaDoorFe
namespace Go.Proofs.YtpjkepfplhllfaaDoor.Av
set_option linter.unusedSimpArgs false
set_option linter.unusedVariables false
open Go
theorem lenOK {m : TMachine} (h : m.wf) : LenOK m := by
  obtain ⟨_, _, _, h1, h2, h3, h4, _⟩ := h
  exact ⟨h1.1, h2.1, h3.1, h4.1, fun b hb => (h2.2 b hb).2.1.1, fun s hs => ⟨(h4.2 s hs).2.2.2.1.1, (h4.2 s hs).2.2.2.2.1.1⟩, fun s hs o ho => ((h4.2 s hs).2.2.2.1.2 o ho).2.2.2.2.1.1⟩
theorem termsOK {m : TMachine} (h : m.wf) (hg : NotGreat m) : TermsOK m := by
  obtain ⟨_, _, _, h1, h2, h3, h4, _⟩ := h
  refine ⟨fun s hs x hx => ?_⟩
  have hw := (h4.2 s hs).2.2.2.2.1.2 x hx
  obtain ⟨g1, g2, g3⟩ := hg.eff s hs x hx
  exact ⟨⟨hw.2.2.2.1, by omega⟩, ⟨hw.2.2.2.2.1, by omega⟩, ⟨hw.2.2.2.2.2.1, by omega⟩⟩
theorem Inputs_eq {m : TMachine} (L : LenOK m) (ht : TermsOK m) (hs : SmallP m) (hv : ValidP m) {i : Nat} (hi : i < (tableV m).length) : pattern_Inputs m (i : Int) = some (inputsV (tableV m)[i].term (nth m.instrs (tableV m)[i].instr).operands, 0) := by
  obtain ⟨e, h1, h2, h3⟩ := at_eq L ht (i : Int)
  have he : e = 0 := h2.2 ⟨hs, hv⟩
  subst he
  unfold pattern_Inputs
  rw [h3, if_pos rfl, if_pos (inb hi), nth_nat _ hi]
  simp only [Option.bind_some]
  rw [if_neg (by simp)]
  obtain ⟨k, hk, e⟩ := mem_table (List.getElem_mem hi)
  have hV := instrV hs ht hv
  have hp := patV hV hk e
  have hf := hp.facts hV
  rw [hp.instr, nth_nat _ hk, inputs_eq (by have := (hV _ (List.getElem_mem hk)).ok.ops; omega) (by have := hf.2.2.2.2.2; omega)]
  rfl
theorem filter_take_len (f : Nat → Bool) (n : Nat) : ∀ k, k ≤ n → ((List.range n).filter f) = (List.range k).filter f ++ ((List.range' k (n - k)).filter f) := by
  intro k hk
  rw [← List.filter_append]
  congr 1
  have h := @List.range'_append_1 0 k (n - k)
  rw [Nat.zero_add] at h
  rw [List.range_eq_range', List.range_eq_range', h]
  congr 1
  omega
/-- The next input. -/
theorem next_input (f : Nat → Bool) {n k : Nat} (hk : k < n) : (f k = true → ∃ h : ((List.range k).filter f).length < ((List.range n).filter f).length, ((List.range n).filter f)[((List.range k).filter f).length] = k) ∧
    (f k = false → ∀ h : ((List.range k).filter f).length < ((List.range n).filter f).length, ((List.range n).filter f)[((List.range k).filter f).length] ≠ k) := by
  have e := filter_take_len f n k (by omega)
  have e2 : List.range' k (n - k) = k :: List.range' (k + 1) (n - k - 1) := by
    rw [show n - k = (n - k - 1) + 1 by omega, List.range'_succ]
    rfl
  constructor
  · intro hf
    rw [e2, List.filter_cons, if_pos hf] at e
    have hl : ((List.range k).filter f).length < ((List.range n).filter f).length := by rw [e]; simp
    refine ⟨hl, ?_⟩
    simp only [e]
    simp
  · intro hf hl
    rw [e2, List.filter_cons, if_neg (by simp [hf])] at e
    have : ((List.range n).filter f)[((List.range k).filter f).length] ∈ (List.range' (k + 1) (n - k - 1)).filter f := by
      simp only [e] at hl ⊢
      rw [List.getElem_append_right (Nat.le_refl _)]
      exact List.getElem_mem _
    intro hx
    rw [hx] at this
    have := (List.mem_filter.1 this).1
    rw [List.mem_range'_1] at this
    omega
theorem pure_PatternTied (m : TMachine) (hw : m.wf) : retargetlaw24_PatternTied m = some true := by
  unfold retargetlaw24_PatternTied
  obtain ⟨b, hb, hb2⟩ := Great_machine hw
  simp only [retargetlaw24_alive1, hb, Option.bind_some]
  cases b with
  | true => rfl
  | false =>
    rw [if_neg (by simp)]
    have hg := hb2 rfl
    have L := lenOK hw
    have ht := termsOK hw hg
    obtain ⟨e, h1, h2, h3⟩ := Table_eq L ht
    rw [h2, Option.bind_some]
    simp only [if_true, h1]
    by_cases h0 : e = 0
    · subst h0
      obtain ⟨hs, hv⟩ := h3.1 rfl
      have hV := instrV hs ht hv
      simp only [if_true]
      rw [if_neg (by simp)]
      have hlen : (tableV m).length ≤ m.instrs.length := tableFrom_len m.instrs 0
      have hsorted : (tableV m).Pairwise (fun a b => a.instr < b.instr) := (tableFrom_sorted m.instrs 0 hV).1
      have hi64 := hs.1.2.2.2
      suffices h : ∃ r, Fx.fx (retargetlaw24_PatternTied.l0 m true (tableV m, 0)) 0 = some r ∧ r = true by
        obtain ⟨r, r1, r2⟩ := h; rw [r1, r2]
      refine fx_for (step := retargetlaw24_PatternTied.l0 m true (tableV m, 0)) (tableV m).length (fun i w => w = (i : Int)) _ rfl (fun i w hi hw1 => ?_) (fun w hw1 => ?_)
      · subst hw1
        left
        simp only [retargetlaw24_PatternTied.l0]
        rw [if_pos (by simpa using hi), if_pos (inb hi)]
        simp only [nth_nat _ hi]
        obtain ⟨k, hk, e⟩ := mem_table (List.getElem_mem hi)
        have hp := patV hV hk e
        have hf := hp.facts hV
        have hin := Inputs_eq L ht hs hv hi
        generalize hpp : (tableV m)[i] = p at *
        have hwi : IntKind.i64.wrap ((i : Int) - 1) = (i : Int) - 1 := wrap_i64 (by omega) (by omega)
        have hprev : 0 < i → (nth (tableV m) ((i : Int) - 1)).instr < p.instr := fun h => by
          have e : (i : Int) - 1 = ((i - 1 : Nat) : Int) := by omega
          rw [e, nth_nat _ (show i - 1 < (tableV m).length by omega), ← hpp]
          exact List.pairwise_iff_getElem.1 hsorted (i - 1) i (by omega) hi (by omega)
        obtain ⟨e2, c1, c2⟩ := Check_eq hf.2.2.2.2.1 (by have := hf.2.2.2.2.2; omega)
        have he2 : e2 = 0 := c2.2 hf.2.2.2.1.1
        subst he2
        have g1 : (decide (p.instr < 0) || decide ((m.instrs.length : Int) ≤ p.instr)) = false := by
          simp only [Bool.or_eq_false_iff, decide_eq_false_iff_not]; rw [hp.instr]; omega
        have g2 : (decide (0 < (i : Int)) && decide (p.instr ≤ (nth (tableV m) (IntKind.i64.wrap ((i : Int) - 1))).instr)) = false := by
          rw [hwi]
          by_cases h : 0 < i
          · have := hprev h
            have h' : decide (p.instr ≤ (nth (tableV m) ((i : Int) - 1)).instr) = false := by simp only [decide_eq_false_iff_not]; omega
            rw [h', Bool.and_false]
          · have h' : decide (0 < (i : Int)) = false := by simp only [decide_eq_false_iff_not]; omega
            rw [h', Bool.false_and]
        rw [if_pos (by rw [hwi]; intro h; simp only [Bool.and_eq_true, decide_eq_true_eq] at h; omega), g1, g2, Bool.or_self, Bool.not_false, if_pos rfl, c1, Option.bind_some, if_neg (by simp), hin, Option.bind_some, if_pos (by rw [hp.instr]; omega)]
        rw [hp.instr, nth_nat _ hk]
        have hout := hp.out
        rw [if_pos (fun _ => ⟨hout, hf.1⟩)]
        obtain ⟨x, hx, x1, x2, x3, x4⟩ := hp.main
        have hso := (hV _ (List.getElem_mem hk)).ok
        have hel := hso.effs
        have hol := hso.ops
        rw [if_neg (by
          rw [wrap_i64 (by omega) (by omega)]
          simp only [Bool.or_eq_true, Bool.not_eq_true', decide_eq_true_eq, decide_eq_false_iff_not, not_or, Classical.not_not]
          exact ⟨⟨⟨⟨trivial, by omega⟩, by omega⟩, hf.2.1⟩, by omega⟩)]
        -- the operands
        have hkk : nth m.instrs p.instr = m.instrs[k] := by rw [hp.instr, nth_nat _ hk]
        have inner : ∃ r, Fx.fx (retargetlaw24_PatternTied.l1 m (tableV m, 0) (i : Int) (inputsV p.term m.instrs[k].operands, 0)) (0, 0) = some r ∧ r = .inl ((i + 1 : Nat) : Int) := by
          refine fx_for (step := retargetlaw24_PatternTied.l1 m (tableV m, 0) (i : Int) (inputsV p.term m.instrs[k].operands, 0)) m.instrs[k].operands.length (fun q w => w.2 = (q : Int) ∧ w.1 = (((List.range q).filter fun k' : Nat => varB (nth m.instrs[k].operands (k' : Int)).name p.term).length : Int)) _ ⟨rfl, rfl⟩ (fun q w hq ⟨w1, w2⟩ => ?_) (fun w ⟨w1, w2⟩ => ?_)
          · obtain ⟨at_, j⟩ := w
            simp only at w1 w2
            subst w1 w2
            left
            simp only [retargetlaw24_PatternTied.l1, retargetlaw24_PatternTied.j0, nth_nat _ hi, hpp, hkk]
            have hlq : ((List.range q).filter fun k' : Nat => varB (nth m.instrs[k].operands (k' : Int)).name p.term).length ≤ q := by
              have := List.length_filter_le (fun k' : Nat => varB (nth m.instrs[k].operands (k' : Int)).name p.term) (List.range q)
              rw [List.length_range] at this; exact this
            have hnext := next_input (fun k' : Nat => varB (nth m.instrs[k].operands (k' : Int)).name p.term) hq
            have hO := hp.oper.1 q hq
            rw [if_pos (by simpa using hq), if_pos (fun h => by simp only [decide_eq_true_eq] at h; omega)]
            have hsn := range_filter_snoc (fun k' : Nat => varB (nth m.instrs[k].operands (k' : Int)).name p.term) q
            generalize hF : ((List.range q).filter fun k' : Nat => varB (nth m.instrs[k].operands (k' : Int)).name p.term).length = a at *
            cases hvb : varB (nth m.instrs[k].operands (q : Int)).name p.term with
            | true =>
              obtain ⟨hl, hx⟩ := hnext.1 hvb
              have hl2 : a < (inputsV p.term m.instrs[k].operands).length := by simpa [inputsV] using hl
              have hx2 : nth (inputsV p.term m.instrs[k].operands) (a : Int) = (q : Int) := by
                rw [nth_nat _ hl2]; simp only [inputsV, List.getElem_map]; rw [hx]
              rw [if_pos (by simp only [Bool.and_eq_true, decide_eq_true_eq]; exact ⟨by omega, hx2⟩), if_pos (inb hq), nth_nat _ hq, if_neg (by simpa using hO.1)]
              refine ⟨_, rfl, wrap_succ (by omega), ?_⟩
              show IntKind.i64.wrap ((a : Int) + 1) = _
              rw [wrap_succ (by omega), hsn, if_pos hvb, List.length_append, hF]; rfl
            | false =>
              have hx := hnext.2 hvb
              rw [if_neg (by
                simp only [Bool.and_eq_true, decide_eq_true_eq, not_and]
                intro hl he
                have hl2 : a < (inputsV p.term m.instrs[k].operands).length := by omega
                rw [nth_nat _ hl2] at he
                simp only [inputsV, List.getElem_map] at he
                exact hx (by simpa [inputsV] using hl2) (by omega))]
              have hqo : (q : Int) = p.out := by
                by_cases h : (q : Int) = p.out
                · exact h
                · have := hO.2.2 h
                  rw [nth_nat _ hq] at hvb
                  rw [hvb] at this; cases this
              rw [if_neg (by simpa using hqo), if_pos (inb hq), nth_nat _ hq, if_neg (by simpa using hO.1)]
              refine ⟨_, rfl, wrap_succ (by omega), ?_⟩
              show (a : Int) = _
              rw [hsn, if_neg (by simp [hvb]), List.append_nil, hF]
          · obtain ⟨at_, j⟩ := w
            simp only at w1 w2
            subst w1 w2
            simp only [retargetlaw24_PatternTied.l1, nth_nat _ hi, hpp, hkk]
            rw [if_neg (by simp), if_neg (by simp [inputsV])]
            exact ⟨_, rfl, by rw [wrap_succ (by omega)]⟩
        obtain ⟨r, r1, r2⟩ := inner
        rw [r1, r2]
        exact ⟨_, rfl, rfl⟩
      · subst hw1
        simp only [retargetlaw24_PatternTied.l0]
        rw [if_neg (by simp)]
        exact ⟨_, rfl, rfl⟩
    · rw [if_neg h0]
      simp only [Option.bind_some]
      rw [if_pos (by simpa using h0)]
      simp
end Go.Proofs.YtpjkepfplhllfaaDoor.Av
