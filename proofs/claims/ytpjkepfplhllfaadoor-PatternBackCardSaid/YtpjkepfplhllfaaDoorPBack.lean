/-
PatternBack in plain words: filling and matching undo each other.
-/
import Derived.Test.YtpjkepfplhllfaaDoorL15
import Derived.Test.YtpjkepfplhllfaaDoorL10
namespace Go.Proofs.YtpjkepfplhllfaaDoor.Av
set_option linter.unusedSimpArgs false
set_option linter.unusedVariables false
open Go
theorem GreatArgs_eq {l : List TPatternArg} (hw : ∀ a ∈ l, a.term.wf) : ∃ b, retargetref24_GreatArgs l = some b ∧ (b = false → l.length ≤ 8 ∧ ∀ a ∈ l, a.term.nodes.length ≤ 500) := by
  unfold retargetref24_GreatArgs
  by_cases hl : l.length ≤ 8
  · refine fx_for (step := retargetref24_GreatArgs.l0 l) l.length (fun i w => w = (i : Int) ∧ ∀ a ∈ l.take i, a.term.nodes.length ≤ 500) _ ⟨rfl, by simp⟩ (fun i w hi ⟨w1, w2⟩ => ?_) (fun w ⟨w1, w2⟩ => ?_)
    · subst w1
      simp only [retargetref24_GreatArgs.l0]
      obtain ⟨b, b1, b2⟩ := Great_term (hw _ (List.getElem_mem hi))
      rw [if_pos (by simp; omega), if_pos (inb hi), nth_nat _ hi, b1, Option.bind_some]
      cases b with
      | true => rw [if_pos rfl]; exact .inr ⟨_, rfl, fun h => by cases h⟩
      | false =>
        rw [if_neg (by simp)]
        exact .inl ⟨_, rfl, wrap_succ (by omega), by rw [take_all hi]; exact ⟨w2, b2 rfl⟩⟩
    · subst w1
      simp only [retargetref24_GreatArgs.l0]
      rw [if_neg (by simp)]
      rw [List.take_length] at w2
      exact ⟨_, rfl, fun _ => ⟨hl, w2⟩⟩
  · refine fx_for (step := retargetref24_GreatArgs.l0 l) 9 (fun i w => w = (i : Int)) _ rfl (fun i w hi w1 => ?_) (fun w w1 => ?_)
    · subst w1
      simp only [retargetref24_GreatArgs.l0]
      have hil : i < l.length := by omega
      obtain ⟨b, b1, b2⟩ := Great_term (hw _ (List.getElem_mem hil))
      rw [if_pos (by simp; omega), if_pos (inb hil), nth_nat _ hil, b1, Option.bind_some]
      cases b with
      | true => rw [if_pos rfl]; exact .inr ⟨_, rfl, fun h => by cases h⟩
      | false =>
        rw [if_neg (by simp)]
        exact .inl ⟨_, rfl, wrap_succ (by omega)⟩
    · subst w1
      simp only [retargetref24_GreatArgs.l0]
      rw [if_neg (by simp)]
      refine ⟨_, rfl, fun h => ?_⟩
      simp at h; omega
theorem SameArgs_self {l : List TPatternArg} (hn : l.length ≤ 1000) (hl : ∀ a ∈ l, a.term.nodes.length ≤ 100000) : retargetref24_SameArgs l l = some true := by
  unfold retargetref24_SameArgs
  rw [if_neg (by simp)]
  have key : ∃ r, Fx.fx (retargetref24_SameArgs.l0 l l) 0 = some r ∧ r = true := by
    refine fx_for (step := retargetref24_SameArgs.l0 l l) l.length (fun i w => w = (i : Int)) _ rfl (fun i w hi w1 => ?_) (fun w w1 => ?_)
    · subst w1
      simp only [retargetref24_SameArgs.l0]
      obtain ⟨b, b1, b2⟩ := SameR_eq (a := l[i].term) (b := l[i].term) (by have := hl _ (List.getElem_mem hi); omega)
      have hb : b = true := b2.2 rfl
      rw [if_pos (by simpa using hi), if_pos (inb hi), if_pos (inb hi), nth_nat _ hi]
      simp only [decide_true, forall_const, if_true]
      rw [if_pos (inb hi), if_pos (inb hi), b1, Option.bind_some, hb, if_neg (by simp)]
      exact .inl ⟨_, rfl, wrap_succ (by omega)⟩
    · subst w1
      simp only [retargetref24_SameArgs.l0]
      rw [if_neg (by simp)]
      exact ⟨_, rfl, rfl⟩
  obtain ⟨r, h1, h2⟩ := key
  rw [h1, h2]
/-- The second half: a filled pattern matches with the same arguments. -/
theorem back_two {m : TMachine} (hwm : m.wf) (hg : NotGreat m) (i : Int) {args : List TPatternArg} (hw : ∀ a ∈ args, a.term.wf) (hl : ∀ a ∈ args, a.term.nodes.length ≤ 500) (hn : args.length ≤ 8) : retargetlaw24_PatternBack.j0 m i args true = some true := by
  unfold retargetlaw24_PatternBack.j0
  obtain ⟨u, f, h1, h2, _⟩ := Fill_spec (lenOK hwm) (termsOK hwm hg) hw (fun a ha => by have := hl a ha; omega) i
  rw [h1, Option.bind_some]
  by_cases hf : f = 0
  · obtain ⟨p, l, σ, hA, k1, k2, k3, k4, k5, k6⟩ := h2 hf
    rw [if_neg (by simpa using hf)]
    obtain ⟨a, e, m1, _, m2⟩ := Match_spec (lenOK hwm) (termsOK hwm hg) k6 (by have := k5.1.1; omega) i
    obtain ⟨m3, m4⟩ := m2 p l σ hA k5 k4.symm k2
    rw [m1, Option.bind_some, m3, m4, ← k1]
    simp only [decide_true, Bool.and_self, if_true]
    rw [SameArgs_self (by omega) (fun a ha => by have := hl a ha; omega), Option.bind_some]
    rfl
  · rw [if_pos (by simpa using hf)]
theorem pure_PatternBack (m : TMachine) (hwm : m.wf) (i : Int) (_ : inK .i64 i) (t : TTerm) (hwt : t.wf) (args : List TPatternArg) (hwa : args.length ≤ maxLen ∧ ∀ a ∈ args, a.wf) : retargetlaw24_PatternBack m i t args = some true := by
  unfold retargetlaw24_PatternBack
  obtain ⟨g1, e1, f1⟩ := Great_machine hwm
  obtain ⟨g2, e2, f2⟩ := Great_term hwt
  have hw : ∀ a ∈ args, a.term.wf := fun a ha => (hwa.2 a ha).2.1
  obtain ⟨g3, e3, f3⟩ := GreatArgs_eq hw
  simp only [retargetlaw24_alive1, e1, Option.bind_some]
  cases g1 with
  | true => simp
  | false =>
    simp only [Bool.not_false, if_true, Bool.false_or]
    rw [e2, Option.bind_some]
    cases g2 with
    | true => simp
    | false =>
      simp only [Bool.not_false, if_true, Bool.false_or]
      rw [e3, Option.bind_some]
      cases g3 with
      | true => simp
      | false =>
        have hg := f1 rfl
        have ht := f2 rfl
        obtain ⟨hn, hl⟩ := f3 rfl
        have L := lenOK hwm
        have T := termsOK hwm hg
        rw [if_neg (by simp)]
        obtain ⟨a, e, m1, m2, _⟩ := Match_spec L T hwt (by omega) i
        rw [m1, Option.bind_some]
        have h2 := back_two hwm hg i hw hl hn
        by_cases he : e = 0
        · rw [if_pos (by simpa using he)]
          obtain ⟨p, l, σ, hA, k1, k2, k3, k4⟩ := m2 he
          have hv : ∀ n, varB n p.term = true → σ n ∈ t.nodes := fun n hn => by
            rw [← k2]; exact inst_sub hA.term.2.1 hn
          have hin : ∀ b ∈ a, b.term ∈ t.nodes := fun b hb => by
            rw [k4] at hb
            simp only [argsOf, List.mem_map] at hb
            obtain ⟨k, hk, rfl⟩ := hb
            obtain ⟨j, j1, j2, j3⟩ := mem_inputs.1 hk
            subst j2
            exact hv _ j3
          obtain ⟨u, f, q1, _, q2⟩ := Fill_spec L T (fun b hb => wf_nodes hwt _ (hin b hb)) (fun b hb => by have := nodes_le (hin b hb); omega) i
          obtain ⟨q3, q4⟩ := q2 p l σ hA k4 k3 (fun n hn => TermP.node k1 _ (hv n hn)) (by rw [k2]; exact k1)
          rw [q1, Option.bind_some, q3, q4, k2]
          obtain ⟨b, b1, b2⟩ := SameR_eq (a := t) (b := t) (by omega)
          simp only [decide_true, if_true]
          rw [b1, Option.bind_some, b2.2 rfl, if_neg (by simp)]
          exact h2
        · rw [if_neg (by simpa using he)]
          exact h2
end Go.Proofs.YtpjkepfplhllfaaDoor.Av
