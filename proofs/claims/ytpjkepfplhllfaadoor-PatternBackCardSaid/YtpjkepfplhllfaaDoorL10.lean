/-
Plain words about what is too large for the statements.
-/
import Derived.Test.YtpjkepfplhllfaaDoorL5
import Derived.Test.YtpjkepfplhllfaaDoorFd
namespace Go.Proofs.YtpjkepfplhllfaaDoor.Av
set_option linter.unusedSimpArgs false
set_option linter.unusedVariables false
open Go
/-- Counting nodes as far as a limit goes. -/
theorem count_eq {t : TTerm} {limit deep : Int} (hL : 0 ≤ limit ∧ limit ≤ 1000000) (hD : 0 ≤ deep ∧ deep ≤ 1000000) :
    ∃ r, retargetref02_count t limit deep = some r ∧ (1 ≤ r.1 ∧ r.1 ≤ limit + 1) ∧ (r.2 = true → r.1 ≤ limit → r.1 = (t.nodes.length : Int)) := by
  unfold retargetref02_count
  refine itr_tells (G := fun self a => retargetref02_count.G self a.1 a.2.1 a.2.2) (fun a : TTerm × Int × Int => a.1.nodes.length) (fun a => (0 ≤ a.2.1 ∧ a.2.1 ≤ 1000000) ∧ (0 ≤ a.2.2 ∧ a.2.2 ≤ 1000000)) (fun a r => (1 ≤ r.1 ∧ r.1 ≤ a.2.1 + 1) ∧ (r.2 = true → r.1 ≤ a.2.1 → r.1 = (a.1.nodes.length : Int))) (fun self a ⟨aL, aD⟩ ih => ?_) (t.nodes.length + 1) (t, limit, deep) (Nat.lt_succ_self _) ⟨hL, hD⟩
  obtain ⟨t, limit, deep⟩ := a
  simp only at aL aD ih ⊢
  unfold retargetref02_count.G
  by_cases hd : deep = 0
  · rw [if_pos (by simpa using hd)]
    exact ⟨_, rfl, by simp; omega, by simp⟩
  · rw [if_neg (by simpa using hd)]
    refine fx_while (step := retargetref02_count.l0 t limit deep self) (fun w => t.sub.length - w.2.toNat) (fun w => ∃ i : Nat, w.2 = (i : Int) ∧ i ≤ t.sub.length ∧ (1 ≤ w.1 ∧ w.1 ≤ limit + 1) ∧ (w.1 ≤ limit → w.1 = 1 + ((TTerm.nodesL (t.sub.take i)).length : Int))) _ (fun w ⟨i, w1, w2, w3, w4⟩ => ?_) ⟨0, rfl, by omega, by simp; omega, by simp [TTerm.nodesL]⟩
    obtain ⟨n, j⟩ := w
    simp only at w1 w2 w3 w4
    subst w1
    simp only [retargetref02_count.l0]
    by_cases hc : i < t.sub.length ∧ n ≤ limit
    · obtain ⟨hi, hn⟩ := hc
      rw [if_pos (by simp; omega), if_pos (inb hi), nth_nat _ hi]
      have hs := List.getElem_mem hi
      rw [wrap_i64 (n := limit - n) (by omega) (by omega), wrap_i64 (n := deep - 1) (by omega) (by omega)]
      obtain ⟨r, hr, r1, r2⟩ := ih (t.sub[i], limit - n, deep - 1) (sub_lt hs) ⟨by show 0 ≤ limit - n ∧ limit - n ≤ 1000000; omega, by show 0 ≤ deep - 1 ∧ deep - 1 ≤ 1000000; omega⟩
      simp only at r1 r2
      rw [hr, Option.bind_some]
      cases hb : r.2 with
      | false =>
        rw [if_pos (by rfl)]
        exact .inr ⟨_, rfl, w3, by simp⟩
      | true =>
        rw [if_neg (by simp)]
        have hw : IntKind.i64.wrap (n + r.1) = n + r.1 := wrap_i64 (by omega) (by omega)
        have hil : i < 9223372036854775807 ∨ 9223372036854775807 ≤ i := by omega
        have hbig : (TTerm.nodesL (t.sub.take i)).length + 1 = n := by have := w4 hn; omega
        have hti : i ≤ (TTerm.nodesL (t.sub.take i)).length := by
          have := TTerm.nodesL_len (t.sub.take i)
          rw [List.length_take] at this; omega
        refine .inl ⟨_, rfl, ⟨i + 1, wrap_succ (by omega), hi, ?_, ?_⟩, ?_⟩
        · show 1 ≤ IntKind.i64.wrap (n + r.1) ∧ IntKind.i64.wrap (n + r.1) ≤ limit + 1
          rw [hw]; omega
        · show IntKind.i64.wrap (n + r.1) ≤ limit → IntKind.i64.wrap (n + r.1) = _
          rw [hw]
          intro hle
          have := r2 hb (by omega)
          rw [take_snoc hi, TTerm.nodesL_app]
          simp only [TTerm.nodesL, List.length_append, List.append_nil]
          omega
        · show t.sub.length - (IntKind.i64.wrap ((i : Int) + 1)).toNat < t.sub.length - (i : Int).toNat
          rw [wrap_succ (by omega)]; omega
    · rw [if_neg (by simp; omega)]
      refine .inr ⟨_, rfl, w3, fun _ hn => ?_⟩
      have hi : i = t.sub.length := by
        by_cases h : i < t.sub.length
        · exact absurd ⟨h, hn⟩ hc
        · omega
      have hn' : n ≤ limit := hn
      have := w4 hn'
      rw [hi, List.take_length] at this
      rw [t.nodes_eq]
      simp only [List.length_cons]; omega
theorem long_some {t : TTerm} (hw : t.wf) : ∃ b, retargetref02_long t = some b := by
  unfold retargetref02_long
  refine (itr_tells (G := fun self a => retargetref02_long.G self a) (fun t : TTerm => t.nodes.length) (fun t => t.wf) (fun _ _ => True) (fun self a ha ih => ?_) (t.nodes.length + 1) t (Nat.lt_succ_self _) hw).imp fun r h => h.1
  unfold retargetref02_long.G
  have hs := ((TTerm.wf_iff a).1 ha).2.2.2.2.2.1
  rw [maxLen_eq] at hs
  refine fx_for (step := retargetref02_long.l0 a self) a.sub.length (fun i w => w = (i : Int)) _ rfl (fun i w hi hw => ?_) (fun w hw => ?_)
  · subst hw
    simp only [retargetref02_long.l0]
    obtain ⟨r, hr, _⟩ := ih _ (sub_lt (List.getElem_mem hi)) (hs.2 _ (List.getElem_mem hi))
    rw [if_pos (by simpa using hi), if_pos (inb hi), nth_nat _ hi, hr, Option.bind_some]
    split
    · exact .inr ⟨_, rfl, trivial⟩
    · exact .inl ⟨_, rfl, wrap_succ (by omega)⟩
  · subst hw
    simp only [retargetref02_long.l0]
    rw [if_neg (by simp)]
    exact ⟨_, rfl, trivial⟩
theorem Great_term {t : TTerm} (hw : t.wf) : ∃ b, retargetref02_Great t = some b ∧ (b = false → t.nodes.length ≤ 500) := by
  unfold retargetref02_Great
  obtain ⟨r, hr, h1, h2⟩ := count_eq (t := t) (limit := 500) (deep := 80) (by omega) (by omega)
  rw [hr, Option.bind_some]
  obtain ⟨b, hb⟩ := if_total (c := (!((!r.2) || (decide (500 < r.1))))) (long_some hw)
  rw [hb]
  refine ⟨_, rfl, fun h => ?_⟩
  simp only [Bool.or_eq_false_iff, Bool.not_eq_false', decide_eq_false_iff_not] at h
  have := h2 h.1.1 (by omega)
  omega
theorem Size_some {t : TTerm} (hw : t.wf) : ∃ n, retargetref02_Size t = some n := by
  unfold retargetref02_Size
  refine (itr_tells (G := fun self a => retargetref02_Size.G self a) (fun t : TTerm => t.nodes.length) (fun t => t.wf) (fun _ _ => True) (fun self a ha ih => ?_) (t.nodes.length + 1) t (Nat.lt_succ_self _) hw).imp fun r h => h.1
  unfold retargetref02_Size.G
  have hs := ((TTerm.wf_iff a).1 ha).2.2.2.2.2.1
  rw [maxLen_eq] at hs
  refine fx_for (step := retargetref02_Size.l0 a self) a.sub.length (fun i w => w.2 = (i : Int)) _ rfl (fun i w hi hw => ?_) (fun w hw => ?_)
  · obtain ⟨n, j⟩ := w
    simp only at hw
    subst hw
    simp only [retargetref02_Size.l0]
    obtain ⟨r, hr, _⟩ := ih _ (sub_lt (List.getElem_mem hi)) (hs.2 _ (List.getElem_mem hi))
    rw [if_pos (by simpa using hi), if_pos (inb hi), nth_nat _ hi, hr]
    exact .inl ⟨_, rfl, wrap_succ (by omega)⟩
  · obtain ⟨n, j⟩ := w
    simp only at hw
    subst hw
    simp only [retargetref02_Size.l0]
    rw [if_neg (by simp)]
    exact ⟨_, rfl, trivial⟩
theorem Nodes_some {m : TMachine} (hw : m.wf) : ∃ n, retargetref08_Nodes m = some n := by
  unfold retargetref08_Nodes
  have hi0 := hw.2.2.2.2.2.2.1
  rw [maxLen_eq] at hi0
  refine (fx_for (step := retargetref08_Nodes.l0 m) m.instrs.length (fun i w => w.2 = (i : Int)) (fun _ => True) rfl (fun i w hi hw1 => ?_) (fun w hw1 => ?_)).imp fun r h => h.1
  · obtain ⟨n, j⟩ := w
    simp only at hw1
    subst hw1
    simp only [retargetref08_Nodes.l0]
    rw [if_pos (by simpa using hi)]
    have hs := hi0.2 _ (List.getElem_mem hi)
    have he := hs.2.2.2.2.1
    rw [maxLen_eq] at he
    have inner : ∃ r, Fx.fx (retargetref08_Nodes.l1 m (i : Int)) (n, 0) = some r ∧ ∃ v', r = .inl v' ∧ v'.2 = ((i + 1 : Nat) : Int) := by
      refine fx_for (step := retargetref08_Nodes.l1 m (i : Int)) m.instrs[i].effects.length (fun q w => w.2 = (q : Int)) _ rfl (fun q w hq hw2 => ?_) (fun w hw2 => ?_)
      · obtain ⟨k, j⟩ := w
        simp only at hw2
        subst hw2
        simp only [retargetref08_Nodes.l1, nth_nat _ hi]
        have hx := he.2 _ (List.getElem_mem hq)
        obtain ⟨a1, ha1⟩ := Size_some hx.2.2.2.1
        obtain ⟨a2, ha2⟩ := Size_some hx.2.2.2.2.1
        obtain ⟨a3, ha3⟩ := Size_some hx.2.2.2.2.2.1
        rw [if_pos (inb hi), if_pos (by simpa using hq), if_pos (inb hi), if_pos (inb hq)]
        simp only [nth_nat _ hq, ha1, ha2, ha3, Option.bind_some]
        exact .inl ⟨_, rfl, wrap_succ (by omega)⟩
      · obtain ⟨k, j⟩ := w
        simp only at hw2
        subst hw2
        simp only [retargetref08_Nodes.l1, nth_nat _ hi]
        rw [if_pos (inb hi), if_neg (by simp)]
        exact ⟨_, rfl, _, rfl, wrap_succ (by omega)⟩
    obtain ⟨_, h1, v', rfl, h2⟩ := inner
    exact .inl ⟨v', h1, h2⟩
  · obtain ⟨n, j⟩ := w
    simp only at hw1
    subst hw1
    simp only [retargetref08_Nodes.l0]
    rw [if_neg (by simp)]
    exact ⟨_, rfl, trivial⟩
/-- A machine that is not too large. -/
structure NotGreat (m : TMachine) : Prop where
  lens : m.regs.length ≤ 74 ∧ m.banks.length ≤ 26 ∧ m.units.length ≤ 18 ∧ m.instrs.length ≤ 74
  bank : ∀ b ∈ m.banks, b.regs.length ≤ 74
  instr : ∀ s ∈ m.instrs, s.operands.length ≤ 14 ∧ s.effects.length ≤ 14 ∧ ∀ o ∈ s.operands, o.pieces.length ≤ 14
  eff : ∀ s ∈ m.instrs, ∀ x ∈ s.effects, x.addr.nodes.length ≤ 500 ∧ x.value.nodes.length ≤ 500 ∧ x.cond.nodes.length ≤ 500
theorem Great_machine {m : TMachine} (hw : m.wf) : ∃ b, retargetref08_Great m = some b ∧ (b = false → NotGreat m) := by
  have hb0 := hw.2.2.2.2.1
  have hi0 := hw.2.2.2.2.2.2.1
  unfold retargetref08_Great
  split
  · exact ⟨_, rfl, fun h => by cases h⟩
  · rename_i hl
    simp only [Bool.or_eq_true, decide_eq_true_eq, not_or] at hl
    have hl' : m.regs.length ≤ 74 ∧ m.banks.length ≤ 26 ∧ m.units.length ≤ 18 ∧ m.instrs.length ≤ 74 := by omega
    refine fx_for (step := retargetref08_Great.l0 m) m.banks.length (fun i w => w = (i : Int) ∧ ∀ b ∈ m.banks.take i, b.regs.length ≤ 74) _ ⟨rfl, by simp⟩ (fun i w hi ⟨w1, w2⟩ => ?_) (fun w ⟨w1, w2⟩ => ?_)
    · subst w1
      simp only [retargetref08_Great.l0]
      rw [if_pos (by simpa using hi), if_pos (inb hi), if_pos (fun _ => inb hi), nth_nat _ hi]
      split
      · exact .inr ⟨_, rfl, fun h => by cases h⟩
      · rename_i h
        simp only [Bool.or_eq_true, decide_eq_true_eq, not_or] at h
        exact .inl ⟨_, rfl, wrap_succ (by omega), by rw [take_all hi]; exact ⟨w2, by omega⟩⟩
    · subst w1
      simp only [retargetref08_Great.l0]
      rw [if_neg (by simp)]
      rw [List.take_length] at w2
      have key : ∃ r, Fx.fx (retargetref08_Great.l1 m) 0 = some r ∧ (r = false → NotGreat m) := by
        refine fx_for (step := retargetref08_Great.l1 m) m.instrs.length (fun i w => w = (i : Int) ∧ ∀ s ∈ m.instrs.take i, (s.operands.length ≤ 14 ∧ s.effects.length ≤ 14 ∧ ∀ o ∈ s.operands, o.pieces.length ≤ 14) ∧ ∀ x ∈ s.effects, x.addr.nodes.length ≤ 500 ∧ x.value.nodes.length ≤ 500 ∧ x.cond.nodes.length ≤ 500) _ ⟨rfl, by simp⟩ (fun i w hi ⟨w1, w3⟩ => ?_) (fun w ⟨w1, w3⟩ => ?_)
        · subst w1
          simp only [retargetref08_Great.l1]
          have hs := hi0.2 _ (List.getElem_mem hi)
          have he := hs.2.2.2.2.1
          rw [if_pos (by simpa using hi), if_pos (inb hi), nth_nat _ hi]
          split
          · exact .inr ⟨_, rfl, fun h => by cases h⟩
          · rename_i h
            simp only [Bool.or_eq_true, decide_eq_true_eq, not_or] at h
            have ops : ∃ r, Fx.fx (retargetref08_Great.l2 m (i : Int)) 0 = some r ∧ (r = .inr true ∨ (r = .inl ((i + 1 : Nat) : Int) ∧ (∀ o ∈ m.instrs[i].operands, o.pieces.length ≤ 14) ∧ ∀ x ∈ m.instrs[i].effects, x.addr.nodes.length ≤ 500 ∧ x.value.nodes.length ≤ 500 ∧ x.cond.nodes.length ≤ 500)) := by
              refine fx_for (step := retargetref08_Great.l2 m (i : Int)) m.instrs[i].operands.length (fun q w => w = (q : Int) ∧ ∀ o ∈ m.instrs[i].operands.take q, o.pieces.length ≤ 14) _ ⟨rfl, by simp⟩ (fun q w hq ⟨v1, v2⟩ => ?_) (fun w ⟨v1, v2⟩ => ?_)
              · subst v1
                simp only [retargetref08_Great.l2, nth_nat _ hi]
                rw [if_pos (by simpa using hq), if_pos (inb hq), if_pos (fun _ => inb hq), nth_nat _ hq]
                split
                · exact .inr ⟨_, rfl, .inl rfl⟩
                · rename_i h2
                  simp only [Bool.or_eq_true, decide_eq_true_eq, not_or] at h2
                  exact .inl ⟨_, rfl, wrap_succ (by omega), by rw [take_all hq]; exact ⟨v2, by omega⟩⟩
              · subst v1
                simp only [retargetref08_Great.l2, nth_nat _ hi]
                rw [if_neg (by simp)]
                rw [List.take_length] at v2
                have effs : ∃ r, Fx.fx (retargetref08_Great.l3 m (i : Int)) 0 = some r ∧ (r = .inr true ∨ (r = .inl ((i + 1 : Nat) : Int) ∧ ∀ x ∈ m.instrs[i].effects, x.addr.nodes.length ≤ 500 ∧ x.value.nodes.length ≤ 500 ∧ x.cond.nodes.length ≤ 500)) := by
                  refine fx_for (step := retargetref08_Great.l3 m (i : Int)) m.instrs[i].effects.length (fun q w => w = (q : Int) ∧ ∀ x ∈ m.instrs[i].effects.take q, x.addr.nodes.length ≤ 500 ∧ x.value.nodes.length ≤ 500 ∧ x.cond.nodes.length ≤ 500) _ ⟨rfl, by simp⟩ (fun q w hq ⟨u1, u2⟩ => ?_) (fun w ⟨u1, u2⟩ => ?_)
                  · subst u1
                    simp only [retargetref08_Great.l3, nth_nat _ hi]
                    have hx := he.2 _ (List.getElem_mem hq)
                    obtain ⟨a1, ha1, hb1⟩ := Great_term hx.2.2.2.1
                    obtain ⟨a2, ha2, hb2⟩ := Great_term hx.2.2.2.2.1
                    obtain ⟨a3, ha3, hb3⟩ := Great_term hx.2.2.2.2.2.1
                    rw [if_pos (by simpa using hq), if_pos (inb hq)]
                    simp only [nth_nat _ hq, ha1, Option.bind_some]
                    rw [if_pos (fun _ => inb hq), ha2, if_some, Option.bind_some, if_pos (fun _ => inb hq), ha3, if_some, Option.bind_some]
                    split
                    · exact .inr ⟨_, rfl, .inl rfl⟩
                    · rename_i h3
                      refine .inl ⟨_, rfl, wrap_succ (by omega), ?_⟩
                      rw [take_all hq]
                      refine ⟨u2, ?_⟩
                      cases a1 <;> cases a2 <;> cases a3 <;> simp_all
                  · subst u1
                    simp only [retargetref08_Great.l3, nth_nat _ hi]
                    rw [if_neg (by simp)]
                    rw [List.take_length] at u2
                    exact ⟨_, rfl, .inr ⟨by rw [wrap_succ (by omega)], u2⟩⟩
                obtain ⟨r, r1, r2⟩ := effs
                rw [r1]
                refine ⟨_, rfl, ?_⟩
                rcases r2 with r2 | ⟨r2, r3⟩
                · exact .inl r2
                · exact .inr ⟨r2, v2, r3⟩
            obtain ⟨r, r1, r2⟩ := ops
            rw [r1]
            rcases r2 with rfl | ⟨rfl, r3, r4⟩
            · exact .inr ⟨_, rfl, fun h => by cases h⟩
            · exact .inl ⟨_, rfl, rfl, by rw [take_all hi]; exact ⟨w3, ⟨by omega, by omega, r3⟩, r4⟩⟩
        · subst w1
          simp only [retargetref08_Great.l1]
          rw [if_neg (by simp)]
          rw [List.take_length] at w3
          obtain ⟨n, hn⟩ := Nodes_some hw
          rw [hn]
          exact ⟨_, rfl, fun _ => ⟨hl', w2, fun s hs => (w3 s hs).1, fun s hs => (w3 s hs).2⟩⟩
      obtain ⟨r, r1, r2⟩ := key
      rw [r1]
      exact ⟨_, rfl, r2⟩
end Go.Proofs.YtpjkepfplhllfaaDoor.Av
