/-
Plain words about the table of a machine's patterns and their inputs.
-/
import Derived.Test.YtpjkepfplhllfaaDoorL8
namespace Go.Proofs.YtpjkepfplhllfaaDoor.Av
set_option linter.unusedSimpArgs false
set_option linter.unusedVariables false
open Go
theorem NamesP.nodup {u0 l : List (List UInt8)} (h : NamesP u0 l l.length) : l.Nodup := by
  refine List.pairwise_iff_getElem.2 fun i j hi hj hij e => ?_
  have := (h j hj hj).2
  exact this (List.mem_append_right _ (List.mem_take_iff_getElem.2 ⟨i, by omega, e⟩))
/-- The pattern of an instruction. -/
noncomputable def patOf (i : Nat) (s : TMachInstr) : Option TPattern := match pattern_ofX (i : Int) s with | some (p, true) => some p | _ => none
noncomputable def tableFrom (i : Nat) : List TMachInstr → List TPattern
  | [] => []
  | s :: l => (match patOf i s with | some p => [p] | none => []) ++ tableFrom (i + 1) l
noncomputable def tableV (m : TMachine) : List TPattern := tableFrom 0 m.instrs
theorem tableFrom_snoc (s : TMachInstr) : ∀ (l : List TMachInstr) (i : Nat), tableFrom i (l ++ [s]) = tableFrom i l ++ (match patOf (i + l.length) s with | some p => [p] | none => [])
  | [], i => by simp [tableFrom]
  | x :: l, i => by
    simp only [List.cons_append, tableFrom, tableFrom_snoc s l (i + 1), List.append_assoc, List.length_cons]
    rw [show i + 1 + l.length = i + (l.length + 1) by omega]
theorem tableFrom_len : ∀ (l : List TMachInstr) (i : Nat), (tableFrom i l).length ≤ l.length
  | [], i => by simp [tableFrom]
  | x :: l, i => by
    simp only [tableFrom, List.length_append, List.length_cons]
    have := tableFrom_len l (i + 1)
    split <;> simp <;> omega
/-- What is known of an instruction of a valid machine. -/
structure InstrV (m : TMachine) (s : TMachInstr) : Prop where
  ok : InstrOK m s
  valid : InstrP m s
  len : ∀ x ∈ s.effects, x.value.nodes.length ≤ 100000
theorem InstrV.names {m : TMachine} {s : TMachInstr} (h : InstrV m s) : (s.operands.map (·.name)).Nodup := by
  have := h.valid.2.1
  rw [show s.operands.length = (s.operands.map (·.name)).length by simp] at this
  exact this.nodup
theorem instrV {m : TMachine} (hs : SmallP m) (ht : TermsOK m) (hv : ValidP m) : ∀ s ∈ m.instrs, InstrV m s := fun s h =>
  ⟨(small_ok hs ht).instr s h, hv.2.2.2.2.2 s (by rw [List.take_length]; exact h), fun x hx => (ht.eff s h x hx).value.2⟩
theorem of_some {m : TMachine} {s : TMachInstr} (h : InstrV m s) (i : Nat) : ∃ p b, pattern_ofX (i : Int) s = some (p, b) ∧ (if b = true then patOf i s = some p else patOf i s = none) := by
  obtain ⟨p, b, h1, _⟩ := of_eq (i : Int) h.len (by have := h.ok.effs; omega) (by have := h.ok.ops; omega) h.names
  refine ⟨p, b, h1, ?_⟩
  unfold patOf
  rw [h1]
  cases b <;> simp
theorem pat_iff {m : TMachine} {s : TMachInstr} (h : InstrV m s) (i : Nat) (p : TPattern) : patOf i s = some p ↔ ∃ o t sd, effRun s.effects (-1) zeroT [] = some (o, t, sd) ∧ 0 ≤ o ∧ OperP s.operands o t ∧ p = ⟨(i : Int), o, t, sd⟩ := by
  obtain ⟨q, b, h1, h2, h3⟩ := of_eq (i : Int) h.len (by have := h.ok.effs; omega) (by have := h.ok.ops; omega) h.names
  unfold patOf
  rw [h1]
  cases b with
  | true =>
    simp only [Option.some.injEq]
    obtain ⟨o, t, sd, e1, e2⟩ := h3 rfl
    obtain ⟨o', t', sd', e1', h0, hO⟩ := h2.1 rfl
    rw [e1] at e1'; cases e1'
    constructor
    · rintro rfl; exact ⟨o, t, sd, e1, h0, hO, e2⟩
    · rintro ⟨o', t', sd', e, _, _, rfl⟩; rw [e1] at e; cases e; exact e2
  | false =>
    simp only [reduceCtorEq, false_iff]
    rintro ⟨o, t, sd, e, h0, hO, _⟩
    have := h2.2 ⟨o, t, sd, e, h0, hO⟩
    cases this
theorem table_eq {m : TMachine} (hl : m.instrs.length ≤ 1000) (hv : ∀ s ∈ m.instrs, InstrV m s) : pattern_table m = some (tableV m) := by
  unfold pattern_table
  have key : ∃ r, Fx.fx (pattern_table.l0 m) ([], 0) = some r ∧ r = tableV m := by
    refine fx_for (step := pattern_table.l0 m) m.instrs.length (fun i w => w = (tableFrom 0 (m.instrs.take i), (i : Int))) _ rfl (fun i w hi hw => ?_) (fun w hw => ?_)
    · subst hw
      simp only [pattern_table.l0, pattern_table.j0]
      obtain ⟨p, b, h1, h2⟩ := of_some (hv _ (List.getElem_mem hi)) i
      have hlen := tableFrom_len (m.instrs.take i) 0
      rw [List.length_take] at hlen
      rw [if_pos (by simpa using hi), if_pos (inb hi)]
      simp only [nth_nat _ hi, h1, Option.bind_some]
      have hs : tableFrom 0 (m.instrs.take (i + 1)) = tableFrom 0 (m.instrs.take i) ++ (match patOf i m.instrs[i] with | some p => [p] | none => []) := by
        rw [take_snoc hi, tableFrom_snoc, List.length_take, Nat.min_eq_left (by omega), Nat.zero_add]
      cases b with
      | true =>
        simp only [if_true] at h2
        rw [if_pos rfl, if_pos (by omega)]
        exact .inl ⟨_, rfl, by rw [wrap_succ (by omega), hs, h2]⟩
      | false =>
        rw [if_neg (by simp)] at h2
        rw [if_neg (by simp)]
        exact .inl ⟨_, rfl, by rw [wrap_succ (by omega), hs, h2, List.append_nil]⟩
    · subst hw
      simp only [pattern_table.l0]
      rw [if_neg (by simp)]
      exact ⟨_, rfl, by rw [List.take_length]; rfl⟩
  obtain ⟨r, h1, h2⟩ := key
  rw [h1, h2]
/-- What Table answers. -/
theorem Table_eq {m : TMachine} (L : LenOK m) (ht : TermsOK m) : ∃ e, machine_Check m = some e ∧ pattern_Table m = some (if e = 0 then (tableV m, 0) else ([], e)) ∧ (e = 0 ↔ SmallP m ∧ ValidP m) := by
  obtain ⟨e, h1, h2, h3, h4⟩ := Check_machine L ht
  have he : e = 0 ↔ SmallP m ∧ ValidP m := by
    constructor
    · intro h0
      by_cases hs : SmallP m
      · by_cases hv : ValidP m
        · exact ⟨hs, hv⟩
        · have := h4 hs hv; omega
      · have := h2 hs; omega
    · exact fun h => h3 h.1 h.2
  refine ⟨e, h1, ?_, he⟩
  unfold pattern_Table
  rw [h1, Option.bind_some]
  by_cases h0 : e = 0
  · obtain ⟨hs, hv⟩ := he.1 h0
    rw [if_neg (by simpa using h0), table_eq (by have := hs.1.2.2.2; omega) (instrV hs ht hv), if_pos h0]
    rfl
  · rw [if_pos (by simpa using h0), if_neg h0]
theorem mem_tableFrom {p : TPattern} : ∀ {l : List TMachInstr} {i : Nat}, p ∈ tableFrom i l → ∃ k, ∃ h : k < l.length, patOf (i + k) l[k] = some p
  | [], i, h => by simp [tableFrom] at h
  | s :: l, i, h => by
    simp only [tableFrom, List.mem_append] at h
    rcases h with h | h
    · refine ⟨0, by simp, ?_⟩
      simp only [List.getElem_cons_zero, Nat.add_zero]
      split at h
      · rename_i q hq; rw [List.mem_singleton] at h; rw [hq, h]
      · cases h
    · obtain ⟨k, hk, e⟩ := mem_tableFrom h
      exact ⟨k + 1, by simpa using hk, by rw [List.getElem_cons_succ, show i + (k + 1) = i + 1 + k by omega]; exact e⟩
theorem mem_table {m : TMachine} {p : TPattern} (h : p ∈ tableV m) : ∃ k, ∃ h : k < m.instrs.length, patOf k m.instrs[k] = some p := by
  obtain ⟨k, hk, e⟩ := mem_tableFrom h
  exact ⟨k, hk, by rwa [Nat.zero_add] at e⟩
/-- What is known of a pattern of a valid machine. -/
structure PatV (m : TMachine) (p : TPattern) (k : Nat) (hk : k < m.instrs.length) : Prop where
  instr : p.instr = (k : Int)
  run : effRun m.instrs[k].effects (-1) zeroT [] = some (p.out, p.term, p.sides)
  out : 0 ≤ p.out
  oper : OperP m.instrs[k].operands p.out p.term
theorem patV {m : TMachine} (hv : ∀ s ∈ m.instrs, InstrV m s) {p : TPattern} {k : Nat} (hk : k < m.instrs.length) (h : patOf k m.instrs[k] = some p) : PatV m p k hk := by
  obtain ⟨o, t, sd, h1, h2, h3, rfl⟩ := (pat_iff (hv _ (List.getElem_mem hk)) k p).1 h
  exact ⟨rfl, h1, h2, h3⟩
theorem tableFrom_sorted {m : TMachine} : ∀ (l : List TMachInstr) (i : Nat), (∀ s ∈ l, InstrV m s) → (tableFrom i l).Pairwise (fun a b => a.instr < b.instr) ∧ ∀ p ∈ tableFrom i l, (i : Int) ≤ p.instr
  | [], i, _ => by simp [tableFrom]
  | s :: l, i, h => by
    obtain ⟨h1, h2⟩ := tableFrom_sorted l (i + 1) fun s hs => h s (List.mem_cons_of_mem _ hs)
    simp only [tableFrom]
    split
    · rename_i p hp
      obtain ⟨o, t, sd, _, _, _, rfl⟩ := (pat_iff (h s List.mem_cons_self) i p).1 hp
      simp only [List.singleton_append, List.pairwise_cons, List.mem_cons, forall_eq_or_imp]
      exact ⟨⟨fun q hq => by have := h2 q hq; show (i : Int) < q.instr; omega, h1⟩, by show (i : Int) ≤ i; omega, fun q hq => by have := h2 q hq; omega⟩
    · rename_i hp
      simp only [List.nil_append]
      exact ⟨h1, fun q hq => by have := h2 q hq; omega⟩
/-- The main effect. -/
theorem effRun_main : ∀ {l : List TMachEffect} {o : Int} {t : TTerm} {sd : List Int} {o' : Int} {t' : TTerm} {sd' : List Int}, effRun l o t sd = some (o', t', sd') → (∀ x ∈ l, x.kind = 1) ∧
    (0 ≤ o → o' = o ∧ t' = t ∧ sd'.length = sd.length + l.length) ∧ (o < 0 → 0 ≤ o' → sd'.length + 1 = sd.length + l.length ∧ ∃ x ∈ l, o' = x.operand ∧ t' = x.value)
  | [], o, t, sd, o', t', sd', h => by
    simp only [effRun, Option.some.injEq, Prod.mk.injEq] at h
    obtain ⟨rfl, rfl, rfl⟩ := h
    exact ⟨by simp, fun _ => ⟨rfl, rfl, rfl⟩, fun a b => by omega⟩
  | x :: l, o, t, sd, o', t', sd', h => by
    simp only [effRun] at h
    split at h
    · cases h
    · rename_i hc
      have hk : x.kind = 1 := by
        by_cases hk : x.kind = 1
        · exact hk
        · exact absurd (.inl hk) hc
      split at h
      · rename_i h0
        have ho : o < 0 := by
          by_cases ho : 0 ≤ o
          · exact absurd (.inr ⟨h0, ho⟩) hc
          · omega
        obtain ⟨a, b, d⟩ := effRun_main h
        obtain ⟨rfl, rfl, b3⟩ := b h0
        exact ⟨by simpa [hk] using a, fun h => by omega, fun _ _ => ⟨by rw [b3]; simp only [List.length_cons]; omega, x, List.mem_cons_self, rfl, rfl⟩⟩
      · split at h
        · cases h
        · obtain ⟨a, b, d⟩ := effRun_main h
          refine ⟨by simpa [hk] using a, fun ho => ?_, fun ho h1 => ?_⟩
          · obtain ⟨b1, b2, b3⟩ := b ho
            exact ⟨b1, b2, by rw [b3, List.length_append]; simp only [List.length_cons, List.length_nil]; omega⟩
          · obtain ⟨d1, y, hy, d2⟩ := d ho h1
            exact ⟨by rw [d1, List.length_append]; simp only [List.length_cons, List.length_nil]; omega, y, List.mem_cons_of_mem _ hy, d2⟩
/-- The effect that a pattern comes from. -/
theorem PatV.main {m : TMachine} {p : TPattern} {k : Nat} {hk : k < m.instrs.length} (h : PatV m p k hk) : ∃ x ∈ m.instrs[k].effects, x.kind = 1 ∧ p.out = x.operand ∧ p.term = x.value ∧ p.sides.length + 1 = m.instrs[k].effects.length := by
  obtain ⟨a, _, d⟩ := effRun_main h.run
  obtain ⟨d1, x, hx, d2, d3⟩ := d (by omega) h.out
  exact ⟨x, hx, a x hx, d2, d3, by simpa using d1⟩
theorem PatV.facts {m : TMachine} (hv : ∀ s ∈ m.instrs, InstrV m s) {p : TPattern} {k : Nat} {hk : k < m.instrs.length} (h : PatV m p k hk) :
    (p.out < (m.instrs[k].operands.length : Int)) ∧ (nth m.instrs[k].operands p.out).kind = 1 ∧ p.term.width = wideV m (nth m.instrs[k].operands p.out) ∧ FitsP (varsOf m m.instrs[k].operands) m.address p.term ∧ p.term.wf ∧ p.term.nodes.length ≤ 100000 := by
  obtain ⟨x, hx, k1, e1, e2, _⟩ := h.main
  have hs := hv _ (List.getElem_mem hk)
  have he := hs.valid.2.2.2.1 x hx
  have hw := (hs.ok.eff x hx).value
  have h0 := h.out
  rcases he.2.2 with ⟨_, _, ⟨a, _⟩ | ⟨_, _, a, b, d⟩⟩ | ⟨a, _⟩ | ⟨a, _⟩ | ⟨a, _⟩
  · omega
  · rw [e2, e1]; exact ⟨a.2, b, d, he.2.1, hw.1, hw.2⟩
  · omega
  · omega
  · omega
/-- The operands that are inputs. -/
def inputsV (t : TTerm) (l : List TMachOperand) : List Int := ((List.range l.length).filter fun k : Nat => varB (nth l (k : Int)).name t).map fun k : Nat => (k : Int)
theorem inputs_eq {p : TPattern} {l : List TMachOperand} (hl : l.length ≤ 1000) (h : p.term.nodes.length < 4611686018427387904) : pattern_inputs p l = some (inputsV p.term l) := by
  unfold pattern_inputs
  obtain ⟨M, h1, h2, h3⟩ := occurs_nil h
  rw [h1, Option.bind_some]
  have key : ∃ r, Fx.fx (pattern_inputs.l0 l M) ([], 0) = some r ∧ r = inputsV p.term l := by
    refine fx_for (step := pattern_inputs.l0 l M) l.length (fun i w => w = (((List.range i).filter fun k : Nat => varB (nth l (k : Int)).name p.term).map (fun k : Nat => (k : Int)), (i : Int))) _ rfl (fun i w hi hw => ?_) (fun w hw => ?_)
    · subst hw
      simp only [pattern_inputs.l0, pattern_inputs.j0]
      have hlen : ((List.range i).filter fun k : Nat => varB (nth l (k : Int)).name p.term).length ≤ i := by
        have := List.length_filter_le (fun k : Nat => varB (nth l (k : Int)).name p.term) (List.range i)
        rw [List.length_range] at this; exact this
      rw [if_pos (by simpa using hi), if_pos (inb hi), (h3 _).1, range_filter_snoc]
      split
      · rename_i hb
        rw [if_pos (by rw [List.length_map]; omega)]
        refine .inl ⟨_, rfl, ?_⟩
        rw [wrap_succ (by omega)]
        simp
      · rename_i hb
        refine .inl ⟨_, rfl, ?_⟩
        rw [wrap_succ (by omega)]
        simp
    · subst hw
      simp only [pattern_inputs.l0]
      rw [if_neg (by simp)]
      exact ⟨_, rfl, rfl⟩
  obtain ⟨r, k1, k2⟩ := key
  rw [k1, k2]
def noPat : TPattern := ⟨0, 0, zeroT, []⟩
/-- What is behind an index of the table. -/
theorem at_eq {m : TMachine} (L : LenOK m) (ht : TermsOK m) (p : Int) : ∃ e, machine_Check m = some e ∧ (e = 0 ↔ SmallP m ∧ ValidP m) ∧
    pattern_atX m p = some (if e = 0 then (if 0 ≤ p ∧ p < ((tableV m).length : Int) then (nth (tableV m) p, (nth m.instrs (nth (tableV m) p).instr).operands, 0) else (noPat, [], 6)) else (noPat, [], e)) := by
  obtain ⟨e, h1, h2, h3⟩ := Table_eq L ht
  refine ⟨e, h1, h3, ?_⟩
  unfold pattern_atX
  rw [h2, Option.bind_some]
  by_cases h0 : e = 0
  · subst h0
    obtain ⟨hs, hv⟩ := h3.1 rfl
    simp only [if_true]
    rw [if_neg (by simp)]
    by_cases hp : 0 ≤ p ∧ p < ((tableV m).length : Int)
    · rw [if_neg (by simp; omega), if_pos hp, if_pos hp, if_pos hp]
      obtain ⟨k, hk, e⟩ := mem_table (nth_mem hp.1 hp.2)
      have := (patV (instrV hs ht hv) hk e).instr
      rw [if_pos (by omega)]
    · rw [if_pos (by simp; omega), if_neg hp]; rfl
  · rw [if_neg h0, if_neg h0]
    simp only
    rw [if_pos (by simpa using h0)]; rfl
end Go.Proofs.YtpjkepfplhllfaaDoor.Av
