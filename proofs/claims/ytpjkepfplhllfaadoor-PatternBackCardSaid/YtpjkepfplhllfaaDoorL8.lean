/-
Plain words about patterns: copies of terms, names that occur, the pattern of an instruction, the table.
-/
import Derived.Test.YtpjkepfplhllfaaDoorL7
import Derived.Test.YtpjkepfplhllfaaDoorFc
namespace Go.Proofs.YtpjkepfplhllfaaDoor.Av
set_option linter.unusedSimpArgs false
set_option linter.unusedVariables false
open Go
theorem Twin_eq {t : TTerm} (h : t.nodes.length ≤ 1000000) : term_Twin t = some t := by
  unfold term_Twin
  obtain ⟨r, h1, h2⟩ := itr_tells (G := fun self a => term_Twin.G self a) (fun t : TTerm => t.nodes.length) (fun t => t.nodes.length ≤ 1000000) (fun t r => r = t) (fun self a ha ih => by
    unfold term_Twin.G
    refine fx_for (step := term_Twin.l0 a self) a.sub.length (fun i w => w = (a.sub.take i, (i : Int))) _ rfl (fun i w hi hw => ?_) (fun w hw => ?_)
    · subst hw
      simp only [term_Twin.l0]
      have hs := List.getElem_mem hi
      have hlt := sub_lt hs
      obtain ⟨r, hr, e⟩ := ih _ hlt (by omega)
      have hsl := sub_len a
      rw [if_pos (by simpa using hi), if_pos (inb hi), nth_nat _ hi, hr, Option.bind_some, if_pos (by rw [List.length_take]; omega)]
      subst e
      exact .inl ⟨_, rfl, by rw [wrap_succ (by omega), take_snoc hi]⟩
    · subst hw
      simp only [term_Twin.l0]
      rw [if_neg (by simp)]
      refine ⟨_, rfl, ?_⟩
      rw [List.take_length]; cases a; rfl) (t.nodes.length + 1) t (Nat.lt_succ_self _) h
  rw [h1, h2]
/-- Is it the name of a variable of the term? -/
def varB (n : List UInt8) (t : TTerm) : Bool := t.nodes.any fun x => decide (x.kind = 2) && decide (x.name = n)
theorem varB_iff {n : List UInt8} {t : TTerm} : varB n t = true ↔ ∃ x ∈ t.nodes, x.kind = 2 ∧ x.name = n := by
  simp [varB]
theorem varB_sub {n : List UInt8} {t : TTerm} : varB n t = true ↔ (t.kind = 2 ∧ t.name = n) ∨ ∃ s ∈ t.sub, varB n s = true := by
  rw [varB_iff, t.nodes_eq]
  simp only [List.mem_cons, exists_eq_or_imp]
  refine or_congr_right ?_
  constructor
  · rintro ⟨x, hx, h⟩
    obtain ⟨s, hs, hx⟩ := mem_nodesL.1 hx
    exact ⟨s, hs, varB_iff.2 ⟨x, hx, h⟩⟩
  · rintro ⟨s, hs, h⟩
    obtain ⟨x, hx, h⟩ := varB_iff.1 h
    exact ⟨x, mem_nodesL.2 ⟨s, hs, hx⟩, h⟩
/-- Each key stands once. -/
def KeysOK {κ α : Type} (l : List (κ × α)) : Prop := (l.map (·.1)).Nodup
theorem mem_aput {κ α : Type} [DecidableEq κ] {k x : κ} {v : α} : ∀ {l : List (κ × α)}, x ∈ (aput l k v).map (·.1) ↔ x = k ∨ x ∈ l.map (·.1)
  | [] => by simp [aput]
  | (a, b) :: l => by
    simp only [aput]
    split
    · rename_i e; subst e; simp
    · simp only [List.map_cons, List.mem_cons, mem_aput (l := l)]
      constructor
      · rintro (h | h | h) <;> simp [h]
      · rintro (h | h | h) <;> simp [h]
theorem KeysOK.put {κ α : Type} [DecidableEq κ] {k : κ} {v : α} : ∀ {l : List (κ × α)}, KeysOK l → KeysOK (aput l k v)
  | [], _ => by simp [aput, KeysOK]
  | (a, b) :: l, h => by
    unfold KeysOK at h ⊢
    simp only [List.map_cons, List.nodup_cons] at h
    simp only [aput]
    split
    · rename_i e; subst e; simpa using h
    · rename_i e
      simp only [List.map_cons, List.nodup_cons]
      refine ⟨fun hm => ?_, KeysOK.put h.2⟩
      rcases mem_aput.1 hm with rfl | hm
      · exact e rfl
      · exact h.1 hm
theorem aget_none {κ α : Type} [DecidableEq κ] {k : κ} : ∀ {l : List (κ × α)}, k ∉ l.map (·.1) → aget l k = none
  | [], _ => rfl
  | (a, b) :: l, h => by
    simp only [List.map_cons, List.mem_cons, not_or] at h
    simp only [aget]
    rw [if_neg h.1]
    exact aget_none h.2
theorem mem_adel {κ α : Type} [DecidableEq κ] {k x : κ} : ∀ {l : List (κ × α)}, x ∈ (adel l k).map (·.1) → x ∈ l.map (·.1)
  | [], h => h
  | (a, b) :: l, h => by
    simp only [adel] at h
    split at h
    · exact List.mem_cons_of_mem _ h
    · simp only [List.map_cons, List.mem_cons] at h ⊢
      rcases h with h | h
      · exact .inl h
      · exact .inr (mem_adel h)
theorem KeysOK.del {κ α : Type} [DecidableEq κ] {k : κ} : ∀ {l : List (κ × α)}, KeysOK l → KeysOK (adel l k)
  | [], h => h
  | (a, b) :: l, h => by
    unfold KeysOK at h ⊢
    simp only [List.map_cons, List.nodup_cons] at h
    simp only [adel]
    split
    · exact h.2
    · simp only [List.map_cons, List.nodup_cons]
      exact ⟨fun hm => h.1 (mem_adel hm), KeysOK.del h.2⟩
theorem aget_adel {κ α : Type} [DecidableEq κ] (k k' : κ) : ∀ {l : List (κ × α)}, KeysOK l → aget (adel l k) k' = if k' = k then none else aget l k'
  | [], _ => by simp [adel, aget]
  | (a, b) :: l, h => by
    unfold KeysOK at h
    simp only [List.map_cons, List.nodup_cons] at h
    simp only [adel]
    by_cases e : k = a
    · subst e
      rw [if_pos rfl]
      by_cases e2 : k' = k
      · subst e2; rw [if_pos rfl]; exact aget_none h.1
      · rw [if_neg e2]; simp only [aget]; rw [if_neg e2]
    · rw [if_neg e]
      simp only [aget]
      by_cases e2 : k' = a
      · subst e2; rw [if_pos rfl, if_pos rfl, if_neg (fun e3 => e e3.symm)]
      · rw [if_neg e2, if_neg e2]; exact aget_adel k k' h.2
theorem keys_nil {κ α : Type} [DecidableEq κ] {l : List (κ × α)} : l.length = 0 ↔ ∀ k, aget l k = none := by
  cases l with
  | nil => simp [aget]
  | cons p l =>
    simp only [List.length_cons, Nat.add_eq_zero_iff, Nat.succ_ne_self, and_false, false_iff, Classical.not_forall]
    exact ⟨p.1, by simp [aget]⟩
/-- The names that have been seen: those of before, and those of the terms. -/
def Occ (M M0 : List (List UInt8 × Bool)) (P : List UInt8 → Prop) : Prop := KeysOK M ∧ ∀ n, (P n → aget M n = some true) ∧ (¬ P n → aget M n = aget M0 n)
theorem occurs_eq {t : TTerm} (h : t.nodes.length < 4611686018427387904) {M0 : List (List UInt8 × Bool)} (hM : KeysOK M0) : ∃ M, pattern_occurs t M0 = some M ∧ Occ M M0 (fun n => varB n t = true) := by
  unfold pattern_occurs
  have := itr_tells (G := fun self a => pattern_occurs.G self a.1 a.2) (fun a : TTerm × (List (List UInt8 × Bool)) => a.1.nodes.length) (fun a => a.1.nodes.length < 4611686018427387904 ∧ KeysOK a.2) (fun a M => Occ M a.2 (fun n => varB n a.1 = true)) (fun self a ⟨ha, hk⟩ ih => by
    obtain ⟨t, M0⟩ := a
    simp only at ha hk ih ⊢
    have loop : ∀ M1, KeysOK M1 → ∃ M, pattern_occurs.j0 t self M1 = some M ∧ Occ M M1 (fun n => ∃ s ∈ t.sub, varB n s = true) := by
      intro M1 hM1
      unfold pattern_occurs.j0
      refine fx_for (step := pattern_occurs.l0 t self) t.sub.length (fun i w => w.1 = (i : Int) ∧ Occ w.2 M1 (fun n => ∃ s ∈ t.sub.take i, varB n s = true)) _ ⟨rfl, hM1, fun n => by simp⟩ (fun i w hi ⟨w1, w2⟩ => ?_) (fun w ⟨w1, w2⟩ => ?_)
      · obtain ⟨j, M⟩ := w
        simp only at w1 w2
        subst w1
        simp only [pattern_occurs.l0]
        have hs := List.getElem_mem hi
        have hlt := sub_lt hs
        have hsl := sub_len t
        obtain ⟨M2, h1, h2⟩ := ih (t.sub[i], M) hlt ⟨by show t.sub[i].nodes.length < 4611686018427387904; omega, w2.1⟩
        rw [if_pos (by simpa using hi), if_pos (inb hi), nth_nat _ hi, h1]
        refine .inl ⟨_, rfl, wrap_succ (by omega), h2.1, fun n => ?_⟩
        have e : (∃ s ∈ t.sub.take (i + 1), varB n s = true) ↔ (∃ s ∈ t.sub.take i, varB n s = true) ∨ varB n t.sub[i] = true := by
          rw [take_snoc hi]
          simp only [List.mem_append, List.mem_singleton]
          constructor
          · rintro ⟨s, hs | rfl, h⟩
            · exact .inl ⟨s, hs, h⟩
            · exact .inr h
          · rintro (⟨s, hs, h⟩ | h)
            · exact ⟨s, .inl hs, h⟩
            · exact ⟨_, .inr rfl, h⟩
        dsimp only
        rw [e]
        constructor
        · intro h
          by_cases hv : varB n t.sub[i] = true
          · exact (h2.2 n).1 hv
          · rw [(h2.2 n).2 hv]
            rcases h with h | h
            · exact (w2.2 n).1 h
            · exact absurd h hv
        · intro h
          rw [not_or] at h
          rw [(h2.2 n).2 h.2]
          exact (w2.2 n).2 h.1
      · obtain ⟨j, M⟩ := w
        simp only at w1 w2
        subst w1
        simp only [pattern_occurs.l0]
        rw [if_neg (by simp)]
        rw [List.take_length] at w2
        exact ⟨_, rfl, w2⟩
    unfold pattern_occurs.G
    by_cases k : t.kind = 2
    · rw [if_pos (by simpa using k)]
      obtain ⟨M, h1, h2, h3⟩ := loop _ (hk.put (k := t.name) (v := true))
      refine ⟨M, h1, h2, fun n => ?_⟩
      dsimp only
      rw [varB_sub]
      by_cases hv : ∃ s ∈ t.sub, varB n s = true
      · exact ⟨fun _ => (h3 n).1 hv, fun h => absurd (.inr hv) h⟩
      · rw [(h3 n).2 hv, aget_aput]
        split
        · rename_i e; subst e; exact ⟨fun _ => rfl, fun h => absurd (.inl ⟨k, rfl⟩) h⟩
        · rename_i e
          refine ⟨fun h => ?_, fun _ => rfl⟩
          rcases h with ⟨_, h⟩ | h
          · exact absurd h.symm e
          · exact absurd h hv
    · rw [if_neg (by simpa using k)]
      obtain ⟨M, h1, h2, h3⟩ := loop _ hk
      refine ⟨M, h1, h2, fun n => ?_⟩
      dsimp only
      rw [varB_sub]
      have : ((t.kind = 2 ∧ t.name = n) ∨ ∃ s ∈ t.sub, varB n s = true) ↔ ∃ s ∈ t.sub, varB n s = true := by simp [k]
      rw [this]
      exact h3 n) (t.nodes.length + 1) (t, M0) (Nat.lt_succ_self _) ⟨h, hM⟩
  exact this
theorem occurs_nil {t : TTerm} (h : t.nodes.length < 4611686018427387904) : ∃ M, pattern_occurs t [] = some M ∧ KeysOK M ∧ ∀ n, (aget M n).getD false = varB n t ∧ (aget M n = if varB n t = true then some true else none) := by
  obtain ⟨M, h1, h2, h3⟩ := occurs_eq h (M0 := []) (by simp [KeysOK])
  refine ⟨M, h1, h2, fun n => ?_⟩
  cases hv : varB n t with
  | true => rw [(h3 n).1 hv]; simp
  | false => rw [(h3 n).2 (by simp [hv])]; simp [aget]
def pcN : List UInt8 := [112, 99]
/-- What the effects of an instruction make: the operand, the term, the registers beside. -/
def effRun : List TMachEffect → Int → TTerm → List Int → Option (Int × TTerm × List Int)
  | [], o, t, sd => some (o, t, sd)
  | x :: xs, o, t, sd => if x.kind ≠ 1 ∨ (0 ≤ x.operand ∧ 0 ≤ o) then none else if 0 ≤ x.operand then effRun xs x.operand x.value sd else if varB pcN x.value = true then none else effRun xs o t (sd ++ [x.reg])
def ownB (t : TTerm) (out : Int) (k : Nat) (o : TMachOperand) : Bool := varB o.name t && (decide ((k : Int) = out) || decide (0 ≤ o.tied))
def ownN (t : TTerm) (out : Int) (l : List TMachOperand) : Nat := ((List.range l.length).filter fun k => ownB t out k (nth l (k : Int))).length
def OperP (l : List TMachOperand) (out : Int) (t : TTerm) : Prop :=
  (∀ k (h : k < l.length), l[k].kind ≠ 4 ∧ ¬ (0 ≤ l[k].tied ∧ l[k].tied ≠ out) ∧ ((k : Int) ≠ out → varB l[k].name t = true)) ∧
  (∀ n, varB n t = true → n ∈ l.map (·.name)) ∧ ownN t out l ≤ 1
theorem range_filter_snoc (f : Nat → Bool) (k : Nat) : (List.range (k + 1)).filter f = (List.range k).filter f ++ (if f k = true then [k] else []) := by
  rw [List.range_succ, List.filter_append]
  congr 1
  simp only [List.filter_cons, List.filter_nil]
theorem oper_walk {s : TMachInstr} {i out : Int} {t : TTerm} {sd : List Int} {M : List (List UInt8 × Bool)} (ho : s.operands.length ≤ 1000) (hn : (s.operands.map (·.name)).Nodup) (hk : KeysOK M) (hM : ∀ n, aget M n = if varB n t = true then some true else none) :
    ∃ r, Fx.fx (pattern_ofX.l1 i s out t sd) (0, 0, M) = some r ∧ r.1 = ⟨i, out, t, sd⟩ ∧ (r.2 = true ↔ OperP s.operands out t) := by
  refine fx_for (step := pattern_ofX.l1 i s out t sd) s.operands.length (fun k w => w.1 = (((List.range k).filter fun k => ownB t out k (nth s.operands (k : Int))).length : Int) ∧ w.2.1 = (k : Int) ∧ KeysOK w.2.2 ∧ (∀ n, aget w.2.2 n = if varB n t = true ∧ n ∉ (s.operands.map (·.name)).take k then some true else none) ∧
    (∀ j (h : j < s.operands.length), j < k → s.operands[j].kind ≠ 4 ∧ ¬ (0 ≤ s.operands[j].tied ∧ s.operands[j].tied ≠ out) ∧ ((j : Int) ≠ out → varB s.operands[j].name t = true))) _ ⟨rfl, rfl, hk, fun n => by simp [hM], fun j _ h => by omega⟩ (fun k w hi ⟨w1, w2, w3, w4, w5⟩ => ?_) (fun w ⟨w1, w2, w3, w4, w5⟩ => ?_)
  · obtain ⟨own, j, N⟩ := w
    simp only at w1 w2 w3 w4 w5
    subst w2
    have hnm : (s.operands.map (·.name))[k]'(by simpa using hi) = s.operands[k].name := by simp
    have hnot : s.operands[k].name ∉ (s.operands.map (·.name)).take k := by
      intro hm
      obtain ⟨j, hj, e⟩ := List.mem_take_iff_getElem.1 hm
      rw [← hnm] at e
      exact List.pairwise_iff_getElem.1 hn j k (by omega) (by simpa using hi) (by omega) e
    have hget : (aget N s.operands[k].name).getD false = varB s.operands[k].name t := by
      rw [w4]
      cases varB s.operands[k].name t with
      | true => rw [if_pos ⟨rfl, hnot⟩]; rfl
      | false => rw [if_neg (by simp)]; rfl
    have hlen : ((List.range k).filter fun k => ownB t out k (nth s.operands (k : Int))).length ≤ k := by
      have := List.length_filter_le (fun k : Nat => ownB t out k (nth s.operands (k : Int))) (List.range k)
      rw [List.length_range] at this; exact this
    have step : ∀ own' : Int, own' = (((List.range (k + 1)).filter fun k => ownB t out k (nth s.operands (k : Int))).length : Int) → (∃ v', pattern_ofX.j1 i s out t sd (k : Int) N own' = some (.inl v') ∧ (v'.1 = (((List.range (k + 1)).filter fun k => ownB t out k (nth s.operands (k : Int))).length : Int) ∧ v'.2.1 = ((k + 1 : Nat) : Int) ∧ KeysOK v'.2.2 ∧ (∀ n, aget v'.2.2 n = if varB n t = true ∧ n ∉ (s.operands.map (·.name)).take (k + 1) then some true else none) ∧
        (∀ j (h : j < s.operands.length), j < k + 1 → s.operands[j].kind ≠ 4 ∧ ¬ (0 ≤ s.operands[j].tied ∧ s.operands[j].tied ≠ out) ∧ ((j : Int) ≠ out → varB s.operands[j].name t = true)))) ∨ (∃ r, pattern_ofX.j1 i s out t sd (k : Int) N own' = some (.inr r) ∧ (r.1 = ⟨i, out, t, sd⟩ ∧ (r.2 = true ↔ OperP s.operands out t))) := by
      intro own' hown
      simp only [pattern_ofX.j1, nth_nat _ hi, hget]
      by_cases hc : s.operands[k].kind ≠ 4 ∧ ¬ (0 ≤ s.operands[k].tied ∧ s.operands[k].tied ≠ out) ∧ ((k : Int) ≠ out → varB s.operands[k].name t = true)
      · left
        rw [if_neg (by
          simp only [Bool.or_eq_true, Bool.and_eq_true, decide_eq_true_eq, Bool.not_eq_true', decide_eq_false_iff_not]
          rintro ((h | h) | h)
          · exact hc.1 h
          · exact hc.2.1 h
          · rw [hc.2.2 h.1] at h; cases h.2)]
        refine ⟨_, rfl, hown, wrap_succ (by omega), w3.del, fun n => ?_, fun j hj hjk => ?_⟩
        · rw [aget_adel _ _ w3, w4, take_snoc (by simpa using hi), hnm]
          simp only [List.mem_append, List.mem_singleton, not_or]
          split
          · rename_i e; subst e; rw [if_neg (by simp)]
          · rename_i e
            split
            · rename_i h; rw [if_pos ⟨h.1, h.2, e⟩]
            · rename_i h; rw [if_neg (fun h2 => h ⟨h2.1, h2.2.1⟩)]
        · by_cases e : j = k
          · subst e; exact hc
          · exact w5 j hj (by omega)
      · right
        rw [if_pos (by
          simp only [Bool.or_eq_true, Bool.and_eq_true, decide_eq_true_eq, Bool.not_eq_true', decide_eq_false_iff_not]
          by_cases h1 : s.operands[k].kind = 4
          · exact .inl (.inl h1)
          · by_cases h2 : 0 ≤ s.operands[k].tied ∧ s.operands[k].tied ≠ out
            · exact .inl (.inr h2)
            · right
              by_cases h3 : (k : Int) = out
              · exact absurd ⟨h1, h2, fun h => absurd h3 h⟩ hc
              · exact ⟨h3, by rw [Bool.eq_false_iff]; exact fun h4 => hc ⟨h1, h2, fun _ => h4⟩⟩)]
        exact ⟨_, rfl, rfl, ⟨fun e => by simp at e, fun h => absurd (h.1 k hi) hc⟩⟩
    have hown : ownB t out k (nth s.operands (k : Int)) = (varB s.operands[k].name t && (decide ((k : Int) = out) || decide (0 ≤ s.operands[k].tied))) := by rw [nth_nat _ hi]; rfl
    simp only [pattern_ofX.l1]
    rw [if_pos (by simpa using hi), if_pos (inb hi)]
    simp only [nth_nat _ hi, hget]
    rw [← hown]
    split
    · rename_i hb
      refine step _ ?_
      rw [range_filter_snoc, if_pos hb, List.length_append, w1, wrap_i64 (by omega) (by omega)]
      simp
    · rename_i hb
      refine step _ ?_
      rw [range_filter_snoc, if_neg hb, w1, List.append_nil]
  · obtain ⟨own, j, N⟩ := w
    simp only at w1 w2 w3 w4 w5
    subst w2
    simp only [pattern_ofX.l1]
    rw [if_neg (by simp)]
    refine ⟨_, rfl, rfl, ?_⟩
    have hlen : N.length = 0 ↔ ∀ n, varB n t = true → n ∈ s.operands.map (·.name) := by
      rw [keys_nil]
      have ht : (s.operands.map (·.name)).take s.operands.length = s.operands.map (·.name) := by
        rw [List.take_of_length_le (by simp)]
      constructor
      · intro h n hv
        have := h n
        rw [w4, ht] at this
        by_cases hm : n ∈ s.operands.map (·.name)
        · exact hm
        · rw [if_pos ⟨hv, hm⟩] at this; cases this
      · intro h n
        rw [w4, ht, if_neg (fun e => e.2 (h n e.1))]
    simp only [Bool.and_eq_true, decide_eq_true_eq, OperP, ownN, w1]
    constructor
    · rintro ⟨a, b⟩; exact ⟨fun k hk => w5 k hk hk, hlen.1 (by omega), by omega⟩
    · rintro ⟨_, a, b⟩; exact ⟨by have := hlen.2 a; omega, by omega⟩
def zeroT : TTerm := ⟨0, 0, 0, [], 0, []⟩
theorem of_eq {s : TMachInstr} (i : Int) (he : ∀ x ∈ s.effects, x.value.nodes.length ≤ 100000) (hel : s.effects.length ≤ 1000) (ho : s.operands.length ≤ 1000) (hn : (s.operands.map (·.name)).Nodup) :
    ∃ p b, pattern_ofX i s = some (p, b) ∧ (b = true ↔ ∃ o t sd, effRun s.effects (-1) zeroT [] = some (o, t, sd) ∧ 0 ≤ o ∧ OperP s.operands o t) ∧ (b = true → ∃ o t sd, effRun s.effects (-1) zeroT [] = some (o, t, sd) ∧ p = ⟨i, o, t, sd⟩) := by
  unfold pattern_ofX
  have key : ∃ r, Fx.fx (pattern_ofX.l0 i s) (0, -1, zeroT, []) = some r ∧ (r.2 = true ↔ ∃ o t sd, effRun s.effects (-1) zeroT [] = some (o, t, sd) ∧ 0 ≤ o ∧ OperP s.operands o t) ∧ (r.2 = true → ∃ o t sd, effRun s.effects (-1) zeroT [] = some (o, t, sd) ∧ r.1 = ⟨i, o, t, sd⟩) := by
    refine fx_for (step := pattern_ofX.l0 i s) s.effects.length (fun k w => w.1 = (k : Int) ∧ effRun s.effects (-1) zeroT [] = effRun (s.effects.drop k) w.2.1 w.2.2.1 w.2.2.2 ∧ w.2.2.2.length ≤ k ∧ w.2.2.1.nodes.length ≤ 100000) _ ⟨rfl, by simp, by simp, by show zeroT.nodes.length ≤ 100000; decide⟩ (fun k w hi ⟨w1, w2, w3, w4⟩ => ?_) (fun w ⟨w1, w2, w3, w4⟩ => ?_)
    · obtain ⟨j, o, t, sd⟩ := w
      simp only at w1 w2 w3 w4
      subst w1
      rw [List.drop_eq_getElem_cons hi] at w2
      have hx := he _ (List.getElem_mem hi)
      simp only [pattern_ofX.l0, pattern_ofX.j0]
      rw [if_pos (by simpa using hi), if_pos (inb hi)]
      simp only [nth_nat _ hi]
      generalize s.effects[k] = x at *
      simp only [effRun] at w2
      by_cases c1 : x.kind ≠ 1 ∨ (0 ≤ x.operand ∧ 0 ≤ o)
      · rw [if_pos c1] at w2
        rw [if_pos (by simpa using c1)]
        refine .inr ⟨_, rfl, ⟨fun e => by simp at e, ?_⟩, fun e => by simp at e⟩
        rintro ⟨_, _, _, e, _⟩
        rw [w2] at e; cases e
      · rw [if_neg c1] at w2
        rw [if_neg (by simpa using c1)]
        by_cases c2 : 0 ≤ x.operand
        · rw [if_pos c2] at w2
          rw [if_pos (by simpa using c2), Twin_eq (by omega)]
          exact .inl ⟨_, rfl, wrap_succ (by omega), w2, by show sd.length ≤ k + 1; omega, hx⟩
        · rw [if_neg c2] at w2
          obtain ⟨M, m1, m2, m3⟩ := occurs_nil (t := x.value) (by omega)
          have e2 : (aget M [112, 99]).getD false = varB pcN x.value := (m3 [112, 99]).1
          rw [if_neg (by simpa using c2), m1, Option.bind_some, e2]
          by_cases c3 : varB pcN x.value = true
          · rw [if_pos c3] at w2
            rw [if_pos c3]
            refine .inr ⟨_, rfl, ⟨fun e => by simp at e, ?_⟩, fun e => by simp at e⟩
            rintro ⟨_, _, _, e, _⟩
            rw [w2] at e; cases e
          · rw [if_neg c3] at w2
            rw [if_neg c3, if_pos (by omega)]
            exact .inl ⟨_, rfl, wrap_succ (by omega), w2, by show (sd ++ [x.reg]).length ≤ k + 1; rw [List.length_append]; simp; omega, w4⟩
    · obtain ⟨j, o, t, sd⟩ := w
      simp only at w1 w2 w3 w4
      subst w1
      rw [List.drop_length] at w2
      simp only [effRun] at w2
      simp only [pattern_ofX.l0]
      rw [if_neg (by simp)]
      by_cases c1 : o < 0
      · rw [if_pos (by simpa using c1)]
        refine ⟨_, rfl, ⟨fun e => by simp at e, ?_⟩, fun e => by simp at e⟩
        rintro ⟨o', t', sd', e, h0, _⟩
        rw [w2] at e; cases e; omega
      · obtain ⟨M, m1, m2, m3⟩ := occurs_nil (t := t) (by omega)
        rw [if_neg (by simpa using c1), m1, Option.bind_some]
        obtain ⟨r, r1, r2, r3⟩ := oper_walk (i := i) (out := o) (sd := sd) ho hn m2 (fun n => (m3 n).2)
        rw [r1]
        refine ⟨_, rfl, ?_, fun _ => ⟨o, t, sd, w2, r2⟩⟩
        rw [r3]
        constructor
        · exact fun h => ⟨o, t, sd, w2, by omega, h⟩
        · rintro ⟨o', t', sd', e, _, h⟩
          rw [w2] at e; cases e; exact h
  obtain ⟨⟨p, b⟩, h1, h2, h3⟩ := key
  exact ⟨p, b, h1, h2, h3⟩
end Go.Proofs.YtpjkepfplhllfaaDoor.Av
