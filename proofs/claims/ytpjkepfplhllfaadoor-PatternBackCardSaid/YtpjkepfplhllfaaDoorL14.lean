/-
Plain words about Match and Fill: what they answer.
-/
import Derived.Test.YtpjkepfplhllfaaDoorL12
import Derived.Test.YtpjkepfplhllfaaDoorPTied
namespace Go.Proofs.YtpjkepfplhllfaaDoor.Av
set_option linter.unusedSimpArgs false
set_option linter.unusedVariables false
open Go
/-- Terms of a map in the places of variables. -/
def instW (W : List (List UInt8 × TTerm)) (n : List UInt8) (x : TTerm) : TTerm := (aget W n).getD x
mutual
def TTerm.fill (W : List (List UInt8 × TTerm)) : TTerm → TTerm
  | ⟨k, w, b, n, l, sub⟩ => if k = 2 ∧ (aget W n).isSome = true then (aget W n).getD zeroT else ⟨k, w, b, n, l, TTerm.fillL W sub⟩
def TTerm.fillL (W : List (List UInt8 × TTerm)) : List TTerm → List TTerm
  | [] => []
  | x :: xs => x.fill W :: TTerm.fillL W xs
end
theorem fillL_map (W : List (List UInt8 × TTerm)) : ∀ l : List TTerm, TTerm.fillL W l = l.map (TTerm.fill W)
  | [] => rfl
  | x :: l => by simp only [TTerm.fillL, List.map_cons, fillL_map W l]
theorem fill_eq (W : List (List UInt8 × TTerm)) (t : TTerm) : t.fill W = if t.kind = 2 ∧ (aget W t.name).isSome = true then (aget W t.name).getD zeroT else ⟨t.kind, t.width, t.bits, t.name, t.low, t.sub.map (TTerm.fill W)⟩ := by
  cases t
  simp only [TTerm.fill, fillL_map]
theorem nodes_pos (t : TTerm) : 1 ≤ t.nodes.length := by rw [t.nodes_eq]; simp
theorem nodesL_snoc (l : List TTerm) (x : TTerm) : (TTerm.nodesL (l ++ [x])).length = (TTerm.nodesL l).length + x.nodes.length := by
  rw [TTerm.nodesL_app]; simp [TTerm.nodesL]
/-- Filling, and counting as far as the limit goes. -/
theorem filled_eq {t : TTerm} {W : List (List UInt8 × TTerm)} {s : Int} (hW : ∀ n v, aget W n = some v → v.nodes.length ≤ 400) (ht : t.nodes.length ≤ 1000) (hs : 0 ≤ s ∧ s ≤ 100000) :
    ∃ r, pattern_filled t W s = some r ∧ r.1 = W ∧ (s ≤ r.2.1 ∧ r.2.1 ≤ (if s ≤ 800 then 800 else s) + (t.nodes.length : Int)) ∧ (r.2.1 ≤ 400 → r.2.2 = t.fill W ∧ r.2.1 = s + ((t.fill W).nodes.length : Int)) ∧ (s + ((t.fill W).nodes.length : Int) ≤ 400 → r.2.1 ≤ 400) := by
  unfold pattern_filled
  have := itr_tells (G := fun self a => pattern_filled.G self a.1 a.2.1 a.2.2) (fun a : TTerm × (List (List UInt8 × TTerm)) × Int => a.1.nodes.length)
    (fun a => a.2.1 = W ∧ a.1.nodes.length ≤ 1000 ∧ (0 ≤ a.2.2 ∧ a.2.2 ≤ 1000000 - 2000 * (a.1.nodes.length : Int) + 2000000)) (fun a r => r.1 = W ∧ (a.2.2 ≤ r.2.1 ∧ r.2.1 ≤ (if a.2.2 ≤ 800 then 800 else a.2.2) + (a.1.nodes.length : Int)) ∧ (r.2.1 ≤ 400 → r.2.2 = a.1.fill W ∧ r.2.1 = a.2.2 + ((a.1.fill W).nodes.length : Int)) ∧ (a.2.2 + ((a.1.fill W).nodes.length : Int) ≤ 400 → r.2.1 ≤ 400)) (fun self a ⟨a1, a2, a3⟩ ih => by
    obtain ⟨t, W', s⟩ := a
    simp only at a1 a2 a3 ih ⊢
    subst a1
    unfold pattern_filled.G
    have hp := nodes_pos t
    rw [wrap_i64 (n := s + 1) (by omega) (by omega)]
    by_cases hc : 400 < s + 1
    · rw [if_pos (by simpa using hc)]
      have := nodes_pos (t.fill W')
      refine ⟨_, rfl, rfl, ?_, fun h => ?_, fun h => ?_⟩
      · simp only; split <;> omega
      · simp only at h; omega
      · omega
    · rw [if_neg (by simpa using hc)]
      by_cases hv : t.kind = 2 ∧ (aget W' t.name).isSome = true
      · rw [if_pos (by simp [hv.1, hv.2])]
        have hf : t.fill W' = (aget W' t.name).getD zeroT := by rw [fill_eq, if_pos hv]
        cases hg : aget W' t.name with
        | none => rw [hg] at hv; exact absurd hv.2 (by simp)
        | some v =>
          have hl := hW _ _ hg
          have hvp := nodes_pos v
          rw [hg] at hf
          simp only [Option.getD_some] at hf ⊢
          rw [Size_eq (by omega), Twin_eq (by omega), Option.bind_some, Option.bind_some, wrap_i64 (n := (v.nodes.length : Int) - 1) (by omega) (by omega), wrap_i64 (by omega) (by omega)]
          refine ⟨_, rfl, rfl, ?_, fun h => ?_, fun h => ?_⟩
          · simp only; split <;> omega
          · exact ⟨hf.symm, by simp only; rw [hf]; omega⟩
          · rw [hf] at h; simp only; omega
      · rw [if_neg (by
          simp only [Bool.and_eq_true, decide_eq_true_eq]
          exact fun h => hv ⟨h.2, h.1⟩)]
        have hf : t.fill W' = ⟨t.kind, t.width, t.bits, t.name, t.low, t.sub.map (TTerm.fill W')⟩ := by rw [fill_eq, if_neg hv]
        have hfl : (t.fill W').nodes.length = 1 + (TTerm.nodesL (t.sub.map (TTerm.fill W'))).length := by rw [TTerm.nodes_eq, hf]; simp only [List.length_cons]; omega
        have htl : t.nodes.length = 1 + (TTerm.nodesL t.sub).length := by rw [TTerm.nodes_eq]; simp only [List.length_cons]; omega
        have hsl := sub_len t
        have pre : ∀ i, (TTerm.nodesL (t.sub.take i)).length ≤ (TTerm.nodesL t.sub).length := fun i => by
          conv => rhs; rw [← List.take_append_drop i t.sub]
          rw [TTerm.nodesL_app, List.length_append]; omega
        have pref : ∀ i, (TTerm.nodesL ((t.sub.map (TTerm.fill W')).take i)).length ≤ (TTerm.nodesL (t.sub.map (TTerm.fill W'))).length := fun i => by
          conv => rhs; rw [← List.take_append_drop i (t.sub.map (TTerm.fill W'))]
          rw [TTerm.nodesL_app, List.length_append]; omega
        rw [hfl]
        refine fx_for (step := pattern_filled.l0 t self) t.sub.length (fun i w => w.1.length = i ∧ w.2.1 = (i : Int) ∧ w.2.2.2 = W' ∧ (s + 1 ≤ w.2.2.1 ∧ w.2.2.1 ≤ 801 + ((TTerm.nodesL (t.sub.take i)).length : Int)) ∧ (w.2.2.1 ≤ 400 → w.1 = (t.sub.map (TTerm.fill W')).take i ∧ w.2.2.1 = s + 1 + ((TTerm.nodesL ((t.sub.map (TTerm.fill W')).take i)).length : Int)) ∧ (s + 1 + ((TTerm.nodesL ((t.sub.map (TTerm.fill W')).take i)).length : Int) ≤ 400 → w.2.2.1 ≤ 400)) _ ⟨rfl, rfl, rfl, by simp [TTerm.nodesL]; omega, by simp [TTerm.nodesL], fun h => by simpa [TTerm.nodesL] using h⟩ (fun i w hi ⟨w1, w2, w3, w4, w5, w6⟩ => ?_) (fun w ⟨w1, w2, w3, w4, w5, w6⟩ => ?_)
        · obtain ⟨l, j, z, V⟩ := w
          simp only at w1 w2 w3 w4 w5 w6
          subst w2 w3
          simp only [pattern_filled.l0]
          have hs := List.getElem_mem hi
          have hlt := sub_lt hs
          have hpi := pre (i + 1)
          rw [take_snoc hi, nodesL_snoc] at hpi
          obtain ⟨⟨r1, r2, r3⟩, hr, q1, q2, q3, q4⟩ := ih (t.sub[i], V, z) hlt ⟨rfl, by show t.sub[i].nodes.length ≤ 1000; omega, by show 0 ≤ z ∧ z ≤ 1000000 - 2000 * (t.sub[i].nodes.length : Int) + 2000000; omega⟩
          simp only at q1 q2 q3 q4
          rw [if_pos (by simpa using hi), if_pos (inb hi), nth_nat _ hi, hr, Option.bind_some, if_pos (by omega)]
          have hmi : i < (t.sub.map (TTerm.fill V)).length := by simpa using hi
          have hnx : (TTerm.nodesL ((t.sub.map (TTerm.fill V)).take (i + 1))).length = (TTerm.nodesL ((t.sub.map (TTerm.fill V)).take i)).length + (t.sub[i].fill V).nodes.length := by
            rw [take_snoc hmi, nodesL_snoc]; simp
          refine .inl ⟨_, rfl, by simp [w1], wrap_succ (by omega), q1, ?_, fun h => ?_, fun h => ?_⟩
          · simp only
            rw [take_snoc hi, nodesL_snoc]
            have hsi := nodes_pos t.sub[i]
            split at q2 <;> omega
          · simp only at h ⊢
            obtain ⟨e1, e2⟩ := q3 h
            obtain ⟨e3, e4⟩ := w5 (by omega)
            refine ⟨by rw [take_snoc hmi, e3, e1]; simp, ?_⟩
            rw [hnx]; omega
          · simp only
            rw [hnx] at h
            have hz : z ≤ 400 := w6 (by omega)
            have := (w5 hz).2
            exact q4 (by omega)
        · obtain ⟨l, j, z, V⟩ := w
          simp only at w1 w2 w3 w4 w5 w6
          subst w2 w3
          have ht1 : (t.sub.map (TTerm.fill V)).take t.sub.length = t.sub.map (TTerm.fill V) := List.take_of_length_le (by simp)
          rw [ht1] at w5 w6
          rw [List.take_length] at w4
          simp only [pattern_filled.l0]
          rw [if_neg (by simp)]
          refine ⟨_, rfl, rfl, ?_, fun h => ?_, fun h => ?_⟩
          · simp only; split <;> omega
          · simp only at h ⊢
            obtain ⟨e1, e2⟩ := w5 h
            exact ⟨by rw [hf, e1], by omega⟩
          · simp only; exact w6 (by omega)) (t.nodes.length + 1) (t, W, s) (Nat.lt_succ_self _) ⟨rfl, ht, by show 0 ≤ s ∧ s ≤ 1000000 - 2000 * (t.nodes.length : Int) + 2000000; omega⟩
  exact this
/-- Where every variable is filled, filling is putting terms in their places. -/
theorem fill_inst {W : List (List UInt8 × TTerm)} {σ : List UInt8 → TTerm} : ∀ {t : TTerm}, (∀ n, varB n t = true → aget W n = some (σ n)) → t.fill W = t.inst σ := by
  intro t
  refine term_ind (P := fun t => (∀ n, varB n t = true → aget W n = some (σ n)) → t.fill W = t.inst σ) (fun t ih h => ?_) t
  rw [fill_eq, inst_eq]
  by_cases hk : t.kind = 2
  · have := h t.name (varB_sub.2 (.inl ⟨hk, rfl⟩))
    rw [if_pos ⟨hk, by rw [this]; rfl⟩, if_pos hk, this]; rfl
  · rw [if_neg (fun e => hk e.1), if_neg hk]
    congr 1
    refine List.map_congr_left fun s hs => ih s hs fun n hn => h n (varB_sub.2 (.inr ⟨s, hs, hn⟩))
end Go.Proofs.YtpjkepfplhllfaaDoor.Av
namespace Go.Proofs.YtpjkepfplhllfaaDoor.Av
set_option linter.unusedSimpArgs false
set_option linter.unusedVariables false
open Go
theorem TermP.node {t : TTerm} (h : TermP t) : ∀ x ∈ t.nodes, TermP x := by
  refine term_ind (P := fun t => TermP t → ∀ x ∈ t.nodes, TermP x) (fun t ih h x hx => ?_) t h
  rw [t.nodes_eq] at hx
  rcases List.mem_cons.1 hx with rfl | hx
  · exact h
  · obtain ⟨s, hs, hx⟩ := mem_nodesL.1 hx
    exact ih s hs (h.sub hs) x hx
theorem var_sub {P : TTerm} (hb : nodeB P = true) (hk : P.kind = 2) : P.sub = [] := by
  unfold nodeB term_node term_wide at hb
  simp only [Option.bind_some] at hb
  split at hb
  · simp at hb
  · unfold term_shaped at hb
    rw [hk, if_neg (by simp), if_pos (by simp), if_pos (by simp)] at hb
    have e : nth shapesL (2 : Int) = ⟨[], 0, 0⟩ := rfl
    simp only [Option.bind_some, e] at hb
    rw [if_pos (by simp)] at hb
    by_cases hz : P.sub = []
    · exact hz
    · have e3 : decide ((P.sub.length : Int) = 0) = false := by
        simp only [decide_eq_false_iff_not]
        intro h
        exact hz (List.length_eq_zero_iff.1 (by omega))
      simp only [e3, Bool.false_and, Bool.false_eq_true, if_false, Option.bind_some, Option.getD_some] at hb
theorem inst_sub {σ : List UInt8 → TTerm} {n : List UInt8} : ∀ {P : TTerm}, (∀ x ∈ P.nodes, nodeB x = true) → varB n P = true → σ n ∈ (P.inst σ).nodes := by
  intro P
  refine term_ind (P := fun P => (∀ x ∈ P.nodes, nodeB x = true) → varB n P = true → σ n ∈ (P.inst σ).nodes) (fun P ih hb h => ?_) P
  rw [inst_eq]
  by_cases hk : P.kind = 2 ∧ P.name = n
  · rw [if_pos hk.1, hk.2]; exact self_nodes _
  · rcases varB_sub.1 h with h | ⟨s, hs, h⟩
    · exact absurd h hk
    · by_cases hk2 : P.kind = 2
      · rw [var_sub (hb P (self_nodes P)) hk2] at hs; cases hs
      · rw [if_neg hk2]
        exact sub_nodes (List.mem_map.2 ⟨s, hs, rfl⟩) (ih s hs (fun x hx => hb x (sub_nodes hs hx)) h)
theorem inst_congr {σ τ : List UInt8 → TTerm} : ∀ {P : TTerm}, (∀ n, varB n P = true → σ n = τ n) → P.inst σ = P.inst τ := by
  intro P
  refine term_ind (P := fun P => (∀ n, varB n P = true → σ n = τ n) → P.inst σ = P.inst τ) (fun P ih h => ?_) P
  rw [inst_eq, inst_eq]
  by_cases hk : P.kind = 2
  · rw [if_pos hk, if_pos hk]; exact h _ (varB_sub.2 (.inl ⟨hk, rfl⟩))
  · rw [if_neg hk, if_neg hk]
    congr 1
    exact List.map_congr_left fun s hs => ih s hs fun n hn => h n (varB_sub.2 (.inr ⟨s, hs, hn⟩))
theorem mem_inputs {t : TTerm} {l : List TMachOperand} {k : Int} : k ∈ inputsV t l ↔ ∃ j : Nat, j < l.length ∧ k = (j : Int) ∧ varB (nth l (j : Int)).name t = true := by
  simp only [inputsV, List.mem_map, List.mem_filter, List.mem_range]
  constructor
  · rintro ⟨j, ⟨h1, h2⟩, rfl⟩; exact ⟨j, h1, rfl, h2⟩
  · rintro ⟨j, h1, rfl, h2⟩; exact ⟨j, ⟨h1, h2⟩, rfl⟩
theorem inputs_len (t : TTerm) (l : List TMachOperand) : (inputsV t l).length ≤ l.length := by
  simp only [inputsV, List.length_map]
  have := List.length_filter_le (fun k : Nat => varB (nth l (k : Int)).name t) (List.range l.length)
  rw [List.length_range] at this; exact this
theorem inputs_nodup (t : TTerm) (l : List TMachOperand) : (inputsV t l).Nodup := by
  unfold inputsV
  refine List.Pairwise.map _ (R := fun a b : Nat => a ≠ b) (fun a b h e => h (by omega)) ?_
  exact List.Pairwise.filter _ List.nodup_range
/-- The arguments that terms for names make. -/
def argsOf (t : TTerm) (l : List TMachOperand) (σ : List UInt8 → TTerm) : List TPatternArg := (inputsV t l).map fun k => ⟨k, σ (nth l k).name⟩
/-- What is known behind an index of the table. -/
structure At (m : TMachine) (i : Int) (p : TPattern) (l : List TMachOperand) : Prop where
  small : SmallP m
  valid : ValidP m
  range : 0 ≤ i ∧ i < ((tableV m).length : Int)
  at_ : pattern_atX m i = some (p, l, 0)
  pat : PatT l p.term
  term : TermP p.term
  wf : p.term.wf
  nodup : (l.map (·.name)).Nodup
  len : l.length ≤ 4
  pieces : ∀ o ∈ l, o.pieces.length ≤ 1000
theorem at_or {m : TMachine} (L : LenOK m) (ht : TermsOK m) (i : Int) : (∃ p l, At m i p l) ∨ ∃ e, e ≠ 0 ∧ pattern_atX m i = some (noPat, [], e) ∧ ∀ p l, ¬ At m i p l := by
  obtain ⟨e, h1, h2, h3⟩ := at_eq L ht i
  by_cases h0 : e = 0
  · subst h0
    obtain ⟨hs, hv⟩ := h2.1 rfl
    rw [if_pos rfl] at h3
    by_cases hr : 0 ≤ i ∧ i < ((tableV m).length : Int)
    · rw [if_pos hr] at h3
      left
      obtain ⟨k, hk, e⟩ := mem_table (nth_mem hr.1 hr.2)
      have hV := instrV hs ht hv
      have hp := patV hV hk e
      have hf := hp.facts hV
      have hS := hV _ (List.getElem_mem hk)
      rw [hp.instr, nth_nat _ hk] at h3
      refine ⟨_, _, ⟨hs, hv, hr, h3, ⟨fun x hx => ⟨hf.2.2.2.1.1.2.1 x hx, ?_⟩, fun n hn => hp.oper.2.1 n hn, hf.2.2.2.2.2⟩, hf.2.2.2.1.1, hf.2.2.2.2.1, hS.names, hS.ok.ops, fun o ho => by have := hS.ok.pieces o ho; omega⟩⟩
      have := wf_nodes hf.2.2.2.2.1 x hx
      rw [TTerm.wf_iff] at this
      exact (inK_u8 this.1).1
    · rw [if_neg hr] at h3
      exact .inr ⟨6, by decide, h3, fun p l h => hr h.range⟩
  · rw [if_neg h0] at h3
    exact .inr ⟨e, h0, h3, fun p l h => h0 (h2.2 ⟨h.small, h.valid⟩)⟩
theorem At.unique {m : TMachine} {i : Int} {p p' : TPattern} {l l' : List TMachOperand} (h : At m i p l) (h' : At m i p' l') : p = p' ∧ l = l' := by
  have e := h.at_.symm.trans h'.at_
  simp only [Option.some.injEq, Prod.mk.injEq] at e
  exact ⟨e.1, e.2.1⟩
/-- The index of a variable's operand. -/
theorem At.idx {m : TMachine} {i : Int} {p : TPattern} {l : List TMachOperand} (h : At m i p l) {n : List UInt8} (hn : varB n p.term = true) : ∃ k : Nat, k < l.length ∧ Av.idx l n = (k : Int) ∧ (nth l (k : Int)).name = n ∧ (k : Int) ∈ inputsV p.term l := by
  obtain ⟨k, hk, e1, e2⟩ := (find_eq (l := l) (by have := h.len; omega) n).2 (h.pat.name n hn)
  exact ⟨k, hk, e1, by rw [nth_nat _ hk]; exact e2, mem_inputs.2 ⟨k, hk, rfl, by rw [nth_nat _ hk, e2]; exact hn⟩⟩
theorem termT {t : TTerm} (hw : t.wf) (h : TermP t) : TermT t :=
  ⟨fun x hx => ⟨h.2.1 x hx, by have := wf_nodes hw x hx; rw [TTerm.wf_iff] at this; exact (inK_u8 this.1).1⟩, by have := h.1.1; omega⟩
theorem Match_spec {m : TMachine} {t : TTerm} (L : LenOK m) (ht : TermsOK m) (hw : t.wf) (hl : t.nodes.length ≤ 100000) (i : Int) :
    ∃ a e, pattern_Match m i t = some (a, e) ∧ (e = 0 → ∃ p l σ, At m i p l ∧ TermP t ∧ p.term.inst σ = t ∧ FitsAll m l σ p.term ∧ a = argsOf p.term l σ) ∧
      (∀ p l σ, At m i p l → TermP t → p.term.inst σ = t → FitsAll m l σ p.term → e = 0 ∧ a = argsOf p.term l σ) := by
  unfold pattern_Match
  rcases at_or L ht i with ⟨p, l, hA⟩ | ⟨e, h0, h1, h2⟩
  · rw [hA.at_, Option.bind_some]
    simp only [decide_true, if_true]
    obtain ⟨e, c1, c2⟩ := Check_eq hw (by omega)
    rw [c1, Option.bind_some]
    unfold pattern_Match.j0
    by_cases h0 : e = 0
    · have hT := c2.1 h0
      have hl4 := hA.len
      rw [if_neg (by simpa using h0)]
      obtain ⟨⟨F, b⟩, r1, q1, q2⟩ := match_eq (m := m) (l := l) (P := p.term) (t := t) (F := []) (by omega) hA.pieces hA.pat (termT hw hT) (fun k v h => by simp [aget] at h) p.term.nodes.length (depth_le _)
      simp only at q1 q2
      simp only
      rw [r1, Option.bind_some]
      have hc0 : ∀ σ, Cons l σ [] := fun σ n _ v h => by simp [aget] at h
      cases hb : b with
      | false =>
        rw [if_pos (by rfl)]
        refine ⟨_, _, rfl, fun h => by simp at h, fun p' l' σ hA' _ h1 h2 => ?_⟩
        obtain ⟨rfl, rfl⟩ := hA.unique hA'
        have := (q2 σ h1 (hc0 σ) h2).1
        rw [hb] at this; cases this
      | true =>
        rw [if_neg (by simp), inputs_eq (by omega) (by have := hA.term.1.1; omega), Option.bind_some]
        obtain ⟨p1, p2, p3, p4⟩ := q1 hb
        -- the terms that were found
        have hget : ∀ n, varB n p.term = true → aget F (Av.idx l n) = some ((aget F (Av.idx l n)).getD zeroT) := fun n hn => by
          have := p2 n hn
          cases hg : aget F (Av.idx l n) with
          | none => rw [hg] at this; cases this
          | some v => rfl
        have hin := p3 (fun n => (aget F (Av.idx l n)).getD zeroT) hget
        have hval : ∀ k v, aget F k = some v → v.nodes.length ≤ 100000 := fun k v h => by
          rcases p4 k v h with h | ⟨_, _, _, _, _, h⟩
          · simp [aget] at h
          · have := nodes_le h; omega
        have hfit : FitsAll m l (fun n => (aget F (Av.idx l n)).getD zeroT) p.term := by
          intro x hx hk
          have hv : varB x.name p.term = true := varB_iff.2 ⟨x, hx, hk, rfl⟩
          have hg := hget _ hv
          rcases p4 _ _ hg with h | ⟨y, hy, k1, k2, k3, _⟩
          · simp [aget] at h
          · have hvy : varB y.name p.term = true := varB_iff.2 ⟨y, hy, k1, rfl⟩
            obtain ⟨j, j1, j2, j3, _⟩ := hA.idx hv
            obtain ⟨j', j1', j2', j3', _⟩ := hA.idx hvy
            have hnm : x.name = y.name := by
              rw [← j3, ← j3']
              have : j = j' := by omega
              rw [this]
            have hwd := hA.term.2.2 x hx y hy hk k1 hnm
            rw [hwd]; exact k3
        have hargs : ∃ r, Fx.fx (pattern_Match.l0 (F, true) (inputsV p.term l)) ([], 0) = some r ∧ r = (argsOf p.term l (fun n => (aget F (Av.idx l n)).getD zeroT), 0) := by
          have hil := inputs_len p.term l
          refine fx_for (step := pattern_Match.l0 (F, true) (inputsV p.term l)) (inputsV p.term l).length (fun j w => w = ((argsOf p.term l (fun n => (aget F (Av.idx l n)).getD zeroT)).take j, (j : Int))) _ rfl (fun j w hj hw => ?_) (fun w hw => ?_)
          · subst hw
            simp only [pattern_Match.l0]
            obtain ⟨k, k1, k2, k3⟩ := mem_inputs.1 (List.getElem_mem hj)
            rw [nth_nat _ k1] at k3
            have hidx := idx_at (l := l) (by omega) hA.nodup k1
            have hz : ((aget F (k : Int)).getD (TTerm.mk 0 0 0 [] 0 [])).nodes.length ≤ 1000000 := by
              cases hg : aget F (k : Int) with
              | none => show zeroT.nodes.length ≤ 1000000; decide
              | some v => have := hval _ _ hg; simp only [Option.getD_some]; omega
            have hal : (argsOf p.term l (fun n => (aget F (Av.idx l n)).getD zeroT)).length = (inputsV p.term l).length := by simp [argsOf]
            rw [if_pos (by simpa using hj), if_pos (inb hj), nth_nat _ hj, k2, Twin_eq hz, Option.bind_some, if_pos (by rw [List.length_take]; omega)]
            refine .inl ⟨_, rfl, ?_⟩
            rw [wrap_succ (by omega), take_snoc (show j < (argsOf p.term l (fun n => (aget F (Av.idx l n)).getD zeroT)).length by omega)]
            congr 3
            simp only [argsOf, List.getElem_map, k2, nth_nat _ k1, hidx]
            rfl
          · subst hw
            simp only [pattern_Match.l0]
            rw [if_neg (by simp)]
            refine ⟨_, rfl, ?_⟩
            rw [List.take_of_length_le (by simp [argsOf])]
        obtain ⟨r, a1, a2⟩ := hargs
        rw [a1, a2]
        refine ⟨_, _, rfl, fun _ => ⟨p, l, _, hA, hT, hin, hfit, rfl⟩, fun p' l' σ hA' _ h1 h2 => ⟨rfl, ?_⟩⟩
        obtain ⟨rfl, rfl⟩ := hA.unique hA'
        have hcons := (q2 σ h1 (hc0 σ) h2).2
        refine List.map_congr_left fun k hk => ?_
        obtain ⟨j, j1, j2, j3⟩ := mem_inputs.1 hk
        subst j2
        congr 1
        have hg := hget _ j3
        exact hcons _ (hA.pat.name _ j3) _ hg
    · rw [if_pos (by simpa using h0)]
      refine ⟨_, _, rfl, fun h => absurd h h0, fun _ _ _ _ hT => absurd (c2.2 hT) h0⟩
  · rw [h1, Option.bind_some]
    simp only
    rw [if_neg (by simpa using h0)]
    unfold pattern_Match.j0
    rw [if_pos (by simpa using h0)]
    exact ⟨_, _, rfl, fun h => absurd h h0, fun p l _ hA => absurd hA (h2 p l)⟩
end Go.Proofs.YtpjkepfplhllfaaDoor.Av
