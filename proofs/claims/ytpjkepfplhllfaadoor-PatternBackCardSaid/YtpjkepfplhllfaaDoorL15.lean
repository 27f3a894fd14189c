/-
Plain words about Fill: what it answers.
-/
import Derived.Test.YtpjkepfplhllfaaDoorL14
namespace Go.Proofs.YtpjkepfplhllfaaDoor.Av
set_option linter.unusedSimpArgs false
set_option linter.unusedVariables false
open Go
theorem inst_wf {σ : List UInt8 → TTerm} : ∀ {P : TTerm}, P.wf → (∀ n, varB n P = true → (σ n).wf) → (P.inst σ).wf := by
  intro P
  refine term_ind (P := fun P => P.wf → (∀ n, varB n P = true → (σ n).wf) → (P.inst σ).wf) (fun P ih hw h => ?_) P
  rw [inst_eq]
  by_cases hk : P.kind = 2
  · rw [if_pos hk]; exact h _ (varB_sub.2 (.inl ⟨hk, rfl⟩))
  · rw [if_neg hk]
    rw [TTerm.wf_iff] at hw ⊢
    obtain ⟨h1, h2, h3, h4, h5, ⟨h6, h7⟩, _⟩ := hw
    refine ⟨h1, h2, h3, h4, h5, ⟨by simpa using h6, fun y hy => ?_⟩, trivial⟩
    obtain ⟨s, hs, rfl⟩ := List.mem_map.1 hy
    exact ih s hs (h7 s hs) fun n hn => h n (varB_sub.2 (.inr ⟨s, hs, hn⟩))
/-- An argument that Fill takes. -/
structure ArgOK (m : TMachine) (l : List TMachOperand) (P : TTerm) (k : Int) (a : TPatternArg) : Prop where
  op : a.operand = k
  term : TermP a.term
  fits : ∃ w, pattern_width P (nth l k).name = some w ∧ fitsB m (nth l k) w a.term = true
theorem input_name {l : List TMachOperand} {P : TTerm} (hl : l.length ≤ 1000) (hn : (l.map (·.name)).Nodup) {i j : Nat} (hi : i < (inputsV P l).length) (hj : j < (inputsV P l).length) (h : (nth l (inputsV P l)[i]).name = (nth l (inputsV P l)[j]).name) : i = j := by
  obtain ⟨a, a1, a2, _⟩ := mem_inputs.1 (List.getElem_mem hi)
  obtain ⟨b, b1, b2, _⟩ := mem_inputs.1 (List.getElem_mem hj)
  rw [a2, b2, nth_nat _ a1, nth_nat _ b1] at h
  have e1 := idx_at hl hn a1
  have e2 := idx_at hl hn b1
  rw [h, e2] at e1
  have e3 : (inputsV P l)[i] = (inputsV P l)[j] := by rw [a2, b2]; omega
  exact (List.getElem_inj (inputs_nodup P l)).1 e3
theorem argsOf_get {P : TTerm} {l : List TMachOperand} {σ : List UInt8 → TTerm} {args : List TPatternArg} (h : args = argsOf P l σ) {j : Nat} (hj : j < args.length) (hi : j < (inputsV P l).length) : args[j] = ⟨(inputsV P l)[j], σ (nth l (inputsV P l)[j]).name⟩ := by
  subst h
  simp [argsOf]
theorem ArgOK.of {m : TMachine} {i : Int} {p : TPattern} {l : List TMachOperand} {σ : List UInt8 → TTerm} (hA : At m i p l) (hf : FitsAll m l σ p.term) (ht : ∀ n, varB n p.term = true → TermP (σ n)) {k : Int} (hk : k ∈ inputsV p.term l) : ArgOK m l p.term k ⟨k, σ (nth l k).name⟩ := by
  obtain ⟨j, j1, j2, j3⟩ := mem_inputs.1 hk
  subst j2
  obtain ⟨w, w1, w2, _⟩ := width_eq (n := (nth l (j : Int)).name) hA.term.2.1 hA.term.2.2 (by have := hA.term.1.1; omega)
  obtain ⟨x, hx, k1, k2⟩ := varB_iff.1 j3
  refine ⟨rfl, ht _ j3, w, w1, ?_⟩
  have h1 := hf x hx k1
  have hl4 := hA.len
  have h2 : idx l x.name = (j : Int) := by rw [k2, nth_nat _ j1, idx_at (by omega) hA.nodup j1]
  rw [h2, k2] at h1
  rw [w2 x hx k1 k2]; exact h1
theorem Fill_spec {m : TMachine} {args : List TPatternArg} (L : LenOK m) (ht : TermsOK m) (hw : ∀ a ∈ args, a.term.wf) (hl : ∀ a ∈ args, a.term.nodes.length ≤ 100000) (i : Int) :
    ∃ u f, pattern_Fill m i args = some (u, f) ∧ (f = 0 → ∃ p l σ, At m i p l ∧ args = argsOf p.term l σ ∧ FitsAll m l σ p.term ∧ (∀ n, varB n p.term = true → TermP (σ n)) ∧ u = p.term.inst σ ∧ TermP u ∧ u.wf) ∧
      (∀ p l σ, At m i p l → args = argsOf p.term l σ → FitsAll m l σ p.term → (∀ n, varB n p.term = true → TermP (σ n)) → TermP (p.term.inst σ) → f = 0 ∧ u = p.term.inst σ) := by
  unfold pattern_Fill
  rcases at_or L ht i with ⟨p, l, hA⟩ | ⟨e, h0, h1, h2⟩
  · rw [hA.at_, Option.bind_some]
    simp only [decide_true, Bool.not_true, Bool.false_eq_true, if_false]
    have hl4 := hA.len
    rw [inputs_eq (by omega) (by have := hA.term.1.1; omega), Option.bind_some]
    by_cases hlen : args.length = (inputsV p.term l).length
    · rw [if_neg (by simp; omega)]
      have hin := inputs_len p.term l
      have key : ∃ r, Fx.fx (pattern_Fill.l0 m args (p, l, 0) (inputsV p.term l)) (0, []) = some r ∧ (r.2 = 0 → ∃ σ, args = argsOf p.term l σ ∧ FitsAll m l σ p.term ∧ (∀ n, varB n p.term = true → TermP (σ n)) ∧ r.1 = p.term.inst σ ∧ TermP r.1 ∧ r.1.wf) ∧
          (∀ σ, args = argsOf p.term l σ → FitsAll m l σ p.term → (∀ n, varB n p.term = true → TermP (σ n)) → TermP (p.term.inst σ) → r.2 = 0 ∧ r.1 = p.term.inst σ) := by
        refine fx_for (step := pattern_Fill.l0 m args (p, l, 0) (inputsV p.term l)) args.length (fun i w => w.1 = (i : Int) ∧ (∀ j (h : j < args.length), j < i → ArgOK m l p.term ((inputsV p.term l)[j]'(by omega)) args[j]) ∧
          (∀ j (h : j < args.length), j < i → aget w.2 (nth l ((inputsV p.term l)[j]'(by omega))).name = some args[j].term) ∧ (∀ n v, aget w.2 n = some v → ∃ a ∈ args, v = a.term ∧ TermP v)) _ ⟨rfl, fun j _ h => by omega, fun j _ h => by omega, fun n v h => by simp [aget] at h⟩ (fun i w hi ⟨w1, w2, w3, w4⟩ => ?_) (fun w ⟨w1, w2, w3, w4⟩ => ?_)
        · obtain ⟨z, W⟩ := w
          simp only at w1 w2 w3 w4
          subst w1
          have hi2 : i < (inputsV p.term l).length := by omega
          obtain ⟨k, k1, k2, k3⟩ := mem_inputs.1 (List.getElem_mem hi2)
          -- where an argument is not taken, no filling is right
          have bad : ¬ ArgOK m l p.term (inputsV p.term l)[i] args[i] → ((TTerm.mk 0 0 0 [] 0 [], (2 : Int)).2 = 0 → ∃ σ, args = argsOf p.term l σ ∧ FitsAll m l σ p.term ∧ (∀ n, varB n p.term = true → TermP (σ n)) ∧ (TTerm.mk 0 0 0 [] 0 []) = p.term.inst σ ∧ TermP (TTerm.mk 0 0 0 [] 0 []) ∧ (TTerm.mk 0 0 0 [] 0 []).wf) ∧
              (∀ σ, args = argsOf p.term l σ → FitsAll m l σ p.term → (∀ n, varB n p.term = true → TermP (σ n)) → TermP (p.term.inst σ) → (2 : Int) = 0 ∧ (TTerm.mk 0 0 0 [] 0 []) = p.term.inst σ) := fun hb => by
            refine ⟨fun h => by simp at h, fun σ s1 s2 s3 _ => absurd ?_ hb⟩
            rw [argsOf_get s1 hi hi2]
            exact ArgOK.of hA s2 s3 (List.getElem_mem hi2)
          simp only [pattern_Fill.l0]
          rw [if_pos (by simpa using hi), if_pos (inb hi), if_pos (inb hi2), nth_nat _ hi, nth_nat _ hi2]
          by_cases hop : args[i].operand = (inputsV p.term l)[i]
          · have hma := List.getElem_mem hi
            obtain ⟨e, c1, c2⟩ := Check_eq (hw _ hma) (by have := hl _ hma; omega)
            simp only [hop, decide_true, if_true]
            rw [c1, Option.bind_some]
            by_cases he : e = 0
            · have hT := c2.1 he
              have hkl : (0 : Int) ≤ (inputsV p.term l)[i] ∧ (inputsV p.term l)[i] < (l.length : Int) := by rw [k2]; omega
              obtain ⟨wd, d1, _⟩ := width_eq (n := (nth l (inputsV p.term l)[i]).name) hA.term.2.1 hA.term.2.2 (by have := hA.term.1.1; omega)
              have hpl := hA.pieces _ (nth_mem hkl.1 hkl.2)
              simp only [he, decide_true, Bool.not_true, Bool.or_self, Bool.not_false, if_true, forall_const]
              rw [if_pos (inb hi2), if_pos hkl, if_pos (inb hi2), if_pos hkl, d1, Option.bind_some, fitsB_eq hpl, Option.bind_some]
              cases hfb : fitsB m (nth l (inputsV p.term l)[i]) wd args[i].term with
              | false =>
                rw [if_pos (by rfl)]
                refine .inr ⟨_, rfl, bad fun h => ?_⟩
                obtain ⟨w', x1, x2⟩ := h.fits
                rw [d1] at x1
                cases x1
                rw [hfb] at x2; cases x2
              | true =>
                rw [if_neg (by simp), if_pos (inb hi2), if_pos hkl]
                refine .inl ⟨_, rfl, wrap_succ (by omega), fun j hj hji => ?_, fun j hj hji => ?_, fun n v hv => ?_⟩
                · by_cases e2 : j = i
                  · subst e2; exact ⟨hop, hT, wd, d1, hfb⟩
                  · exact w2 j hj (by omega)
                · simp only
                  rw [aget_aput]
                  by_cases e2 : j = i
                  · subst e2; rw [if_pos rfl]
                  · rw [if_neg (fun e3 => e2 (input_name (by omega) hA.nodup (by omega) hi2 e3))]
                    exact w3 j hj (by omega)
                · simp only at hv
                  rw [aget_aput] at hv
                  split at hv
                  · cases hv; exact ⟨_, hma, rfl, hT⟩
                  · exact w4 n v hv
            · have hd : decide (e = 0) = false := by simpa using he
              simp only [hd, Bool.not_false, Bool.not_true, Bool.or_true, Bool.false_or, Bool.false_eq_true, false_imp_iff, if_true, if_false, Option.bind_some, Bool.true_or]
              exact .inr ⟨_, rfl, bad fun h => he (c2.2 h.term)⟩
          · have hd : decide (args[i].operand = (inputsV p.term l)[i]) = false := by simpa using hop
            simp only [hd, Bool.not_false, Bool.not_true, Bool.or_true, Bool.false_or, Bool.false_eq_true, false_imp_iff, if_true, if_false, Option.bind_some, Bool.true_or]
            exact .inr ⟨_, rfl, bad fun h => hop h.op⟩
        · obtain ⟨z, W⟩ := w
          simp only at w1 w2 w3 w4
          subst w1
          simp only [pattern_Fill.l0]
          rw [if_neg (by simp)]
          have hp400 := hA.term.1.1
          obtain ⟨⟨r1, r2, r3⟩, hr, q1, q2, q3, q4⟩ := filled_eq (t := p.term) (W := W) (s := 0) (fun n v hv => by obtain ⟨_, _, _, h⟩ := w4 n v hv; exact h.1.1) (by omega) (by omega)
          simp only at q1 q2 q3 q4
          rw [hr, Option.bind_some]
          have hget : ∀ n, varB n p.term = true → aget W n = some ((aget W n).getD zeroT) ∧ ∃ j, ∃ h : j < args.length, (nth l ((inputsV p.term l)[j]'(by omega))).name = n ∧ aget W n = some args[j].term := fun n hn => by
            obtain ⟨k, k1, k2, k3, k4⟩ := hA.idx hn
            obtain ⟨j, hj, e⟩ := List.mem_iff_getElem.1 k4
            have hj2 : j < args.length := by omega
            have h := w3 j hj2 hj2
            simp only [e, k3] at h
            exact ⟨by rw [h]; rfl, j, hj2, by simp only [e, k3], h⟩
          have hfill : p.term.fill W = p.term.inst (fun n => (aget W n).getD zeroT) := fill_inst fun n hn => (hget n hn).1
          have hargs : args = argsOf p.term l (fun n => (aget W n).getD zeroT) := by
            refine List.ext_getElem (by simp [argsOf, hlen]) fun j h1 h2 => ?_
            simp only [argsOf, List.getElem_map]
            have e1 := w3 j h1 h1
            rw [e1]
            have e2 := (w2 j h1 h1).op
            rw [← e2]
            rfl
          have hfit : FitsAll m l (fun n => (aget W n).getD zeroT) p.term := fun x hx hk => by
            have hv : varB x.name p.term = true := varB_iff.2 ⟨x, hx, hk, rfl⟩
            obtain ⟨k, k1, k2, k3, k4⟩ := hA.idx hv
            obtain ⟨j, hj, e⟩ := List.mem_iff_getElem.1 k4
            have hj2 : j < args.length := by omega
            have h := w3 j hj2 hj2
            simp only [e, k3] at h
            obtain ⟨w', x1, x2⟩ := (w2 j hj2 hj2).fits
            simp only [e, k3] at x1 x2
            obtain ⟨w, y1, y2, _⟩ := width_eq (n := x.name) hA.term.2.1 hA.term.2.2 (by omega)
            rw [y1] at x1
            cases x1
            show fitsB m _ _ ((aget W x.name).getD zeroT) = true
            rw [k2, h, ← y2 x hx hk rfl]
            exact x2
          have hter : ∀ n, varB n p.term = true → TermP ((aget W n).getD zeroT) := fun n hn => by
            obtain ⟨_, _, _, h⟩ := w4 n _ (hget n hn).1; exact h
          have hwf : (p.term.inst (fun n => (aget W n).getD zeroT)).wf := inst_wf hA.wf fun n hn => by
            obtain ⟨a, ha, e, _⟩ := w4 n _ (hget n hn).1
            rw [e]; exact hw a ha
          have huniq : ∀ σ, args = argsOf p.term l σ → p.term.inst σ = p.term.inst (fun n => (aget W n).getD zeroT) := fun σ hs => inst_congr fun n hn => by
            obtain ⟨_, j, hj, e1, e2⟩ := hget n hn
            have hj2 : j < (inputsV p.term l).length := by omega
            rw [e2]
            have := argsOf_get hs hj hj2
            rw [this]
            simp only [e1, Option.getD_some]
          by_cases hsz : 400 < r2
          · rw [if_pos (by simpa using hsz)]
            refine ⟨_, rfl, fun h => by simp at h, fun σ s1 s2 s3 s4 => ?_⟩
            rw [huniq σ s1, ← hfill] at s4
            have := q4 (by have := s4.1.1; omega)
            omega
          · rw [if_neg (by simpa using hsz)]
            obtain ⟨e1, e2⟩ := q3 (by omega)
            rw [e1, hfill]
            obtain ⟨e, c1, c2⟩ := Check_eq hwf (by rw [hfill] at e2; omega)
            rw [c1, Option.bind_some]
            by_cases he : e = 0
            · rw [if_neg (by simpa using he)]
              exact ⟨_, rfl, fun _ => ⟨_, hargs, hfit, hter, rfl, c2.1 he, hwf⟩, fun σ s1 _ _ _ => ⟨rfl, (huniq σ s1).symm⟩⟩
            · rw [if_pos (by simpa using he)]
              exact ⟨_, rfl, fun h => absurd h he, fun σ s1 _ _ s4 => absurd (c2.2 (by rw [← huniq σ s1]; exact s4)) he⟩
      obtain ⟨⟨u, f⟩, hr, q1, q2⟩ := key
      refine ⟨u, f, hr, fun h => ?_, fun p' l' σ hA' => ?_⟩
      · obtain ⟨σ, hσ⟩ := q1 h
        exact ⟨p, l, σ, hA, hσ⟩
      · obtain ⟨rfl, rfl⟩ := hA.unique hA'
        exact q2 σ
    · rw [if_pos (by simp; omega)]
      refine ⟨_, _, rfl, fun h => by simp at h, fun p' l' σ hA' hs => ?_⟩
      obtain ⟨rfl, rfl⟩ := hA.unique hA'
      exact absurd (by rw [hs]; simp [argsOf]) hlen
  · rw [h1, Option.bind_some]
    simp only
    rw [if_pos (by simpa using h0)]
    exact ⟨_, _, rfl, fun h => absurd h h0, fun p l _ hA => absurd hA (h2 p l)⟩
end Go.Proofs.YtpjkepfplhllfaaDoor.Av
