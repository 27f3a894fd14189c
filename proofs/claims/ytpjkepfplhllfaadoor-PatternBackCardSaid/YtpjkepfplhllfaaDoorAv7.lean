import Derived.Test.YtpjkepfplhllfaaDoorAv6
namespace Go.Proofs.YtpjkepfplhllfaaDoor.Av
set_option linter.unusedSimpArgs false
set_option linter.unusedVariables false
open Go
section
variable {P : Program} {w : World} {φ : Nat → Nat} {E : Env} {f : Fm} {σ : St} {a : Act} {Ω : List Own}

/-- Types that a conversion comes from are known. -/
def convOK (P : Program) (o : Op) : Prop := match o with | .convert src _ _ => ∃ d, P.underlying src = some d | _ => True

theorem run_value (s : Sem Value) {v : Value} (h : s.run P w = .ok v w) : (do pure (Next.value (← s)) : Sem Next).run P w = .ok (.value v) w := by
  simp only [Sem.run_bind, h, Result.andThen_ok, Sem.run_pure]

/-- An operation that neither writes nor calls: what it yields stands for what the abstract state tells. -/
theorem evF_run (hE : EnvOK P E) (hs : SS E w φ Ω σ) (hf : FS w φ Ω f a) {o : Oper} {x : AV} (h : evF E f σ o.op = some x) :
    ∃ v, (execOp a.eval o).run P w = .ok (.value v) w ∧ Rep w φ x v ∧ TagOK Ω x v := by
  have hΩ : ∀ x ∈ Ω, x.tag ≠ .none := fun x hx => (hs.own x hx).tag
  have ev := fun x => evX_rep (E := E) hs hf x
  unfold evF at h
  unfold execOp
  split at h <;> rename_i hop <;> simp only [hop]
  · simp only [Option.some.injEq] at h; subst h
    exact ⟨_, rfl, ev _⟩
  · simp only [Option.some.injEq] at h; subst h
    exact ⟨_, rfl, ev _⟩
  · rename_i c x y
    obtain ⟨b, hb, h1, h2⟩ := pickA_run h (ev c).1 (ev x).1 (ev y).1 (ev x).2 (ev y).2
    refine ⟨_, ?_, h1, h2⟩
    simp only [hb, asBool, Sem.run_bind, Sem.run_pure, Result.andThen_ok]
  · rename_i t ps
    obtain ⟨v, h1, h2⟩ := buildA_run hE (g := evX E f) (u := a.eval) h (fun p _ => ev p.2)
    refine ⟨v, run_value _ ?_, h2⟩
    rw [← h1]; congr 2; apply Array.ext'; simp
  · obtain ⟨v, h1, h2⟩ := loadA_run hE hs h (ev _).1
    exact ⟨v, run_value _ h1, h2⟩
  · rename_i x
    split at h
    · rename_i b o' he
      simp only [Option.some.injEq] at h; subst h
      have := (ev x).1
      rw [he] at this
      simp only [Rep] at this
      rw [this]
      exact ⟨_, rfl, by simp only [Rep], trivial⟩
    · rename_i cs he
      simp only [Option.some.injEq] at h; subst h
      have := (ev x).1
      rw [he] at this
      have h0 := this
      simp only [Rep] at this
      obtain ⟨b, o', hv, _⟩ := this
      rw [hv] at h0 ⊢
      exact ⟨_, rfl, h0, trivial⟩
    · cases h
  · obtain ⟨v, h1, h2⟩ := binA_run hE _ _ h (ev _).1 (ev _).1
    exact ⟨v, run_value _ h1, h2⟩
  · obtain ⟨v, h1, h2⟩ := unA_run h (ev _).1
    exact ⟨v, run_value _ h1, h2⟩
  · split at h
    · rename_i l hl
      obtain ⟨ti, d, hti, hd, _⟩ := mkLay_spec (hE _ _ hl)
      obtain ⟨v, h1, h2⟩ := convA_run hE h (ev _).1 ⟨d, hd⟩
      exact ⟨v, run_value _ h1, h2⟩
    · cases h
  · rename_i g first caps
    split at h
    · rename_i hfi
      simp only [Option.some.injEq] at h; subst h
      have hfi' : first = #[] := by apply Array.ext'; simpa using hfi
      subst hfi'
      have hr : ∀ l : List Operand, RepL w φ (l.map fun x => er (evX E f x)) (l.map a.eval) := by
        intro l
        induction l with
        | nil => exact RepL.nil
        | cons x l ih => exact RepL.cons (ev x).1.er ih
      refine ⟨_, run_value _ (by simp [Instr.makeFunc]; rfl), ?_, trivial⟩
      simp only [Rep]
      exact ⟨_, by congr 1; apply Array.ext'; simp, hr caps.toList⟩
    · cases h
  · obtain ⟨v, h1, h2⟩ := fieldA_run hE h (ev _).1
    exact ⟨v, run_value _ h1, h2⟩
  · obtain ⟨v, h1, h2⟩ := partA_run hE h (ev _).1 (ev _).2
    exact ⟨v, run_value _ h1, h2⟩
  · obtain ⟨v, h1, h2⟩ := indexAddrA_run hE h (ev _).1.unfull (ev _).1
    exact ⟨v, run_value _ h1, h2⟩
  · obtain ⟨v, h1, h2⟩ := indexA_run hE h (ev _).1 (ev _).1
    exact ⟨v, run_value _ h1, h2⟩
  · rename_i t x lo hi
    obtain ⟨v, h1, h2⟩ := sliceA_run hE (lv := lo.map a.eval) (hv := hi.map a.eval) h (ev _).1.unfull (by
      intro y hy; cases lo with
      | none => simp at hy
      | some z => simp at hy; subst hy; exact ⟨_, rfl, (ev z).1⟩) (by cases lo <;> simp) (by
      intro y hy; cases hi with
      | none => simp at hy
      | some z => simp at hy; subst hy; exact ⟨_, rfl, (ev z).1⟩) (by cases hi <;> simp) hΩ
    exact ⟨v, run_value _ h1, h2⟩
  · obtain ⟨v, h1, h2⟩ := lookA_run hE hs h (ev _).1 (ev _).1
    exact ⟨v, run_value _ h1, h2⟩
  · rename_i x i
    split at h
    · rename_i cs he
      have := (ev x).1
      rw [he] at this
      simp only [Rep] at this
      obtain ⟨vs, hv, hr⟩ := this
      obtain ⟨c, hc, rfl⟩ := Option.map_eq_some_iff.1 h
      obtain ⟨u, hu, hru⟩ := hr.get hc
      refine ⟨u, ?_, hru.ers, ?_⟩
      · refine run_value _ ?_
        rw [hv]
        simp [Instr.extract, hu]
      · exact TagOK.ers hΩ _
    · cases h
  · rename_i c
    split at h
    · rename_i b hc
      split at h
      · rename_i x t ha ht
        have e1 : c.args = #[x] := by apply Array.ext'; simpa using ha
        have e2 : c.argTypes = #[t] := by apply Array.ext'; simpa using ht
        obtain ⟨v, h1, h2⟩ := lenA_run (ty := o.type) hE hs h (ev x).1.unfull
        refine ⟨v, ?_, h2⟩
        simp [resolve, hc, e1, e2, invoke, builtin, h1]
      · rename_i x y ha
        have e1 : c.args = #[x, y] := by apply Array.ext'; simpa using ha
        obtain ⟨v, h1, h2⟩ := maxA_run (P := P) (ts := c.argTypes) (ty := o.type) h (ev x).1 (ev y).1
        refine ⟨v, ?_, h2⟩
        simp [resolve, hc, e1, invoke, builtin, h1]
      · rename_i x y ha
        have e1 : c.args = #[x, y] := by apply Array.ext'; simpa using ha
        obtain ⟨v, h1, h2⟩ := minA_run (P := P) (ts := c.argTypes) (ty := o.type) h (ev x).1 (ev y).1
        refine ⟨v, ?_, h2⟩
        simp [resolve, hc, e1, invoke, builtin, h1]
      · cases h
    · cases h
  · cases h
end
end Go.Proofs.YtpjkepfplhllfaaDoor.Av
