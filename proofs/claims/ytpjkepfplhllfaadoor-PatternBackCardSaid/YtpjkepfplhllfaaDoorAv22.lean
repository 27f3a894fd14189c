/-
A range over a function: the rule.
-/
import Derived.Test.YtpjkepfplhllfaaDoorAv21
namespace Go.Proofs.YtpjkepfplhllfaaDoor.Av
set_option linter.unusedSimpArgs false
set_option linter.unusedVariables false
open Go
section
variable {P : Program} {E : Env} {f : Fm} {σ : St}
/-- What lies behind a range over a function. -/
def aroundA (f : Fm) (D : Nat) : Fm := { noCells f with df := D :: f.df }
def behindA (D : Nat) (σ2 σ : St) : St := ⟨σ2.box ++ σ.box, (D, .ob (.deferred (some []))) :: (σ2.map ++ σ.map)⟩
theorem Run.rangeFunc (hE : EnvOK P E) (hrd : E.rd = none) {gop : Operand} {p : Nat} {assign body : Code} {Q : Post} {fn : FuncId} {caps xs : List AV} (hg : evX E f gop = .func fn caps) (hit : Iter P E fn caps xs) (hp : p < f.nt) (hxs : ∀ x ∈ xs, es x = x)
    (σ1 σ2 : St) (pb : σ.box.Perm (σ1.box ++ σ2.box)) (pm : σ.map.Perm (σ1.map ++ σ2.map)) (I : List AV → St → Prop) (X : Exit → St → Prop) (h0 : I [] σ1)
    (hround : ∀ l pre x, (pre ++ [x]) <+: xs → ∀ σ, I pre σ → Run P (E.inRd l) assign (f.round p x) σ (Post.then (fun _ _ _ => False) fun f' σ' => Run P (E.inRd l) body f' σ' (roundA (I (pre ++ [x])) X)))
    (hdone : ∀ D σ', I xs σ' → Q .normal (aroundA f D) (behindA D σ2 σ')) (hstop : ∀ D e σ', X e σ' → Q e (aroundA f D) (behindA D σ2 σ')) : Run P E (.rangeFunc gop #[p] assign body) f σ Q := by
  intro g a w φ Ω hs
  rw [hrd]
  refine wpIn_rangeFunc fun fn0 _ => ?_
  have hx := (evX_rep (E := E) hs.ss hs.fs gop).1
  rw [hg] at hx
  simp only [Rep] at hx
  obtain ⟨cvs, hev, hcaps⟩ := hx
  obtain ⟨rec, hrec⟩ : ∃ rec : LoopState → Option Code → Loop, rec = fun st pe => { state := st, pending := pe, fn := fn0, tmps := a.tmps, params := #[p], assign, body, defers := w.heap.size } := ⟨_, rfl⟩
  have hs1 := hs.newObj (o := .deferred (some [])) (m := .ob (.deferred (some []))) rfl
  have hs2 := hs1.newObj (o := .loop (rec .ready none)) (m := .ob (.loop (rec .ready none))) rfl
  rw [World.size_alloc] at hs2
  generalize hW1 : (w.alloc (.deferred (some []))).alloc (.loop (rec .ready none)) = W1 at hs2
  generalize hl : w.heap.size + 1 = l at hs2
  generalize hD : w.heap.size = D at hs2 hrec
  have hs3 : SR E g { f with df := D :: f.df } ⟨σ.box, (l, .ob (.loop (rec .ready none))) :: (D, .ob (.deferred (some []))) :: σ.map⟩ { a with defers := [{ target := .collected D, args := #[] }] ++ a.defers } W1 φ Ω :=
    ⟨hs2.ss, ⟨hs2.fs.size, by simp [hs2.fs.defers], hs2.fs.rep, hs2.fs.tag, hs2.fs.ow⟩, hs2.since, hs2.mine⟩
  have hs4 := hs3.env (E' := { E with glob := snap W1 φ }) (snap_at W1 φ)
  obtain ⟨Ω1, hss1, hback⟩ := hs4.split (σ1 := ⟨σ1.box, (l, .ob (.loop (rec .ready none))) :: σ1.map⟩) (σ2 := ⟨σ2.box, (D, .ob (.deferred (some []))) :: σ2.map⟩) pb
    ((((pm.cons _).trans List.perm_middle.symm)).cons _)
  have hcall := hit (snap W1 φ) l (fun pre σ' => ∃ σ'', σ' = ⟨σ''.box, (l, .ob (.loop (rec .ready none))) :: σ''.map⟩ ∧ I pre σ'')
    (fun σ' => ∃ c e σ'', (e = .ret ∧ c = .ret ∨ ∃ id, e = .exit id ∧ c = .exit id) ∧ σ' = ⟨σ''.box, (l, .ob (.loop (rec .done (some c)))) :: σ''.map⟩ ∧ X e σ'')
    (fun pre x hpx σ' hJ => by
      obtain ⟨σ'', rfl, hI⟩ := hJ
      have hxm : x ∈ xs := hpx.subset (by simp)
      exact round_call (E := E) hrec hs.fs.size hp hs2.fs.rep hs2.ss.glob (hxs x hxm) (hround l pre x hpx σ'' hI)) _ ⟨σ1, rfl, h0⟩
  obtain ⟨F, hF, hnm, hbd⟩ := hcall.callable
  have hyr : RepL W1 φ (.val (.func (.yield l) #[] #[]) :: caps) (.func (.yield l) #[] #[] :: cvs) := by
    refine RepL.cons (by simp only [Rep]) ?_
    have X1 := hs1.since
    have hcap1 : RepL W1 φ caps cvs := by
      have h1 := (evX_rep (E := E) hs2.ss hs2.fs gop).1
      rw [hg] at h1
      simp only [Rep] at h1
      obtain ⟨cvs', hev', hc'⟩ := h1
      rw [hev] at hev'
      injection hev' with _ _ e3
      have : cvs = cvs' := by simpa using congrArg Array.toList e3
      rw [this]; exact hc'
    exact hcap1
  refine ⟨l, [{ target := .collected D, args := #[] }], W1, { target := .fn (.func fn) cvs.toArray, args := #[.func (.yield l) #[] #[]] }, W1, fn, #[.func (.yield l) #[] #[]] ++ cvs.toArray, W1, ?_, ?_, fun _ _ => trivial, ?_, fun hh => Bool.noConfusion hh, ?_⟩
  · rw [← hW1, ← hl, ← hD, hrec, ← hD]; exact run_enterLoop_outer _ _ _ _ _
  · simp only [resolve, hev]
    simp [go_sem]
  · simp only [invoke, callFunc, Sem.run_bind, run_program, Result.andThen_ok, hF, hnm, hbd, Bool.false_eq_true, if_false]
    rfl
  · refine callsIn_fw ?_
    have hargs : (#[.func (.yield l) #[] #[]] ++ cvs.toArray : Array Value) = (.func (.yield l) #[] #[] :: cvs : List Value).toArray := by apply Array.ext'; simp
    rw [hargs]
    refine (hcall.calls W1 φ Ω1 _ hss1 hyr).mono fun e w' hp => ?_
    obtain ⟨v, φ', Ω', r, σ1'', rfl, hR, hrv, hsr⟩ := hback _ e w' hp
    have hEx : Ext' W1 φ w' φ' := snap_ext hsr.ss.glob
    have hsE := hsr.env (E' := E) fun b => RepAt.mono' hEx _ _ _ (hs2.ss.glob b)
    have fin : ∀ (st : LoopState) (pe : Option Code) (σ'' : St), st ≠ .busy → σ1'' = ⟨σ''.box, (l, .ob (.loop (rec st pe))) :: σ''.map⟩ →
        ∃ w4, (Instr.endLoop l).run P w' = .ok pe w4 ∧ SR E g (aroundA f D) (behindA D σ2 σ'') { a with defers := [{ target := .collected D, args := #[] }] ++ a.defers } w4 φ' Ω' := by
      intro st pe σ'' hb hσ
      subst hσ
      have hperm := hsE.perm (σ' := ⟨σ2.box ++ σ''.box, (l, .ob (.loop (rec st pe))) :: ((D, .ob (.deferred (some []))) :: (σ2.map ++ σ''.map))⟩) (List.Perm.refl _) (by
        simp only [St.add, List.cons_append]
        exact ((List.perm_middle.cons _).trans (List.Perm.swap _ _ _)))
      obtain ⟨⟨o, ho, hmo⟩, _⟩ := hperm.ss.map l _ List.mem_cons_self
      simp only [MORep] at hmo
      subst hmo
      have hend := run_endLoop (P := P) ho (by rw [hrec]; exact hb)
      have hpe : (rec st pe).pending = pe := by rw [hrec]
      generalize hr : rec st pe = r at *
      have hend' : (Instr.endLoop l).run P w' = .ok pe (w'.putObj l (.loop { r with state := .exhausted })) := by rw [hend]; rw [← hpe]
      refine ⟨_, hend', ?_⟩
      exact (SR.setHead (σ := ⟨σ2.box ++ σ''.box, (D, .ob (.deferred (some []))) :: (σ2.map ++ σ''.map)⟩) hperm (m' := .ob (.loop { r with state := .exhausted })) rfl).dropHead
    rcases hR with ⟨σ'', hσ, hI⟩ | ⟨c, e, σ'', hc, hσ, hX⟩
    · obtain ⟨w4, k1, k2⟩ := fin .ready none σ'' (by simp) hσ
      exact ⟨none, w4, k1, _, _, φ', Ω', k2, hdone D σ'' hI⟩
    · obtain ⟨w4, k1, k2⟩ := fin .done (some c) σ'' (by simp) hσ
      refine ⟨some c, w4, k1, ?_⟩
      rcases hc with ⟨rfl, rfl⟩ | ⟨id, rfl, rfl⟩
      · exact wpIn_ret ⟨_, _, φ', Ω', k2, hstop D _ σ'' hX⟩
      · exact wpIn_exit ⟨_, _, φ', Ω', k2, hstop D _ σ'' hX⟩
end
end Go.Proofs.YtpjkepfplhllfaaDoor.Av
