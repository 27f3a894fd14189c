/-
PatternTied: for every input the law answers true. Conditions: the listed package-level variable starts as the text lays it.
-/
import Derived.Test.YtpjkepfplhllfaaDoorRows
import Derived.Test.YtpjkepfplhllfaaDoorR
import Derived.Test.YtpjkepfplhllfaaDoorPTied
import Derived.WalkKit
import Derived.ProofKit
import Derived.OpenShut
import Derived.ShutString
import Derived.ChangeOld
import Derived.Below
import Derived.SizedLaws
import Derived.LaidMore
import Derived.Stop.Joined
import Derived.Carry
namespace Go.Proofs.YtpjkepfplhllfaaDoor.Av
set_option linter.unusedSimpArgs false
set_option linter.unusedVariables false
open Go Go.Proofs Go.ChangeShapes Go.WideShapes Go.ChangeAt Go.RowKit Go.Proofs.YtpjkepfplhllfaaDoor
open Go.ChangeMaps (open_string shut_string)
section PatternTied
theorem own_PatternTied : ownKnob Tryd.prog.godebug = none := by kernel_rfl
theorem laidOut_PatternTied : laidOutB Tryd.prog = true := by kernel_rfl
theorem door_PatternTied (os : Os) (args : Array Value) : laidMetH Tryd.prog Rows.patternTiedRow.laid ((World.doorLaid Tryd.prog 400 os).forCall (fun _ _ => 0) ⟨#[], args, []⟩).memory :=
  laidMetH_of_parts3 (fuel := 8) (laidMet_of_run' 8 (by kernel_rfl) (by kernel_rfl)) (by kernel_rfl) (by kernel_rfl)
theorem globs_PatternTied {W : World} (h : laidMetH Tryd.prog Rows.patternTiedRow.laid W) : ∀ g, RepAt W (allC W) g 0 (EE.glob g) := by
  have h1 := glob_of_laid (g := 0) (t := 151) h (by rfl) (by kernel_rfl) (by kernel_rfl) fun f en => ld_tab f
  intro g
  simp only [EE]
  split
  · rename_i e; subst e; exact h1
  · simp only [RepAt]
set_option maxRecDepth 100000 in
set_option maxHeartbeats 4000000 in
theorem lifted_PatternTied (os : Os) (started : os.Started) (H : Type) (enc : TypeId × Value → H) :
    ReturnsInHanded {} Tryd.checked os 3 .any (fun w args => (Rows.patternTiedSpec.pre enc Tryd.prog Tryd.f3 [] false w args ∧ laidMetH Tryd.prog Rows.patternTiedRow.laid w) ∧ sizedMet enc Tryd.prog Tryd.f3 (OpenSpec.ofChange Rows.patternTiedSpec) false w args)
      (Rows.patternTiedSpec.post enc Tryd.prog Tryd.f3 false true false false) := by
  refine returnsInHanded_of_change_and (C := Tryd.checked) (X := fun w _ => laidMetH Tryd.prog Rows.patternTiedRow.laid w) (fun _ _ _ hh h => h.of_heap hh) own_PatternTied started (by kernel_rfl) Tryd.func3
    (ChangeSpec.witness_shaped (enc := enc) (C := Tryd.checked) (os := os) (X := fun w _ => laidMetH Tryd.prog Rows.patternTiedRow.laid w) false (World.doorLaid Tryd.prog 400 os) #[.agg #[.string ByteArray.empty, .int .i64 0, .int .i64 0, .slice none 0 0, .slice none 0 0, .slice none 0 0, .slice none 0 0]] 8 rfl (World.shaped_of_RefB (by kernel_rfl) (by kernel_rfl)) (by kernel_rfl) (by kernel_rfl) (by kernel_rfl) (door_PatternTied os _)) ?_
  intro W base args ds gs before hval0 hW _ _ hL _
  have hval : ∀ (j : Nat) t v, Tryd.f3.params[j]? = some t → args[j]? = some v → Value.okWide Tryd.prog W .any base t v := hval0
  have hW' := hW
  obtain ⟨p, q, hA0, hV, rfl, hfz, hnd⟩ := hW
  have hA : DataW.TrodAll enc Tryd.prog W 0 (fun _ => true) true Tryd.f3.params.toList args.toList ds p := hA0
  rw [Tryd.params3] at hA hval
  obtain ⟨v0, vs0, d0, ds0, p0, q0, hargs, rfl, rfl, h0, r0⟩ := trodAll_cons hA
  obtain ⟨rfl, rfl, rfl⟩ := trodAll_nil r0
  obtain rfl : args = #[v0] := by cases args; simp_all
  obtain ⟨rfl, rfl⟩ := trodVars_none hV
  have k0 := h0
  have lt0 : ∀ x ∈ p0, x.block < W.heap.size := by obtain ⟨m, hm⟩ := k0; exact DataW.trod_lt m _ _ _ hm
  obtain ⟨cs0, rfl, _, _⟩ : ∃ cs, v0 = .agg cs ∧ cs.size = Tryd.prog.cellsOf 27 ∧ Row.okWide Tryd.prog W .any base 27 cs := by have := hval 0 27 v0 rfl rfl; unfold Value.okWide at this; rw [Tryd.underlying27] at this; exact this
  obtain ⟨x0, e0, f0⟩ : ∃ x : TMachine, RepL W (allC W) x.row cs0.toList ∧ x.wf := by obtain ⟨f, hf⟩ := h0; exact rd_TMachine f _ _ _ _ _ hf
  refine ((retargetlaw24_PatternTied_ok (pure_PatternTied x0 f0)).calls W (allC W) [] [_] (ss_start (globs_PatternTied hL)) ⟨_, _, rfl, (show Rep W (allC W) (.agg x0.row) (.agg cs0) by simp only [Rep]; exact ⟨cs0.toList, by simp, e0⟩), (by simp only [RepL])⟩).mono ?_
  rintro e W' ⟨v, φ', Ω', r, σ', rfl, ⟨_, hr⟩, hrep, _, hsi, _, _⟩
  subst hr
  simp only [Rep] at hrep
  subst hrep
  have bel : Below W.heap.size W W' := below_of hsi
  exact ⟨_, rfl, _, _, _, [], _, [], hW', trodAll_mk1 (shut_bool Tryd.underlying4 _), (trodAll_cons_mk (Below.trod laidOut_PatternTied (by kernel_rfl) (of_decide_eq_true (by kernel_rfl)) k0 bel lt0) trodAll_mk0), rfl, bel.frame _, fun h => by cases h⟩
theorem over_PatternTied : Rows.PatternTiedSaid :=
  OpenClaim.holds_of_wide 3 Tryd.f3 rfl rfl rfl rfl rfl rfl rfl ⟨rfl, rfl, rfl, rfl, rfl⟩ rfl rfl rfl rfl rfl (by kernel_rfl) Tryd.func3 (by kernel_rfl)
    (of_decide_eq_true (by kernel_rfl)) (by unfold Func.isWrapper; first | (rw [if_pos (by decide +kernel)]; kernel_rfl) | (rw [if_neg (by decide +kernel)]; exact ⟨rfl, rfl⟩))
    (fun os started H enc _ => lifted_PatternTied os started H enc)
end PatternTied
end Go.Proofs.YtpjkepfplhllfaaDoor.Av
namespace Go.Proofs.YtpjkepfplhllfaaDoor
theorem patternTied_holds : Rows.PatternTiedSaid := Av.over_PatternTied
end Go.Proofs.YtpjkepfplhllfaaDoor
#print axioms Go.Proofs.YtpjkepfplhllfaaDoor.patternTied_holds
