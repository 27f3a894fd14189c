/-
PatternBack: for every input the law answers true. Conditions: the listed package-level variable starts as the text lays it.
-/
import Derived.Test.YtpjkepfplhllfaaDoorRows
import Derived.Test.YtpjkepfplhllfaaDoorR
import Derived.Test.YtpjkepfplhllfaaDoorPBack
import Derived.WalkKit
import Derived.ProofKit
import Derived.OpenShut
import Derived.ShutString
import Derived.ChangeOld
import Derived.Below
import Derived.SizedLaws
import Derived.LaidMore
import Derived.Stop.Joined
import Derived.Carry
namespace Go.Proofs.YtpjkepfplhllfaaDoor.Av
set_option linter.unusedSimpArgs false
set_option linter.unusedVariables false
open Go Go.Proofs Go.ChangeShapes Go.WideShapes Go.ChangeAt Go.RowKit Go.Proofs.YtpjkepfplhllfaaDoor
open Go.ChangeMaps (open_string shut_string)
section PatternBack
theorem own_PatternBack : ownKnob Tryd.prog.godebug = none := by kernel_rfl
theorem laidOut_PatternBack : laidOutB Tryd.prog = true := by kernel_rfl
theorem door_PatternBack (os : Os) (args : Array Value) : laidMetH Tryd.prog Rows.patternBackRow.laid ((World.doorLaid Tryd.prog 400 os).forCall (fun _ _ => 0) ⟨#[], args, []⟩).memory :=
  laidMetH_of_parts3 (fuel := 8) (laidMet_of_run' 8 (by kernel_rfl) (by kernel_rfl)) (by kernel_rfl) (by kernel_rfl)
theorem globs_PatternBack {W : World} (h : laidMetH Tryd.prog Rows.patternBackRow.laid W) : ∀ g, RepAt W (allC W) g 0 (EE.glob g) := by
  have h1 := glob_of_laid (g := 0) (t := 151) h (by rfl) (by kernel_rfl) (by kernel_rfl) fun f en => ld_tab f
  intro g
  simp only [EE]
  split
  · rename_i e; subst e; exact h1
  · simp only [RepAt]
set_option maxRecDepth 100000 in
set_option maxHeartbeats 4000000 in
theorem lifted_PatternBack (os : Os) (started : os.Started) (H : Type) (enc : TypeId × Value → H) :
    ReturnsInHanded {} Tryd.checked os 4 .any (fun w args => (Rows.patternBackSpec.pre enc Tryd.prog Tryd.f4 [] false w args ∧ laidMetH Tryd.prog Rows.patternBackRow.laid w) ∧ sizedMet enc Tryd.prog Tryd.f4 (OpenSpec.ofChange Rows.patternBackSpec) false w args)
      (Rows.patternBackSpec.post enc Tryd.prog Tryd.f4 false true false false) := by
  refine returnsInHanded_of_change_and (C := Tryd.checked) (X := fun w _ => laidMetH Tryd.prog Rows.patternBackRow.laid w) (fun _ _ _ hh h => h.of_heap hh) own_PatternBack started (by kernel_rfl) Tryd.func4
    (ChangeSpec.witness_shaped (enc := enc) (C := Tryd.checked) (os := os) (X := fun w _ => laidMetH Tryd.prog Rows.patternBackRow.laid w) false (World.doorLaid Tryd.prog 400 os) #[.agg #[.string ByteArray.empty, .int .i64 0, .int .i64 0, .slice none 0 0, .slice none 0 0, .slice none 0 0, .slice none 0 0], .int .i64 0, .agg #[.int .u8 0, .int .i64 0, .int .u64 0, .string ByteArray.empty, .int .i64 0, .slice none 0 0], .slice none 0 0] 8 rfl (World.shaped_of_RefB (by kernel_rfl) (by kernel_rfl)) (by kernel_rfl) (by kernel_rfl) (by kernel_rfl) (door_PatternBack os _)) ?_
  intro W base args ds gs before hval0 hW _ _ hL _
  have hval : ∀ (j : Nat) t v, Tryd.f4.params[j]? = some t → args[j]? = some v → Value.okWide Tryd.prog W .any base t v := hval0
  have hW' := hW
  obtain ⟨p, q, hA0, hV, rfl, hfz, hnd⟩ := hW
  have hA : DataW.TrodAll enc Tryd.prog W 0 (fun _ => true) true Tryd.f4.params.toList args.toList ds p := hA0
  rw [Tryd.params4] at hA hval
  obtain ⟨v0, vs0, d0, ds0, p0, q0, hargs, rfl, rfl, h0, r0⟩ := trodAll_cons hA
  obtain ⟨v1, vs1, d1, ds1, p1, q1, rfl, rfl, rfl, h1, r1⟩ := trodAll_cons r0
  obtain ⟨v2, vs2, d2, ds2, p2, q2, rfl, rfl, rfl, h2, r2⟩ := trodAll_cons r1
  obtain ⟨v3, vs3, d3, ds3, p3, q3, rfl, rfl, rfl, h3, r3⟩ := trodAll_cons r2
  obtain ⟨rfl, rfl, rfl⟩ := trodAll_nil r3
  obtain rfl : args = #[v0, v1, v2, v3] := by cases args; simp_all
  obtain ⟨rfl, rfl⟩ := trodVars_none hV
  have k0 := h0
  have lt0 : ∀ x ∈ p0, x.block < W.heap.size := by obtain ⟨m, hm⟩ := k0; exact DataW.trod_lt m _ _ _ hm
  obtain ⟨cs0, rfl, _, _⟩ : ∃ cs, v0 = .agg cs ∧ cs.size = Tryd.prog.cellsOf 27 ∧ Row.okWide Tryd.prog W .any base 27 cs := by have := hval 0 27 v0 rfl rfl; unfold Value.okWide at this; rw [Tryd.underlying27] at this; exact this
  obtain ⟨x0, e0, f0⟩ : ∃ x : TMachine, RepL W (allC W) x.row cs0.toList ∧ x.wf := by obtain ⟨f, hf⟩ := h0; exact rd_TMachine f _ _ _ _ _ hf
  have k1 := h1
  have lt1 : ∀ x ∈ p1, x.block < W.heap.size := by obtain ⟨m, hm⟩ := k1; exact DataW.trod_lt m _ _ _ hm
  obtain ⟨_, rfl⟩ := okWide_int Tryd.underlying3 (hval 1 3 v1 rfl rfl)
  obtain ⟨x1, e1, f1⟩ := (by obtain ⟨f, hf⟩ := h1; exact (RdAt.int Tryd.underlying3 f) _ _ _ _ _ hf : ∃ x : Int, RepL W (allC W) [.int .i64 x] _ ∧ inK .i64 x)
  have k2 := h2
  have lt2 : ∀ x ∈ p2, x.block < W.heap.size := by obtain ⟨m, hm⟩ := k2; exact DataW.trod_lt m _ _ _ hm
  obtain ⟨cs2, rfl, _, _⟩ : ∃ cs, v2 = .agg cs ∧ cs.size = Tryd.prog.cellsOf 38 ∧ Row.okWide Tryd.prog W .any base 38 cs := by have := hval 2 38 v2 rfl rfl; unfold Value.okWide at this; rw [Tryd.underlying38] at this; exact this
  obtain ⟨x2, e2, f2⟩ : ∃ x : TTerm, RepL W (allC W) x.row cs2.toList ∧ x.wf := by obtain ⟨f, hf⟩ := h2; exact rd_TTerm f _ _ _ _ _ hf
  have k3 := h3
  have lt3 : ∀ x ∈ p3, x.block < W.heap.size := by obtain ⟨m, hm⟩ := k3; exact DataW.trod_lt m _ _ _ hm
  obtain ⟨_, _, _, rfl⟩ := okWide_slice Tryd.underlying52 (hval 3 52 v3 rfl rfl)
  obtain ⟨x3, e3, f3⟩ := (by obtain ⟨f, hf⟩ := h3; exact (RdAt.sliceA (sz := 7) (fun n => (rd_TPatternArg n)) Tryd.underlying52 (by kernel_rfl) (by omega) (fun _ => by simp) f) _ _ _ _ _ hf : ∃ x : List TPatternArg, RepL W (allC W) [.list .none (x.map TPatternArg.row)] _ ∧ (x.length ≤ maxLen ∧ ∀ y ∈ x, y.wf))
  refine ((retargetlaw24_PatternBack_ok (pure_PatternBack x0 f0 x1 f1 x2 f2 x3 f3)).calls W (allC W) [] [_, _, _, _] (ss_start (globs_PatternBack hL)) ⟨_, _, rfl, (show Rep W (allC W) (.agg x0.row) (.agg cs0) by simp only [Rep]; exact ⟨cs0.toList, by simp, e0⟩), ⟨_, _, rfl, e1.only, ⟨_, _, rfl, (show Rep W (allC W) (.agg x2.row) (.agg cs2) by simp only [Rep]; exact ⟨cs2.toList, by simp, e2⟩), ⟨_, _, rfl, e3.only, (by simp only [RepL])⟩⟩⟩⟩).mono ?_
  rintro e W' ⟨v, φ', Ω', r, σ', rfl, ⟨_, hr⟩, hrep, _, hsi, _, _⟩
  subst hr
  simp only [Rep] at hrep
  subst hrep
  have bel : Below W.heap.size W W' := below_of hsi
  exact ⟨_, rfl, _, _, _, [], _, [], hW', trodAll_mk1 (shut_bool Tryd.underlying4 _), (trodAll_cons_mk (Below.trod laidOut_PatternBack (by kernel_rfl) (of_decide_eq_true (by kernel_rfl)) k0 bel lt0) (trodAll_cons_mk (Below.trod laidOut_PatternBack (by kernel_rfl) (of_decide_eq_true (by kernel_rfl)) k1 bel lt1) (trodAll_cons_mk (Below.trod laidOut_PatternBack (by kernel_rfl) (of_decide_eq_true (by kernel_rfl)) k2 bel lt2) (trodAll_cons_mk (Below.trod laidOut_PatternBack (by kernel_rfl) (of_decide_eq_true (by kernel_rfl)) k3 bel lt3) trodAll_mk0)))), rfl, bel.frame _, fun h => by cases h⟩
theorem over_PatternBack : Rows.PatternBackSaid :=
  OpenClaim.holds_of_wide 4 Tryd.f4 rfl rfl rfl rfl rfl rfl rfl ⟨rfl, rfl, rfl, rfl, rfl⟩ rfl rfl rfl rfl rfl (by kernel_rfl) Tryd.func4 (by kernel_rfl)
    (of_decide_eq_true (by kernel_rfl)) (by unfold Func.isWrapper; first | (rw [if_pos (by decide +kernel)]; kernel_rfl) | (rw [if_neg (by decide +kernel)]; exact ⟨rfl, rfl⟩))
    (fun os started H enc _ => lifted_PatternBack os started H enc)
end PatternBack
end Go.Proofs.YtpjkepfplhllfaaDoor.Av
namespace Go.Proofs.YtpjkepfplhllfaaDoor
theorem patternBack_holds : Rows.PatternBackSaid := Av.over_PatternBack
end Go.Proofs.YtpjkepfplhllfaaDoor
#print axioms Go.Proofs.YtpjkepfplhllfaaDoor.patternBack_holds
