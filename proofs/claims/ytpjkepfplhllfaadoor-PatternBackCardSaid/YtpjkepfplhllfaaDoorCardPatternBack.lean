/-
PatternBack: the card: for every input the law answers true, and the listed package-level variable is tied to the program's text. Conditions: those that the card tells.
-/
import Derived.Test.YtpjkepfplhllfaaDoorRowPatternBack
import Derived.Test.YtpjkepfplhllfaaDoorCards
import Derived.Test.YtpjkepfplhllfaaDoorTie
import Derived.SevenTiedAt
namespace Go.Proofs.YtpjkepfplhllfaaDoor
open Go
theorem patternBack_card : Rows.PatternBackCardSaid :=
  Claim7.holds_tied_plain_at .later [] [.data] true (true, "68311ff923606a977bc1d336913d6eaa83c901d411d074abc8281d31b267516b") false
    patternBack_holds (fun _ h => by cases h) (by kernel_rfl) (fun _ h => by cases h) patternBack_row_tie rfl ⟨rfl, rfl⟩ (by kernel_rfl) rfl
    (fun f fn hf hfn => by
      obtain rfl : f = 4 := Option.some.inj ((show Tryd.prog.funcNamed "retarget/retargetlaw24.PatternBack" = some 4 by kernel_rfl).symm.trans hf) |>.symm
      obtain rfl : fn = Tryd.f4 := (Option.some.inj (Tryd.func4.symm.trans hfn)).symm
      exact ⟨by kernel_rfl, fun j t ht => by
        rw [Tryd.params4] at ht
        have hm : t ∈ [27, 3, 38, 52] := by simpa using Array.mem_of_getElem? ht
        have hall : (([27, 3, 38, 52] : List TypeId).all fun u => !Tryd.prog.wantsStandIn u) = true := by kernel_rfl
        exact (show Tryd.prog.wantsStandIn t = false by simpa using List.all_eq_true.1 hall t hm)⟩)
    (by kernel_rfl)
#print axioms patternBack_card
end Go.Proofs.YtpjkepfplhllfaaDoor
