/-
  DERIVED. GIVEN WITH THE SEED: THE CARDS: each row of YtpjkepfplhllfaaDoorRows.lean that lists a variable, with what it lists TIED to the program's text (the seventh form; the later family's looks); each row that meets fmt, with fmt's text TOLD by the authors' own Lean function (tested against real Go, not proved from fmt's source: count such statements apart). THE CARD IS WHAT COUNTS. Prove the row's statement (the work); the ties are given (YtpjkepfplhllfaaDoorTie.lean); close each card by the builder's one call (the guide's Derived/Test/ToyasCard.lean, 'card_holds'). Laid BY PROGRAM, IN A SANDBOX (cutbox-door.mjs). By AI agents, Wed Nov 11 2026. No macro, syntax, notation, axiom, sorry.
-/
import Derived.Test.YtpjkepfplhllfaaDoorRows
import GoSem.ClaimSeven
namespace Go.Proofs.YtpjkepfplhllfaaDoor
namespace Rows

/-- THE TIED CARD OF 'retargetlaw24.PatternTied'. -/
def patternTiedCard : Claim7 := { stood := { row := patternTiedRow, standIns := [], harness := (true, "68311ff923606a977bc1d336913d6eaa83c901d411d074abc8281d31b267516b"), looks := false }, kinds := [], alts := [], laidByText := true, laidKinds := [.data], laidTests := true, laidLooks := .later }
def PatternTiedCardSaid : Prop := Claim7.holds Tryd.pinned (.plain (OpenSpec.ofChange patternTiedSpec)) patternTiedCard

/-- THE TIED CARD OF 'retargetlaw24.PatternBack'. -/
def patternBackCard : Claim7 := { stood := { row := patternBackRow, standIns := [], harness := (true, "68311ff923606a977bc1d336913d6eaa83c901d411d074abc8281d31b267516b"), looks := false }, kinds := [], alts := [], laidByText := true, laidKinds := [.data], laidTests := true, laidLooks := .later }
def PatternBackCardSaid : Prop := Claim7.holds Tryd.pinned (.plain (OpenSpec.ofChange patternBackSpec)) patternBackCard

/-- THE TIED CARD OF 'retargetlaw24.PatternNames'. -/
def patternNamesCard : Claim7 := { stood := { row := patternNamesRow, standIns := [], harness := (true, "68311ff923606a977bc1d336913d6eaa83c901d411d074abc8281d31b267516b"), looks := false }, kinds := [], alts := [], laidByText := true, laidKinds := [.data], laidTests := true, laidLooks := .later }
def PatternNamesCardSaid : Prop := Claim7.holds Tryd.pinned (.plain (OpenSpec.ofChange patternNamesSpec)) patternNamesCard

/-- THE SECOND FORM's CARD OF 'retargetlaw24.PatternTied'. -/
def patternTiedUptoCard : Claim7 := { stood := { row := patternTiedUptoRow, standIns := [], harness := (true, "68311ff923606a977bc1d336913d6eaa83c901d411d074abc8281d31b267516b"), looks := false }, kinds := [], alts := [], laidByText := true, laidKinds := [.data], laidTests := true, laidLooks := .later }
def PatternTiedUptoCardSaid : Prop := Claim7.holds Tryd.pinned (.plain (OpenSpec.upto patternTiedSpec)) patternTiedUptoCard

/-- THE SECOND FORM's CARD OF 'retargetlaw24.PatternBack'. -/
def patternBackUptoCard : Claim7 := { stood := { row := patternBackUptoRow, standIns := [], harness := (true, "68311ff923606a977bc1d336913d6eaa83c901d411d074abc8281d31b267516b"), looks := false }, kinds := [], alts := [], laidByText := true, laidKinds := [.data], laidTests := true, laidLooks := .later }
def PatternBackUptoCardSaid : Prop := Claim7.holds Tryd.pinned (.plain (OpenSpec.upto patternBackSpec)) patternBackUptoCard

/-- THE SECOND FORM's CARD OF 'retargetlaw24.PatternNames'. -/
def patternNamesUptoCard : Claim7 := { stood := { row := patternNamesUptoRow, standIns := [], harness := (true, "68311ff923606a977bc1d336913d6eaa83c901d411d074abc8281d31b267516b"), looks := false }, kinds := [], alts := [], laidByText := true, laidKinds := [.data], laidTests := true, laidLooks := .later }
def PatternNamesUptoCardSaid : Prop := Claim7.holds Tryd.pinned (.plain (OpenSpec.upto patternNamesSpec)) patternNamesUptoCard
end Rows
end Go.Proofs.YtpjkepfplhllfaaDoor
