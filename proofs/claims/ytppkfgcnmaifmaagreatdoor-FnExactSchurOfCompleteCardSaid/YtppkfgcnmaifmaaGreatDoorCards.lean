/-
  DERIVED. GIVEN WITH THE SEED: THE CARDS: each row of YtppkfgcnmaifmaaGreatDoorRows.lean that lists a variable, with what it lists TIED to the program's text (the seventh form; the later family's looks); each row that meets fmt, with fmt's text TOLD by the authors' own Lean function (tested against real Go, not proved from fmt's source: count such statements apart). THE CARD IS WHAT COUNTS. Prove the row's statement (the work); the ties are given (YtppkfgcnmaifmaaGreatDoorTie.lean); close each card by the builder's one call (the guide's Derived/Test/ToyasCard.lean, 'card_holds'). Laid BY PROGRAM, IN A SANDBOX (cutbox-door.mjs). By AI agents, Wed Nov 11 2026. No macro, syntax, notation, axiom, sorry.
-/
import Derived.Test.YtppkfgcnmaifmaaGreatDoorRows
import GoSem.ClaimSeven
namespace Go.Proofs.YtppkfgcnmaifmaaGreatDoor
namespace Rows

/-- THE TIED CARD OF 'laws.FnWalks'. -/
def fnWalksCard : Claim7 := { stood := { row := fnWalksRow, standIns := [], harness := (true, "2bb454ce420bd1277a33275658e08574904aab2eb4ae1b4e6e5a7a6d083f1236"), looks := false }, kinds := [], alts := [], laidByText := true, laidKinds := [.data, .data, .data, .data, .pinned], laidTests := true, laidLooks := .later }
def FnWalksCardSaid : Prop := Claim7.holds Tryz.pinned (.plain (OpenSpec.ofChange fnWalksSpec)) fnWalksCard

/-- THE TIED CARD OF 'laws.FnExactDescribeExample'. -/
def fnExactDescribeExampleCard : Claim7 := { stood := { row := fnExactDescribeExampleRow, standIns := [], harness := (true, "2bb454ce420bd1277a33275658e08574904aab2eb4ae1b4e6e5a7a6d083f1236"), looks := false }, kinds := [], alts := [], laidByText := true, laidKinds := [.data, .data, .data], laidTests := true, laidLooks := .later }
def FnExactDescribeExampleCardSaid : Prop := Claim7.holds Tryz.pinned (.plain (OpenSpec.ofChange fnExactDescribeExampleSpec)) fnExactDescribeExampleCard

/-- THE TIED CARD OF 'laws.FnExactMonomialOfSchur'. -/
def fnExactMonomialOfSchurCard : Claim7 := { stood := { row := fnExactMonomialOfSchurRow, standIns := [], harness := (true, "2bb454ce420bd1277a33275658e08574904aab2eb4ae1b4e6e5a7a6d083f1236"), looks := false }, kinds := [], alts := [], laidByText := true, laidKinds := [.data, .data, .data], laidTests := true, laidLooks := .later }
def FnExactMonomialOfSchurCardSaid : Prop := Claim7.holds Tryz.pinned (.plain (OpenSpec.ofChange fnExactMonomialOfSchurSpec)) fnExactMonomialOfSchurCard

/-- THE TIED CARD OF 'laws.FnExactSchurOfComplete'. -/
def fnExactSchurOfCompleteCard : Claim7 := { stood := { row := fnExactSchurOfCompleteRow, standIns := [], harness := (true, "2bb454ce420bd1277a33275658e08574904aab2eb4ae1b4e6e5a7a6d083f1236"), looks := false }, kinds := [], alts := [], laidByText := true, laidKinds := [.data, .data, .data], laidTests := true, laidLooks := .later }
def FnExactSchurOfCompleteCardSaid : Prop := Claim7.holds Tryz.pinned (.plain (OpenSpec.ofChange fnExactSchurOfCompleteSpec)) fnExactSchurOfCompleteCard

/-- THE TIED CARD OF 'laws.FnExactSchurOfElementary'. -/
def fnExactSchurOfElementaryCard : Claim7 := { stood := { row := fnExactSchurOfElementaryRow, standIns := [], harness := (true, "2bb454ce420bd1277a33275658e08574904aab2eb4ae1b4e6e5a7a6d083f1236"), looks := false }, kinds := [], alts := [], laidByText := true, laidKinds := [.data, .data, .data], laidTests := true, laidLooks := .later }
def FnExactSchurOfElementaryCardSaid : Prop := Claim7.holds Tryz.pinned (.plain (OpenSpec.ofChange fnExactSchurOfElementarySpec)) fnExactSchurOfElementaryCard

/-- THE TIED CARD OF 'laws.FnExamples'. -/
def fnExamplesCard : Claim7 := { stood := { row := fnExamplesRow, standIns := [], harness := (true, "2bb454ce420bd1277a33275658e08574904aab2eb4ae1b4e6e5a7a6d083f1236"), looks := false }, kinds := [], alts := [], laidByText := true, laidKinds := [.data, .data, .data], laidTests := true, laidLooks := .later }
def FnExamplesCardSaid : Prop := Claim7.holds Tryz.pinned (.plain (OpenSpec.ofChange fnExamplesSpec)) fnExamplesCard

/-- THE SECOND FORM's CARD OF 'laws.FnWalks'. -/
def fnWalksUptoCard : Claim7 := { stood := { row := fnWalksUptoRow, standIns := [], harness := (true, "2bb454ce420bd1277a33275658e08574904aab2eb4ae1b4e6e5a7a6d083f1236"), looks := false }, kinds := [], alts := [], laidByText := true, laidKinds := [.data, .data, .data, .data, .pinned], laidTests := true, laidLooks := .later }
def FnWalksUptoCardSaid : Prop := Claim7.holds Tryz.pinned (.plain (OpenSpec.upto fnWalksSpec)) fnWalksUptoCard

/-- THE SECOND FORM's CARD OF 'laws.FnExactDescribeExample'. -/
def fnExactDescribeExampleUptoCard : Claim7 := { stood := { row := fnExactDescribeExampleUptoRow, standIns := [], harness := (true, "2bb454ce420bd1277a33275658e08574904aab2eb4ae1b4e6e5a7a6d083f1236"), looks := false }, kinds := [], alts := [], laidByText := true, laidKinds := [.data, .data, .data], laidTests := true, laidLooks := .later }
def FnExactDescribeExampleUptoCardSaid : Prop := Claim7.holds Tryz.pinned (.plain (OpenSpec.upto fnExactDescribeExampleSpec)) fnExactDescribeExampleUptoCard

/-- THE SECOND FORM's CARD OF 'laws.FnExactMonomialOfSchur'. -/
def fnExactMonomialOfSchurUptoCard : Claim7 := { stood := { row := fnExactMonomialOfSchurUptoRow, standIns := [], harness := (true, "2bb454ce420bd1277a33275658e08574904aab2eb4ae1b4e6e5a7a6d083f1236"), looks := false }, kinds := [], alts := [], laidByText := true, laidKinds := [.data, .data, .data], laidTests := true, laidLooks := .later }
def FnExactMonomialOfSchurUptoCardSaid : Prop := Claim7.holds Tryz.pinned (.plain (OpenSpec.upto fnExactMonomialOfSchurSpec)) fnExactMonomialOfSchurUptoCard

/-- THE SECOND FORM's CARD OF 'laws.FnExactSchurOfComplete'. -/
def fnExactSchurOfCompleteUptoCard : Claim7 := { stood := { row := fnExactSchurOfCompleteUptoRow, standIns := [], harness := (true, "2bb454ce420bd1277a33275658e08574904aab2eb4ae1b4e6e5a7a6d083f1236"), looks := false }, kinds := [], alts := [], laidByText := true, laidKinds := [.data, .data, .data], laidTests := true, laidLooks := .later }
def FnExactSchurOfCompleteUptoCardSaid : Prop := Claim7.holds Tryz.pinned (.plain (OpenSpec.upto fnExactSchurOfCompleteSpec)) fnExactSchurOfCompleteUptoCard

/-- THE SECOND FORM's CARD OF 'laws.FnExactSchurOfElementary'. -/
def fnExactSchurOfElementaryUptoCard : Claim7 := { stood := { row := fnExactSchurOfElementaryUptoRow, standIns := [], harness := (true, "2bb454ce420bd1277a33275658e08574904aab2eb4ae1b4e6e5a7a6d083f1236"), looks := false }, kinds := [], alts := [], laidByText := true, laidKinds := [.data, .data, .data], laidTests := true, laidLooks := .later }
def FnExactSchurOfElementaryUptoCardSaid : Prop := Claim7.holds Tryz.pinned (.plain (OpenSpec.upto fnExactSchurOfElementarySpec)) fnExactSchurOfElementaryUptoCard

/-- THE SECOND FORM's CARD OF 'laws.FnExamples'. -/
def fnExamplesUptoCard : Claim7 := { stood := { row := fnExamplesUptoRow, standIns := [], harness := (true, "2bb454ce420bd1277a33275658e08574904aab2eb4ae1b4e6e5a7a6d083f1236"), looks := false }, kinds := [], alts := [], laidByText := true, laidKinds := [.data, .data, .data], laidTests := true, laidLooks := .later }
def FnExamplesUptoCardSaid : Prop := Claim7.holds Tryz.pinned (.plain (OpenSpec.upto fnExamplesSpec)) fnExamplesUptoCard
end Rows
end Go.Proofs.YtppkfgcnmaifmaaGreatDoor
