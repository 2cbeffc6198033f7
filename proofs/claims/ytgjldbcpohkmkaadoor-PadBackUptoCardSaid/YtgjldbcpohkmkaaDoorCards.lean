/-
  DERIVED. GIVEN WITH THE SEED: THE CARDS: each row of YtgjldbcpohkmkaaDoorRows.lean that lists a variable, with what it lists TIED to the program's text (the seventh form; the later family's looks); each row that meets fmt, with fmt's text TOLD by the authors' own Lean function (tested against real Go, not proved from fmt's source: count such statements apart). THE CARD IS WHAT COUNTS. Prove the row's statement (the work); the ties are given (YtgjldbcpohkmkaaDoorTie.lean); close each card by the builder's one call (the guide's Derived/Test/ToyasCard.lean, 'card_holds'). Laid BY PROGRAM, IN A SANDBOX (cutbox-door.mjs). By AI agents, Wed Nov 11 2026. No macro, syntax, notation, axiom, sorry.
-/
import Derived.Test.YtgjldbcpohkmkaaDoorRows
import GoSem.ClaimSeven
namespace Go.Proofs.YtgjldbcpohkmkaaDoor
namespace Rows

/-- THE TIED CARD OF 'creelkeep.PadBack'. -/
def padBackCard : Claim7 := { stood := { row := padBackRow, standIns := [], harness := (true, "9faca2755e6aa2f9fb9a26b3e68423572492be85e29ccfbdd6216bdc638ce420"), looks := false }, kinds := [], alts := [], laidByText := true, laidKinds := [.data, .pinned], laidTests := true, laidLooks := .later }
def PadBackCardSaid : Prop := Claim7.holds Tryd.pinned (.plain (OpenSpec.ofChange padBackSpec)) padBackCard

/-- THE TIED CARD OF 'creelkeep.OrderSorted'. -/
def orderSortedCard : Claim7 := { stood := { row := orderSortedRow, standIns := [], harness := (true, "9faca2755e6aa2f9fb9a26b3e68423572492be85e29ccfbdd6216bdc638ce420"), looks := false }, kinds := [], alts := [], laidByText := true, laidKinds := [.data, .pinned], laidTests := true, laidLooks := .later }
def OrderSortedCardSaid : Prop := Claim7.holds Tryd.pinned (.plain (OpenSpec.ofChange orderSortedSpec)) orderSortedCard

/-- THE SECOND FORM's CARD OF 'creelkeep.PadBack'. -/
def padBackUptoCard : Claim7 := { stood := { row := padBackUptoRow, standIns := [], harness := (true, "9faca2755e6aa2f9fb9a26b3e68423572492be85e29ccfbdd6216bdc638ce420"), looks := false }, kinds := [], alts := [], laidByText := true, laidKinds := [.data, .pinned], laidTests := true, laidLooks := .later }
def PadBackUptoCardSaid : Prop := Claim7.holds Tryd.pinned (.plain (OpenSpec.upto padBackSpec)) padBackUptoCard

/-- THE SECOND FORM's CARD OF 'creelkeep.OrderSorted'. -/
def orderSortedUptoCard : Claim7 := { stood := { row := orderSortedUptoRow, standIns := [], harness := (true, "9faca2755e6aa2f9fb9a26b3e68423572492be85e29ccfbdd6216bdc638ce420"), looks := false }, kinds := [], alts := [], laidByText := true, laidKinds := [.data, .pinned], laidTests := true, laidLooks := .later }
def OrderSortedUptoCardSaid : Prop := Claim7.holds Tryd.pinned (.plain (OpenSpec.upto orderSortedSpec)) orderSortedUptoCard
end Rows
end Go.Proofs.YtgjldbcpohkmkaaDoor
