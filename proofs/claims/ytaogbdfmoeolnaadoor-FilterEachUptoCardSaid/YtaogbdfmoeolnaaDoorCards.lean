/-
  DERIVED. GIVEN WITH THE SEED: THE CARDS: each row of YtaogbdfmoeolnaaDoorRows.lean that lists a variable, with what it lists TIED to the program's text (the seventh form; the later family's looks); each row that meets fmt, with fmt's text TOLD by the authors' own Lean function (tested against real Go, not proved from fmt's source: count such statements apart). THE CARD IS WHAT COUNTS. Prove the row's statement (the work); the ties are given (YtaogbdfmoeolnaaDoorTie.lean); close each card by the builder's one call (the guide's Derived/Test/ToyasCard.lean, 'card_holds'). Laid BY PROGRAM, IN A SANDBOX (cutbox-door.mjs). By AI agents, Wed Nov 11 2026. No macro, syntax, notation, axiom, sorry.
-/
import Derived.Test.YtaogbdfmoeolnaaDoorRows
import GoSem.ClaimSeven
namespace Go.Proofs.YtaogbdfmoeolnaaDoor
namespace Rows

/-- THE TIED CARD OF 'creelkeep.DiffAlike'. -/
def diffAlikeCard : Claim7 := { stood := { row := diffAlikeRow, standIns := [], harness := (true, "00429630741945c0f5efbf5a833d13428390754faf01a5ece26427d3a718c88a"), looks := false }, kinds := [], alts := [], laidByText := true, laidKinds := [.data, .pinned], laidTests := true, laidLooks := .later }
def DiffAlikeCardSaid : Prop := Claim7.holds Tryd.pinned (.plain (OpenSpec.ofChange diffAlikeSpec)) diffAlikeCard

/-- THE TIED CARD OF 'creelkeep.OrderSorted'. -/
def orderSortedCard : Claim7 := { stood := { row := orderSortedRow, standIns := [], harness := (true, "00429630741945c0f5efbf5a833d13428390754faf01a5ece26427d3a718c88a"), looks := false }, kinds := [], alts := [], laidByText := true, laidKinds := [.data, .pinned], laidTests := true, laidLooks := .later }
def OrderSortedCardSaid : Prop := Claim7.holds Tryd.pinned (.plain (OpenSpec.ofChange orderSortedSpec)) orderSortedCard

/-- THE TIED CARD OF 'creelkeep.FilterEach'. -/
def filterEachCard : Claim7 := { stood := { row := filterEachRow, standIns := [], harness := (true, "00429630741945c0f5efbf5a833d13428390754faf01a5ece26427d3a718c88a"), looks := false }, kinds := [], alts := [], laidByText := true, laidKinds := [.data, .pinned], laidTests := true, laidLooks := .later }
def FilterEachCardSaid : Prop := Claim7.holds Tryd.pinned (.plain (OpenSpec.ofChange filterEachSpec)) filterEachCard

/-- THE SECOND FORM's CARD OF 'creelkeep.DiffAlike'. -/
def diffAlikeUptoCard : Claim7 := { stood := { row := diffAlikeUptoRow, standIns := [], harness := (true, "00429630741945c0f5efbf5a833d13428390754faf01a5ece26427d3a718c88a"), looks := false }, kinds := [], alts := [], laidByText := true, laidKinds := [.data, .pinned], laidTests := true, laidLooks := .later }
def DiffAlikeUptoCardSaid : Prop := Claim7.holds Tryd.pinned (.plain (OpenSpec.upto diffAlikeSpec)) diffAlikeUptoCard

/-- THE SECOND FORM's CARD OF 'creelkeep.OrderSorted'. -/
def orderSortedUptoCard : Claim7 := { stood := { row := orderSortedUptoRow, standIns := [], harness := (true, "00429630741945c0f5efbf5a833d13428390754faf01a5ece26427d3a718c88a"), looks := false }, kinds := [], alts := [], laidByText := true, laidKinds := [.data, .pinned], laidTests := true, laidLooks := .later }
def OrderSortedUptoCardSaid : Prop := Claim7.holds Tryd.pinned (.plain (OpenSpec.upto orderSortedSpec)) orderSortedUptoCard

/-- THE SECOND FORM's CARD OF 'creelkeep.FilterEach'. -/
def filterEachUptoCard : Claim7 := { stood := { row := filterEachUptoRow, standIns := [], harness := (true, "00429630741945c0f5efbf5a833d13428390754faf01a5ece26427d3a718c88a"), looks := false }, kinds := [], alts := [], laidByText := true, laidKinds := [.data, .pinned], laidTests := true, laidLooks := .later }
def FilterEachUptoCardSaid : Prop := Claim7.holds Tryd.pinned (.plain (OpenSpec.upto filterEachSpec)) filterEachUptoCard
end Rows
end Go.Proofs.YtaogbdfmoeolnaaDoor
