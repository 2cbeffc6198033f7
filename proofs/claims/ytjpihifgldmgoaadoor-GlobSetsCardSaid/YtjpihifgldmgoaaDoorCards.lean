/-
  DERIVED. GIVEN WITH THE SEED: THE CARDS: each row of YtjpihifgldmgoaaDoorRows.lean that lists a variable, with what it lists TIED to the program's text (the seventh form; the later family's looks); each row that meets fmt, with fmt's text TOLD by the authors' own Lean function (tested against real Go, not proved from fmt's source: count such statements apart). THE CARD IS WHAT COUNTS. Prove the row's statement (the work); the ties are given (YtjpihifgldmgoaaDoorTie.lean); close each card by the builder's one call (the guide's Derived/Test/ToyasCard.lean, 'card_holds'). Laid BY PROGRAM, IN A SANDBOX (cutbox-door.mjs). By AI agents, Wed Nov 11 2026. No macro, syntax, notation, axiom, sorry.
-/
import Derived.Test.YtjpihifgldmgoaaDoorRows
import GoSem.ClaimSeven
namespace Go.Proofs.YtjpihifgldmgoaaDoor
namespace Rows

/-- THE TIED CARD OF 'creelkeep.PadBack'. -/
def padBackCard : Claim7 := { stood := { row := padBackRow, standIns := [], harness := (true, "baa34fa252ec9e3299dd3cb675b93344c72b2445b01111be452f176a5f90d4bb"), looks := false }, kinds := [], alts := [], laidByText := true, laidKinds := [.data, .pinned], laidTests := true, laidLooks := .later }
def PadBackCardSaid : Prop := Claim7.holds Tryd.pinned (.plain (OpenSpec.ofChange padBackSpec)) padBackCard

/-- THE TIED CARD OF 'creelkeep.GlobSets'. -/
def globSetsCard : Claim7 := { stood := { row := globSetsRow, standIns := [], harness := (true, "baa34fa252ec9e3299dd3cb675b93344c72b2445b01111be452f176a5f90d4bb"), looks := false }, kinds := [], alts := [], laidByText := true, laidKinds := [.data, .pinned], laidTests := true, laidLooks := .later }
def GlobSetsCardSaid : Prop := Claim7.holds Tryd.pinned (.plain (OpenSpec.ofChange globSetsSpec)) globSetsCard

/-- THE TIED CARD OF 'creelkeep.GlobMany'. -/
def globManyCard : Claim7 := { stood := { row := globManyRow, standIns := [], harness := (true, "baa34fa252ec9e3299dd3cb675b93344c72b2445b01111be452f176a5f90d4bb"), looks := false }, kinds := [], alts := [], laidByText := true, laidKinds := [.data, .pinned], laidTests := true, laidLooks := .later }
def GlobManyCardSaid : Prop := Claim7.holds Tryd.pinned (.plain (OpenSpec.ofChange globManySpec)) globManyCard

/-- THE SECOND FORM's CARD OF 'creelkeep.PadBack'. -/
def padBackUptoCard : Claim7 := { stood := { row := padBackUptoRow, standIns := [], harness := (true, "baa34fa252ec9e3299dd3cb675b93344c72b2445b01111be452f176a5f90d4bb"), looks := false }, kinds := [], alts := [], laidByText := true, laidKinds := [.data, .pinned], laidTests := true, laidLooks := .later }
def PadBackUptoCardSaid : Prop := Claim7.holds Tryd.pinned (.plain (OpenSpec.upto padBackSpec)) padBackUptoCard

/-- THE SECOND FORM's CARD OF 'creelkeep.GlobSets'. -/
def globSetsUptoCard : Claim7 := { stood := { row := globSetsUptoRow, standIns := [], harness := (true, "baa34fa252ec9e3299dd3cb675b93344c72b2445b01111be452f176a5f90d4bb"), looks := false }, kinds := [], alts := [], laidByText := true, laidKinds := [.data, .pinned], laidTests := true, laidLooks := .later }
def GlobSetsUptoCardSaid : Prop := Claim7.holds Tryd.pinned (.plain (OpenSpec.upto globSetsSpec)) globSetsUptoCard

/-- THE SECOND FORM's CARD OF 'creelkeep.GlobMany'. -/
def globManyUptoCard : Claim7 := { stood := { row := globManyUptoRow, standIns := [], harness := (true, "baa34fa252ec9e3299dd3cb675b93344c72b2445b01111be452f176a5f90d4bb"), looks := false }, kinds := [], alts := [], laidByText := true, laidKinds := [.data, .pinned], laidTests := true, laidLooks := .later }
def GlobManyUptoCardSaid : Prop := Claim7.holds Tryd.pinned (.plain (OpenSpec.upto globManySpec)) globManyUptoCard
end Rows
end Go.Proofs.YtjpihifgldmgoaaDoor
