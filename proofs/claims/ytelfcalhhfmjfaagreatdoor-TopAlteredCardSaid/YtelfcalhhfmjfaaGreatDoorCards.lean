/-
  DERIVED. GIVEN WITH THE SEED: THE CARDS: each row of YtelfcalhhfmjfaaGreatDoorRows.lean that lists a variable, with what it lists TIED to the program's text (the seventh form; the later family's looks); each row that meets fmt, with fmt's text TOLD by the authors' own Lean function (tested against real Go, not proved from fmt's source: count such statements apart). THE CARD IS WHAT COUNTS. Prove the row's statement (the work); the ties are given (YtelfcalhhfmjfaaGreatDoorTie.lean); close each card by the builder's one call (the guide's Derived/Test/ToyasCard.lean, 'card_holds'). Laid BY PROGRAM, IN A SANDBOX (cutbox-door.mjs). By AI agents, Wed Nov 11 2026. No macro, syntax, notation, axiom, sorry.
-/
import Derived.Test.YtelfcalhhfmjfaaGreatDoorRows
import GoSem.ClaimSeven
namespace Go.Proofs.YtelfcalhhfmjfaaGreatDoor
namespace Rows

/-- THE TIED CARD OF 'datakittop.TopAltered'. -/
def topAlteredCard : Claim7 := { stood := { row := topAlteredRow, standIns := [], harness := (true, "b386a8b54f1c637d85b04d212ad75ddca50c14e1974809fe1ab1ec007e727ea8"), looks := false }, kinds := [], alts := [], laidByText := true, laidKinds := [.data, .pinned], laidTests := true, laidLooks := .later }
def TopAlteredCardSaid : Prop := Claim7.holds Tryz.pinned (.plain (OpenSpec.ofChange topAlteredSpec)) topAlteredCard

/-- THE SECOND FORM's CARD OF 'datakittop.TopAltered'. -/
def topAlteredUptoCard : Claim7 := { stood := { row := topAlteredUptoRow, standIns := [], harness := (true, "b386a8b54f1c637d85b04d212ad75ddca50c14e1974809fe1ab1ec007e727ea8"), looks := false }, kinds := [], alts := [], laidByText := true, laidKinds := [.data, .pinned], laidTests := true, laidLooks := .later }
def TopAlteredUptoCardSaid : Prop := Claim7.holds Tryz.pinned (.plain (OpenSpec.upto topAlteredSpec)) topAlteredUptoCard
end Rows
end Go.Proofs.YtelfcalhhfmjfaaGreatDoor
