/-
  DERIVED. GIVEN WITH THE SEED: THE CARDS: each row of YtapgoboiljjecaaGreatDoorRows.lean that lists a variable, with what it lists TIED to the program's text (the seventh form; the later family's looks); each row that meets fmt, with fmt's text TOLD by the authors' own Lean function (tested against real Go, not proved from fmt's source: count such statements apart). THE CARD IS WHAT COUNTS. Prove the row's statement (the work); the ties are given (YtapgoboiljjecaaGreatDoorTie.lean); close each card by the builder's one call (the guide's Derived/Test/ToyasCard.lean, 'card_holds'). Laid BY PROGRAM, IN A SANDBOX (cutbox-door.mjs). By AI agents, Wed Nov 11 2026. No macro, syntax, notation, axiom, sorry.
-/
import Derived.Test.YtapgoboiljjecaaGreatDoorRows
import GoSem.ClaimSeven
namespace Go.Proofs.YtapgoboiljjecaaGreatDoor
namespace Rows

/-- THE TIED CARD OF 'routingtop.TopEncodings'. -/
def topEncodingsCard : Claim7 := { stood := { row := topEncodingsRow, standIns := [], harness := (true, "880921cc6174568b854817b83f8cfed8eb5f10dd77df3748e28ffa04597bb985"), looks := false }, kinds := [], alts := [], laidByText := true, laidKinds := [.data], laidTests := true, laidLooks := .later }
def TopEncodingsCardSaid : Prop := Claim7.holds Tryz.pinned (.plain (OpenSpec.ofChange topEncodingsSpec)) topEncodingsCard

/-- THE SECOND FORM's CARD OF 'routingtop.TopEncodings'. -/
def topEncodingsUptoCard : Claim7 := { stood := { row := topEncodingsUptoRow, standIns := [], harness := (true, "880921cc6174568b854817b83f8cfed8eb5f10dd77df3748e28ffa04597bb985"), looks := false }, kinds := [], alts := [], laidByText := true, laidKinds := [.data], laidTests := true, laidLooks := .later }
def TopEncodingsUptoCardSaid : Prop := Claim7.holds Tryz.pinned (.plain (OpenSpec.upto topEncodingsSpec)) topEncodingsUptoCard
end Rows
end Go.Proofs.YtapgoboiljjecaaGreatDoor
