/-
  DERIVED. GIVEN WITH THE SEED: THE CARDS: each row of YtnkiaopfokjaiaaGreatDoorRows.lean that lists a variable, with what it lists TIED to the program's text (the seventh form; the later family's looks); each row that meets fmt, with fmt's text TOLD by the authors' own Lean function (tested against real Go, not proved from fmt's source: count such statements apart). THE CARD IS WHAT COUNTS. Prove the row's statement (the work); the ties are given (YtnkiaopfokjaiaaGreatDoorTie.lean); close each card by the builder's one call (the guide's Derived/Test/ToyasCard.lean, 'card_holds'). Laid BY PROGRAM, IN A SANDBOX (cutbox-door.mjs). By AI agents, Wed Nov 11 2026. No macro, syntax, notation, axiom, sorry.
-/
import Derived.Test.YtnkiaopfokjaiaaGreatDoorRows
import GoSem.ClaimSeven
namespace Go.Proofs.YtnkiaopfokjaiaaGreatDoor
namespace Rows

/-- THE TIED CARD OF 'isochronlaw28.ReplayNil'. -/
def replayNilCard : Claim7 := { stood := { row := replayNilRow, standIns := [], harness := (true, "80c9b65069421fdb474af62c95bbeb31b397b69ad487677d9d7ebfc1c102ca99"), looks := true }, kinds := [], alts := [], laidByText := true, laidKinds := [.data, .data, .data, .data, .handle, .sentinel, .sentinel, .pinned], laidTests := true, laidLooks := .later }
def ReplayNilCardSaid : Prop := Claim7.holds Tryz.pinned (.plain (OpenSpec.ofChange replayNilSpec)) replayNilCard

/-- THE SECOND FORM's CARD OF 'isochronlaw28.ReplayNil'. -/
def replayNilUptoCard : Claim7 := { stood := { row := replayNilUptoRow, standIns := [], harness := (true, "80c9b65069421fdb474af62c95bbeb31b397b69ad487677d9d7ebfc1c102ca99"), looks := true }, kinds := [], alts := [], laidByText := true, laidKinds := [.data, .data, .data, .data, .handle, .sentinel, .sentinel, .pinned], laidTests := true, laidLooks := .later }
def ReplayNilUptoCardSaid : Prop := Claim7.holds Tryz.pinned (.plain (OpenSpec.upto replayNilSpec)) replayNilUptoCard
end Rows
end Go.Proofs.YtnkiaopfokjaiaaGreatDoor
