/-
  DERIVED. GIVEN WITH THE SEED: THE CARDS: each row of YtniijapijalphaaGreatDoorRows.lean that lists a variable, with what it lists TIED to the program's text (the seventh form; the later family's looks); each row that meets fmt, with fmt's text TOLD by the authors' own Lean function (tested against real Go, not proved from fmt's source: count such statements apart). THE CARD IS WHAT COUNTS. Prove the row's statement (the work); the ties are given (YtniijapijalphaaGreatDoorTie.lean); close each card by the builder's one call (the guide's Derived/Test/ToyasCard.lean, 'card_holds'). Laid BY PROGRAM, IN A SANDBOX (cutbox-door.mjs). By AI agents, Wed Nov 11 2026. No macro, syntax, notation, axiom, sorry.
-/
import Derived.Test.YtniijapijalphaaGreatDoorRows
import GoSem.ClaimSeven
namespace Go.Proofs.YtniijapijalphaaGreatDoor
namespace Rows

/-- THE TIED CARD OF 'isochronlaw27.MachineTold'. -/
def machineToldCard : Claim7 := { stood := { row := machineToldRow, standIns := [], harness := (true, "e143bf6b24ab491a1325abe6c0ba60dc88fb9fdbcabe98016aa349da16e2743a"), looks := false }, kinds := [], alts := [], laidByText := true, laidKinds := [.data, .pinned], laidTests := true, laidLooks := .later }
def MachineToldCardSaid : Prop := Claim7.holds Tryz.pinned (.plain (OpenSpec.ofChange machineToldSpec)) machineToldCard

/-- THE SECOND FORM's CARD OF 'isochronlaw27.MachineTold'. -/
def machineToldUptoCard : Claim7 := { stood := { row := machineToldUptoRow, standIns := [], harness := (true, "e143bf6b24ab491a1325abe6c0ba60dc88fb9fdbcabe98016aa349da16e2743a"), looks := false }, kinds := [], alts := [], laidByText := true, laidKinds := [.data, .pinned], laidTests := true, laidLooks := .later }
def MachineToldUptoCardSaid : Prop := Claim7.holds Tryz.pinned (.plain (OpenSpec.upto machineToldSpec)) machineToldUptoCard
end Rows
end Go.Proofs.YtniijapijalphaaGreatDoor
