import Derived.Test.YtnkiaopfokjaiaaGreatDoorCards
import Derived.Test.YtnkiaopfokjaiaaGreatDoorTie
import Derived.WalkKit
import Derived.ProofKit
import Derived.OpenShut
import Derived.ShutString
import Derived.Deep.DeepHandedRow
import Derived.Deep.DeepWitnessRowRef
import Derived.LaidHandle
import Derived.Lay
/- A world for the witness of ReplayNil's claim: the listed variables lie as the rows list them. -/
namespace Go.Proofs.YtnkiaopfokjaiaaGreatDoor.replayNil
open Go.ChangeShapes Go.WideShapes Go.ChangeAt Go.RowKit
theorem own : ownKnob Tryz.prog.godebug = none := by kernel_rfl
def setO (v : Value) : Obj → Obj
  | .cells _ t fr => .cells #[v] t fr
  | o => o
noncomputable def w00 (os : Os) : World :=
  { World.holding Tryz.prog os ⟨#[], #[], []⟩ with
    heap := (World.holding Tryz.prog os ⟨#[], #[], []⟩).heap.modify 0 (setO (.iface 142 (.agg #[typeHandle Tryz.prog 56]))) }
def plainL : List (String × DataW Unit) := Rows.replayNilRow.laid.filter fun x => x.2.handleName?.isNone
noncomputable def wit (os : Os) : World := (w00 os).layVars Tryz.prog plainL
theorem wit_os (os : Os) : (wit os).os = os := World.layVars_os _ _ _
theorem fits (os : Os) : (w00 os).layFits Tryz.prog plainL [] = true := by kernel_rfl
theorem ifaces (os : Os) : (w00 os).layIfaces Tryz.prog plainL (wit os) = true := by kernel_rfl
theorem names_all : (plainL.filter fun x => (plainL.map (·.1)).contains x.1) = plainL := List.filter_eq_self.2 fun x hx => List.contains_iff_mem.2 (List.mem_map.2 ⟨x, hx, rfl⟩)
theorem names_none : (plainL.filter fun x => !(plainL.map (·.1)).contains x.1) = [] := List.filter_eq_nil_iff.2 fun x hx => by rw [List.contains_iff_mem.2 (List.mem_map.2 ⟨x, hx, rfl⟩)]; simp
theorem laid_wit (os : Os) : laidMet Tryz.prog plainL (wit os) :=
  laidMet_layVars (w0 := w00 os) (plainL.map (·.1)) [] (by rw [names_all]; unfold wit; exact Eq.refl _) (by rw [names_all]; exact fits os) (by rw [names_all]; exact ifaces os) (by rw [names_none]; exact LaidIn.none)
theorem laid_plain (os : Os) (args : Array Value) : laidMet Tryz.prog plainL ((wit os).forCall (fun _ _ => 0) ⟨#[], args, []⟩).memory :=
  (laid_wit os).of_heap (by simp [World.memory, World.forCall, Input.heap])
theorem handles (os : Os) (args : Array Value) : (Rows.replayNilRow.laid.filter fun x => x.2.handleName?.isSome).all (handleAtB Tryz.prog ((wit os).forCall (fun _ _ => 0) ⟨#[], args, []⟩).memory) = true := by kernel_rfl
theorem laid_met (os : Os) (args : Array Value) : laidMetH Tryz.prog Rows.replayNilRow.laid ((wit os).forCall (fun _ _ => 0) ⟨#[], args, []⟩).memory :=
  laidMetH_of_parts (laid_plain os args) (handles os args)
def args0 : Array Value := #[.int .i64 0, .int .i64 0, .string ⟨#[]⟩]
theorem vars_ok (os : Os) : ((wit os).forCall (fun _ _ => 0) ⟨#[], args0, []⟩).variablesRefB Tryz.checked.prog = true := by kernel_rfl
theorem heap_ok (os : Os) : (((wit os).forCall (fun _ _ => 0) ⟨#[], args0, []⟩).heap.toList.drop Tryz.checked.prog.globals.size).take ((begin Tryz.checked.prog (fun _ _ => 0) default).world.heap.size - Tryz.checked.prog.globals.size) =
      (begin Tryz.checked.prog (fun _ _ => 0) default).world.heap.toList.drop Tryz.checked.prog.globals.size := by kernel_rfl
theorem args_ok (os : Os) : Input.okWideB Tryz.checked.prog ((wit os).forCall (fun _ _ => 0) ⟨#[], args0, []⟩) 3 ⟨#[], args0, []⟩ = true := by kernel_rfl
theorem reads (os : Os) {H : Type} (enc : TypeId × Value → H) : ∃ places, DataW.whole enc Tryz.prog ((wit os).forCall (fun _ _ => 0) ⟨#[], args0, []⟩).memory Tryz.f3.params.toList Rows.replayNilSpec.vars false args0.toList 8 = some ([.lit (.int .i64 0), .lit (.int .i64 0), .lit (.string [])], [], places) :=
  ⟨[], by kernel_rfl⟩
set_option maxRecDepth 100000 in
theorem sized (os : Os) {H : Type} (enc : TypeId × Value → H) : (OpenSpec.ofChange Rows.replayNilSpec).bare.sizedB enc Tryz.prog Tryz.f3 false ((wit os).forCall (fun _ _ => 0) ⟨#[], args0, []⟩).memory args0 8 = true := by kernel_rfl
end Go.Proofs.YtnkiaopfokjaiaaGreatDoor.replayNil
