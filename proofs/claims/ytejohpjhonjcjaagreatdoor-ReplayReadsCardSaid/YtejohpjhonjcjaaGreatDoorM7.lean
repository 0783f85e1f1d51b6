import Derived.Test.YtejohpjhonjcjaaGreatDoorM6
import Derived.Test.YtejohpjhonjcjaaGreatDoorProg
import Derived.WalkKit
/- A runner: what the run of law28's own example gives. -/
namespace Go.Proofs.YtejohpjhonjcjaaGreatDoor.Zr
open Go Go.RowKit Eng
def okB : Option Res → Bool
  | some (.val (.bool true) _) => true
  | _ => false
theorem okB_of {r : Option Res} (h : okB r = true) : ∃ h', r = some (.val (.bool true) h') := by
  unfold okB at h
  split at h
  · exact ⟨_, rfl⟩
  · cases h
theorem run_sane28 : okB (runQ Tryz.prog 100000 (.call 5 []) ⟨.nil, 0, []⟩) = true := by kernel_rfl
theorem follows : Tryz.prog.follows .mixedOrders = true := by kernel_rfl
theorem k_sane28 (w : World) : Ret Tryz.prog 5 #[] w fun v w' => v = .bool true ∧ Bl w w' := by
  obtain ⟨h', hq⟩ := okB_of (by have h := run_sane28; rw [runQ_eq] at h; exact h)
  refine (run_ret follows hq (xs := []) .nil w).mono ?_
  rintro v w' ⟨⟨R, _, hv⟩, hB⟩
  cases hv
  exact ⟨rfl, hB⟩
end Go.Proofs.YtejohpjhonjcjaaGreatDoor.Zr
