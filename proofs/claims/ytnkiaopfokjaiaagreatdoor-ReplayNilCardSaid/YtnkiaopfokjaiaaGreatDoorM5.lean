import Derived.Test.YtnkiaopfokjaiaaGreatDoorM4
import Derived.Test.YtnkiaopfokjaiaaGreatDoorProg
import Derived.WalkKit
/- A runner: what the run of the law ReplayNil gives. -/
namespace Go.Proofs.YtnkiaopfokjaiaaGreatDoor.Zr
open Go Go.RowKit Eng
def okB : Option Res → Bool
  | some (.val (.bool true) _) => true
  | _ => false
theorem okB_of {r : Option Res} (h : okB r = true) : ∃ h', r = some (.val (.bool true) h') := by
  unfold okB at h
  split at h
  · exact ⟨_, rfl⟩
  · cases h
theorem run_rnil : okB (runQ Tryz.prog 100000 (.call 3 [.any, .any, .any]) ⟨.nil, 0, []⟩) = true := by kernel_rfl
theorem follows : Tryz.prog.follows .mixedOrders = true := by kernel_rfl
theorem w_rnil (a b : Int) (s : ByteArray) (w : World) : Ret Tryz.prog 3 #[.int .i64 a, .int .i64 b, .string s] w fun v w' => v = .bool true ∧ Bl w w' := by
  obtain ⟨h', hq⟩ := okB_of (by have h := run_rnil; rw [runQ_eq] at h; exact h)
  refine (run_ret follows hq (xs := [.int .i64 a, .int .i64 b, .string s]) (.cons (.any _ rfl rfl) (.cons (.any _ rfl rfl) (.cons (.any _ rfl rfl) .nil))) w).mono ?_
  rintro v w' ⟨⟨R, _, hv⟩, hB⟩
  cases hv
  exact ⟨rfl, hB⟩
end Go.Proofs.YtnkiaopfokjaiaaGreatDoor.Zr
