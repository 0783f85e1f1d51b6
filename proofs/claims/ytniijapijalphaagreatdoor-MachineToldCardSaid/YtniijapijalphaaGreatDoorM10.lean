import Derived.Test.YtniijapijalphaaGreatDoorM6
import Derived.Test.YtniijapijalphaaGreatDoorM7
import Derived.Test.YtniijapijalphaaGreatDoorM8
import Derived.Test.YtniijapijalphaaGreatDoorM9
/- A runner: what the run of law27's own example gives; parts of it were run elsewhere. -/
namespace Go.Proofs.YtniijapijalphaaGreatDoor.Zr
open Go Go.RowKit Eng
def okB : Option Res → Bool
  | some (.val (.bool true) _) => true
  | _ => false
theorem okB_of {r : Option Res} (h : okB r = true) : ∃ h', r = some (.val (.bool true) h') := by
  unfold okB at h
  split at h
  · exact ⟨_, rfl⟩
  · cases h
theorem run_sane27 : okB (runO Tryz.prog (orc [d2, d3, d4, d5]) 1000000 (.call 4 []) ⟨.nil, 0, []⟩) = true := by kernel_rfl
theorem k_sane27 (w : World) : Ret Tryz.prog 4 #[] w fun v w' => v = .bool true ∧ Bl w w' := by
  obtain ⟨h', hq⟩ := okB_of run_sane27
  have ho : OrcOk Tryz.prog (orc [d2, d3, d4, d5]) := orc_ok fun d hd => by
    simp only [List.mem_cons, List.not_mem_nil, or_false] at hd
    rcases hd with rfl | rfl | rfl | rfl
    · exact d2_ok
    · exact d3_ok
    · exact d4_ok
    · exact d5_ok
  refine (runO_ret follows ho hq (xs := []) .nil w).mono ?_
  rintro v w' ⟨⟨R, _, hv⟩, hB⟩
  cases hv
  exact ⟨rfl, hB⟩
end Go.Proofs.YtniijapijalphaaGreatDoor.Zr
