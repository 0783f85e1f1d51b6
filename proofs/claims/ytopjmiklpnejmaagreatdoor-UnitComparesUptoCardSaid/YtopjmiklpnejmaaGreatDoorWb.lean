/- Walks: the program's path. -/
import Derived.Test.YtopjmiklpnejmaaGreatDoorIdx
import Derived.Test.YtopjmiklpnejmaaGreatDoorSplit
import Derived.Test.YtopjmiklpnejmaaGreatDoorShelf
namespace Go.Proofs.YtopjmiklpnejmaaGreatDoor
open Eng Go.RowKit
/-- the library's one variable holds a number -/
def Gl (w : World) : Prop := ∃ m, w.cell? ⟨0, 0, none⟩ = some (.int .i64 m)
theorem Gl.bl {w w' : World} (h : Gl w) (k : Bl w w') : Gl w' := let ⟨m, hm⟩ := h; ⟨m, k.kp T _ _ _ trivial hm⟩
theorem Gl.kp {w w' : World} {S : Nat → Prop} (h : Gl w) (k : Kp S w w') (hs : S 0) : Gl w' := let ⟨m, hm⟩ := h; ⟨m, k _ _ _ hs hm⟩
theorem c_Split (s : ByteArray) (w : World) (hs : s.size ≤ 1048576) (hG : Gl w) : Ret Tryz.prog 46 #[.string s, .string dotB] w fun v w' => ∃ b n, v = .slice (some ⟨b, 0, none⟩) (partsB s).length n ∧ (partsB s).length ≤ n ∧ Sl eStr T w' (some ⟨b, 0, none⟩) (partsB s) ∧ Bl w w' := by
  obtain ⟨m, hm⟩ := hG
  refine ⟨by kernel_rfl, (Tryz.strings_Split s dotB m w (by omega) hm (by decide)).mono ?_⟩
  rintro e w' ⟨rfl, rfl⟩
  obtain ⟨e1, e2⟩ := split_parts s
  rw [e1, e2]
  have hl := partsB_length s
  have hn := cutDot_length s.data.toList
  rw [ba_len] at hn
  have hnew : New w w.heap.size 9 ((partsB s).map Value.string) (w.alloc (.cells ((partsB s).map Value.string).toArray 9)) := ⟨rfl, rfl⟩
  refine ⟨_, _, rfl, Nat.le_refl _, ?_, hnew.bl⟩
  have hO := Ow.made (n := (partsB s).length) (esz := 1) hnew (by simp) (by omega)
  exact hO.strs rfl (by omega) (fun _ _ => trivial)
theorem u_Path1 (s : ByteArray) (w : World) (hs : s.size ≤ 1048576) : Ret Tryz.prog 48 #[.string s] w fun v w' => v = .bool (!simple s) ∧ Bl w w' := by
  refine entr (vs := [.string s]) [0, 2] tabok Tryz.func48 (by kernel_rfl) ?_
  refine cl (u_Simple s w hs) ?_
  rintro _ _ ⟨rfl, rfl⟩
  exact rt1 ⟨rfl, Bl.refl _⟩
theorem u_Path (s : ByteArray) (w : World) (hs : s.size ≤ 1048576) (hG : Gl w) : Ret Tryz.prog 16 #[.string s] w fun v w' => v = I (path s) ∧ Bl w w' := by
  refine entr (vs := [.string s]) [0, 2, 3, 12] tabok Tryz.func16 (by kernel_rfl) ?_
  refine cl (c_Split s w hs hG) ?_
  rintro _ w1 ⟨b, n, rfl, hn, hS, hB⟩
  refine sp (.bool true) (fun h1 => ?_) (fun h1 => ?_)
  · refine cl (ContainsFunc_str (partsB s) _ n 48 [] (fun x => !simple x) T w1 hS ?_) ?_
    · rintro x _ hx w' _ rfl
      exact u_Path1 x w' (by have := partsB_mem hx; omega)
    rintro _ w2 ⟨rfl, hB2⟩
    have h3 : (partsB s).length ≤ 3 := by have := of_decide_eq_false h1; omega
    refine br (t := (partsB s).any fun x => !simple x) (fun h => ?_) (fun h => ?_)
    · refine rt1 ⟨?_, hB.trans hB2⟩
      rw [path_parts, if_neg]
      · rfl
      rintro ⟨_, h2⟩
      obtain ⟨x, hx, h3⟩ := List.any_eq_true.1 h
      rw [List.all_eq_true.1 h2 x hx] at h3; cases h3
    · refine rt1 ⟨?_, hB.trans hB2⟩
      rw [path_parts, if_pos]
      refine ⟨h3, List.all_eq_true.2 fun x hx => ?_⟩
      have := List.any_eq_false.1 h x hx
      simpa using this
  · refine brt ?_
    have h3 : 3 < (partsB s).length := by have := of_decide_eq_true h1; omega
    refine rt1 ⟨?_, hB⟩
    rw [path_parts, if_neg (by omega)]; rfl
end Go.Proofs.YtopjmiklpnejmaaGreatDoor
