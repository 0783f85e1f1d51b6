/- Walks: the program's word on kinds; slices.Concat and slices.Grow at types. -/
import Derived.Test.YtopjmiklpnejmaaGreatDoorHd
namespace Go.Proofs.YtopjmiklpnejmaaGreatDoor
open Eng Go.RowKit
theorem c_Grow (n : Nat) (hn : n ≤ 8388608) (w : World) : Ret Tryz.prog 173 #[.slice none 0 0, I n] w fun v w' => ∃ a cap, v = .slice a 0 cap ∧ Ow w' w.heap.size 61 2 a 0 cap [] ∧ Bl w w' := by
  refine entr (vs := [.slice none 0 0, I n]) [0, 1, 4, 6, 16] tabok Tryz.func173 (by kernel_rfl) ?_
  refine brF ?_
  refine cp ?_
  by_cases h0 : n = 0
  · subst h0
    refine brF ?_ (hp := by decide)
    exact rt1 ⟨none, 0, rfl, Ow.nil _ _ _ _, Bl.refl _⟩
  have hw : IntKind.i64.wrap ((n : Int) - IntKind.i64.wrap (((0 : Nat) : Int) - ((0 : Nat) : Int))) = n := by
    rw [show IntKind.i64.wrap (((0 : Nat) : Int) - ((0 : Nat) : Int)) = 0 from rfl, wrap_fit (by omega) (by omega)]; omega
  refine brT ?_ (hp := by rw [hw]; omega)
  refine cp ?_
  refine sl 0 0 ?_
  refine apz (n := n) (kd := .i64) (by omega) hn (fun cap w' hO hc hB => ?_) (hy := by exact congrArg (fun z => some (Value.int .i64 z)) hw)
  refine sl 0 0 ?_
  refine rt1 ⟨some ⟨w.heap.size, 0, none⟩, cap, ?_, hO, hB⟩
  rw [if_neg (by omega)]; rfl
theorem c_Concat (l1 l2 : List Ty) (a1 a2 : Option Addr) (c1 c2 : Nat) (b : Nat) (w : World) (h1 : Sl eTy T w a1 l1) (h2 : Sl eTy T w a2 l2) (hb : At w b 0 [.slice a1 l1.length c1, .slice a2 l2.length c2]) (hs : l1.length + l2.length ≤ 4194304) :
    Ret Tryz.prog 126 #[.slice (some ⟨b, 0, none⟩) 2 2] w fun v w' => ∃ a cap, v = .slice a (l1 ++ l2).length cap ∧ Sl eTy (fun i => w.heap.size ≤ i ∧ i < w'.heap.size) w' a (l1 ++ l2) ∧ Bl w w' := by
  have g1 := h1.big
  have g2 := h2.big
  have hL : ∀ j, j < 2 → ∃ aL cL L, [Value.slice a1 l1.length c1, .slice a2 l2.length c2][j]? = some (.slice aL L.length cL) ∧ Sl eTy T w aL L ∧ [l1, l2][j]? = some L := fun j hj => by
    rcases j with _ | _ | j
    · exact ⟨a1, c1, l1, rfl, h1, rfl⟩
    · exact ⟨a2, c2, l2, rfl, h2, rfl⟩
    · omega
  refine entr (vs := [.slice (some ⟨b, 0, none⟩) 2 2]) [0, 2, 3, 5, 6, 8, 9, 10, 11, 12, 20, 25, 26, 27, 28] tabok Tryz.func126 (by kernel_rfl) ?_
  refine lpk 2 11 [3] [(0, .slice (some ⟨b, 0, none⟩) 2 2), (9, .slice (some ⟨b, 0, none⟩) 2 2), (10, I 2)] (fun j vals w' => vals = [I ((([l1, l2].take j).flatMap id).length : Nat)] ∧ w = w') ⟨rfl, rfl⟩ ?_
  rintro j vals _ hj ⟨rfl, rfl⟩ ih
  by_cases hlt : j < 2
  · refine brT ?_
    obtain ⟨aL, cL, L, hv, hSL, hLj⟩ := hL j hlt
    have hbL := hSL.big
    refine ix ?_
    refine ld (o := 0 + j * 1) (v := .slice aL L.length cL) (by have := hb j _ hv; simpa using this) ?_
    have hlj : (([l1, l2].take j).flatMap id).length + L.length = (([l1, l2].take (j + 1)).flatMap id).length := by rw [flatMap_snoc hLj]; simp
    have hle : (([l1, l2].take (j + 1)).flatMap id).length ≤ l1.length + l2.length := by
      rcases j with _ | _ | j
      · simp
      · simp
      · omega
    have hw : IntKind.i64.wrap (((([l1, l2].take j).flatMap id).length : Nat) + (L.length : Int)) = ((([l1, l2].take (j + 1)).flatMap id).length : Nat) := by rw [wrap_fit (by omega) (by omega)]; omega
    refine brF ?_ (hp := by rw [hw]; omega)
    exact ih hlt ⟨lst1 (vi hw), rfl⟩
  refine brF ?_
  obtain rfl : j = 2 := by omega
  have e2 : (([l1, l2].take 2).flatMap id) = l1 ++ l2 := by simp
  refine cl (c_Grow (([l1, l2].take 2).flatMap id).length (by rw [e2, List.length_append]; omega) w) ?_
  rintro _ w1 ⟨a, cap, rfl, hO, hB1⟩
  refine lpk 2 27 [6] [(25, .slice (some ⟨b, 0, none⟩) 2 2), (26, I 2)] (fun j vals w' => ∃ a cap, vals = [.slice a (([l1, l2].take j).flatMap id).length cap] ∧ OwP 2 encTy w' w.heap.size 61 a cap (([l1, l2].take j).flatMap id) ∧ Bl w w') ⟨a, cap, rfl, hO, hB1⟩ ?_
  rintro j vals w2 hj ⟨a, cap, rfl, hO2, hB2⟩ ih
  by_cases hlt : j < 2
  · refine brT ?_
    obtain ⟨aL, cL, L, hv, hSL, hLj⟩ := hL j hlt
    have hbL := hSL.big
    refine ix ?_
    refine ld (o := 0 + j * 1) (v := .slice aL L.length cL) (by have := (hb.bl hB2) j _ hv; simpa using this) ?_
    have hle : (([l1, l2].take j).flatMap id).length ≤ l1.length + l2.length := by
      rcases j with _ | _ | j
      · simp
      · simp
      · omega
    refine apl hO2 (src_of (hSL.bl hB2)) hB2.size (fun a' cap' w3 hO3 hA _ => ?_)
    refine ih hlt ⟨a', cap', ?_, ?_, Eng.Ow.below hO2 hA hB2 hB2.size⟩
    · rw [flatMap_snoc hLj]; rfl
    · rw [flatMap_snoc hLj]; exact hO3
  refine brF ?_
  obtain rfl : j = 2 := by omega
  rw [e2] at hO2 ⊢
  exact rt1 ⟨a, cap, rfl, owp_sl hO2 (by rw [List.length_append]; omega) (fun _ hg => hO2.lt hg), hB2⟩
end Go.Proofs.YtopjmiklpnejmaaGreatDoor
