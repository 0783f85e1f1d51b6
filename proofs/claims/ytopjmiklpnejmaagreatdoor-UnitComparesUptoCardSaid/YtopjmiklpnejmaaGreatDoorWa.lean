/- Walks: names and paths. -/
import Derived.Test.YtopjmiklpnejmaaGreatDoorSpec
import Derived.Test.YtopjmiklpnejmaaGreatDoorTab
namespace Go.Proofs.YtopjmiklpnejmaaGreatDoor
open Eng Go.RowKit
theorem w_letter (c : UInt8) (w : World) : Ret Tryz.prog 44 #[.int .u8 (c.toNat : Int)] w fun v w' => v = .bool (low c || upp c) ∧ w' = w := by
  refine entr (vs := [.int .u8 (c.toNat : Int)]) [0, 2] tabok Tryz.func44 (by kernel_rfl) ?_
  exact rt1 ⟨rfl, rfl⟩
theorem w_digit (c : UInt8) (w : World) : Ret Tryz.prog 45 #[.int .u8 (c.toNat : Int)] w fun v w' => v = .bool (dgt c) ∧ w' = w := by
  refine entr (vs := [.int .u8 (c.toNat : Int)]) [0, 2] tabok Tryz.func45 (by kernel_rfl) ?_
  exact rt1 ⟨rfl, rfl⟩
theorem r_Simple (s : ByteArray) (w : World) (hs : s.size ≤ 1048576) : Ret Tryz.prog 15 #[.string s] w fun v w' => v = .bool (simple s) ∧ w' = w := by
  refine entr (vs := [.string s]) [0, 2, 3, 4, 22, 26, 54] tabok Tryz.func15 (by kernel_rfl) ?_
  refine ixsg (j := 0) (fun h => ?_) ?_
  · simp at h; omega
  refine ixsg (j := 0) (fun h => ?_) ?_
  · simp at h; omega
  refine br (fun h => ?_) (fun h => ?_)
  · refine rt1 ⟨congrArg _ ?_, rfl⟩
    simp only [Bool.or_eq_true, decide_eq_true_eq] at h
    symm
    by_cases h0 : s.size = 0
    · exact simple_empty s h0
    by_cases h1 : 12 < s.size
    · exact simple_long s h1
    · exact simple_head s (by omega) (by simp [low]; omega)
  simp only [Bool.or_eq_false_iff, decide_eq_false_iff_not] at h
  refine lp [3] [(0, .string s)] (fun m vals w' => ∃ k : Nat, m = s.size - k ∧ k ≤ s.size ∧ vals = [I k] ∧ (s.data.toList.take k).all alnum = true ∧ w' = w) ⟨rfl, trivial⟩ ⟨0, rfl, Nat.zero_le _, rfl, rfl, rfl⟩ ?_
  rintro m vals _ ⟨k, rfl, hk, rfl, ha, rfl⟩ ih
  by_cases hlt : k < s.size
  · refine brT ?_
    refine ixs ?_
    refine br (t := !alnum (sget s k)) (fun h1 => ?_) (fun h1 => ?_)
    · exact rt1 ⟨vb (simple_at s k hlt (by simpa using h1)).symm, rfl⟩
    · refine again (ih _ _ _ _ ?_ ⟨rfl, trivial⟩ rfl ⟨k + 1, rfl, by omega, ?_, all_snoc hlt ha (by simpa using h1), rfl⟩)
      · omega
      · rw [wrap_succ hlt]
  · refine brF ?_
    obtain rfl : k = s.size := by omega
    exact rt1 ⟨vb (simple_yes s (by omega) (by omega) (by simp [low]; omega) ha).symm, rfl⟩
theorem u_Simple (s : ByteArray) (w : World) (hs : s.size ≤ 1048576) : Ret Tryz.prog 14 #[.string s] w fun v w' => v = .bool (simple s) ∧ w' = w := by
  refine entr (vs := [.string s]) [0, 2, 3, 20, 22, 23, 24, 37] tabok Tryz.func14 (by kernel_rfl) ?_
  refine ixsg (j := 0) (fun h => ?_) ?_
  · simp only [Bool.or_eq_false_iff, decide_eq_false_iff_not, ba_nil] at h; omega
  refine ixsg (j := 0) (fun h => ?_) ?_
  · simp only [Bool.or_eq_false_iff, decide_eq_false_iff_not, ba_nil] at h; omega
  refine br (fun h => ?_) (fun h => ?_)
  · refine rt1 ⟨vb ?_, rfl⟩
    simp only [Bool.or_eq_true, decide_eq_true_eq, ba_nil] at h
    symm
    by_cases h0 : s.size = 0
    · exact simple_empty s h0
    by_cases h1 : 12 < s.size
    · exact simple_long s h1
    · exact simple_head s (by omega) (by simp [low]; omega)
  simp only [Bool.or_eq_false_iff, decide_eq_false_iff_not, ba_nil] at h
  refine lp [23] [(0, .string s), (22, I s.size)] (fun m vals w' => ∃ k : Nat, m = s.size - k ∧ k ≤ s.size ∧ vals = [I k] ∧ (s.data.toList.take k).all alnum = true ∧ w' = w) ⟨rfl, rfl, trivial⟩ ⟨0, rfl, Nat.zero_le _, rfl, rfl, rfl⟩ ?_
  rintro m vals _ ⟨k, rfl, hk, rfl, ha, rfl⟩ ih
  by_cases hlt : k < s.size
  · refine brT ?_
    refine ixs ?_
    refine cl (w_letter _ _) ?_
    rintro _ _ ⟨rfl, rfl⟩
    refine ixsg (fun _ => hlt) ?_
    refine sp (.bool true) (fun h1 => ?_) (fun h1 => ?_)
    · refine cl (w_digit _ _) ?_
      rintro _ _ ⟨rfl, rfl⟩
      refine br (fun h2 => ?_) (fun h2 => ?_)
      · exact rt1 ⟨vb (simple_at s k hlt (by simp_all [alnum])).symm, rfl⟩
      · refine again (ih _ _ _ _ (by omega) ⟨rfl, rfl, trivial⟩ rfl ⟨k + 1, rfl, by omega, lst1 (inc hlt), all_snoc hlt ha (by simp_all [alnum]), rfl⟩)
    · have h1' : alnum (sget s k) = true := by unfold alnum; revert h1; cases low (sget s k) <;> cases upp (sget s k) <;> simp
      refine brf ?_
      refine again (ih _ _ _ _ (by omega) ⟨rfl, rfl, trivial⟩ rfl ⟨k + 1, rfl, by omega, lst1 (inc hlt), all_snoc hlt ha h1', rfl⟩)
  · refine brF ?_
    obtain rfl : k = s.size := by omega
    exact rt1 ⟨vb (simple_yes s (by omega) (by omega) (by simp [low]; omega) ha).symm, rfl⟩
theorem r_Parts (s : ByteArray) (w : World) (hs : s.size ≤ 1048576) : Ret Tryz.prog 43 #[.string s] w fun v w' => ∃ a cap, v = .slice a (partsB s).length cap ∧ Sl eStr T w' a (partsB s) ∧ Bl w w' := by
  refine entr (vs := [.string s]) [0, 2, 3, 4, 9, 15] tabok Tryz.func43 (by kernel_rfl) ?_
  refine bs fun b w1 h1 => ?_
  refine lp [3, 4] [(0, .string s)] (fun m vals w' => ∃ (k : Nat) (a : Option Addr) (cap : Nat), m = s.size - k ∧ k ≤ s.size ∧ vals = [.slice a (cutDot (s.data.toList.take k)).length cap, I k] ∧
    Ow w' w.heap.size 9 1 a (cutDot (s.data.toList.take k)).length cap ((cutDot (s.data.toList.take k)).map fun p => .string (ofL p)) ∧ Bl w w') ⟨rfl, trivial⟩ ⟨0, some ⟨b, 0, none⟩, 1, rfl, Nat.zero_le _, rfl, (Ow.made (n := 1) h1 rfl (by omega)).base (by rw [h1.blk]; exact Nat.le_refl _), h1.bl⟩ ?_
  rintro m vals w2 ⟨k, a, cap, rfl, hk, rfl, hO, hB⟩ ih
  have hn := cutDot_length (s.data.toList.take k)
  have hlen : (s.data.toList.take k).length ≤ k := List.length_take_le _ _
  by_cases hlt : k < s.size
  · refine brT ?_
    refine ixs ?_
    have hg := sget_at hlt
    refine br (fun h1 => ?_) (fun h1 => ?_)
    · have hc : sget s k = 46 := by have := of_decide_eq_true h1; exact UInt8.toNat.inj (by simp at this ⊢; omega)
      have e : cutDot (s.data.toList.take (k + 1)) = cutDot (s.data.toList.take k) ++ [[]] := by rw [take_succ_some hg, hc, cutDot_dot]
      refine bs fun b3 w3 h3 => ?_
      have hbs : w.heap.size ≤ w3.heap.size := by have := h3.size; have := hB.size; omega
      refine ap (hO.bl h3.bl) (.inr ⟨b3, 0, rfl, h3.box.at⟩) hbs (fun a' cap' w4 hO4 hA _ => ?_)
      refine again (ih _ _ _ _ ?_ ⟨rfl, trivial⟩ rfl ⟨k + 1, a', cap', rfl, by omega, lst2 (vsl ?_) (inc hlt), ?_, (hO.bl h3.bl).below hA (hB.trans h3.bl) hbs⟩)
      · omega
      · rw [e, List.length_append]; rfl
      · rw [e]; simpa [ofL_nil] using hO4
    · have hc : sget s k ≠ 46 := fun hc => by rw [hc] at h1; simp at h1
      have e : cutDot (s.data.toList.take (k + 1)) = onLast (· ++ [sget s k]) (cutDot (s.data.toList.take k)) := by rw [take_succ_some hg, cutDot_other _ _ hc]
      have hne := cutDot_ne (s.data.toList.take k)
      have hpos : 0 < (cutDot (s.data.toList.take k)).length := List.length_pos_iff.2 hne
      refine dt 1 fun w3 h3 => ?_
      obtain ⟨p, hp⟩ := some_of_lt (l := cutDot (s.data.toList.take k)) (k := (cutDot (s.data.toList.take k)).length - 1) (by omega)
      rcases hO.shape with ⟨_, h0, _⟩ | ⟨g, cur0, rfl, hg0, _⟩
      · omega
      have hO3 := hO.bl h3.bl
      obtain ⟨cur, hbx, hcl, htk, hnc, hle⟩ := hO3.box
      have hat := hO3.at rfl
      have hw1 : IntKind.i64.wrap (((cutDot (s.data.toList.take k)).length : Int) - 1) = (((cutDot (s.data.toList.take k)).length - 1 : Nat) : Int) := by rw [wrap_fit (by omega) (by omega)]; omega
      refine ix (hij := hw1) ?_
      have hcell := hat _ (.string (ofL p)) (by rw [List.getElem?_map, hp]; rfl)
      refine ld (v := .string (ofL p)) ?_ ?_
      · rw [Nat.mul_one]; exact hcell
      refine sls k (k + 1) ?_ (h2 := by exact ⟨_, inc hlt⟩)
      rw [extract_one hlt]
      have hpl := cutDot_mem (List.mem_of_getElem? hp)
      refine cat ?_ (hab := by rw [ofL_size, ofL_size]; simp; omega)
      rw [ofL_append]
      refine ix (hij := hw1) ?_
      refine stx hbx (fun w4 h4 hb4 => ?_)
      have hO4 := hO3.set hbx (v := .string (ofL (p ++ [sget s k]))) hb4
      refine again (ih _ _ _ _ ?_ ⟨rfl, trivial⟩ rfl ⟨k + 1, _, cap, rfl, by omega, lst2 (vsl ?_) (inc hlt), ?_, Below.trans (Bl.trans hB h3.bl) (h4.below hg0)⟩)
      · omega
      · rw [e, onLast_length]
      · rw [e, onLast_length, onLast_set _ _ p hp, List.map_set]
        rw [Nat.zero_add, Nat.mul_one] at hO4; exact hO4
  · refine brF ?_
    obtain rfl : k = s.size := by omega
    have e : s.data.toList.take s.size = s.data.toList := List.take_of_length_le (by rw [ba_len]; omega)
    rw [e] at hO hn ⊢
    rw [ba_len] at hn
    refine rt1 ⟨a, cap, by rw [partsB_length], ?_, hB⟩
    have hO' : Ow w2 w.heap.size 9 1 a (cutDot s.data.toList).length cap ((partsB s).map Value.string) := by unfold partsB; rw [List.map_map]; exact hO
    exact hO'.strs (by rw [partsB_length]) (by rw [partsB_length]; omega) (fun _ _ => trivial)
theorem r_Path (s : ByteArray) (w : World) (hs : s.size ≤ 1048576) : Ret Tryz.prog 17 #[.string s] w fun v w' => v = I (path s) ∧ Bl w w' := by
  refine entr (vs := [.string s]) [0, 2, 3, 4, 7, 12, 16, 24] tabok Tryz.func17 (by kernel_rfl) ?_
  by_cases h38 : 38 < s.size
  · refine brT ?_
    exact rt1 ⟨by rw [path_long h38], Bl.refl _⟩
  refine brF ?_
  refine cl (r_Parts s w hs) ?_
  rintro _ w1 ⟨a, cap, rfl, hS, hB⟩
  by_cases h3 : 3 < (partsB s).length
  · refine brT ?_
    exact rt1 ⟨by rw [path_parts, if_neg (by omega)], hB⟩
  refine brF ?_
  refine lp [4] [(3, .slice a (partsB s).length cap)] (fun m vals w' => ∃ k : Nat, m = (partsB s).length - k ∧ k ≤ (partsB s).length ∧ vals = [I k] ∧ ((partsB s).take k).all simple = true ∧ w' = w1) ⟨rfl, trivial⟩ ⟨0, rfl, Nat.zero_le _, rfl, rfl, rfl⟩ ?_
  rintro m vals _ ⟨k, rfl, hk, rfl, ha, rfl⟩ ih
  by_cases hlt : k < (partsB s).length
  · refine brT ?_
    obtain ⟨p, b2, o2, _, hp, rfl, _, hAt, rfl⟩ := at_some hS hlt
    refine ix ?_
    refine ld (hAt 0 _ rfl) ?_
    have hps : p.size ≤ 1048576 := by have := partsB_mem (List.mem_of_getElem? hp); omega
    refine cl (r_Simple p _ hps) ?_
    rintro _ _ ⟨rfl, rfl⟩
    refine br (fun h => ?_) (fun h => ?_)
    · refine rt1 ⟨?_, hB⟩
      rw [path_parts, if_neg]
      · rfl
      rintro ⟨_, h2⟩
      have := List.all_eq_true.1 h2 p (List.mem_of_getElem? hp)
      rw [this] at h; cases h
    · refine again (ih _ _ _ _ (by omega) ⟨rfl, trivial⟩ rfl ⟨k + 1, rfl, by omega, lst1 (inc hlt), ?_, rfl⟩)
      rw [take_succ_some hp, List.all_append, ha]; simpa using h
  · refine brF ?_
    refine rt1 ⟨?_, hB⟩
    rw [List.take_of_length_le (by omega)] at ha
    rw [path_parts, if_pos ⟨by omega, ha⟩]
end Go.Proofs.YtopjmiklpnejmaaGreatDoor
