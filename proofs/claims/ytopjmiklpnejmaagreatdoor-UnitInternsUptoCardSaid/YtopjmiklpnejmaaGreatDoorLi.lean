/- The law UnitInterns: what is taken in is there, and stays when it is taken in again. -/
import Derived.Test.YtopjmiklpnejmaaGreatDoorLc
import Derived.Test.YtopjmiklpnejmaaGreatDoorIn
namespace Go.Proofs.YtopjmiklpnejmaaGreatDoor
open Eng Go.RowKit
theorem dup_snoc (s : ByteArray) : ∀ l : List ByteArray, dup (l ++ [s]) = (dup l || hasB l s)
  | [] => by simp [dup, hasB]
  | x :: l => by
    have ih := dup_snoc s l
    have e : hasB (l ++ [s]) x = (hasB l x || decide (s = x)) := by simp [hasB]
    have e2 : hasB (x :: l) s = (decide (x = s) || hasB l s) := by simp [hasB]
    rw [List.cons_append, dup, dup, ih, e, e2]
    by_cases h : s = x
    · subst h; cases hasB l s <;> cases dup l <;> simp
    · have h' : ¬ x = s := fun h2 => h h2.symm
      cases hasB l s <;> cases dup l <;> cases hasB l x <;> simp [h, h']
theorem inE_zero {l : List ByteArray} {s : ByteArray} (h : inE l s = 0) : (noP s || l.any noP) = false ∧ dup l = false ∧ ¬ (60 < l.length ∨ (Lib.idxOfS l s < 0 ∧ l.length = 60)) := by
  unfold inE at h
  split at h
  · cases h
  rename_i h1
  split at h
  · cases h
  rename_i h2
  split at h
  · cases h
  rename_i h3
  exact ⟨by simpa using h1, by simpa using h2, h3⟩
theorem inE_of {l : List ByteArray} {s : ByteArray} (h1 : (noP s || l.any noP) = false) (h2 : dup l = false) (h3 : ¬ (60 < l.length ∨ (Lib.idxOfS l s < 0 ∧ l.length = 60))) : inE l s = 0 := by
  unfold inE
  rw [h1, h2, if_neg (by decide), if_neg (by decide), if_neg h3]
/-- once more -/
theorem in_again {l : List ByteArray} {s : ByteArray} (h : inE l s = 0) : inE (inL l s) s = 0 ∧ inL (inL l s) s = inL l s ∧ inA (inL l s) s = inA l s ∧ 0 ≤ inA l s ∧ (inL l s)[(inA l s).toNat]? = some s ∧ (inL l s).length ≤ 60 := by
  obtain ⟨h1, h2, h3⟩ := inE_zero h
  by_cases hi : Lib.idxOfS l s < 0
  · have hm : s ∉ l := fun q => by have := (Lib.idxOfS_nonneg_iff l s).2 q; omega
    have eL : inL l s = l ++ [s] := by unfold inL; rw [if_pos h, if_pos hi]
    have eA : inA l s = l.length := by unfold inA; rw [if_pos h, if_pos hi]
    have hd : dup (l ++ [s]) = false := by
      rw [dup_snoc, h2, Bool.false_or, ← Bool.not_eq_true, hasB_iff]; exact hm
    have hat : (l ++ [s])[l.length]? = some s := by rw [List.getElem?_append_right (Nat.le_refl _), Nat.sub_self]; rfl
    have hx : ((l.length : Nat) : Int) = Lib.idxOfS (l ++ [s]) s := last_idx hd (fun _ => ⟨by omega, by rw [Int.toNat_natCast]; exact hat⟩) (fun q => absurd (List.mem_append_right l (List.mem_singleton.2 rfl)) q)
    have hn : (noP s || (l ++ [s]).any noP) = false := by
      rw [Bool.or_eq_false_iff] at h1
      rw [List.any_append, h1.1, h1.2]; simp [h1.1]
    have hE : inE (l ++ [s]) s = 0 := inE_of hn hd (by rw [← hx, List.length_append]; simp only [List.length_cons, List.length_nil]; omega)
    rw [eL, eA]
    refine ⟨hE, ?_, ?_, by omega, by rw [Int.toNat_natCast]; exact hat, by rw [List.length_append]; simp only [List.length_cons, List.length_nil]; omega⟩
    · unfold inL; rw [if_pos hE, if_neg (by omega)]
    · unfold inA; rw [if_pos hE, if_neg (by omega), ← hx]
  · have hm : s ∈ l := (Lib.idxOfS_nonneg_iff l s).1 (by omega)
    have eL : inL l s = l := by unfold inL; rw [if_pos h, if_neg hi]
    have eA : inA l s = Lib.idxOfS l s := by unfold inA; rw [if_pos h, if_neg hi]
    obtain ⟨k, hk⟩ := List.mem_iff_getElem?.1 hm
    have hx : ((k : Nat) : Int) = Lib.idxOfS l s := last_idx h2 (fun _ => ⟨by omega, by rw [Int.toNat_natCast]; exact hk⟩) (fun q => absurd hm q)
    rw [eL]
    refine ⟨h, eL, rfl, by rw [eA]; omega, by rw [eA, ← hx, Int.toNat_natCast]; exact hk, by omega⟩
theorem in_sizes {l : List ByteArray} {s : ByteArray} (hl : ∀ x ∈ l, x.size ≤ 1048576) (hs : s.size ≤ 1048576) : ∀ x ∈ inL l s, x.size ≤ 1048576 := fun x hx => by
  unfold inL at hx
  split at hx
  · split at hx
    · rcases List.mem_append.1 hx with h | h
      · exact hl x h
      · rw [List.mem_singleton.1 h]; exact hs
    · exact hl x hx
  · cases hx
theorem made0 {w w' : World} {b e esz cap : Nat} {cs : List Value} (h : New w b e cs w') (hl : cs.length = cap * esz) (hn : cap ≤ 8388608) : Ow w' b e esz (some ⟨b, 0, none⟩) 0 cap [] :=
  ⟨⟨by simp, .inr ⟨b, cap, cs.toArray, rfl, Nat.le_refl _, h.box, Nat.zero_le _, by unfold maxLen; omega, by simp [hl], by simp⟩⟩⟩
theorem l_Interns (l : List ByteArray) (a : Option Addr) (cap : Nat) (s : ByteArray) (w : World) (hS : Sl eStr T w a l) (hl : ∀ x ∈ l, x.size ≤ 1048576) (hs : s.size ≤ 1048576) (hG : Gl w) :
    Ret Tryz.prog 5 #[.slice a l.length cap, .string s] w fun v w' => v = .bool true ∧ Bl w w' := by
  have hbig := hS.big
  refine entr (vs := [.slice a l.length cap, .string s]) [0, 1, 4, 5, 6, 7, 8, 9, 10, 11, 12, 13, 14, 17, 58, 60, 88] tabok Tryz.func5 (by kernel_rfl) ?_
  refine br (fun _ => ?_) (fun hn => ?_)
  · refine cl (l_sane w hG) ?_
    rintro _ w1 ⟨rfl, h1⟩
    exact rt1 ⟨rfl, h1⟩
  have hn := of_decide_eq_false hn
  refine mk (m := 0) (n := l.length + 3) ?_ (hy := by exact congrArg some (vi (by rw [wrap_fit (by omega) (by omega)]; rfl)))
  intro b1 w1 h1
  obtain rfl := h1.blk
  have hO1 : OwP 1 encStr w1 w.heap.size 9 (some ⟨w.heap.size, 0, none⟩) (l.length + 3) [] := made0 h1 (by rw [rep_length]; rfl) (by omega)
  refine apl (enc := encStr) (l0 := []) (l1 := l) hO1 (src_of (hS.bl h1.bl)) (by have := h1.size; omega) (fun a2 cap2 w2 hO2 hA2 hf2 => ?_)
  have B02 : Bl w w2 := Eng.Ow.below hO1 hA2 h1.bl (by have := h1.size; omega)
  have hS2 : Sl eStr T w2 a2 l := owp_sl hO2 hbig fun _ _ => trivial
  refine cl (u_Intern l a2 cap2 s w2 hS2 hl hs (hG.bl B02)) ?_
  rintro _ w3 ⟨a3, cap3, rfl, hS3, h3⟩
  have B03 := B02.trans h3
  refine cl (r_Intern l a cap s w3 (hS.bl B03) hl hs) ?_
  rintro _ w4 ⟨a4, cap4, rfl, hS4, h4⟩
  have B04 := B03.trans h4
  refine spt (.bool true) ?_
  refine cl (r_SameStrings (inL l s) (inL l s) a3 a4 cap3 cap4 w4 (hS3.bl h4) hS4) ?_
  rintro _ w5 ⟨rfl, h5⟩
  rw [decide_eq_true (rfl : inL l s = inL l s)]
  refine spt (.bool true) ?_
  refine cl (r_SameStrings l l a2 a cap2 cap w5 (hS2.bl ((h3.trans h4).trans h5)) (hS.bl (B04.trans h5))) ?_
  rintro _ w6 ⟨rfl, h6⟩
  rw [decide_eq_true (rfl : l = l)]
  have B06 := (B04.trans h5).trans h6
  have h36 := (h4.trans h5).trans h6
  refine brf ?_
  refine br (fun hE => ?_) (fun _ => ?_)
  rotate_left
  · refine cl (l_sane w6 (hG.bl B06)) ?_
    rintro _ w7 ⟨rfl, h7⟩
    exact rt1 ⟨rfl, B06.trans h7⟩
  have hE := of_decide_eq_true hE
  obtain ⟨e1, e2, e3, e4, e5, e6⟩ := in_again hE
  refine cl (u_Intern (inL l s) a3 cap3 s w6 (hS3.bl h36) (in_sizes hl hs) hs (hG.bl B06)) ?_
  rintro _ w7 ⟨a7, cap7, rfl, hS7, h7⟩
  rw [e2] at hS7 ⊢
  rw [e1, e3]
  refine spt (.bool true) ?_
  refine cl (r_SameStrings (inL l s) (inL l s) a7 a3 cap7 cap3 w7 hS7 (hS3.bl (h36.trans h7))) ?_
  rintro _ w8 ⟨rfl, h8⟩
  rw [decide_eq_true (rfl : inL l s = inL l s)]
  have hlt := (List.getElem?_eq_some_iff.1 e5).1
  obtain ⟨x, b, o, cs, hx, rfl, _, hAt, rfl⟩ := at_some (hS3.bl ((h36.trans h7).trans h8)) hlt
  obtain rfl : s = x := by rw [e5] at hx; exact Option.some.inj hx
  refine spt (.pointer none) ?_
  refine ix (j := (inA l s).toNat) ?_ (hij := by exact (Int.toNat_of_nonneg e4).symm)
  refine spt (.string s) ?_
  refine ld (hAt 0 _ rfl) ?_
  refine brf ?_
  have B08 := (B06.trans h7).trans h8
  refine cl (l_sane w8 (hG.bl B08)) ?_
  rintro _ w9 ⟨rfl, h9⟩
  exact rt1 ⟨rfl, B08.trans h9⟩
end Go.Proofs.YtopjmiklpnejmaaGreatDoor
