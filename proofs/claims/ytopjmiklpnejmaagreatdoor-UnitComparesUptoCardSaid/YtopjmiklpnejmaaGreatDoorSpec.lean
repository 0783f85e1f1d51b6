/- Paths as functions on lists of bytes. No program stands here. -/
import Derived.Test.YtopjmiklpnejmaaGreatDoorNm
import Derived.Test.YtopjmiklpnejmaaGreatDoorOwn
namespace Go.Proofs.YtopjmiklpnejmaaGreatDoor
open Eng Go.RowKit
theorem ba_nil {t : ByteArray} : t = ⟨#[]⟩ ↔ t.size = 0 :=
  ⟨fun e => by rw [e]; rfl, fun e => ba_ext (by
    have h : t.data.toList = [] := List.eq_nil_of_length_eq_zero (by rw [ba_len, e])
    rw [h])⟩
/-- a text cut at its points -/
def cutDot : List UInt8 → List (List UInt8)
  | [] => [[]]
  | c :: r => if c = 46 then [] :: cutDot r else match cutDot r with
    | p :: ps => (c :: p) :: ps
    | [] => [[c]]
theorem cutDot_ne (l : List UInt8) : cutDot l ≠ [] := by
  cases l with
  | nil => simp [cutDot]
  | cons c r =>
    simp only [cutDot]
    split
    · simp
    · split <;> simp
theorem cutDot_dot (l : List UInt8) : cutDot (l ++ [46]) = cutDot l ++ [[]] := by
  induction l with
  | nil => simp [cutDot]
  | cons c r ih =>
    simp only [List.cons_append, cutDot]
    by_cases h : c = 46
    · simp [h, ih]
    · simp only [if_neg h, ih]
      cases hr : cutDot r with
      | nil => exact absurd hr (cutDot_ne r)
      | cons p ps => simp
/-- the last element turned -/
def onLast (f : List UInt8 → List UInt8) : List (List UInt8) → List (List UInt8)
  | [] => []
  | [p] => [f p]
  | p :: q :: ps => p :: onLast f (q :: ps)
theorem cutDot_other (l : List UInt8) (c : UInt8) (hc : c ≠ 46) : cutDot (l ++ [c]) = onLast (· ++ [c]) (cutDot l) := by
  induction l with
  | nil => simp [cutDot, hc, onLast]
  | cons d r ih =>
    simp only [List.cons_append, cutDot]
    by_cases h : d = 46
    · rw [if_pos h, if_pos h, ih]
      cases hr : cutDot r with
      | nil => exact absurd hr (cutDot_ne r)
      | cons p ps => rfl
    · rw [if_neg h, if_neg h, ih]
      cases hr : cutDot r with
      | nil => exact absurd hr (cutDot_ne r)
      | cons p ps =>
        cases ps with
        | nil => simp [onLast]
        | cons q ps => simp [onLast]
theorem onLast_length (f : List UInt8 → List UInt8) : ∀ l, (onLast f l).length = l.length
  | [] => rfl
  | [_] => rfl
  | p :: q :: ps => by simp [onLast, onLast_length f (q :: ps)]
theorem onLast_set (f : List UInt8 → List UInt8) : ∀ (l : List (List UInt8)) (p : List UInt8), l[l.length - 1]? = some p → onLast f l = l.set (l.length - 1) (f p)
  | [], _, h => by simp at h
  | [q], p, h => by simp at h; subst h; simp [onLast]
  | p :: q :: ps, r, h => by
    have h' : (q :: ps)[(q :: ps).length - 1]? = some r := by simpa using h
    simp only [onLast, onLast_set f (q :: ps) r h']
    simp
theorem cutDot_length (l : List UInt8) : (cutDot l).length ≤ l.length + 1 := by
  induction l with
  | nil => simp [cutDot]
  | cons c r ih =>
    simp only [cutDot]
    split
    · simp; omega
    · cases hr : cutDot r with
      | nil => simp
      | cons p ps => simp [hr] at ih ⊢; omega
/-- the sum of the parts' lengths, with the points -/
theorem cutDot_sum (l : List UInt8) : ((cutDot l).map (·.length + 1)).sum = l.length + 1 := by
  induction l with
  | nil => simp [cutDot]
  | cons c r ih =>
    simp only [cutDot]
    split
    · simp [ih]; omega
    · cases hr : cutDot r with
      | nil => exact absurd hr (cutDot_ne r)
      | cons p ps => simp [hr] at ih ⊢; omega
theorem cutDot_mem {l p : List UInt8} (h : p ∈ cutDot l) : p.length ≤ l.length := by
  have hs := cutDot_sum l
  have : ∀ (L : List (List UInt8)), p ∈ L → p.length + 1 ≤ (L.map (·.length + 1)).sum := by
    intro L hL
    induction L with
    | nil => cases hL
    | cons q L ih =>
      simp only [List.map_cons, List.sum_cons]
      cases hL with
      | head => omega
      | tail _ hL => have := ih hL; omega
  have := this _ h
  omega
theorem extract_one {s : ByteArray} {k : Nat} (h : k < s.size) : s.extract k (k + 1) = ofL [sget s k] := by
  apply ba_ext
  rw [Lib.extract_data, toL_ofL]
  have := sget_at h
  obtain ⟨hlt, e⟩ := List.getElem?_eq_some_iff.1 this
  rw [Nat.add_sub_cancel_left, List.drop_eq_getElem_cons hlt, e]; simp
def pathL (l : List UInt8) : Nat := if (cutDot l).length ≤ 3 ∧ (cutDot l).all simpleL then (cutDot l).length else 0
def path (s : ByteArray) : Nat := pathL s.data.toList
theorem simpleL_len {l : List UInt8} (h : simpleL l = true) : 1 ≤ l.length ∧ l.length ≤ 12 := by
  unfold simpleL at h
  cases l with
  | nil => simp at h
  | cons c l => simp only [Bool.and_eq_true, decide_eq_true_eq] at h; exact ⟨by simp, h.1.1⟩
theorem path_long {s : ByteArray} (h : 38 < s.size) : path s = 0 := by
  unfold path pathL
  rw [if_neg]
  rintro ⟨h1, h2⟩
  have hs := cutDot_sum s.data.toList
  rw [ba_len] at hs
  have hb : ∀ (L : List (List UInt8)), L.all simpleL = true → (L.map (·.length + 1)).sum ≤ 13 * L.length := by
    intro L hL
    induction L with
    | nil => simp
    | cons p ps ih =>
      simp only [List.all_cons, Bool.and_eq_true] at hL
      have := simpleL_len hL.1
      have := ih hL.2
      simp; omega
  have := hb _ h2
  omega
def partsB (s : ByteArray) : List ByteArray := (cutDot s.data.toList).map ofL
theorem partsB_length (s : ByteArray) : (partsB s).length = (cutDot s.data.toList).length := by simp [partsB]
theorem partsB_mem {s p : ByteArray} (h : p ∈ partsB s) : p.size ≤ s.size := by
  unfold partsB at h
  obtain ⟨q, hq, rfl⟩ := List.mem_map.1 h
  rw [ofL_size, ← ba_len]; exact cutDot_mem hq
theorem simple_ofL (l : List UInt8) : simple (ofL l) = simpleL l := by unfold simple; rw [toL_ofL]
theorem path_parts (s : ByteArray) : path s = if (partsB s).length ≤ 3 ∧ (partsB s).all simple then (partsB s).length else 0 := by
  unfold path pathL
  rw [partsB_length]
  have : (partsB s).all simple = (cutDot s.data.toList).all simpleL := by
    unfold partsB
    rw [List.all_map]
    exact congrArg (fun f => List.all _ f) (funext fun l => simple_ofL l)
  rw [this]
end Go.Proofs.YtopjmiklpnejmaaGreatDoor
