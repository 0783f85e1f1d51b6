/- strings.Split at a point is the cutting at points. No program stands here. -/
import Derived.Test.YtopjmiklpnejmaaGreatDoorSpec
import Derived.Lib.SplitLaws
import Derived.Lib.IndexBytes
import Derived.Lib.Split
namespace Go.Proofs.YtopjmiklpnejmaaGreatDoor
open Go
theorem ib_nat (l : List UInt8) (c : UInt8) : Lib.indexByte l c = -1 ∨ ∃ i : Nat, Lib.indexByte l c = i := by
  have := Lib.indexByte_ge l c
  by_cases h : Lib.indexByte l c = -1
  · exact .inl h
  · exact .inr ⟨(Lib.indexByte l c).toNat, by omega⟩
theorem cut_miss : ∀ (l : List UInt8), Lib.indexByte l 46 = -1 → cutDot l = [l] ∧ l.count 46 = 0
  | [], _ => ⟨rfl, rfl⟩
  | b :: l, h => by
    unfold Lib.indexByte at h
    by_cases hb : b = 46
    · subst hb; simp at h
    · have hb' : (b == 46) = false := by simpa using hb
      rw [hb'] at h
      have h2 : Lib.indexByte l 46 = -1 := by
        have := Lib.indexByte_ge l 46
        by_cases h3 : Lib.indexByte l 46 = -1
        · exact h3
        · have : (Lib.indexByte l 46 == -1) = false := by simpa using h3
          rw [this] at h; simp at h; omega
      obtain ⟨e1, e2⟩ := cut_miss l h2
      exact ⟨by simp [cutDot, hb, e1], by rw [List.count_cons_of_ne (by simpa using hb), e2]⟩
theorem cut_hit : ∀ (l : List UInt8) (i : Nat), Lib.indexByte l 46 = i → cutDot l = l.take i :: cutDot (l.drop (i + 1)) ∧ l.count 46 = 1 + (l.drop (i + 1)).count 46
  | [], i, h => by simp [Lib.indexByte] at h
  | b :: l, i, h => by
    unfold Lib.indexByte at h
    by_cases hb : b = 46
    · subst hb
      simp at h
      have : i = 0 := by omega
      subst this
      simp [cutDot]; omega
    · have hb' : (b == 46) = false := by simpa using hb
      rw [hb'] at h
      rcases ib_nat l 46 with h2 | ⟨j, h2⟩
      · rw [h2] at h; simp at h
      · have hne : (Lib.indexByte l 46 == -1) = false := by rw [h2]; simp
        rw [hne] at h
        simp only [Bool.false_eq_true, if_false] at h
        have : i = j + 1 := by omega
        subst this
        obtain ⟨e1, e2⟩ := cut_hit l j h2
        refine ⟨?_, ?_⟩
        · simp only [cutDot, if_neg hb, e1, List.take_succ_cons, List.drop_succ_cons]
        · rw [List.count_cons_of_ne (by simpa using hb), e2, List.drop_succ_cons]
theorem splitK_cut : ∀ (k : Nat) (l : List UInt8), l.count 46 = k → Lib.splitK [46] 0 k l = cutDot l
  | 0, l, h => by
    rcases ib_nat l 46 with h2 | ⟨j, h2⟩
    · rw [(cut_miss l h2).1]; rfl
    · have := (cut_hit l j h2).2; omega
  | k + 1, l, h => by
    unfold Lib.splitK
    rw [Lib.index_one]
    rcases ib_nat l 46 with h2 | ⟨j, h2⟩
    · have := (cut_miss l h2).2; omega
    · obtain ⟨e1, e2⟩ := cut_hit l j h2
      rw [h2, if_neg (by simp), e1, splitK_cut k _ (by simp at e2 ⊢; omega)]
      simp
def dotB : ByteArray := ⟨#[46]⟩
theorem split_parts (s : ByteArray) : Lib.splitB dotB 0 (Lib.countB s dotB) s = partsB s ∧ Lib.countB s dotB + 1 = (partsB s).length := by
  have hc : Lib.countB s dotB = s.data.toList.count 46 := Lib.count_one 46 s.data.toList
  have h := Lib.splitB_data dotB 0 (Lib.countB s dotB) s
  have h2 : Lib.splitK dotB.data.toList 0 (Lib.countB s dotB) s.data.toList = cutDot s.data.toList := splitK_cut _ _ hc.symm
  rw [h2] at h
  have e : Lib.splitB dotB 0 (Lib.countB s dotB) s = partsB s := by
    unfold partsB
    rw [← h, List.map_map]
    have : (ofL ∘ fun x : ByteArray => x.data.toList) = id := funext fun x => ofL_toL x
    rw [this, List.map_id]
  refine ⟨e, ?_⟩
  have : ∀ (k : Nat) (l : List UInt8), l.count 46 = k → (cutDot l).length = k + 1 := by
    intro k
    induction k with
    | zero =>
      intro l hl
      rcases ib_nat l 46 with h2 | ⟨j, h2⟩
      · rw [(cut_miss l h2).1]; rfl
      · have := (cut_hit l j h2).2; omega
    | succ k ih =>
      intro l hl
      rcases ib_nat l 46 with h2 | ⟨j, h2⟩
      · have := (cut_miss l h2).2; omega
      · obtain ⟨e1, e2⟩ := cut_hit l j h2
        rw [e1, List.length_cons, ih _ (by omega)]
  rw [partsB_length, this _ _ rfl, hc]
end Go.Proofs.YtopjmiklpnejmaaGreatDoor
