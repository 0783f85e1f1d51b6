/- Walks: a list of texts that has one twice, by sorting. -/
import Derived.Test.YtopjmiklpnejmaaGreatDoorSeq
import Derived.Test.YtopjmiklpnejmaaGreatDoorSh
import Derived.Test.YtopjmiklpnejmaaGreatDoorWb
namespace Go.Proofs.YtopjmiklpnejmaaGreatDoor
open Eng Go.RowKit Go.Sort
abbrev toL (s : ByteArray) : List UInt8 := s.data.toList
abbrev sEnc : List UInt8 → Value := Go.Proofs.encStr
theorem sEnc_toL (s : ByteArray) : sEnc (toL s) = .string s := by cases s; simp [sEnc, Go.Proofs.encStr]
theorem consec_nodup : ∀ {l : List (List UInt8)}, l.Pairwise (· ≤ ·) → ((∀ (j : Nat) x y, l[j]? = some x → l[j + 1]? = some y → x ≠ y) ↔ l.Nodup)
  | [], _ => by simp
  | [x], _ => by simp
  | x :: y :: r, h => by
    rw [List.pairwise_cons] at h
    have ih := consec_nodup h.2
    constructor
    · intro hc
      have hxy : x ≠ y := hc 0 x y rfl rfl
      have hn := ih.1 fun j a b h1 h2 => hc (j + 1) a b (by simpa using h1) (by simpa using h2)
      rw [List.nodup_cons]
      refine ⟨fun hm => ?_, hn⟩
      have h2 := List.pairwise_cons.1 h.2
      have hxley := h.1 y (List.mem_cons_self ..)
      cases hm with
      | head => exact hxy rfl
      | tail _ hm => exact hxy (List.le_antisymm hxley (h2.1 x hm))
    · intro hn j a b h1 h2 e
      subst e
      have hp := List.pairwise_iff_getElem.1 hn
      obtain ⟨l1, e1⟩ := List.getElem?_eq_some_iff.1 h1
      obtain ⟨l2, e2⟩ := List.getElem?_eq_some_iff.1 h2
      exact hp j (j + 1) l1 l2 (by omega) (e1.trans e2.symm)
theorem compact_len {zs : List (List UInt8)} (hs : zs.Pairwise (· ≤ ·)) : ((Lib.compact zs).length < zs.length ↔ ¬ zs.Nodup) ∧ (Lib.compact zs).length ≤ zs.length := by
  have hlen : (Lib.compact zs).length = ((List.range zs.length).filter (Lib.keeps zs.toArray)).length := by unfold Lib.compact Lib.compactUpTo; rw [List.length_map]
  have hle : (Lib.compact zs).length ≤ zs.length := by rw [hlen]; exact Nat.le_trans (List.length_filter_le _ _) (by simp)
  refine ⟨?_, hle⟩
  have hall : (Lib.compact zs).length = zs.length ↔ ∀ j, j < zs.length → Lib.keeps zs.toArray j = true := by
    rw [hlen]
    constructor
    · intro h j hj
      have h2 : ((List.range zs.length).filter (Lib.keeps zs.toArray)).length = (List.range zs.length).length := by rw [h, List.length_range]
      exact (List.length_filter_eq_length_iff.1 h2) j (List.mem_range.2 hj)
    · intro h
      rw [List.filter_eq_self.2 fun j hj => h j (List.mem_range.1 hj), List.length_range]
  have hk : (∀ j, j < zs.length → Lib.keeps zs.toArray j = true) ↔ zs.Nodup := by
    rw [← consec_nodup hs]
    constructor
    · intro h j x y hx hy e
      obtain ⟨l2, e2⟩ := List.getElem?_eq_some_iff.1 hy
      obtain ⟨l1, e1⟩ := List.getElem?_eq_some_iff.1 hx
      have := h (j + 1) l2
      unfold Lib.keeps at this
      simp [l1, l2, e1, e2, e] at this
    · intro h j hj
      unfold Lib.keeps
      rw [decide_eq_true_eq]
      by_cases h0 : j = 0
      · exact .inl h0
      · right
        have hx := List.getElem?_eq_getElem (l := zs) (i := j - 1) (by omega)
        have hy := List.getElem?_eq_getElem (l := zs) (i := j) hj
        have := h (j - 1) _ _ hx (by rw [show j - 1 + 1 = j by omega]; exact hy)
        simp [hj, show j - 1 < zs.length by omega]
        exact fun e => this e.symm
  rw [← hk, ← hall]; omega
theorem dup_nodup (l : List ByteArray) : dup l = true ↔ ¬ (l.map toL).Nodup := by
  have : l.Nodup ↔ (l.map toL).Nodup := by
    rw [List.nodup_iff_pairwise_ne, List.nodup_iff_pairwise_ne, List.pairwise_map]
    exact ⟨fun h => h.imp fun hne e => hne (ba_ext e), fun h => h.imp fun hne e => hne (by rw [e])⟩
  rw [← this]
  induction l with
  | nil => simp [dup]
  | cons x r ih =>
    simp only [dup, Bool.or_eq_true, hasB_iff, List.nodup_cons]
    have ih' : dup r = true ↔ ¬ r.Nodup := by
      apply ih
      rw [List.nodup_iff_pairwise_ne, List.nodup_iff_pairwise_ne, List.pairwise_map]
      exact ⟨fun h => h.imp fun hne e => hne (ba_ext e), fun h => h.imp fun hne e => hne (by rw [e])⟩
    rw [ih']
    by_cases h1 : x ∈ r <;> simp [h1]
theorem sorted_le (l : List (List UInt8)) : (l.mergeSort fun x y => decide (x ≤ y)).Pairwise (· ≤ ·) := by
  have := List.pairwise_mergeSort (le := fun x y : List UInt8 => decide (x ≤ y)) (fun a b c h1 h2 => by simp only [decide_eq_true_eq] at *; exact List.le_trans h1 h2) (fun a b => by simp only [Bool.or_eq_true, decide_eq_true_eq]; exact List.le_total a b) l
  exact this.imp fun h => of_decide_eq_true h
theorem grown_bl {w w' : World} {g : Nat} (h : w.grownBy w' (some g)) {B : Nat} (hB : B ≤ g) (hw : B ≤ w.heap.size) {w0 : World} (h0 : Below B w0 w) : Below B w0 w' :=
  h0.grown h hw (fun k e => by cases e; exact hB)
theorem u_twice (l : List ByteArray) (a : Option Addr) (cap : Nat) (S : Nat → Prop) (w : World) (hS : Sl eStr S w a l) : Ret Tryz.prog 69 #[.slice a l.length cap] w fun v w' => v = .bool (dup l) ∧ Bl w w' := by
  have hbig := hS.big
  refine entr (vs := [.slice a l.length cap]) [0, 2] tabok Tryz.func69 (by kernel_rfl) ?_
  refine cl (R := fun v w' => ∃ b, v = .func (.func 185) #[] #[.pointer (some ⟨b, 0, none⟩)] ∧ New w b 25 [.slice a l.length cap] w') ?_ ?_
  · refine entr (vs := [.slice a l.length cap]) [0, 1, 2] tabok Tryz.func137 (by kernel_rfl) ?_
    refine bx (cs := [.slice a l.length cap]) fun b w1 h1 => ?_
    exact rt1 ⟨b, rfl, h1⟩
  rintro _ w1 ⟨b, rfl, h1⟩
  have hS1 := hS.bl h1.bl
  have hlt1 : ∀ (j : Nat) x, (l.map toL)[j]? = some x → ∃ b off, a = some ⟨b, off, none⟩ ∧ b < w1.heap.size ∧ w1.cell? ⟨b, off + j, none⟩ = some (sEnc x) := fun j x hx => by
    rw [List.getElem?_map] at hx
    cases hl : l[j]? with
    | none => rw [hl] at hx; cases hx
    | some s =>
      rw [hl] at hx
      obtain rfl := Option.some.inj hx
      obtain ⟨b', o', cs, e, _, hAt, rfl⟩ := hS1.el j s hl
      have hc := hAt 0 _ rfl
      have hc' : w1.cell? ⟨b', o' + j, none⟩ = some (.string s) := by simpa [eStr, plainEl] using hc
      exact ⟨b', o', e, cell_lt hc', by rw [hc', sEnc_toL]⟩
  have hlen : (l.map toL).length = l.length := List.length_map ..
  refine cl (R := fun v w' => ∃ a' cap', v = .slice a' l.length cap' ∧ Ow w' w1.heap.size 9 1 a' l.length cap' (((l.map toL).mergeSort fun x y => decide (x ≤ y)).map sEnc) ∧ Bl w1 w') ⟨by kernel_rfl, (c_sorted (l.map toL) a cap b w1 (by rw [hlen]; exact hbig) (by rw [hlen]; exact h1.box.cell rfl) h1.box.lt hlt1).mono ?_⟩ ?_
  · rintro e w2 ⟨v, rfl, hrow, hb⟩
    rw [hlen] at hrow
    have hr := hrow
    rcases hrow.2 with ⟨rfl, h0⟩ | ⟨g, cap', cur, rfl, _⟩
    · exact ⟨none, 0, by rw [h0], ⟨by rw [h0] at hr ⊢; exact hr⟩, hb⟩
    · exact ⟨_, cap', rfl, ⟨hr⟩, hb⟩
  rintro _ w2 ⟨a', cap', rfl, hO, hB2⟩
  have hsl : ((l.map toL).mergeSort fun x y => decide (x ≤ y)).length = l.length := by rw [List.length_mergeSort, hlen]
  have hres : dup l = decide ((Lib.compact ((l.map toL).mergeSort fun x y => decide (x ≤ y))).length < l.length) := by
    rw [Bool.eq_iff_iff, dup_nodup, decide_eq_true_eq, ← hsl, (compact_len (sorted_le _)).1, List.Perm.nodup_iff (List.mergeSort_perm _ _)]
  refine cl (R := fun v w' => ∃ cap2, v = .slice a' (Lib.compact ((l.map toL).mergeSort fun x y => decide (x ≤ y))).length cap2 ∧ Bl w w') ?_ ?_
  · rcases hO.shape with ⟨rfl, h0, rfl, _⟩ | ⟨g, cur, rfl, hg, hgb, hn, hcs, htk⟩
    · refine ⟨by kernel_rfl, ?_⟩
      have he : ((l.map toL).mergeSort fun x y => decide (x ≤ y)) = [] := List.eq_nil_of_length_eq_zero (by rw [hsl, h0])
      rw [h0, he]
      refine (Tryz.slices_Compact_string_empty none 0 w2).mono ?_
      rintro e w3 ⟨rfl, rfl⟩
      exact ⟨0, rfl, h1.bl.trans hB2⟩
    · refine ⟨by kernel_rfl, ?_⟩
      have hH : Holds sEnc w2 g 0 ((l.map toL).mergeSort fun x y => decide (x ≤ y)).toArray := holds_of_block hgb (by rw [hsl]; simpa using htk)
      have := Tryz.slices_Compact_string g 0 cap' ((l.map toL).mergeSort fun x y => decide (x ≤ y)) w2 hH (by rw [hsl]; omega) (by rw [hsl]; exact hn)
      rw [hsl] at this
      refine this.mono ?_
      rintro e w3 ⟨rfl, q, hw3⟩
      refine ⟨cap', rfl, h1.bl.trans ?_⟩
      rw [← Go.Sort.grow_empty (putRow _ _ _ _ _)] at hw3
      rw [hw3]
      exact grown_bl (grownBy_sorted _) hg hB2.size hB2
  rintro _ w3 ⟨cap2, rfl, hB3⟩
  refine rt1 ⟨vb ?_, hB3⟩
  rw [hres, Bool.eq_iff_iff, decide_eq_true_eq, decide_eq_true_eq]; omega
end Go.Proofs.YtopjmiklpnejmaaGreatDoor
