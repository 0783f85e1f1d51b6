/- Walks: names out of the pool; names that are there twice. -/
import Derived.Test.YtopjmiklpnejmaaGreatDoorTw
import Derived.Test.YtopjmiklpnejmaaGreatDoorKe
import Derived.Test.YtopjmiklpnejmaaGreatDoorCh
namespace Go.Proofs.YtopjmiklpnejmaaGreatDoor
open Eng Go.RowKit
def joinB (xs : List ByteArray) : ByteArray := ⟨(Lib.join (xs.map toL) [46]).toArray⟩
def picked (u : Unt) (l : List Int) : List ByteArray := (l.filter fun i => decide (0 ≤ i)).map (nm u)
theorem joinB_one (x : ByteArray) : joinB [x] = x := by cases x; simp [joinB, Lib.join]
theorem joinB_two (x y : ByteArray) : joinB [x, y] = dots x y := by
  apply ba_ext
  simp [joinB, Lib.join, dots]
theorem join_len : ∀ xs : List ByteArray, (∀ x ∈ xs, x.size ≤ 1048576) → (Lib.join (xs.map toL) [46]).length ≤ xs.length * 1048577
  | [], _ => by simp [Lib.join]
  | [x], h => by
    have := h x (by simp)
    show (Lib.join [toL x] [46]).length ≤ _
    rw [Lib.join_one, ba_len]; simp; omega
  | x :: y :: r, h => by
    have := join_len (y :: r) fun z hz => h z (List.mem_cons_of_mem _ hz)
    have h1 := h x (by simp)
    have e : Lib.join ((x :: y :: r).map toL) [46] = toL x ++ ([46] ++ Lib.join ((y :: r).map toL) [46]) := by simp [Lib.join, List.intercalate]
    rw [e, List.length_append, List.length_append, ba_len]
    simp only [List.length_cons, List.length_nil] at this ⊢
    omega
theorem u_named (u : Unt) (a : UA) (b0 : Nat) (l : List Int) (aL : Option Addr) (cL : Nat) (S : Nat → Prop) (w : World) (hU : UnR S w u a) (hx : At w b0 0 (ucells u a)) (hl : Sl eInt T w aL l) (hn : l.length ≤ 16) (hin : ∀ i ∈ l, 0 ≤ i → inP u i) :
    Ret Tryz.prog 82 #[.pointer (some ⟨b0, 0, none⟩), .slice aL l.length cL] w fun v w' => v = .string (joinB (picked u l)) ∧ Bl w w' := by
  refine entr (vs := [.pointer (some ⟨b0, 0, none⟩), .slice aL l.length cL]) [0, 1, 4, 5, 7, 8, 9, 10, 11, 15] tabok Tryz.func82 (by kernel_rfl) ?_
  refine lpk l.length 10 [5] [(0, .pointer (some ⟨b0, 0, none⟩)), (8, .slice aL l.length cL), (9, I l.length)] (fun k vals w' => ∃ a5 c5, vals = [.slice a5 (picked u (l.take k)).length c5] ∧ OwP 1 encStr w' w.heap.size 9 a5 c5 (picked u (l.take k)) ∧ Bl w w') ⟨none, 0, rfl, Ow.nil _ _ _ _, Bl.refl _⟩ ?_
  rintro k vals w1 hk ⟨a5, c5, rfl, hO, hB⟩ ih
  have hpl : (picked u (l.take k)).length ≤ 16 := by
    unfold picked
    rw [List.length_map]
    exact Nat.le_trans (List.length_filter_le _ _) (Nat.le_trans (List.length_take_le' _ _) hn)
  by_cases hlt : k < l.length
  · refine brT ?_
    obtain ⟨i, bi, oi, cs, hi, rfl, _, hAt, rfl⟩ := at_some (hl.bl hB) hlt
    refine ix ?_
    refine ld (hAt 0 _ rfl) ?_
    refine br (fun h => ?_) (fun h => ?_)
    · have h0 : 0 ≤ i := of_decide_eq_true h
      have hP := hin i (List.mem_of_getElem? hi) h0
      have e1 : picked u (l.take (k + 1)) = picked u (l.take k) ++ [nm u i] := by unfold picked; rw [take_succ_some hi, List.filter_append, List.map_append]; simp [h0]
      refine ld ((hx.bl hB) 1 _ rfl) ?_
      obtain ⟨b9, o9, e9, _, hc9, hz9, hi9, hp9⟩ := pool_at (hU.bl hB) hP
      rw [e9]
      refine ix (hij := hi9) ?_
      refine ld hc9 ?_
      refine bs fun b2 w2 h2 => ?_
      refine apl (l1 := [nm u i]) (hO.bl h2.bl) (.inr ⟨b2, 0, rfl, h2.box.at⟩) (hB.trans h2.bl).size (fun a' cap' w3 hO3 hA _ => ?_)
      refine ih hlt ⟨a', cap', ?_, ?_, Eng.Ow.below (hO.bl h2.bl) hA (hB.trans h2.bl) (hB.trans h2.bl).size⟩
      · rw [e1]
      · rw [e1]; exact hO3
    · have h0 : ¬ 0 ≤ i := of_decide_eq_false h
      have e1 : picked u (l.take (k + 1)) = picked u (l.take k) := by unfold picked; rw [take_succ_some hi, List.filter_append, List.map_append]; simp [h0]
      exact ih hlt ⟨a5, c5, by rw [e1], by rw [e1]; exact hO, hB⟩
  refine brF ?_
  obtain rfl : k = l.length := by omega
  rw [List.take_length] at hO hpl ⊢
  have hsz : ∀ x ∈ picked u l, x.size ≤ 1048576 := fun x hx => by
    unfold picked at hx
    obtain ⟨i, hi, rfl⟩ := List.mem_map.1 hx
    rw [List.mem_filter] at hi
    obtain ⟨b9, o9, e9, _, hc9, hz9, hi9, hp9⟩ := pool_at hU (hin i hi.1 (of_decide_eq_true hi.2))
    exact hz9
  refine cl (R := fun v w' => v = .string (joinB (picked u l)) ∧ Bl w1 w') ?_ ?_
  · refine ⟨by kernel_rfl, ?_⟩
    rcases hO.shape with ⟨rfl, h0, rfl, _⟩ | ⟨g, cur, rfl, hg, hgb, hn2, hcs, htk⟩
    · have : picked u l = [] := List.eq_nil_of_length_eq_zero h0
      rw [this]
      refine (Tryz.strings_Join_none none 0 ⟨#[46]⟩ w1).mono ?_
      rintro e w3 ⟨rfl, rfl⟩
      exact ⟨rfl, Bl.refl _⟩
    · have hjl := join_len (picked u l) hsz
      refine (Tryz.strings_Join g 0 c5 (picked u l) ⟨#[46]⟩ w1 (fun j x hx => ?_) (Array.getElem?_eq_some_iff.1 hgb).1 (by omega) hn2 ?_).mono ?_
      · have h2 := hO.at rfl (j * 1 + 0) (.string x) (by rw [flat_get (sz := 1) (enc := encStr) (fun _ => rfl) hx 0 (by decide)]; rfl)
        simpa using h2
      · exact Nat.le_trans hjl (by omega)
      rintro e w3 ⟨rfl, hb⟩
      exact ⟨rfl, hb⟩
  rintro _ w2 ⟨rfl, hB2⟩
  exact rt1 ⟨rfl, hB.trans hB2⟩
end Go.Proofs.YtopjmiklpnejmaaGreatDoor
