/- Walks: valid instructions, in the program. -/
import Derived.Test.YtopjmiklpnejmaaGreatDoorEng8
import Derived.Test.YtopjmiklpnejmaaGreatDoorMd
import Derived.Test.YtopjmiklpnejmaaGreatDoorTab
import Derived.Test.YtopjmiklpnejmaaGreatDoorBr
import Derived.Test.YtopjmiklpnejmaaGreatDoorSpec
namespace Go.Proofs.YtopjmiklpnejmaaGreatDoor
open Eng Go.RowKit
def mosts : List Int := [0, 0, 9, 4, 9, 48, 6, 9, 15, 15, 3, 9, 50, 5, 24]
def isPool (r : Nat) : Bool := decide ((r : Int) = 4) || decide ((r : Int) = 6) || decide ((r : Int) = 7) || decide ((r : Int) = 8) || decide ((r : Int) = 9)
def inR (n : Int) (r : Nat) (pooled : Bool) : Bool :=
  if r = 1 then decide (-2147483648 ≤ n) && decide (n ≤ 2147483647) else if r = 3 then decide (2 ≤ n) && decide (n ≤ 4) else if r = 14 then decide (1 ≤ n) && decide (n ≤ 24)
  else if (pooled && isPool r) = true then decide (0 ≤ n) && decide (n < 60) else decide (0 ≤ n) && decide (n ≤ mosts.getD r 0)
/-- the ranges of an operation's operands -/
def rngs : List (Nat × Nat) := [(0, 0), (1, 0), (2, 0), (2, 0), (0, 0), (0, 0), (0, 0), (0, 0), (0, 0), (0, 0), (0, 0), (0, 0), (3, 4), (0, 0), (4, 0), (5, 0), (5, 4), (6, 0), (6, 0), (0, 0), (0, 0), (0, 0), (7, 0), (7, 0), (4, 0), (8, 0), (9, 0), (10, 0), (11, 0), (0, 0), (12, 2), (13, 0), (14, 0), (0, 0), (0, 0), (0, 0)]
def validI (i : Ins) (pooled : Bool) : Bool := decide (0 ≤ i.op) && decide (i.op < 36) && inR i.a (rngs.getD i.op.toNat (0, 0)).1 pooled && inR i.b (rngs.getD i.op.toNat (0, 0)).2 pooled && (decide (¬ i.op = 12) || decide (¬ i.a = 3) || decide (i.b = 0))
theorem w_most (r : Nat) (hr : r < 15) (w : World) : Ret Tryz.prog 216 #[I r] w fun v w' => v = I (mosts.getD r 0) ∧ w' = w := by
  refine entr (vs := [I r]) [0, 2] tabok Tryz.func216 (by kernel_rfl) ?_
  refine bda ?_
  refine ixv (j := r) (v := I (mosts.getD r 0)) ?_ ?_
  rotate_left
  · exact rt1 ⟨rfl, rfl⟩
  · show (mosts.map I)[r * 1]? = _
    rw [Nat.mul_one, List.getElem?_map, List.getD_eq_getElem?_getD]
    obtain ⟨x, hx⟩ := some_of_lt (l := mosts) (k := r) hr
    rw [hx]; rfl
theorem w_pools (r : Nat) (w : World) : Ret Tryz.prog 217 #[I r] w fun v w' => v = .bool (isPool r) ∧ w' = w := by
  refine entr (vs := [I r]) [0, 2] tabok Tryz.func217 (by kernel_rfl) ?_
  exact rt1 ⟨rfl, rfl⟩
theorem w_in (n : Int) (r : Nat) (p : Bool) (hr : r < 15) (w : World) : Ret Tryz.prog 176 #[I n, I r, .bool p] w fun v w' => v = .bool (inR n r p) ∧ w' = w := by
  refine entr (vs := [I n, I r, .bool p]) [0, 1, 2, 6, 7, 16, 25, 35] tabok Tryz.func176 (by kernel_rfl) ?_
  refine br (t := decide ((r : Int) = 1)) (fun h => ?_) (fun h => ?_)
  · have h1 : r = 1 := by have := of_decide_eq_true h; omega
    exact rt1 ⟨vb (by unfold inR; rw [if_pos h1]), rfl⟩
  have n1 : ¬ r = 1 := by have := of_decide_eq_false h; omega
  refine br (t := decide ((r : Int) = 3)) (fun h => ?_) (fun h => ?_)
  · have h1 : r = 3 := by have := of_decide_eq_true h; omega
    exact rt1 ⟨vb (by unfold inR; rw [if_neg n1, if_pos h1]), rfl⟩
  have n3 : ¬ r = 3 := by have := of_decide_eq_false h; omega
  refine br (t := decide ((r : Int) = 14)) (fun h => ?_) (fun h => ?_)
  · have h1 : r = 14 := by have := of_decide_eq_true h; omega
    refine sp (I 0) (fun p1 => ?_) (fun p1 => ?_)
    · refine cl (w_most 14 (by omega) _) ?_
      rintro _ _ ⟨rfl, rfl⟩
      refine rt1 ⟨vb ?_, rfl⟩
      unfold inR; rw [if_neg n1, if_neg n3, if_pos h1]
      rw [show decide (1 ≤ n) = true from p1]; rfl
    · refine rt1 ⟨vb ?_, rfl⟩
      unfold inR; rw [if_neg n1, if_neg n3, if_pos h1]
      rw [show decide (1 ≤ n) = false from p1]; rfl
  have n14 : ¬ r = 14 := by have := of_decide_eq_false h; omega
  refine sp (.bool false) (fun p1 => ?_) (fun p1 => ?_)
  · refine cl (w_pools r _) ?_
    rintro _ _ ⟨rfl, rfl⟩
    refine br (t := isPool r) (fun h => ?_) (fun h => ?_)
    · refine rt1 ⟨vb ?_, rfl⟩
      unfold inR; rw [if_neg n1, if_neg n3, if_neg n14, p1, h, if_pos (by rfl)]
    · refine sp (I 0) (fun p2 => ?_) (fun p2 => ?_)
      · refine cl (w_most r hr _) ?_
        rintro _ _ ⟨rfl, rfl⟩
        refine rt1 ⟨vb ?_, rfl⟩
        unfold inR; rw [if_neg n1, if_neg n3, if_neg n14, p1, h, if_neg (by simp), show decide (0 ≤ n) = true from p2]
      · refine rt1 ⟨vb ?_, rfl⟩
        unfold inR; rw [if_neg n1, if_neg n3, if_neg n14, p1, h, if_neg (by simp), show decide (0 ≤ n) = false from p2]; rfl
  · refine br (fun h => ?_) (fun h => ?_)
    · rw [p1] at h; cases h
    · refine sp (I 0) (fun p2 => ?_) (fun p2 => ?_)
      · refine cl (w_most r hr _) ?_
        rintro _ _ ⟨rfl, rfl⟩
        refine rt1 ⟨vb ?_, rfl⟩
        unfold inR; rw [if_neg n1, if_neg n3, if_neg n14, p1, if_neg (by simp), show decide (0 ≤ n) = true from p2]
      · refine rt1 ⟨vb ?_, rfl⟩
        unfold inR; rw [if_neg n1, if_neg n3, if_neg n14, p1, if_neg (by simp), show decide (0 ≤ n) = false from p2]; rfl
set_option maxRecDepth 200000 in
theorem w_table (w : World) : Ret Tryz.prog 215 #[] w fun v w' => (∃ cs : List Value, v = .agg cs.toArray ∧ cs.length = 144 ∧ cs.all Value.oneCell' = true ∧ ((List.range 36).map fun k => (cs[k * 4 + 1]?, cs[k * 4 + 2]?)) = rngs.map fun r => (some (I r.1), some (I r.2))) ∧ Bl w w' := by
  refine entr (vs := []) [0] tabok Tryz.func215 (by kernel_rfl) ?_
  refine al fun b w1 hn => ?_
  iterate 36 refine bd ?_
  refine bda ?_
  refine stw hn.box ?_ rfl ?_ fun w2 h2 hb2 => ?_
  · rfl
  · rfl
  exact rtc hb2.at ⟨⟨_, rfl, rfl, rfl, rfl⟩, hn.wr h2⟩
theorem w_known (op : Int) (w : World) : Ret Tryz.prog 175 #[I op] w fun v w' => (if 0 ≤ op ∧ op < 36 then ∃ x y, x.oneCell' = true ∧ y.oneCell' = true ∧ v = .tuple #[.agg #[x, I (rngs.getD op.toNat (0, 0)).1, I (rngs.getD op.toNat (0, 0)).2, y], .bool true]
    else v = .tuple #[.agg #[.string ⟨#[]⟩, I 0, I 0, I 0], .bool false]) ∧ Bl w w' := by
  refine entr (vs := [I op]) [0, 2, 3, 4, 11] tabok Tryz.func175 (by kernel_rfl) ?_
  refine al fun b0 w1 h1 => ?_
  refine cl (w_table _) ?_
  rintro _ w2 ⟨⟨cs, rfl, hl, ha, ht⟩, hB2⟩
  refine al fun b3 w3 h3 => ?_
  refine stw h3.box hl rfl ha fun w4 h4 hb4 => ?_
  have hB14 := hB2.trans (h3.wr h4)
  have hb0 := Bl.box hB14 h1.box
  refine br (t := decide (op < 0) || decide (op ≥ 36)) (fun h => ?_) (fun h => ?_)
  · simp only [Bool.or_eq_true, decide_eq_true_eq] at h
    refine bd ?_
    refine sta hb0 fun w5 h5 hb5 => ?_
    refine rtc2 hb5.at ⟨?_, ?_⟩
    · rw [if_neg (by omega)]
    · exact Below.trans (Bl.trans h1.bl hB14) (h5.below (by have := h1.blk; omega))
  · simp only [Bool.or_eq_false_iff, decide_eq_false_iff_not] at h
    obtain ⟨j, rfl⟩ : ∃ j : Nat, op = j := ⟨op.toNat, by omega⟩
    have hj : j < 36 := by omega
    have key : (cs[j * 4 + 1]?, cs[j * 4 + 2]?) = (some (I (rngs.getD j (0, 0)).1), some (I (rngs.getD j (0, 0)).2)) := by
      have := congrArg (fun l => l[j]?) ht
      simp only [List.getElem?_map] at this
      rw [List.getElem?_range hj] at this
      obtain ⟨r, hr⟩ := some_of_lt (l := rngs) (k := j) hj
      rw [hr] at this
      rw [List.getD_eq_getElem?_getD, hr]
      exact Option.some.inj this
    obtain ⟨x, hx⟩ := some_of_lt (l := cs) (k := j * 4) (by omega)
    obtain ⟨y, hy⟩ := some_of_lt (l := cs) (k := j * 4 + 3) (by omega)
    simp only [Prod.mk.injEq] at key
    have hAt : At w4 b3 (0 + j * 4) [x, I (rngs.getD j (0, 0)).1, I (rngs.getD j (0, 0)).2, y] := fun i v hv => by
      rw [Nat.zero_add]
      match i, hv with
      | 0, hv => simp at hv; subst hv; exact hb4.cell hx
      | 1, hv => simp at hv; subst hv; exact hb4.cell key.1
      | 2, hv => simp at hv; subst hv; exact hb4.cell key.2
      | 3, hv => simp at hv; subst hv; exact hb4.cell hy
      | i + 4, hv => simp at hv
    have hx1 : x.oneCell' = true := List.all_eq_true.1 ha x (List.mem_of_getElem? hx)
    have hy1 : y.oneCell' = true := List.all_eq_true.1 ha y (List.mem_of_getElem? hy)
    refine ixa ?_
    refine lda hAt ?_
    refine stw (vs := [x, I (rngs.getD j (0, 0)).1, I (rngs.getD j (0, 0)).2, y]) hb0 rfl rfl (by simp only [List.all_cons, hx1, hy1]; rfl) fun w5 h5 hb5 => ?_
    refine rtc2 hb5.at ⟨?_, ?_⟩
    · rw [if_pos (by omega)]
      exact ⟨x, y, hx1, hy1, rfl⟩
    · exact Below.trans (Bl.trans h1.bl hB14) (h5.below (by have := h1.blk; omega))
end Go.Proofs.YtopjmiklpnejmaaGreatDoor
/- Walks: code.Valid. -/
namespace Go.Proofs.YtopjmiklpnejmaaGreatDoor
open Eng Go.RowKit
theorem rng_lt (j : Nat) : (rngs.getD j (0, 0)).1 < 15 ∧ (rngs.getD j (0, 0)).2 < 15 := by
  by_cases hj : j < 36
  · obtain ⟨r, hr⟩ := some_of_lt (l := rngs) (k := j) hj
    rw [List.getD_eq_getElem?_getD, hr]
    have : rngs.all (fun r => decide (r.1 < 15) && decide (r.2 < 15)) = true := by decide
    have := List.all_eq_true.1 this r (List.mem_of_getElem? hr)
    simpa using this
  · rw [List.getD_eq_getElem?_getD, List.getElem?_eq_none (by show 36 ≤ j; omega)]; simp
theorem w_Valid (i : Ins) (p : Bool) (w : World) : Ret Tryz.prog 129 #[.agg #[I i.op, I i.a, I i.b], .bool p] w fun v w' => v = .bool (validI i p) ∧ Bl w w' := by
  refine entr (vs := [.agg #[I i.op, I i.a, I i.b], .bool p]) [0, 1, 2, 4, 5, 6, 32] tabok Tryz.func129 (by kernel_rfl) ?_
  refine bx (cs := [I i.op, I i.a, I i.b]) fun b w1 hn => ?_
  refine ld (hn.box.cell rfl) ?_
  refine cl (w_known i.op _) ?_
  rintro v w2 ⟨hv, hB⟩
  by_cases hk : 0 ≤ i.op ∧ i.op < 36
  · rw [if_pos hk] at hv
    obtain ⟨x, y, hx1, hy1, rfl⟩ := hv
    have hval : validI i p = (inR i.a (rngs.getD i.op.toNat (0, 0)).1 p && inR i.b (rngs.getD i.op.toNat (0, 0)).2 p && (decide (¬ i.op = 12) || decide (¬ i.a = 3) || decide (i.b = 0))) := by
      unfold validI; rw [decide_eq_true hk.1, decide_eq_true hk.2]; rfl
    obtain ⟨hr1, hr2⟩ := rng_lt i.op.toNat
    generalize (rngs.getD i.op.toNat (0, 0)).1 = ra at *
    generalize (rngs.getD i.op.toNat (0, 0)).2 = rb at *
    refine al fun b5 w3 h5 => ?_
    refine stw (vs := [x, I ra, I rb, y]) h5.box rfl rfl (by simp only [List.all_cons, hx1, hy1]; rfl) fun w4 h6 hb5 => ?_
    have hB4 := hB.trans (h5.wr h6)
    have hb := Bl.box hB4 hn.box
    refine ldg (fun _ => hb.cell rfl) ?_
    refine ldg (fun _ => hb5.cell rfl) ?_
    refine sp (.bool false) (fun _ => ?_) (fun q => ?_)
    rotate_left
    · exact absurd q (by decide)
    refine cl (w_in i.a ra p hr1 _) ?_
    rintro _ _ ⟨rfl, rfl⟩
    refine ldg (fun _ => hb.cell rfl) ?_
    refine ldg (fun _ => hb5.cell rfl) ?_
    refine sp (.bool false) (fun q => ?_) (fun q => ?_)
    · refine cl (w_in i.b rb p hr2 _) ?_
      rintro _ _ ⟨rfl, rfl⟩
      refine br (fun h => ?_) (fun h => ?_)
      · refine rt1 ⟨vb ?_, hn.bl.trans hB4⟩
        rw [hval]; revert q h; cases inR i.a ra p <;> cases inR i.b rb p <;> simp
      · refine ld (hb.cell rfl) ?_
        refine ldg (fun _ => hb.cell rfl) ?_
        refine ldg (fun _ => hb.cell rfl) ?_
        refine rt1 ⟨vb ?_, hn.bl.trans hB4⟩
        rw [hval]; revert q h; cases inR i.a ra p <;> cases inR i.b rb p <;> simp
    · refine br (fun h => ?_) (fun h => ?_)
      · refine rt1 ⟨vb ?_, hn.bl.trans hB4⟩
        rw [hval]; revert q; cases inR i.a ra p <;> simp
      · simp at h
  · rw [if_neg hk] at hv
    subst hv
    refine al fun b5 w3 h5 => ?_
    refine sta h5.box fun w4 h6 hb5 => ?_
    have hB4 := hB.trans (h5.wr h6)
    have hb := Bl.box hB4 hn.box
    refine ldg (fun _ => hb.cell rfl) ?_
    refine ldg (fun _ => hb5.cell rfl) ?_
    refine sp (.bool false) (fun q => ?_) (fun q => ?_)
    · exact absurd q (by decide)
    refine ldg (fun _ => hb.cell rfl) ?_
    refine ldg (fun _ => hb5.cell rfl) ?_
    refine sp (.bool false) (fun q2 => ?_) (fun q2 => ?_)
    · exact absurd q2 (by decide)
    refine br (fun h => ?_) (fun h => ?_)
    · refine rt1 ⟨vb ?_, hn.bl.trans hB4⟩
      unfold validI
      by_cases h1 : 0 ≤ i.op
      · rw [decide_eq_false (p := i.op < 36) (by omega)]; simp
      · rw [decide_eq_false h1]; simp
    · simp at h
end Go.Proofs.YtopjmiklpnejmaaGreatDoor
/- Walks: valid instructions, in the document. Printed by wip/tools/mkval.py. -/
namespace Go.Proofs.YtopjmiklpnejmaaGreatDoor
open Eng Go.RowKit
def opN (op : Int) : Int := if op = 12 ∨ op = 16 ∨ op = 30 then 2 else if op = 1 ∨ op = 2 ∨ op = 3 ∨ op = 14 ∨ op = 15 ∨ op = 17 ∨ op = 18 ∨ op = 22 ∨ op = 23 ∨ op = 24 ∨ op = 25 ∨ op = 26 ∨ op = 27 ∨ op = 28 ∨ op = 31 ∨ op = 32 then 1 else 0
def opE (op : Int) : Int := if op < 0 ∨ 35 < op then 3 else 0
theorem r3_Operands (op : Int) (w : World) : Ret Tryz.prog 179 #[I op] w fun v w' => v = .tuple #[I (opN op), I (opE op)] ∧ w' = w := by
  refine entr (vs := [I op]) [0, 2, 3, 4, 5, 9, 31] tabok Tryz.func179 (by kernel_rfl) ?_
  have fin : ∀ {a b : Int}, opN op = a → opE op = b → Value.tuple #[I a, I b] = .tuple #[I (opN op), I (opE op)] := fun e f => by rw [e, f]
  refine br (t := decide (op = 12)) (fun h => ?_) (fun h => ?_)
  · have e := of_decide_eq_true h
    refine brt ?_ (hp := h)
    subst e
    exact rt2 ⟨fin (a := 2) (b := 0) (by decide) (by decide), rfl⟩
  have n12 := of_decide_eq_false h
  refine br (t := decide (op = 16)) (fun h => ?_) (fun h => ?_)
  · have e := of_decide_eq_true h
    refine brt ?_ (hp := h)
    subst e
    exact rt2 ⟨fin (a := 2) (b := 0) (by decide) (by decide), rfl⟩
  have n16 := of_decide_eq_false h
  refine br (t := decide (op = 30)) (fun h => ?_) (fun h => ?_)
  · have e := of_decide_eq_true h
    subst e
    exact rt2 ⟨fin (a := 2) (b := 0) (by decide) (by decide), rfl⟩
  have n30 := of_decide_eq_false h
  refine br (t := decide (op = 1)) (fun h => ?_) (fun h => ?_)
  · have e := of_decide_eq_true h
    refine brt ?_ (hp := h)
    subst e
    exact rt2 ⟨fin (a := 1) (b := 0) (by decide) (by decide), rfl⟩
  have n1 := of_decide_eq_false h
  refine br (t := decide (op = 2)) (fun h => ?_) (fun h => ?_)
  · have e := of_decide_eq_true h
    refine brt ?_ (hp := h)
    subst e
    exact rt2 ⟨fin (a := 1) (b := 0) (by decide) (by decide), rfl⟩
  have n2 := of_decide_eq_false h
  refine br (t := decide (op = 3)) (fun h => ?_) (fun h => ?_)
  · have e := of_decide_eq_true h
    refine brt ?_ (hp := h)
    subst e
    exact rt2 ⟨fin (a := 1) (b := 0) (by decide) (by decide), rfl⟩
  have n3 := of_decide_eq_false h
  refine br (t := decide (op = 14)) (fun h => ?_) (fun h => ?_)
  · have e := of_decide_eq_true h
    refine brt ?_ (hp := h)
    subst e
    exact rt2 ⟨fin (a := 1) (b := 0) (by decide) (by decide), rfl⟩
  have n14 := of_decide_eq_false h
  refine br (t := decide (op = 15)) (fun h => ?_) (fun h => ?_)
  · have e := of_decide_eq_true h
    refine brt ?_ (hp := h)
    subst e
    exact rt2 ⟨fin (a := 1) (b := 0) (by decide) (by decide), rfl⟩
  have n15 := of_decide_eq_false h
  refine br (t := decide (op = 17)) (fun h => ?_) (fun h => ?_)
  · have e := of_decide_eq_true h
    refine brt ?_ (hp := h)
    subst e
    exact rt2 ⟨fin (a := 1) (b := 0) (by decide) (by decide), rfl⟩
  have n17 := of_decide_eq_false h
  refine br (t := decide (op = 18)) (fun h => ?_) (fun h => ?_)
  · have e := of_decide_eq_true h
    refine brt ?_ (hp := h)
    subst e
    exact rt2 ⟨fin (a := 1) (b := 0) (by decide) (by decide), rfl⟩
  have n18 := of_decide_eq_false h
  refine br (t := decide (op = 22)) (fun h => ?_) (fun h => ?_)
  · have e := of_decide_eq_true h
    refine brt ?_ (hp := h)
    subst e
    exact rt2 ⟨fin (a := 1) (b := 0) (by decide) (by decide), rfl⟩
  have n22 := of_decide_eq_false h
  refine br (t := decide (op = 23)) (fun h => ?_) (fun h => ?_)
  · have e := of_decide_eq_true h
    refine brt ?_ (hp := h)
    subst e
    exact rt2 ⟨fin (a := 1) (b := 0) (by decide) (by decide), rfl⟩
  have n23 := of_decide_eq_false h
  refine br (t := decide (op = 24)) (fun h => ?_) (fun h => ?_)
  · have e := of_decide_eq_true h
    refine brt ?_ (hp := h)
    subst e
    exact rt2 ⟨fin (a := 1) (b := 0) (by decide) (by decide), rfl⟩
  have n24 := of_decide_eq_false h
  refine br (t := decide (op = 25)) (fun h => ?_) (fun h => ?_)
  · have e := of_decide_eq_true h
    refine brt ?_ (hp := h)
    subst e
    exact rt2 ⟨fin (a := 1) (b := 0) (by decide) (by decide), rfl⟩
  have n25 := of_decide_eq_false h
  refine br (t := decide (op = 26)) (fun h => ?_) (fun h => ?_)
  · have e := of_decide_eq_true h
    refine brt ?_ (hp := h)
    subst e
    exact rt2 ⟨fin (a := 1) (b := 0) (by decide) (by decide), rfl⟩
  have n26 := of_decide_eq_false h
  refine br (t := decide (op = 27)) (fun h => ?_) (fun h => ?_)
  · have e := of_decide_eq_true h
    refine brt ?_ (hp := h)
    subst e
    exact rt2 ⟨fin (a := 1) (b := 0) (by decide) (by decide), rfl⟩
  have n27 := of_decide_eq_false h
  refine br (t := decide (op = 28)) (fun h => ?_) (fun h => ?_)
  · have e := of_decide_eq_true h
    refine brt ?_ (hp := h)
    subst e
    exact rt2 ⟨fin (a := 1) (b := 0) (by decide) (by decide), rfl⟩
  have n28 := of_decide_eq_false h
  refine br (t := decide (op = 31)) (fun h => ?_) (fun h => ?_)
  · have e := of_decide_eq_true h
    refine brt ?_ (hp := h)
    subst e
    exact rt2 ⟨fin (a := 1) (b := 0) (by decide) (by decide), rfl⟩
  have n31 := of_decide_eq_false h
  refine br (t := decide (op = 32)) (fun h => ?_) (fun h => ?_)
  · have e := of_decide_eq_true h
    subst e
    exact rt2 ⟨fin (a := 1) (b := 0) (by decide) (by decide), rfl⟩
  have n32 := of_decide_eq_false h
  have e0 : opN op = 0 := by simp [opN, n12, n16, n30, n1, n2, n3, n14, n15, n17, n18, n22, n23, n24, n25, n26, n27, n28, n31, n32]
  refine br (t := decide (op < 0) || decide (op > 35)) (fun h => ?_) (fun h => ?_)
  · simp only [Bool.or_eq_true, decide_eq_true_eq] at h
    exact rt2 ⟨fin (a := 0) (b := 3) e0 (by unfold opE; rw [if_pos (by omega)]), rfl⟩
  · simp only [Bool.or_eq_false_iff, decide_eq_false_iff_not] at h
    exact rt2 ⟨fin (a := 0) (b := 0) e0 (by unfold opE; rw [if_neg (by omega)]), rfl⟩
theorem r3_in (n lo hi : Int) (w : World) : Ret Tryz.prog 180 #[I n, I lo, I hi] w fun v w' => v = .bool (decide (lo ≤ n) && decide (n ≤ hi)) ∧ w' = w := by
  refine entr (vs := [I n, I lo, I hi]) [0, 1, 2, 6] tabok Tryz.func180 (by kernel_rfl) ?_
  exact rt1 ⟨rfl, rfl⟩
theorem r3_most (n : Int) (p : Bool) (w : World) (h0 : 0 ≤ n) (h1 : n ≤ 1000) : Ret Tryz.prog 181 #[I n, .bool p] w fun v w' => v = I (if p = true then 59 else n - 1) ∧ w' = w := by
  refine entr (vs := [I n, .bool p]) [0, 1, 4, 5] tabok Tryz.func181 (by kernel_rfl) ?_
  refine br (fun h => ?_) (fun h => ?_)
  · subst h; exact rt1 ⟨rfl, rfl⟩
  · subst h
    refine rt1 ⟨?_, rfl⟩
    rw [wrap_fit (by omega) (by omega)]; rfl
end Go.Proofs.YtopjmiklpnejmaaGreatDoor
/- Walks: the document's Valid. Printed by wip/tools/mkval2.py. -/
namespace Go.Proofs.YtopjmiklpnejmaaGreatDoor
open Eng Go.RowKit
def vbad (op a b : Int) : Bool := (decide (¬ opE op = 0) || (decide (opN op < 2) && decide (¬ b = 0))) || (decide (opN op < 1) && decide (¬ a = 0))
theorem vgood {op a b : Int} (h : vbad op a b = false) : opE op = 0 ∧ (opN op < 2 → b = 0) ∧ (opN op < 1 → a = 0) := by
  unfold vbad at h
  simp only [Bool.or_eq_false_iff, Bool.and_eq_false_iff, decide_eq_false_iff_not] at h
  omega
theorem valid_bad (op a b : Int) (p : Bool) (h : vbad op a b = true) : validI ⟨op, a, b⟩ p = false := by
  by_cases hr : 0 ≤ op ∧ op ≤ 35
  · have hc : op = 0 ∨ op = 1 ∨ op = 2 ∨ op = 3 ∨ op = 4 ∨ op = 5 ∨ op = 6 ∨ op = 7 ∨ op = 8 ∨ op = 9 ∨ op = 10 ∨ op = 11 ∨ op = 12 ∨ op = 13 ∨ op = 14 ∨ op = 15 ∨ op = 16 ∨ op = 17 ∨ op = 18 ∨ op = 19 ∨ op = 20 ∨ op = 21 ∨ op = 22 ∨ op = 23 ∨ op = 24 ∨ op = 25 ∨ op = 26 ∨ op = 27 ∨ op = 28 ∨ op = 29 ∨ op = 30 ∨ op = 31 ∨ op = 32 ∨ op = 33 ∨ op = 34 ∨ op = 35 := by omega
    rcases hc with rfl | rfl | rfl | rfl | rfl | rfl | rfl | rfl | rfl | rfl | rfl | rfl | rfl | rfl | rfl | rfl | rfl | rfl | rfl | rfl | rfl | rfl | rfl | rfl | rfl | rfl | rfl | rfl | rfl | rfl | rfl | rfl | rfl | rfl | rfl | rfl <;>
      (simp [vbad, opE, opN] at h) <;> (try (cases p <;> (rw [← Bool.not_eq_true]; simp [validI, inR, rngs, isPool, mosts]) <;> omega))
  · unfold validI
    by_cases h1 : 0 ≤ op
    · rw [decide_eq_false (p := op < 36) (by omega)]; simp
    · rw [decide_eq_false h1]; simp
theorem r3_Valid (i : Ins) (p : Bool) (w : World) : Ret Tryz.prog 133 #[.agg #[I i.op, I i.a, I i.b], .bool p] w fun v w' => v = .bool (validI i p) ∧ Bl w w' := by
  obtain ⟨op, a, b⟩ := i
  refine entr (vs := [.agg #[I op, I a, I b], .bool p]) [0, 1, 2, 4, 5, 6, 32, 34, 35, 40, 46, 50, 64, 72, 77, 89, 97, 105, 113, 118, 123, 133, 138] tabok Tryz.func133 (by kernel_rfl) ?_
  refine bx (cs := [I op, I a, I b]) fun bb w1 hn => ?_
  have hx := hn.box
  have hn2 := hn.bl
  refine ld (hx.cell rfl) ?_
  refine cl (r3_Operands op _) ?_
  rintro _ _ ⟨rfl, rfl⟩
  refine ldg2 (fun _ _ => hx.cell rfl) ?_
  refine ldg2 (fun _ _ => hx.cell rfl) ?_
  refine br (t := vbad op a b) (fun h => ?_) (fun hg => ?_)
  · exact rt1 ⟨vb (valid_bad op a b p h).symm, hn.bl⟩
  refine ld (hx.cell rfl) ?_
  refine br (t := decide (op = 1)) (fun h => ?_) (fun h => ?_)
  · have e := of_decide_eq_true h
    subst e
    refine ld (hx.cell rfl) ?_
    refine cl (r3_in _ _ _ _) ?_
    rintro _ _ ⟨rfl, rfl⟩
    refine rt1 ⟨vb ?_, hn2⟩
    obtain ⟨-, g1, g2⟩ := vgood hg
    try (have hb := g1 (by decide); subst hb)
    cases p <;> (rw [Bool.eq_iff_iff]; simp [validI, inR, rngs, isPool, mosts]) <;> omega
  have n1 := of_decide_eq_false h
  refine br (t := decide (op = 2)) (fun h => ?_) (fun h => ?_)
  · have e := of_decide_eq_true h
    refine brt ?_ (hp := h)
    subst e
    refine ld (hx.cell rfl) ?_
    refine cl (r3_in _ _ _ _) ?_
    rintro _ _ ⟨rfl, rfl⟩
    refine rt1 ⟨vb ?_, hn2⟩
    obtain ⟨-, g1, g2⟩ := vgood hg
    try (have hb := g1 (by decide); subst hb)
    cases p <;> (rw [Bool.eq_iff_iff]; simp [validI, inR, rngs, isPool, mosts]) <;> omega
  have n2 := of_decide_eq_false h
  refine br (t := decide (op = 3)) (fun h => ?_) (fun h => ?_)
  · have e := of_decide_eq_true h
    subst e
    refine ld (hx.cell rfl) ?_
    refine cl (r3_in _ _ _ _) ?_
    rintro _ _ ⟨rfl, rfl⟩
    refine rt1 ⟨vb ?_, hn2⟩
    obtain ⟨-, g1, g2⟩ := vgood hg
    try (have hb := g1 (by decide); subst hb)
    cases p <;> (rw [Bool.eq_iff_iff]; simp [validI, inR, rngs, isPool, mosts]) <;> omega
  have n3 := of_decide_eq_false h
  refine br (t := decide (op = 12)) (fun h => ?_) (fun h => ?_)
  · have e := of_decide_eq_true h
    subst e
    refine ld (hx.cell rfl) ?_
    refine br (t := decide (a = 3)) (fun h3 => ?_) (fun h3 => ?_)
    · have e3 := of_decide_eq_true h3
      subst e3
      refine ld (hx.cell rfl) ?_
      refine rt1 ⟨vb ?_, hn2⟩
      cases p <;> (rw [Bool.eq_iff_iff]; simp [validI, inR, rngs, isPool, mosts]) <;> omega
    · refine ds fun w2 h2 => ?_
      have hx := h2.box hx
      have hn2 := hn.bl.trans h2.bl
      refine ld (hx.cell rfl) ?_
      refine clq (r3_in _ _ _ _) ?_
      refine ldg (fun _ => hx.cell rfl) ?_
      refine sp (I 0) (fun q => ?_) (fun q => ?_)
      · refine clq (r3_most 10 p _ (by omega) (by omega)) ?_
        refine sp (.bool false) (fun q2 => ?_) (fun q2 => ?_)
        · refine clq (r3_in _ _ _ _) ?_
          refine rt1 ⟨vb ?_, hn2⟩
          simp only [Bool.and_eq_true, decide_eq_true_eq] at q
          try have h3' := of_decide_eq_false h3
          cases p <;> (rw [Bool.eq_iff_iff]; simp [validI, inR, rngs, isPool, mosts]) <;> omega
        · exact absurd q2 (by decide)
      · refine sp (.bool false) (fun q2 => ?_) (fun q2 => ?_)
        · rw [q] at q2; cases q2
        · refine rt1 ⟨vb ?_, hn2⟩
          rw [q]
          simp only [Bool.not_true, Bool.and_eq_false_iff, decide_eq_false_iff_not] at q
          try have h3' := of_decide_eq_false h3
          cases p <;> (rw [Bool.eq_iff_iff]; simp [validI, inR, rngs, isPool, mosts]) <;> omega
  have n12 := of_decide_eq_false h
  refine br (t := decide (op = 14)) (fun h => ?_) (fun h => ?_)
  · have e := of_decide_eq_true h
    refine brt ?_ (hp := h)
    subst e
    refine ds fun w2 h2 => ?_
    have hx := h2.box hx
    have hn2 := hn.bl.trans h2.bl
    refine ld (hx.cell rfl) ?_
    refine clq (r3_most 10 p _ (by omega) (by omega)) ?_
    refine clq (r3_in _ _ _ _) ?_
    refine rt1 ⟨vb ?_, hn2⟩
    obtain ⟨-, g1, g2⟩ := vgood hg
    try (have hb := g1 (by decide); subst hb)
    cases p <;> (rw [Bool.eq_iff_iff]; simp [validI, inR, rngs, isPool, mosts]) <;> omega
  have n14 := of_decide_eq_false h
  refine br (t := decide (op = 24)) (fun h => ?_) (fun h => ?_)
  · have e := of_decide_eq_true h
    subst e
    refine ds fun w2 h2 => ?_
    have hx := h2.box hx
    have hn2 := hn.bl.trans h2.bl
    refine ld (hx.cell rfl) ?_
    refine clq (r3_most 10 p _ (by omega) (by omega)) ?_
    refine clq (r3_in _ _ _ _) ?_
    refine rt1 ⟨vb ?_, hn2⟩
    obtain ⟨-, g1, g2⟩ := vgood hg
    try (have hb := g1 (by decide); subst hb)
    cases p <;> (rw [Bool.eq_iff_iff]; simp [validI, inR, rngs, isPool, mosts]) <;> omega
  have n24 := of_decide_eq_false h
  refine br (t := decide (op = 15)) (fun h => ?_) (fun h => ?_)
  · have e := of_decide_eq_true h
    subst e
    refine ld (hx.cell rfl) ?_
    refine cl (r3_in _ _ _ _) ?_
    rintro _ _ ⟨rfl, rfl⟩
    refine rt1 ⟨vb ?_, hn2⟩
    obtain ⟨-, g1, g2⟩ := vgood hg
    try (have hb := g1 (by decide); subst hb)
    cases p <;> (rw [Bool.eq_iff_iff]; simp [validI, inR, rngs, isPool, mosts]) <;> omega
  have n15 := of_decide_eq_false h
  refine br (t := decide (op = 16)) (fun h => ?_) (fun h => ?_)
  · have e := of_decide_eq_true h
    subst e
    refine ds fun w2 h2 => ?_
    have hx := h2.box hx
    have hn2 := hn.bl.trans h2.bl
    refine ld (hx.cell rfl) ?_
    refine clq (r3_in _ _ _ _) ?_
    refine ldg (fun _ => hx.cell rfl) ?_
    refine sp (I 0) (fun q => ?_) (fun q => ?_)
    · refine clq (r3_most 10 p _ (by omega) (by omega)) ?_
      refine sp (.bool false) (fun q2 => ?_) (fun q2 => ?_)
      · refine clq (r3_in _ _ _ _) ?_
        refine rt1 ⟨vb ?_, hn2⟩
        simp only [Bool.and_eq_true, decide_eq_true_eq] at q
        try have h3' := of_decide_eq_false h3
        cases p <;> (rw [Bool.eq_iff_iff]; simp [validI, inR, rngs, isPool, mosts]) <;> omega
      · exact absurd q2 (by decide)
    · refine sp (.bool false) (fun q2 => ?_) (fun q2 => ?_)
      · rw [q] at q2; cases q2
      · refine rt1 ⟨vb ?_, hn2⟩
        rw [q]
        simp only [Bool.not_true, Bool.and_eq_false_iff, decide_eq_false_iff_not] at q
        try have h3' := of_decide_eq_false h3
        cases p <;> (rw [Bool.eq_iff_iff]; simp [validI, inR, rngs, isPool, mosts]) <;> omega
  have n16 := of_decide_eq_false h
  refine br (t := decide (op = 17)) (fun h => ?_) (fun h => ?_)
  · have e := of_decide_eq_true h
    refine brt ?_ (hp := h)
    subst e
    refine ds fun w2 h2 => ?_
    have hx := h2.box hx
    have hn2 := hn.bl.trans h2.bl
    refine ld (hx.cell rfl) ?_
    refine clq (r3_most 7 p _ (by omega) (by omega)) ?_
    refine clq (r3_in _ _ _ _) ?_
    refine rt1 ⟨vb ?_, hn2⟩
    obtain ⟨-, g1, g2⟩ := vgood hg
    try (have hb := g1 (by decide); subst hb)
    cases p <;> (rw [Bool.eq_iff_iff]; simp [validI, inR, rngs, isPool, mosts]) <;> omega
  have n17 := of_decide_eq_false h
  refine br (t := decide (op = 18)) (fun h => ?_) (fun h => ?_)
  · have e := of_decide_eq_true h
    subst e
    refine ds fun w2 h2 => ?_
    have hx := h2.box hx
    have hn2 := hn.bl.trans h2.bl
    refine ld (hx.cell rfl) ?_
    refine clq (r3_most 7 p _ (by omega) (by omega)) ?_
    refine clq (r3_in _ _ _ _) ?_
    refine rt1 ⟨vb ?_, hn2⟩
    obtain ⟨-, g1, g2⟩ := vgood hg
    try (have hb := g1 (by decide); subst hb)
    cases p <;> (rw [Bool.eq_iff_iff]; simp [validI, inR, rngs, isPool, mosts]) <;> omega
  have n18 := of_decide_eq_false h
  refine br (t := decide (op = 22)) (fun h => ?_) (fun h => ?_)
  · have e := of_decide_eq_true h
    refine brt ?_ (hp := h)
    subst e
    refine ds fun w2 h2 => ?_
    have hx := h2.box hx
    have hn2 := hn.bl.trans h2.bl
    refine ld (hx.cell rfl) ?_
    refine clq (r3_most 10 p _ (by omega) (by omega)) ?_
    refine clq (r3_in _ _ _ _) ?_
    refine rt1 ⟨vb ?_, hn2⟩
    obtain ⟨-, g1, g2⟩ := vgood hg
    try (have hb := g1 (by decide); subst hb)
    cases p <;> (rw [Bool.eq_iff_iff]; simp [validI, inR, rngs, isPool, mosts]) <;> omega
  have n22 := of_decide_eq_false h
  refine br (t := decide (op = 23)) (fun h => ?_) (fun h => ?_)
  · have e := of_decide_eq_true h
    subst e
    refine ds fun w2 h2 => ?_
    have hx := h2.box hx
    have hn2 := hn.bl.trans h2.bl
    refine ld (hx.cell rfl) ?_
    refine clq (r3_most 10 p _ (by omega) (by omega)) ?_
    refine clq (r3_in _ _ _ _) ?_
    refine rt1 ⟨vb ?_, hn2⟩
    obtain ⟨-, g1, g2⟩ := vgood hg
    try (have hb := g1 (by decide); subst hb)
    cases p <;> (rw [Bool.eq_iff_iff]; simp [validI, inR, rngs, isPool, mosts]) <;> omega
  have n23 := of_decide_eq_false h
  refine br (t := decide (op = 25)) (fun h => ?_) (fun h => ?_)
  · have e := of_decide_eq_true h
    refine brt ?_ (hp := h)
    subst e
    refine ds fun w2 h2 => ?_
    have hx := h2.box hx
    have hn2 := hn.bl.trans h2.bl
    refine ld (hx.cell rfl) ?_
    refine clq (r3_most 16 p _ (by omega) (by omega)) ?_
    refine clq (r3_in _ _ _ _) ?_
    refine rt1 ⟨vb ?_, hn2⟩
    obtain ⟨-, g1, g2⟩ := vgood hg
    try (have hb := g1 (by decide); subst hb)
    cases p <;> (rw [Bool.eq_iff_iff]; simp [validI, inR, rngs, isPool, mosts]) <;> omega
  have n25 := of_decide_eq_false h
  refine br (t := decide (op = 26)) (fun h => ?_) (fun h => ?_)
  · have e := of_decide_eq_true h
    subst e
    refine ds fun w2 h2 => ?_
    have hx := h2.box hx
    have hn2 := hn.bl.trans h2.bl
    refine ld (hx.cell rfl) ?_
    refine clq (r3_most 16 p _ (by omega) (by omega)) ?_
    refine clq (r3_in _ _ _ _) ?_
    refine rt1 ⟨vb ?_, hn2⟩
    obtain ⟨-, g1, g2⟩ := vgood hg
    try (have hb := g1 (by decide); subst hb)
    cases p <;> (rw [Bool.eq_iff_iff]; simp [validI, inR, rngs, isPool, mosts]) <;> omega
  have n26 := of_decide_eq_false h
  refine br (t := decide (op = 27)) (fun h => ?_) (fun h => ?_)
  · have e := of_decide_eq_true h
    subst e
    refine ld (hx.cell rfl) ?_
    refine cl (r3_in _ _ _ _) ?_
    rintro _ _ ⟨rfl, rfl⟩
    refine rt1 ⟨vb ?_, hn2⟩
    obtain ⟨-, g1, g2⟩ := vgood hg
    try (have hb := g1 (by decide); subst hb)
    cases p <;> (rw [Bool.eq_iff_iff]; simp [validI, inR, rngs, isPool, mosts]) <;> omega
  have n27 := of_decide_eq_false h
  refine br (t := decide (op = 28)) (fun h => ?_) (fun h => ?_)
  · have e := of_decide_eq_true h
    subst e
    refine ld (hx.cell rfl) ?_
    refine cl (r3_in _ _ _ _) ?_
    rintro _ _ ⟨rfl, rfl⟩
    refine rt1 ⟨vb ?_, hn2⟩
    obtain ⟨-, g1, g2⟩ := vgood hg
    try (have hb := g1 (by decide); subst hb)
    cases p <;> (rw [Bool.eq_iff_iff]; simp [validI, inR, rngs, isPool, mosts]) <;> omega
  have n28 := of_decide_eq_false h
  refine br (t := decide (op = 30)) (fun h => ?_) (fun h => ?_)
  · have e := of_decide_eq_true h
    subst e
    refine ld (hx.cell rfl) ?_
    refine cl (r3_in _ _ _ _) ?_
    rintro _ _ ⟨rfl, rfl⟩
    refine ldg (fun _ => hx.cell rfl) ?_
    refine sp (.bool false) (fun q => ?_) (fun q => ?_)
    · refine cl (r3_in _ _ _ _) ?_
      rintro _ _ ⟨rfl, rfl⟩
      refine rt1 ⟨vb ?_, hn2⟩
      simp only [Bool.and_eq_true, decide_eq_true_eq] at q
      cases p <;> (rw [Bool.eq_iff_iff]; simp [validI, inR, rngs, isPool, mosts]) <;> omega
    · refine rt1 ⟨vb ?_, hn2⟩
      rw [q]
      simp only [Bool.not_true, Bool.and_eq_false_iff, decide_eq_false_iff_not] at q
      cases p <;> (rw [Bool.eq_iff_iff]; simp [validI, inR, rngs, isPool, mosts]) <;> omega
  have n30 := of_decide_eq_false h
  refine br (t := decide (op = 31)) (fun h => ?_) (fun h => ?_)
  · have e := of_decide_eq_true h
    subst e
    refine ld (hx.cell rfl) ?_
    refine cl (r3_in _ _ _ _) ?_
    rintro _ _ ⟨rfl, rfl⟩
    refine rt1 ⟨vb ?_, hn2⟩
    obtain ⟨-, g1, g2⟩ := vgood hg
    try (have hb := g1 (by decide); subst hb)
    cases p <;> (rw [Bool.eq_iff_iff]; simp [validI, inR, rngs, isPool, mosts]) <;> omega
  have n31 := of_decide_eq_false h
  refine br (t := decide (op = 32)) (fun h => ?_) (fun h => ?_)
  · have e := of_decide_eq_true h
    subst e
    refine ld (hx.cell rfl) ?_
    refine cl (r3_in _ _ _ _) ?_
    rintro _ _ ⟨rfl, rfl⟩
    refine rt1 ⟨vb ?_, hn2⟩
    obtain ⟨-, g1, g2⟩ := vgood hg
    try (have hb := g1 (by decide); subst hb)
    cases p <;> (rw [Bool.eq_iff_iff]; simp [validI, inR, rngs, isPool, mosts]) <;> omega
  have n32 := of_decide_eq_false h
  refine rt1 ⟨vb ?_, hn2⟩
  obtain ⟨g0, g1, g2⟩ := vgood hg
  have hr : 0 ≤ op ∧ op ≤ 35 := by
    unfold opE at g0
    by_cases hb : op < 0 ∨ 35 < op
    · rw [if_pos hb] at g0; omega
    · omega
  have hc : op = 0 ∨ op = 4 ∨ op = 5 ∨ op = 6 ∨ op = 7 ∨ op = 8 ∨ op = 9 ∨ op = 10 ∨ op = 11 ∨ op = 13 ∨ op = 19 ∨ op = 20 ∨ op = 21 ∨ op = 29 ∨ op = 33 ∨ op = 34 ∨ op = 35 := by omega
  rcases hc with rfl | rfl | rfl | rfl | rfl | rfl | rfl | rfl | rfl | rfl | rfl | rfl | rfl | rfl | rfl | rfl | rfl <;>
    (have hb := g1 (by decide); have ha := g2 (by decide); subst hb; subst ha; cases p <;> decide)
end Go.Proofs.YtopjmiklpnejmaaGreatDoor
/- Walks: the document's reading of brackets. -/
namespace Go.Proofs.YtopjmiklpnejmaaGreatDoor
open Eng Go.RowKit
theorem r3_Opens (op : Int) (w : World) : Ret Tryz.prog 182 #[I op] w fun v w' => v = .bool (opensB op) ∧ w' = w := by
  refine entr (vs := [I op]) [0, 2] tabok Tryz.func182 (by kernel_rfl) ?_
  exact rt1 ⟨rfl, rfl⟩
theorem max_nat (a b : Nat) : max (a : Int) (b : Int) = ((max a b : Nat) : Int) := by omega
def PartsC (l : List Ins) (a : Option Addr) (cap : Nat) (w : World) (i : Nat) : Prop :=
  Ret Tryz.prog 134 #[.slice a l.length cap, I i] w fun v w' => (∃ next deep, v = .tuple #[I next, I deep] ∧ partsOk (l.map (·.op)) i next deep) ∧ w' = w
def BracketC (l : List Ins) (a : Option Addr) (cap : Nat) (w : World) (i : Nat) : Prop :=
  Ret Tryz.prog 183 #[.slice a l.length cap, I i] w fun v w' => (∃ alt next deep, v = .tuple #[I alt, I next, I deep] ∧ bracketOk (l.map (·.op)) i next deep) ∧ w' = w
theorem drop_at {l : List Ins} {k : Nat} {x : Ins} (h : l[k]? = some x) : (l.map (·.op)).drop k = x.op :: (l.map (·.op)).drop (k + 1) := by
  obtain ⟨hk, e⟩ := List.getElem?_eq_some_iff.1 h
  rw [List.drop_eq_getElem_cons (by rw [List.length_map]; exact hk)]
  simp [e]
theorem r3_parts (l : List Ins) (a : Option Addr) (cap : Nat) (S : Nat → Prop) (w : World) (hS : Sl eIns S w a l) (i : Nat) (hi : i ≤ l.length)
    (hb : ∀ j, i ≤ j → j < l.length → (∀ x, l[j]? = some x → opensB x.op = true) → BracketC l a cap w j) : PartsC l a cap w i := by
  unfold PartsC
  have hbig := hS.big
  refine entr (vs := [.slice a l.length cap, I i]) [0, 1, 4, 5, 6, 8, 9, 29, 36, 47] tabok Tryz.func134 (by kernel_rfl) ?_
  refine lp [1, 6] [(0, .slice a l.length cap)] (fun m vals w' => ∃ j k : Nat, m = l.length - j ∧ vals = [I j, I k] ∧ i ≤ j ∧ j ≤ l.length ∧ k ≤ j - i ∧ w = w' ∧ ∀ s D, s.length ≤ D → runB ((l.map (·.op)).drop i) s D = runB ((l.map (·.op)).drop j) s (max D (s.length + k))) ⟨rfl, trivial⟩
    ⟨i, 0, rfl, rfl, Nat.le_refl _, hi, Nat.zero_le _, rfl, fun s D h => by rw [Nat.add_zero, Nat.max_eq_left h]⟩ ?_
  rintro m vals _ ⟨j, k, rfl, rfl, hij, hjl, hk, rfl, hrun⟩ ih
  by_cases hlt : j < l.length
  · obtain ⟨x, b, o, cs, hx, rfl, hSb, hAt, rfl⟩ := at_some hS hlt
    refine ixg (fun _ => hlt) ?_
    refine ldg (fun _ => hAt 0 _ rfl) ?_
    refine ixg (fun _ => hlt) ?_
    refine ldg (fun _ => hAt 0 _ rfl) ?_
    have hop : (l.map (·.op))[j]? = some x.op := by rw [List.getElem?_map, hx]; rfl
    have hd := drop_at hx
    refine br (t := (decide ((j : Int) < l.length) && decide (¬ x.op = 34)) && decide (¬ x.op = 35)) (fun h => ?_) (fun h => ?_)
    · simp only [Bool.and_eq_true, decide_eq_true_eq] at h
      refine ix ?_
      refine ld (hAt 0 _ rfl) ?_
      refine cl (r3_Opens x.op _) ?_
      rintro _ _ ⟨rfl, rfl⟩
      refine br (t := !opensB x.op) (fun h2 => ?_) (fun h2 => ?_)
      · have h3 : opensB x.op = false := by simpa using h2
        refine again (ih _ _ _ _ ?_ ⟨rfl, trivial⟩ rfl ⟨j + 1, k, rfl, lst2 (inc hlt) rfl, by omega, hlt, by omega, rfl, fun s D hs => ?_⟩)
        · omega
        · rw [hrun s D hs, hd, runB_plain h3 h.1.2 h.2]
      · have h3 : opensB x.op = true := by simpa using h2
        refine cl (hb j hij hlt (fun y hy => by rw [hx] at hy; obtain rfl := Option.some.inj hy; exact h3)) ?_
        rintro _ _ ⟨⟨alt, next, deep, rfl, hbo⟩, rfl⟩
        refine br (fun h4 => ?_) (fun h4 => ?_)
        · have h5 := of_decide_eq_true h4
          rcases hbo with ⟨rfl, hbad⟩ | ⟨n, k2, _, rfl, _⟩
          · refine rt2 ⟨⟨0, -1, rfl, .inl ⟨rfl, fun s D D' hs e => ?_⟩⟩, rfl⟩
            rw [hrun s D hs] at e
            exact hbad s _ D' (by omega) e
          · omega
        · have h5 := of_decide_eq_false h4
          rcases hbo with ⟨rfl, hbad⟩ | ⟨n, k2, rfl, rfl, hn1, hn2, hk2, hrun2⟩
          · omega
          · rw [List.length_map] at hn2
            refine mx ?_
            refine again (ih _ _ _ _ ?_ ⟨rfl, trivial⟩ rfl ⟨n + 1, max k (k2 + 1), rfl, lst2 (inc (by omega)) (vi ?_), by omega, by omega, by omega, rfl, fun s D hs => ?_⟩)
            · omega
            · rw [wrap_fit (by omega) (by omega)]; omega
            · rw [hrun s D hs, hrun2 s _ (by omega)]
              congr 1; omega
    · refine rt2 ⟨⟨j, k, rfl, .inr ⟨j, k, rfl, rfl, hij, by rw [List.length_map]; exact hjl, hk, .inr ?_, hrun⟩⟩, rfl⟩
      rw [hop]
      simp only [Bool.and_eq_false_iff, decide_eq_false_iff_not] at h
      by_cases h6 : x.op = 34
      · exact .inl (by rw [h6])
      · exact .inr (by congr 1; omega)
  · refine sp (.pointer (some ⟨0, 0, none⟩)) (fun q => ?_) (fun q => ?_)
    · have := of_decide_eq_true q; omega
    refine ldg (v := I 0) (fun e => ?_) ?_
    · have := of_decide_eq_true e; omega
    refine sp (.pointer (some ⟨0, 0, none⟩)) (fun q2 => ?_) (fun q2 => ?_)
    · simp only [Bool.and_eq_true, decide_eq_true_eq] at q2; omega
    refine ldg (v := I 0) (fun e => ?_) ?_
    · simp only [Bool.and_eq_true, decide_eq_true_eq] at e; omega
    refine br (fun h => ?_) (fun h => ?_)
    · simp only [Bool.and_eq_true, decide_eq_true_eq] at h; omega
    · obtain rfl : j = l.length := by omega
      exact rt2 ⟨⟨l.length, k, rfl, .inr ⟨l.length, k, rfl, rfl, hij, by rw [List.length_map]; exact Nat.le_refl _, hk, .inl (by rw [List.length_map]), hrun⟩⟩, rfl⟩
theorem r3_bracket (l : List Ins) (a : Option Addr) (cap : Nat) (S : Nat → Prop) (w : World) (hS : Sl eIns S w a l) (i : Nat) (hi : i < l.length) (x : Ins) (hx : l[i]? = some x) (hox : opensB x.op = true)
    (hp : ∀ j, i < j → j ≤ l.length → PartsC l a cap w j) : BracketC l a cap w i := by
  unfold BracketC
  have hbig := hS.big
  have hp1 : ∀ j : Nat, i ≤ j → j < l.length → Ret Tryz.prog 134 #[.slice a l.length cap, .int .i64 (IntKind.i64.wrap ((j : Int) + 1))] w fun v w' => (∃ next deep, v = .tuple #[I next, I deep] ∧ partsOk (l.map (·.op)) (j + 1) next deep) ∧ w' = w := fun j h1 h2 => by
    rw [wrap_succ h2]; exact hp (j + 1) (by omega) h2
  refine entr (vs := [.slice a l.length cap, I i]) [0, 1, 4, 5, 6, 7, 8, 9, 10, 11, 26, 32, 46, 70, 80] tabok Tryz.func183 (by kernel_rfl) ?_
  refine cl (hp1 i (Nat.le_refl _) hi) ?_
  rintro _ _ ⟨⟨next, deep, rfl, hpo⟩, rfl⟩
  have hd := drop_at hx
  have bad : badB ((l.map (·.op)).drop (i + 1)) → badB ((l.map (·.op)).drop i) := fun hb s D D' hs e => by
    rw [hd, runB_open hox] at e
    exact hb _ _ D' (by simp; omega) e
  refine br (fun h => ?_) (fun h => ?_)
  · refine rt3 ⟨⟨0, 0, -1, rfl, .inl ⟨rfl, ?_⟩⟩, rfl⟩
    simp only [Bool.or_eq_true, decide_eq_true_eq] at h
    rcases hpo with ⟨_, hb⟩ | ⟨n, k, rfl, rfl, _, hn, _, _, hrun⟩
    · exact bad hb
    · rw [List.length_map] at hn
      obtain rfl : n = l.length := by omega
      intro s D D' hs e
      rw [hd, runB_open hox, hrun _ _ (by simp; omega), List.drop_of_length_le (by rw [List.length_map]; exact Nat.le_refl _)] at e
      simp [runB] at e
  simp only [Bool.or_eq_false_iff, decide_eq_false_iff_not] at h
  rcases hpo with ⟨rfl, _⟩ | ⟨n, k, rfl, rfl, hin, hn, hk, hnx, hrun⟩
  · omega
  have hnl : n < l.length := by omega
  obtain ⟨y, b, o, cs, hy, rfl, hSb, hAt, rfl⟩ := at_some hS hnl
  have hyop : (l.map (·.op))[n]? = some y.op := by rw [List.getElem?_map, hy]; rfl
  have hdy := drop_at hy
  rw [hyop] at hnx
  have hnx' : y.op = 34 ∨ y.op = 35 := by
    rcases hnx with h1 | h1 | h1
    · rw [List.length_map] at h1; omega
    · exact .inl (Option.some.inj h1)
    · exact .inr (Option.some.inj h1)
  have hstep : ∀ s D, s.length ≤ D → runB ((l.map (·.op)).drop i) s D = runB (y.op :: (l.map (·.op)).drop (n + 1)) ((x.op, false) :: s) (max D (s.length + 1 + k)) := fun s D hs => by
    rw [hd, runB_open hox, hrun _ _ (by simp; omega), hdy]
    congr 1; simp
  refine ix ?_
  refine ld (hAt 0 _ rfl) ?_
  refine br (fun h34 => ?_) (fun h34 => ?_)
  · have e34 := of_decide_eq_true h34
    obtain ⟨b', o', cs', e', hSb', hAt', rfl⟩ := hS.el i x hx
    simp only [Option.some.injEq, Addr.mk.injEq, and_true] at e'
    obtain ⟨rfl, rfl⟩ := e'
    refine ix ?_
    refine ld (hAt' 0 _ rfl) ?_
    refine ixg (fun _ => hi) ?_
    refine ldg (fun _ => hAt' 0 _ rfl) ?_
    refine br (t := decide (¬ x.op = 29) && decide (¬ x.op = 33)) (fun h2 => ?_) (fun h2 => ?_)
    · simp only [Bool.and_eq_true, decide_eq_true_eq] at h2
      refine rt3 ⟨⟨0, 0, -1, rfl, .inl ⟨rfl, fun s D D' hs e => ?_⟩⟩, rfl⟩
      rw [hstep s D hs, e34, runB_else, if_neg (by omega)] at e; cases e
    have h2' : x.op = 29 ∨ x.op = 33 := by
      simp only [Bool.and_eq_false_iff, decide_eq_false_iff_not] at h2; omega
    have hst2 : ∀ s D, s.length ≤ D → runB ((l.map (·.op)).drop i) s D = runB ((l.map (·.op)).drop (n + 1)) ((x.op, true) :: s) (max D (s.length + 1 + k)) := fun s D hs => by
      rw [hstep s D hs, e34, runB_else, if_pos ⟨rfl, h2'⟩]
    refine cl (hp1 n (by omega) hnl) ?_
    rintro _ _ ⟨⟨next2, deep2, rfl, hpo2⟩, rfl⟩
    refine sp (.pointer (some ⟨0, 0, none⟩)) (fun q => ?_) (fun q => ?_)
    · simp only [Bool.or_eq_false_iff, decide_eq_false_iff_not] at q
      rcases hpo2 with ⟨rfl, _⟩ | ⟨n2, k2, rfl, rfl, hin2, hn2, hk2, hnx2, hrun2⟩
      · omega
      have hnl2 : n2 < l.length := by omega
      obtain ⟨z, b3, o3, cs3, hz, e3, hSb3, hAt3, rfl⟩ := at_some hS hnl2
      simp only [Option.some.injEq, Addr.mk.injEq, and_true] at e3
      obtain ⟨rfl, rfl⟩ := e3
      refine ix ?_
      refine ldg (fun _ => hAt3 0 _ rfl) ?_
      have hdz := drop_at hz
      have hst3 : ∀ s D, s.length ≤ D → runB ((l.map (·.op)).drop i) s D = runB (z.op :: (l.map (·.op)).drop (n2 + 1)) ((x.op, true) :: s) (max (max D (s.length + 1 + k)) (s.length + 1 + k2)) := fun s D hs => by
        rw [hst2 s D hs, hrun2 _ _ (by simp; omega), hdz]; rfl
      have hz' : z.op = 34 ∨ z.op = 35 := by
        rcases hnx2 with h1 | h1 | h1
        · rw [List.length_map] at h1; omega
        · rw [List.getElem?_map, hz] at h1; exact .inl (Option.some.inj h1)
        · rw [List.getElem?_map, hz] at h1; exact .inr (Option.some.inj h1)
      refine br (fun h3 => ?_) (fun h3 => ?_)
      · have h3' : z.op = 34 := by
          rcases hz' with h | h
          · exact h
          · rw [h] at h3; simp at h3
        refine rt3 ⟨⟨0, 0, -1, rfl, .inl ⟨rfl, fun s D D' hs e => ?_⟩⟩, rfl⟩
        rw [hst3 s D hs, h3', runB_else, if_neg (by simp)] at e; cases e
      · have h3' : z.op = 35 := by
          rcases hz' with h | h
          · rw [h] at h3; simp at h3
          · exact h
        refine mx ?_
        rw [max_nat]
        refine rt3 ⟨⟨n, n2, (max k k2 : Nat), rfl, .inr ⟨n2, max k k2, rfl, rfl, by omega, by rw [List.length_map]; exact hnl2, by omega, fun s D hs => ?_⟩⟩, rfl⟩
        rw [hst3 s D hs, h3', runB_end, if_neg (by simp)]
        congr 1; omega
    · refine ldg (v := I 0) (fun e => ?_) ?_
      · rw [q] at e; cases e
      refine br (fun h3 => ?_) (fun h3 => ?_)
      · refine rt3 ⟨⟨0, 0, -1, rfl, .inl ⟨rfl, fun s D D' hs e => ?_⟩⟩, rfl⟩
        simp only [Bool.not_false, Bool.or_eq_true, decide_eq_true_eq] at q
        rcases hpo2 with ⟨_, hb⟩ | ⟨n2, k2, rfl, rfl, _, hn2, _, _, hrun2⟩
        · rw [hst2 s D hs] at e
          exact hb _ _ D' (by simp; omega) e
        · rw [List.length_map] at hn2
          obtain rfl : n2 = l.length := by omega
          rw [hst2 s D hs, hrun2 _ _ (by simp; omega), List.drop_of_length_le (by rw [List.length_map]; exact Nat.le_refl _)] at e
          simp [runB] at e
      · rw [q] at h3; simp at h3
  · have e34 := of_decide_eq_false h34
    have e35 : y.op = 35 := by omega
    obtain ⟨b', o', cs', e', hSb', hAt', rfl⟩ := hS.el i x hx
    simp only [Option.some.injEq, Addr.mk.injEq, and_true] at e'
    obtain ⟨rfl, rfl⟩ := e'
    refine ix ?_
    refine ld (hAt' 0 _ rfl) ?_
    refine br (fun h33 => ?_) (fun h33 => ?_)
    · have e33 := of_decide_eq_true h33
      refine rt3 ⟨⟨0, 0, -1, rfl, .inl ⟨rfl, fun s D D' hs e => ?_⟩⟩, rfl⟩
      rw [hstep s D hs, e35, runB_end, if_pos ⟨e33, rfl⟩] at e; cases e
    · have e33 := of_decide_eq_false h33
      refine rt3 ⟨⟨-1, n, k, rfl, .inr ⟨n, k, rfl, rfl, by omega, by rw [List.length_map]; exact hnl, by omega, fun s D hs => ?_⟩⟩, rfl⟩
      rw [hstep s D hs, e35, runB_end, if_neg (fun hc => e33 hc.1)]
      congr 1; omega
end Go.Proofs.YtopjmiklpnejmaaGreatDoor
/- Walks: the document's Check of code. -/
namespace Go.Proofs.YtopjmiklpnejmaaGreatDoor
open Eng Go.RowKit
theorem r3_tie (l : List Ins) (a : Option Addr) (cap : Nat) (S : Nat → Prop) (w : World) (hS : Sl eIns S w a l) : ∀ N i, l.length - i ≤ N → i ≤ l.length → PartsC l a cap w i
  | 0, i, h, hi => r3_parts l a cap S w hS i hi fun j h1 h2 => by omega
  | N + 1, i, h, hi => r3_parts l a cap S w hS i hi fun j h1 h2 ho => by
    obtain ⟨x, hx⟩ := some_of_lt h2
    exact r3_bracket l a cap S w hS j h2 x hx (ho x hx) fun j' h3 h4 => r3_tie l a cap S w hS N j' (by omega) h4
/-- the document's word on code: how long, valid, brackets -/
def codeE (l : List Ins) (p : Bool) : Int := if 120 < l.length then 2 else if l.all (fun i => validI i p) = true then (if okB (l.map (·.op)) = true then 0 else 7) else 1
theorem okB_parts {c : List Int} {next deep : Int} (h : partsOk c 0 next deep) : okB c = !((decide (deep < 0) || decide (next < c.length)) || decide (deep > 6)) := by
  rcases h with ⟨rfl, hb⟩ | ⟨n, k, rfl, rfl, _, hn, _, hnx, hrun⟩
  · have : okB c = false := by
      unfold okB
      have hb' := hb [] 0
      rw [List.drop_zero] at hb'
      split
      · rename_i d e; exact absurd e (hb' d (Nat.le_refl _))
      · rfl
    rw [this]; rfl
  · have hr := hrun [] 0 (Nat.le_refl _)
    rw [List.drop_zero] at hr
    unfold okB
    rw [hr]
    by_cases hl : n = c.length
    · rw [hl, List.drop_length]
      simp only [runB, List.length_nil]
      rw [decide_eq_false (p := (k : Int) < 0) (by omega), decide_eq_false (p := (c.length : Int) < c.length) (by omega)]
      by_cases h6 : k ≤ 6
      · rw [decide_eq_true (by omega), decide_eq_false (by omega)]; rfl
      · rw [decide_eq_false (by omega), decide_eq_true (by omega)]; rfl
    · have hlt : n < c.length := by omega
      have h34 : c[n] = 34 ∨ c[n] = 35 := by
        rcases hnx with h | h | h
        · exact absurd h hl
        · rw [List.getElem?_eq_getElem hlt] at h; exact .inl (Option.some.inj h)
        · rw [List.getElem?_eq_getElem hlt] at h; exact .inr (Option.some.inj h)
      rw [List.drop_eq_getElem_cons hlt, runB_top h34, decide_eq_true (p := (n : Int) < c.length) (by omega)]
      simp
theorem r3_Check (l : List Ins) (a : Option Addr) (cap : Nat) (p : Bool) (S : Nat → Prop) (w : World) (hS : Sl eIns S w a l) : Ret Tryz.prog 62 #[.slice a l.length cap, .bool p] w fun v w' => v = I (codeE l p) ∧ Bl w w' := by
  have hbig := hS.big
  refine entr (vs := [.slice a l.length cap, .bool p]) [0, 1, 4, 5, 6, 7, 10, 14, 23, 40] tabok Tryz.func62 (by kernel_rfl) ?_
  refine br (fun h => ?_) (fun h => ?_)
  · have h := of_decide_eq_true h
    exact rt1 ⟨vi (by unfold codeE; rw [if_pos (by omega)]), Bl.refl _⟩
  have h120 := of_decide_eq_false h
  refine lpk l.length 5 [] [(0, .slice a l.length cap), (1, .bool p)] (fun k vals w' => vals = [] ∧ ((l.take k).all fun i => validI i p) = true ∧ Bl w w') ⟨rfl, rfl, Bl.refl _⟩ ?_
  rintro k vals w1 hk ⟨rfl, ha, hB⟩ ih
  by_cases hlt : k < l.length
  · refine brT ?_
    obtain ⟨x, b, o, cs, hx, rfl, hSb, hAt, rfl⟩ := at_some (hS.bl hB) hlt
    refine ix ?_
    refine lda hAt ?_
    refine cl (r3_Valid x p _) ?_
    rintro _ w2 ⟨rfl, hB2⟩
    refine br (t := !validI x p) (fun h1 => ?_) (fun h1 => ?_)
    · refine rt1 ⟨vi ?_, hB.trans hB2⟩
      unfold codeE
      rw [if_neg (by omega), all_miss hx (p := fun i => validI i p) (by simpa using h1), if_neg (by simp)]
    · exact ih hlt ⟨rfl, all_snoc' hx ha (by simpa using h1), hB.trans hB2⟩
  refine brF ?_
  obtain rfl : k = l.length := by omega
  have hall := all_end ha
  have hc : codeE l p = if okB (l.map (·.op)) = true then 0 else 7 := by unfold codeE; rw [if_neg (by omega), if_pos hall]
  refine cl (r3_tie l a cap S w1 (hS.bl hB) l.length 0 (by omega) (Nat.zero_le _)) ?_
  rintro _ _ ⟨⟨next, deep, rfl, hpo⟩, rfl⟩
  have hok := okB_parts hpo
  rw [List.length_map] at hok
  refine br (t := (decide (deep < 0) || decide (next < l.length)) || decide (deep > 6)) (fun h => ?_) (fun h => ?_)
  · refine rt1 ⟨vi ?_, hB⟩
    rw [hc, hok, h]; rfl
  · refine rt1 ⟨vi ?_, hB⟩
    rw [hc, hok, h]; rfl
end Go.Proofs.YtopjmiklpnejmaaGreatDoor
