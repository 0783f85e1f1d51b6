/- Regions that draw their order: what yields the same in every later world of the region may be taken first. No program stands here. -/
import Derived.Test.YtopjmiklpnejmaaGreatDoorLib
import Derived.OrdersHeld
import Derived.Still
import Derived.StillTail
namespace Go.Proofs.YtopjmiklpnejmaaGreatDoor
open Go Go.RowKit
namespace Eng
section
variable {P : Program} {ops : Array Oper} {Q : Exit → Act → World → Prop} {md : Region.Mode} {S : Nat → Prop}
def wpM (P : Program) (md : Region.Mode) (ops : Array Oper) (Q : Exit → Act → World → Prop) (S : Nat → Prop) (m : Nat) : Nat → Array Bool → Act → World → Prop
  | 0, listed, a, w => Region.ready md ops listed = [] ∧ Q .normal a w
  | fuel + 1, listed, a, w =>
    (Region.ready md ops listed = [] → Q .normal a w) ∧
    ∀ i ∈ Region.ready md ops listed, wpOp P ops Q i (fun a' w' => (i < m → Kp S w w') ∧ wpM P md ops Q S m fuel (listed.setIfInBounds i true) a' w') a w
theorem wpAny_of_M {m : Nat} : ∀ (fuel : Nat) (listed : Array Bool) (a : Act) (w : World), wpM P md ops Q S m fuel listed a w → wpAny P md ops Q fuel listed a w
  | 0, _, _, _, h => h
  | fuel + 1, _, _, _, h => ⟨h.1, fun i hi => wpOp_mono (fun a' w' h' => wpAny_of_M fuel _ a' w' h'.2) (h.2 i hi)⟩
theorem YieldsIf.weak {S S' : World → Prop} {o : Oper} {v : Value} {a : Act} (h : YieldsIf P ops S o v a) (hs : ∀ w, S' w → S w) : YieldsIf P ops S' o v a :=
  h.imp (fun ⟨hw, hv⟩ => ⟨hw, fun w hw' => hv w (hs w hw')⟩) id
theorem wpM_first {m i : Nat} {pu : Bool} {oi : Oper} {v : Value} (hi : ops[i]? = some oi) (hsel : ∀ (j : Nat) (o : Oper) cs b, ops[j]? = some o → o.op ≠ .select cs b)
    (hQ : ∀ c a w, Q (.panic c) (a.put oi.dst v) w → Q (.panic c) a w) :
    ∀ (fuel : Nat) (listed : Array Bool) (a : Act) (w : World),
      (∀ j oj, ops[j]? = some oj → j ≠ i → listed.getD j true = false → (∀ e ∈ oj.after, Region.binds md e = true → e.on ≠ i) → oi.apart ops oj = true ∧ (j < m ∨ pu = true)) →
      i ∈ Region.ready md ops listed → YieldsIf P ops (fun w' => pu = true ∨ Kp S w w') oi v a →
      wpM P md ops Q S m fuel (listed.setIfInBounds i true) (a.put oi.dst v) w → wpM P md ops Q S m (fuel + 1) listed a w := by
  intro fuel
  induction fuel with
  | zero =>
    intro listed a w _ hr hy H
    refine ⟨fun h => (by rw [h] at hr; cases hr), fun j hj => ?_⟩
    by_cases hji : j = i
    · subst hji; exact hy.wpOp hi (.inr (Kp.refl S w)) ⟨fun _ => Kp.refl S w, H⟩
    · have := ready_mono hj hji
      rw [H.1] at this
      cases this
  | succ fuel ih =>
    intro listed a w hfree hr hy H
    refine ⟨fun h => (by rw [h] at hr; cases hr), fun j hj => ?_⟩
    by_cases hji : j = i
    · subst hji; exact hy.wpOp hi (.inr (Kp.refl S w)) ⟨fun _ => Kp.refl S w, H⟩
    · have h1 := H.2 j (ready_mono hj hji)
      obtain ⟨hjun, oj, hoj, hall⟩ := mem_ready.1 hj
      have hnot : ∀ e ∈ oj.after, Region.binds md e = true → e.on ≠ i := fun e he hb heq => by
        have h1 := hall e he hb
        have h0 := (mem_ready.1 hr).1
        rw [heq] at h1
        rcases Nat.lt_or_ge i listed.size with h' | h'
        · simp [h'] at h0 h1; rw [h0] at h1; cases h1
        · simp [Array.getElem?_eq_none h'] at h1
      have hjf := hfree j oj hoj hji hjun hnot
      have h2 := wpOp_putIf hoj hjf.1 (fun cs b => hsel i oi cs b hi) (fun cs b => hsel j oj cs b hoj) hQ hy h1
      have hfree' : ∀ k ok, ops[k]? = some ok → k ≠ i → (listed.setIfInBounds j true).getD k true = false →
          (∀ e ∈ ok.after, Region.binds md e = true → e.on ≠ i) → oi.apart ops ok = true ∧ (k < m ∨ pu = true) := fun k ok hk hki hun hno => by
        refine hfree k ok hk hki ?_ hno
        by_cases hjk : j = k
        · subst hjk; exact hjun
        · rw [getD_set_ne true hjk] at hun; exact hun
      refine wpOp_mono (fun a' w' h3 => ⟨h3.2.1, ih (listed.setIfInBounds j true) a' w' hfree' (ready_mono hr (Ne.symm hji)) (YieldsIf.weak h3.1 fun w'' k => hjf.2.elim (fun q => k.imp id fun k => Kp.trans (h3.2.1 q) k) .inl) ?_⟩) h2
      rw [Array.setIfInBounds_comm _ _ hji]
      exact h3.2.2
/-- operations that do not look at the world -/
def pureB (o : Op) : Bool := match o with
  | .move .. | .fieldAddr .. | .nilCheck .. => true
  | _ => false
/-- operations that may turn the world -/
def effB (o : Op) : Bool := match o with
  | .call c => match c.callee with
    | .builtin n => match n with
      | .len | .cap | .min | .max => false
      | _ => true
    | _ => true
  | .buildSlice .. | .alloc .. | .box .. | .store .. | .makeSlice .. => true
  | _ => false
/-- the operations one by one, in an order of ours -/
def heldS (P : Program) (ops : Array Oper) (Q : Exit → Act → World → Prop) (S : Nat → Prop) (fin : Act → World → Prop) : List Oper → Act → World → Prop
  | [], a, w => fin a w
  | o :: r, a, w => match effB o.op with
    | true => if Region.wanted o (yielded ops a.tmps) then o.wp P a w (fun a' w' => Kp S w w' ∧ heldS P ops Q S fin r a' w') Q else heldS P ops Q S fin r (a.put o.dst undef) w
    | false => if Region.wanted o (yielded ops a.tmps) then ∃ v, (∀ w', (pureB o.op = true ∨ Kp S w w') → (execOp a.eval o).run P w' = .ok (.value v) w') ∧ heldS P ops Q S fin r (a.put o.dst v) w else heldS P ops Q S fin r (a.put o.dst undef) w
/-- the operations from i on stand in a row -/
def tailB (ops : Array Oper) : Nat → Nat → Array Bool → Bool
  | 0, _, listed => (Region.ready .any ops listed).isEmpty
  | t + 1, i, listed => decide (Region.ready .any ops listed = [i]) && tailB ops t (i + 1) (listed.setIfInBounds i true)
/-- whatever is of the row's end waits for the operation i -/
def lateB (ops : Array Oper) (m i : Nat) (listed : Array Bool) : Bool := (List.range ops.size).all fun j => Nat.blt j m || listed.getD j true || match ops[j]? with
  | some oj => oj.after.any fun e => Region.binds .any e && e.on == i
  | none => true
theorem lateB_spec {ops : Array Oper} {m i : Nat} {listed : Array Bool} (h : lateB ops m i listed = true) (j : Nat) (oj : Oper) (hj : ops[j]? = some oj) (hun : listed.getD j true = false) (hno : ∀ e ∈ oj.after, Region.binds .any e = true → e.on ≠ i) : j < m := by
  have := List.all_eq_true.1 h j (List.mem_range.2 (Array.getElem?_eq_some_iff.1 hj).1)
  rw [hun, hj] at this
  simp only [Bool.or_false, Bool.or_eq_true] at this
  rcases this with h1 | h1
  · exact Nat.le_of_ble_eq_true h1
  · obtain ⟨e, he, hb⟩ := Array.any_eq_true'.1 h1
    simp only [Bool.and_eq_true, beq_iff_eq] at hb
    exact absurd hb.2 (hno e he hb.1)
def heldB (ops : Array Oper) (m : Nat) : List Nat → Array Bool → Bool
  | [], listed => tailB ops (ops.size - m) m listed
  | i :: r, listed => match ops[i]? with
    | none => false
    | some o => match effB o.op with
      | true => decide (Region.ready .any ops listed = [i]) && heldB ops m r (listed.setIfInBounds i true)
      | false => (Region.ready .any ops listed).contains i && Region.free .any ops listed i && (pureB o.op || lateB ops m i listed) && heldB ops m r (listed.setIfInBounds i true)
def pickO (l : List Oper) : List Nat → List Oper
  | [] => []
  | i :: r => match l[i]? with
    | some o => o :: pickO l r
    | none => pickO l r
theorem tail_ok {m : Nat} : ∀ (t i : Nat) (listed : Array Bool) (a : Act) (w : World), m ≤ i → i + t = ops.size → tailB ops t i listed = true → wpList P ops Q (ops.toList.drop i) a w → wpM P .any ops Q S m t listed a w
  | 0, i, listed, a, w, _, hi, hB, h => by
    rw [List.drop_of_length_le (by rw [Array.length_toList]; omega)] at h
    exact ⟨List.isEmpty_iff.1 hB, h⟩
  | t + 1, i, listed, a, w, hm, hi, hB, h => by
    simp only [tailB, Bool.and_eq_true, decide_eq_true_eq] at hB
    refine ⟨fun h0 => absurd (hB.1 ▸ h0) (by simp), fun j hj => ?_⟩
    rw [hB.1] at hj
    obtain rfl : j = i := by simpa using hj
    have hlt : j < ops.size := by omega
    have ho : ops[j]? = some ops[j] := Array.getElem?_eq_getElem hlt
    rw [List.drop_eq_getElem_cons (by rw [Array.length_toList]; exact hlt)] at h
    have ih := fun a' w' (h' : wpList P ops Q (ops.toList.drop (j + 1)) a' w') => tail_ok (m := m) t (j + 1) (listed.setIfInBounds j true) a' w' (Nat.le_trans hm (Nat.le_succ j)) (by omega) hB.2 h'
    unfold wpList at h
    unfold wpOp
    simp only [ho]
    simp only [Array.getElem_toList] at h
    split
    · rename_i hw
      rw [if_pos hw] at h
      refine h.imp (fun h => ?_) id
      exact Oper.wp_mono (fun a' w' h' => ⟨fun q => absurd q (by omega), ih a' w' h'⟩) h
    · rename_i hw
      rw [if_neg hw] at h
      exact ⟨fun q => absurd q (by omega), ih _ _ h⟩
theorem heldS_ok {m : Nat} (hmn : m ≤ ops.size) (hsel : Region.noSelect ops = true) (hQ : ∀ c a w, ¬ Q (.panic c) a w) : ∀ (ord : List Nat) (listed : Array Bool) (a : Act) (w : World), heldB ops m ord listed = true → heldS P ops Q S (wpList P ops Q (ops.toList.drop m)) (pickO ops.toList ord) a w → wpM P .any ops Q S m (ord.length + (ops.size - m)) listed a w
  | [], listed, a, w, hB, h => by
    rw [List.length_nil, Nat.zero_add]
    exact tail_ok _ m listed a w (Nat.le_refl _) (by omega) hB h
  | i :: r, listed, a, w, hB, h => by
    rw [show (i :: r).length + (ops.size - m) = (r.length + (ops.size - m)) + 1 by rw [List.length_cons]; omega]
    simp only [heldB] at hB
    cases ho : ops[i]? with
    | none => rw [ho] at hB; cases hB
    | some o =>
      have ho2 : ops.toList[i]? = some o := by rw [Array.getElem?_toList]; exact ho
      rw [ho] at hB
      simp only [pickO, ho2] at h
      cases he : effB o.op with
      | true =>
        simp only [he, Bool.and_eq_true, decide_eq_true_eq] at hB
        show (Region.ready .any ops listed = [] → Q .normal a w) ∧ ∀ j ∈ Region.ready .any ops listed, wpOp P ops Q j (fun a' w' => (j < m → Kp S w w') ∧ wpM P .any ops Q S m (r.length + (ops.size - m)) (listed.setIfInBounds j true) a' w') a w
        refine ⟨fun h0 => absurd (hB.1 ▸ h0) (by simp), fun j hj => ?_⟩
        rw [hB.1] at hj
        have : j = i := by simpa using hj
        subst this
        simp only [heldS, he] at h
        unfold wpOp
        simp only [ho]
        split
        · rename_i hw
          rw [if_pos hw] at h
          exact .inl (Oper.wp_mono (fun a' w' h' => ⟨fun _ => h'.1, heldS_ok hmn hsel hQ r _ a' w' hB.2 h'.2⟩) h)
        · rename_i hw
          rw [if_neg hw] at h
          exact ⟨fun _ => Kp.refl S w, heldS_ok hmn hsel hQ r _ _ w hB.2 h⟩
      | false =>
        simp only [he, Bool.and_eq_true] at hB
        simp only [heldS, he] at h
        obtain ⟨⟨⟨hr, hf⟩, hl⟩, hB'⟩ := hB
        have hfr : ∀ j oj, ops[j]? = some oj → j ≠ i → listed.getD j true = false → (∀ e ∈ oj.after, Region.binds .any e = true → e.on ≠ i) → o.apart ops oj = true ∧ (j < m ∨ pureB o.op = true) := fun j oj hj hne hun hno =>
          ⟨Region.free_spec ho hf j oj hj hne hun hno, (Bool.or_eq_true _ _ ▸ hl).symm.imp (fun hl => lateB_spec hl j oj hj hun hno) id⟩
        by_cases hw : Region.wanted o (yielded ops a.tmps) = true
        · rw [if_pos hw] at h
          obtain ⟨v, hv, h2⟩ := h
          exact wpM_first ho (Region.noSelect_spec hsel) (fun c a w hq => (hQ c _ w hq).elim) _ listed a w hfr (by simpa using hr) (.inl ⟨hw, hv⟩) (heldS_ok hmn hsel hQ r _ _ w hB' h2)
        · rw [if_neg hw] at h
          exact wpM_first ho (Region.noSelect_spec hsel) (fun c a w hq => (hQ c _ w hq).elim) _ listed a w hfr (by simpa using hr) (.inr ⟨by simpa using hw, rfl⟩) (heldS_ok hmn hsel hQ r _ _ w hB' h)
/-- a region that draws its order: first in an order of ours, the blocks of S staying; the last t operations in a row -/
theorem wp_region_order {id : Nat} {a : Act} {w : World} (t : Nat) (ord : List Nat) (hm : P.follows .mixedOrders = true) (hsel : Region.noSelect ops = true) (hQ : ∀ c a w, ¬ Q (.panic c) a w) (hn : Nat.beq (ord.length + t) ops.size = true)
    (hB : heldB ops (ops.size - t) ord (Array.replicate ops.size false) = true) (h : heldS P ops Q S (wpList P ops Q (ops.toList.drop (ops.size - t))) (pickO ops.toList ord) a { w with drawn := w.drawn + 1 }) : (Code.region id ops true).wp P Q a w := by
  refine wp_region_any hm ?_
  have hn' := Nat.eq_of_beq_eq_true hn
  have h1 := heldS_ok (Nat.sub_le ..) hsel hQ ord (Array.replicate ops.size false) a _ hB h
  rw [show ord.length + (ops.size - (ops.size - t)) = ops.size by omega] at h1
  exact wpAny_of_M (S := S) _ _ _ _ h1
end
end Eng
end Go.Proofs.YtopjmiklpnejmaaGreatDoor
