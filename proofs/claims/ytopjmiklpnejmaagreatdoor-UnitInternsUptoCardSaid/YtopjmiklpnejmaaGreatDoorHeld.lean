/- Regions that draw their order: what yields the same in every later world of the region may be taken first. No program stands here. -/
import Derived.Test.YtopjmiklpnejmaaGreatDoorLib
import Derived.OrdersHeld
import Derived.Still
import Derived.StillTail
namespace Go.Proofs.YtopjmiklpnejmaaGreatDoor
open Go Go.RowKit
namespace Eng
section
variable {P : Program} {ops : Array Oper} {Q : Exit → Act → World → Prop} {md : Region.Mode} {S : Nat → Prop}
def wpM (P : Program) (md : Region.Mode) (ops : Array Oper) (Q : Exit → Act → World → Prop) (S : Nat → Prop) : Nat → Array Bool → Act → World → Prop
  | 0, listed, a, w => Region.ready md ops listed = [] ∧ Q .normal a w
  | fuel + 1, listed, a, w =>
    (Region.ready md ops listed = [] → Q .normal a w) ∧
    ∀ i ∈ Region.ready md ops listed, wpOp P ops Q i (fun a' w' => Kp S w w' ∧ wpM P md ops Q S fuel (listed.setIfInBounds i true) a' w') a w
theorem wpAny_of_M : ∀ (fuel : Nat) (listed : Array Bool) (a : Act) (w : World), wpM P md ops Q S fuel listed a w → wpAny P md ops Q fuel listed a w
  | 0, _, _, _, h => h
  | fuel + 1, _, _, _, h => ⟨h.1, fun i hi => wpOp_mono (fun a' w' h' => wpAny_of_M fuel _ a' w' h'.2) (h.2 i hi)⟩
theorem YieldsIf.weak {S S' : World → Prop} {o : Oper} {v : Value} {a : Act} (h : YieldsIf P ops S o v a) (hs : ∀ w, S' w → S w) : YieldsIf P ops S' o v a :=
  h.imp (fun ⟨hw, hv⟩ => ⟨hw, fun w hw' => hv w (hs w hw')⟩) id
theorem wpM_first {i : Nat} {oi : Oper} {v : Value} (hi : ops[i]? = some oi) (hsel : ∀ (j : Nat) (o : Oper) cs b, ops[j]? = some o → o.op ≠ .select cs b)
    (hQ : ∀ c a w, Q (.panic c) (a.put oi.dst v) w → Q (.panic c) a w) :
    ∀ (fuel : Nat) (listed : Array Bool) (a : Act) (w : World),
      (∀ j oj, ops[j]? = some oj → j ≠ i → listed.getD j true = false → (∀ e ∈ oj.after, Region.binds md e = true → e.on ≠ i) → oi.apart ops oj = true) →
      i ∈ Region.ready md ops listed → YieldsIf P ops (Kp S w) oi v a →
      wpM P md ops Q S fuel (listed.setIfInBounds i true) (a.put oi.dst v) w → wpM P md ops Q S (fuel + 1) listed a w := by
  intro fuel
  induction fuel with
  | zero =>
    intro listed a w _ hr hy H
    refine ⟨fun h => (by rw [h] at hr; cases hr), fun j hj => ?_⟩
    by_cases hji : j = i
    · subst hji; exact hy.wpOp hi (Kp.refl S w) ⟨Kp.refl S w, H⟩
    · have := ready_mono hj hji
      rw [H.1] at this
      cases this
  | succ fuel ih =>
    intro listed a w hfree hr hy H
    refine ⟨fun h => (by rw [h] at hr; cases hr), fun j hj => ?_⟩
    by_cases hji : j = i
    · subst hji; exact hy.wpOp hi (Kp.refl S w) ⟨Kp.refl S w, H⟩
    · have h1 := H.2 j (ready_mono hj hji)
      obtain ⟨hjun, oj, hoj, hall⟩ := mem_ready.1 hj
      have hnot : ∀ e ∈ oj.after, Region.binds md e = true → e.on ≠ i := fun e he hb heq => by
        have h1 := hall e he hb
        have h0 := (mem_ready.1 hr).1
        rw [heq] at h1
        rcases Nat.lt_or_ge i listed.size with h' | h'
        · simp [h'] at h0 h1; rw [h0] at h1; cases h1
        · simp [Array.getElem?_eq_none h'] at h1
      have h2 := wpOp_putIf hoj (hfree j oj hoj hji hjun hnot) (fun cs b => hsel i oi cs b hi) (fun cs b => hsel j oj cs b hoj) hQ hy h1
      have hfree' : ∀ k ok, ops[k]? = some ok → k ≠ i → (listed.setIfInBounds j true).getD k true = false →
          (∀ e ∈ ok.after, Region.binds md e = true → e.on ≠ i) → oi.apart ops ok = true := fun k ok hk hki hun hno => by
        refine hfree k ok hk hki ?_ hno
        by_cases hjk : j = k
        · subst hjk; exact hjun
        · rw [getD_set_ne true hjk] at hun; exact hun
      refine wpOp_mono (fun a' w' h3 => ⟨h3.2.1, ih (listed.setIfInBounds j true) a' w' hfree' (ready_mono hr (Ne.symm hji)) (YieldsIf.weak h3.1 fun w'' k => Kp.trans h3.2.1 k) ?_⟩) h2
      rw [Array.setIfInBounds_comm _ _ hji]
      exact h3.2.2
/-- operations that may turn the world -/
def effB (o : Op) : Bool := match o with
  | .call c => match c.callee with
    | .builtin n => match n with
      | .len | .cap | .min | .max => false
      | _ => true
    | _ => true
  | .buildSlice .. | .alloc .. | .box .. | .store .. | .makeSlice .. => true
  | _ => false
/-- the operations one by one, in an order of ours -/
def heldS (P : Program) (ops : Array Oper) (Q : Exit → Act → World → Prop) (S : Nat → Prop) : List Oper → Act → World → Prop
  | [], a, w => Q .normal a w
  | o :: r, a, w => match effB o.op with
    | true => if Region.wanted o (yielded ops a.tmps) then o.wp P a w (fun a' w' => Kp S w w' ∧ heldS P ops Q S r a' w') Q else heldS P ops Q S r (a.put o.dst undef) w
    | false => if Region.wanted o (yielded ops a.tmps) then ∃ v, (∀ w', Kp S w w' → (execOp a.eval o).run P w' = .ok (.value v) w') ∧ heldS P ops Q S r (a.put o.dst v) w else heldS P ops Q S r (a.put o.dst undef) w
def heldB (ops : Array Oper) : List Nat → Array Bool → Bool
  | [], listed => (Region.ready .any ops listed).isEmpty
  | i :: r, listed => match ops[i]? with
    | none => false
    | some o => match effB o.op with
      | true => decide (Region.ready .any ops listed = [i]) && heldB ops r (listed.setIfInBounds i true)
      | false => (Region.ready .any ops listed).contains i && Region.free .any ops listed i && heldB ops r (listed.setIfInBounds i true)
def pickO (l : List Oper) : List Nat → List Oper
  | [] => []
  | i :: r => match l[i]? with
    | some o => o :: pickO l r
    | none => pickO l r
theorem heldS_ok (hsel : Region.noSelect ops = true) (hQ : ∀ c a w, ¬ Q (.panic c) a w) : ∀ (ord : List Nat) (listed : Array Bool) (a : Act) (w : World), heldB ops ord listed = true → heldS P ops Q S (pickO ops.toList ord) a w → wpM P .any ops Q S ord.length listed a w
  | [], listed, a, w, hB, h => ⟨List.isEmpty_iff.1 hB, h⟩
  | i :: r, listed, a, w, hB, h => by
    simp only [heldB] at hB
    cases ho : ops[i]? with
    | none => rw [ho] at hB; cases hB
    | some o =>
      have ho2 : ops.toList[i]? = some o := by rw [Array.getElem?_toList]; exact ho
      rw [ho] at hB
      simp only [pickO, ho2] at h
      cases he : effB o.op with
      | true =>
        simp only [he, Bool.and_eq_true, decide_eq_true_eq] at hB
        show (Region.ready .any ops listed = [] → Q .normal a w) ∧ ∀ j ∈ Region.ready .any ops listed, wpOp P ops Q j (fun a' w' => Kp S w w' ∧ wpM P .any ops Q S r.length (listed.setIfInBounds j true) a' w') a w
        refine ⟨fun h0 => absurd (hB.1 ▸ h0) (by simp), fun j hj => ?_⟩
        rw [hB.1] at hj
        have : j = i := by simpa using hj
        subst this
        simp only [heldS, he] at h
        unfold wpOp
        simp only [ho]
        split
        · rename_i hw
          rw [if_pos hw] at h
          exact .inl (Oper.wp_mono (fun a' w' h' => ⟨h'.1, heldS_ok hsel hQ r _ a' w' hB.2 h'.2⟩) h)
        · rename_i hw
          rw [if_neg hw] at h
          exact ⟨Kp.refl S w, heldS_ok hsel hQ r _ _ w hB.2 h⟩
      | false =>
        simp only [he, Bool.and_eq_true] at hB
        simp only [heldS, he] at h
        obtain ⟨⟨hr, hf⟩, hB'⟩ := hB
        by_cases hw : Region.wanted o (yielded ops a.tmps) = true
        · rw [if_pos hw] at h
          obtain ⟨v, hv, h2⟩ := h
          exact wpM_first ho (Region.noSelect_spec hsel) (fun c a w hq => (hQ c _ w hq).elim) _ listed a w (Region.free_spec ho hf) (by simpa using hr) (.inl ⟨hw, hv⟩) (heldS_ok hsel hQ r _ _ w hB' h2)
        · rw [if_neg hw] at h
          exact wpM_first ho (Region.noSelect_spec hsel) (fun c a w hq => (hQ c _ w hq).elim) _ listed a w (Region.free_spec ho hf) (by simpa using hr) (.inr ⟨by simpa using hw, rfl⟩) (heldS_ok hsel hQ r _ _ w hB' h)
theorem wp_region_order {id : Nat} {a : Act} {w : World} (ord : List Nat) (hm : P.follows .mixedOrders = true) (hsel : Region.noSelect ops = true) (hQ : ∀ c a w, ¬ Q (.panic c) a w) (hn : Nat.beq ord.length ops.size = true)
    (hB : heldB ops ord (Array.replicate ops.size false) = true) (h : heldS P ops Q S (pickO ops.toList ord) a { w with drawn := w.drawn + 1 }) : (Code.region id ops true).wp P Q a w := by
  refine wp_region_any hm ?_
  rw [← Nat.eq_of_beq_eq_true hn]
  exact wpAny_of_M (S := S) _ _ _ _ (heldS_ok hsel hQ ord _ a _ (by rw [Nat.eq_of_beq_eq_true hn]; exact hB) h)
end
end Eng
end Go.Proofs.YtopjmiklpnejmaaGreatDoor
