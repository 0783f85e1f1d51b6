import Derived.Test.YtopjmiklpnejmaaGreatDoorM5
import Derived.Test.YtopjmiklpnejmaaGreatDoorM4
/- Walks: the document's readers of texts, of lists, of structs. Printed by wip/tools/mkrf.py. -/
namespace Go.Proofs.YtopjmiklpnejmaaGreatDoor
open Eng Go.RowKit
/-- what is read of a list after k rounds -/
def clk {α : Type} (cur : Option (List UInt8)) (M : Nat) (p : Prs α) (k : Nat) : Option (List α × List UInt8) := (cur.bind (rLen M)).bind fun x => rRep p k x.2
theorem clk_succ {α : Type} (cur : Option (List UInt8)) (M : Nat) (p : Prs α) (k : Nat) : clk cur M p (k + 1) = (clk cur M p k).bind fun x => (p x.2).bind fun y => some (x.1 ++ [y.1], y.2) := by
  unfold clk
  cases cur.bind (rLen M) with
  | none => rfl
  | some x => exact rRep_snoc p k x.2
theorem clk_zero {α : Type} (cur : Option (List UInt8)) (M : Nat) (p : Prs α) : (clk cur M p 0).map (·.2) = (cur.bind (rLen M)).map (·.2) := by
  unfold clk; cases cur.bind (rLen M) <;> rfl
theorem clk_zero_nil {α : Type} {cur : Option (List UInt8)} {M : Nat} {p : Prs α} {xs : List α} {r : List UInt8} (h : clk cur M p 0 = some (xs, r)) : xs = [] := by
  unfold clk at h
  cases hq : cur.bind (rLen M) with
  | none => rw [hq] at h; cases h
  | some x => rw [hq] at h; simp only [Option.bind_some, rRep, Option.some.injEq, Prod.mk.injEq] at h; exact h.1.symm
theorem clk_none {α : Type} {cur : Option (List UInt8)} {M : Nat} {p : Prs α} {k n : Nat} (h : clk cur M p k = none) (hn : k ≤ n) : clk cur M p n = none := by
  unfold clk at *
  cases hq : cur.bind (rLen M) with
  | none => rfl
  | some x => rw [hq] at h; exact rRep_none h n hn
theorem clk_len {α : Type} {cur : Option (List UInt8)} {M : Nat} {p : Prs α} {k : Nat} {xs : List α} {r : List UInt8} (h : clk cur M p k = some (xs, r)) : xs.length = k := by
  unfold clk at h
  cases hq : cur.bind (rLen M) with
  | none => rw [hq] at h; cases h
  | some x => rw [hq] at h; exact rRep_len h
theorem clk_end {α : Type} {cur : Option (List UInt8)} {M : Nat} {p : Prs α} (hp : Min p M) (hM : 0 < M) {m : Nat} (h : ∀ x r, cur.bind (rLen M) = some (x, r) → I (m : Nat) = I x) : clk cur M p m = cur.bind (rList p) := by
  cases cur with
  | none => rfl
  | some l =>
    have h : ∀ x r, rLen M l = some (x, r) → I (m : Nat) = I x := h
    show (rLen M l).bind (fun x => rRep p m x.2) = rList p l
    unfold rList
    unfold rLen at h ⊢
    cases hn : rNum l with
    | none => rfl
    | some y =>
      obtain ⟨n, r⟩ := y
      rw [hn] at h
      simp only [Option.bind_some] at h ⊢
      by_cases h0 : n < 0
      · rw [if_pos (.inl h0), if_pos h0]; rfl
      · rw [if_neg h0]
        by_cases hb : ((r.length / M : Nat) : Int) < n
        · rw [if_pos (.inr hb)]
          cases hr : rRep p n.toNat r with
          | none => rfl
          | some z =>
            exfalso
            have h1 := rRep_min hp _ _ _ _ hr
            have h2 : n.toNat ≤ r.length / M := (Nat.le_div_iff_mul_le hM).2 (by omega)
            omega
        · rw [if_neg (fun q => q.elim h0 hb)] at h ⊢
          have := h n r rfl
          simp only [Value.int.injEq, true_and] at this
          have e : n.toNat = m := by omega
          rw [e]; rfl
section
variable {rb B : Nat} {a0 : Option Addr} {c0 : Nat} {l0 : List UInt8}
theorem rTxt_len (l : List UInt8) : rTxt l = (rLen 1 l).bind fun x => some (ofL (x.2.take x.1.toNat), x.2.drop x.1.toNat) := by
  unfold rTxt rLen
  cases rNum l with
  | none => rfl
  | some x =>
    simp only [Option.bind_some, Nat.div_one]
    split <;> rfl
set_option maxHeartbeats 1000000 in
theorem r_text (cur : Option (List UInt8)) (w : World) (hR : RfS w rb B a0 c0 l0 cur) (hB : B ≤ rb) : Ret Tryz.prog 202 #[pr rb] w (RfR rTxt vTxt gTxt rb B a0 c0 l0 cur w) := by
  have hbig := hR.sl.big
  refine entr (vs := [pr rb]) [0, 2, 3, 4, 10] tabok Tryz.func202 (by kernel_rfl) ?_
  refine cl (r_length 1 (by decide) (by decide) cur w hR hB) ?_
  rintro v w1 ⟨hA, R1, ⟨m, rfl, hm0, hml⟩, hok⟩
  have key : cur.bind rTxt = (cur.bind (rLen 1)).bind fun x => some (ofL (x.2.take x.1.toNat), x.2.drop x.1.toNat) := by
    cases cur with
    | none => rfl
    | some l => exact rTxt_len l
  obtain ⟨at1, hb1, hr1⟩ := R1.box
  refine ld (hb1.cell rfl) ?_
  cases h1 : cur.bind (rLen 1) with
  | none =>
    rw [h1] at key
    have key : cur.bind rTxt = none := key
    refine brt ?_
    rw [h1] at R1
    exact rt1 ⟨hA, by rw [key]; exact R1, ⟨_, rfl⟩, fun x r q => by rw [key] at q; cases q⟩
  | some xr =>
    obtain ⟨n, r⟩ := xr
    have e0 := hok _ _ h1
    simp only [vNum, Value.int.injEq, true_and] at e0
    subst e0
    rw [h1] at key hr1 hb1
    obtain ⟨k, rfl, hk, hrk⟩ := hr1 r rfl
    have key : cur.bind rTxt = some (ofL (r.take m), r.drop m) := key
    have hmr : m ≤ r.length := by
      cases cur with
      | none => cases h1
      | some l =>
        have h1 : rLen 1 l = some ((m : Int), r) := h1
        unfold rLen at h1
        obtain ⟨y, e1, e2⟩ := bind_some h1
        split at e2
        · cases e2
        · rename_i hno
          simp only [Option.some.injEq] at e2
          subst e2
          rw [Nat.div_one] at hno
          simp only at hno
          omega
    have hdl : r.length = l0.length - k := by rw [hrk, List.length_drop]
    refine brf ?_
    refine ds fun w2 h2 => ?_
    have hb2 := h2.box hb1
    have hS2 := R1.sl.bl h2.bl
    have hcap := R1.cap
    refine ld (hb2.cell rfl) ?_
    refine ld (hb2.cell rfl) ?_
    refine ld (hb2.cell rfl) ?_
    have hw : IntKind.i64.wrap ((k : Int) + (m : Int)) = ((k + m : Nat) : Int) := by rw [wrap_fit (by omega) (by omega)]; omega
    refine Eng.sl k (k + m) ?_ (h2 := by exact ⟨.i64, vi hw⟩)
    have hSm : Sl eB (· < B) w2 (if c0 = k then a0 else a0.map (·.add (k * 1))) (r.take m) := by
      rw [hrk]; exact slB_mid hS2 hcap
    refine cbl (n := k + m - k) hSm (by rw [List.length_take]; omega) (fun _ => trivial) ?_
    refine ld (hb2.cell rfl) ?_
    refine st hb2 fun w3 k3 hb3 => ?_
    rw [hw] at hb3
    refine rt1 ⟨(hA.thenBl h2.bl).trans k3.ap, by rw [key]; exact ⟨⟨((k + m : Nat) : Int), hb3, fun r' h => ⟨k + m, rfl, by omega, by rw [← Option.some.inj h, hrk, List.drop_drop]⟩⟩, hS2.kp (k3.kp fun i hi => by omega), hcap⟩, ⟨_, rfl⟩, fun x r' q => ?_⟩
    rw [key] at q
    simp only [Option.some.injEq, Prod.mk.injEq] at q
    rw [← q.1]
theorem r_typeOf (cur : Option (List UInt8)) (w : World) (hR : RfS w rb B a0 c0 l0 cur) (hB : B ≤ rb) : Ret Tryz.prog 227 #[pr rb] w (RfR rTy (vAgg eTy) gI2 rb B a0 c0 l0 cur w) := by
  have hlt := hR.lt
  refine entr (vs := [pr rb]) [0, 2, 3] tabok Tryz.func227 (by kernel_rfl) ?_
  refine al fun b1 w1 h1 => ?_
  have y1 := h1.blk
  have z1 := h1.size
  refine al fun b2 w2 h2 => ?_
  have y2 := h2.blk
  have z2 := h2.size
  have B02 := h1.bl.trans h2.bl
  have R2 := hR.bl B02 hB
  refine cl (r_number cur w2 R2 hB) ?_
  rintro v w3 ⟨A3, R3, ⟨n3, rfl⟩, k3⟩
  have z3 := A3.size
  have x3 := A3.box h2.box (ap_ne (by omega))
  refine st x3 fun w4 k4 x4 => ?_
  have R4 := R3.ap k4.ap hB fun g hg => by simp only [Option.some.injEq, Addr.mk.injEq, and_true] at hg; omega
  refine cl (r_number _ w4 R4 hB) ?_
  rintro v w5 ⟨A5, R5, ⟨n5, rfl⟩, k5⟩
  have z4 := k4.size
  have z5 := A5.size
  refine st (A5.box x4 (ap_ne (by omega))) fun w6 k6 x6 => ?_
  refine lda x6.at ?_
  have x16 := k6.box (A5.box (k4.box (A3.box (Bl.box h2.bl h1.box) (ap_ne (by omega))) (by omega)) (ap_ne (by omega))) (by omega)
  refine sta x16 fun w7 k7 x7 => ?_
  have z6 := k6.size
  have A07 : Ap w (some ⟨rb, 0, none⟩) w7 := (((((Ap.bl B02 _).trans A3).new k4 (by omega)).trans A5).new k6 (by omega)).new k7 (by omega)
  have R7 := (R5.ap k6.ap hB fun g hg => by simp only [Option.some.injEq, Addr.mk.injEq, and_true] at hg; omega).ap k7.ap hB fun g hg => by simp only [Option.some.injEq, Addr.mk.injEq, and_true] at hg; omega
  have e : cur.bind rTy = (cur.bind rNum).bind fun x => (rNum x.2).bind fun y => some (⟨x.1, y.1⟩, y.2) := by cases cur <;> rfl
  refine rtc x7.at ⟨A07, ?_, ⟨n3, n5, rfl⟩, fun t r q => ?_⟩
  · rw [e]
    cases h : cur.bind rNum with
    | none => rw [h] at R7; exact R7
    | some x =>
      rw [h] at R7
      have R7 : RfS w7 rb B a0 c0 l0 ((rNum x.2).map (·.2)) := R7
      simp only [Option.bind_some]
      cases h2 : rNum x.2 <;> (rw [h2] at R7; exact R7)
  · rw [e] at q
    obtain ⟨x, q1, q⟩ := bind_some q
    obtain ⟨y, q2, q⟩ := bind_some q
    simp only [Option.some.injEq, Prod.mk.injEq] at q
    obtain ⟨rfl, _⟩ := q
    have e2 := k3 x.1 x.2 q1
    have e3 := k5 y.1 y.2 (by rw [q1]; exact q2)
    simp only [vNum, Value.int.injEq, true_and] at e2 e3
    exact ⟨[I n3, I n5], rfl, by rw [e2, e3]; rfl⟩
set_option maxHeartbeats 1000000 in
theorem r_types (cur : Option (List UInt8)) (w : World) (hR : RfS w rb B a0 c0 l0 cur) (hB : B ≤ rb) : Ret Tryz.prog 228 #[pr rb] w (RfR (rList rTy) (vLst eTy) gLst rb B a0 c0 l0 cur w) := by
  have hbig := hR.sl.big
  have hlt := hR.lt
  refine entr (vs := [pr rb]) [0, 2, 3, 4, 5, 6, 18] tabok Tryz.func228 (by kernel_rfl) ?_
  refine cl (r_length 8 (by decide) (by decide) cur w hR hB) ?_
  rintro v w1 ⟨hA, R1, ⟨m, rfl, hm0, hml⟩, hok⟩
  have z1 := hA.size
  refine lpk m 5 [4] [(0, pr rb), (3, I m)] (fun k vals w' => Ap w (some ⟨rb, 0, none⟩) w' ∧ w1.heap.size ≤ w'.heap.size ∧ ∃ a j c, vals = [.slice a j c] ∧ RfS w' rb B a0 c0 l0 ((clk cur 8 rTy k).map (·.2)) ∧
    ∀ xs r', clk cur 8 rTy k = some (xs, r') → j = xs.length ∧ OwC eTy (fun b => w1.heap.size ≤ b) w' w1.heap.size 61 a c xs) ⟨hA, Nat.le_refl _, none, 0, 0, rfl, by rw [clk_zero]; exact R1, fun xs r' q => by rw [clk_zero_nil q]; exact ⟨rfl, OwC.nil ..⟩⟩ ?_
  rintro k vals w2 hk ⟨hA2, z2, a, j, c, rfl, R2, hI⟩ ih
  obtain ⟨at2, hb2, _⟩ := R2.box
  refine ldg (fun _ => hb2.cell rfl) ?_
  refine br (fun h => ?_) (fun h => ?_)
  · have hlt2 : k < m := by simp at h; omega
    obtain ⟨xs, r', hclk⟩ : ∃ xs r', clk cur 8 rTy k = some (xs, r') := by
      cases hq : clk cur 8 rTy k with
      | none => rw [hq] at h; simp at h
      | some x => exact ⟨x.1, x.2, rfl⟩
    have hxl := clk_len hclk
    obtain ⟨rfl, hO⟩ := hI _ _ hclk
    rw [hclk] at R2
    have R2 : RfS w2 rb B a0 c0 l0 (some r') := R2
    refine cl (r_typeOf (some r') w2 R2 hB) ?_
    rintro v w20 ⟨A20, R20, ⟨c1, c2, rfl⟩, k20⟩
    refine al fun b6 w6 h6 => ?_
    have y6 := h6.blk
    refine sta h6.box fun w3 k6 x6 => ?_
    have hE : RfR rTy (vAgg eTy) gI2 rb B a0 c0 l0 (some r') w2 (asV [I c1, I c2]) w3 := ⟨A20.thenBl (h6.wr k6), R20.bl (h6.wr k6) hB, ⟨_, _, rfl⟩, fun x r q => k20 x r q⟩
    refine lda x6.at ?_
    have hO3 := hO.rb hE.ap (by omega) fun i hi => by omega
    have z3 := hE.ap.size
    refine bs (cs := [I c1, I c2]) fun b4 w4 h4 => ?_
    have z4 := h4.size
    have y4 := h4.blk
    obtain ⟨ys, e1, e2, hOx, e4⟩ := (hO3.bl h4.bl).row
    refine ap hOx (.inr ⟨b4, 0, rfl, h4.box.at⟩) (by omega) (fun a5 c5 w5 hO5 hA5 hf5 => ?_)
    have hlo : ∀ g, a = some ⟨g, 0, none⟩ → w1.heap.size ≤ g := fun g hg => (hO.lt hg).1
    have hA05 : Ap w (some ⟨rb, 0, none⟩) w5 := ((hA2.trans hE.ap).thenBl h4.bl).ap hA5 fun g hg => by have := hlo g hg; omega
    have R5 := (hE.st.bl h4.bl hB).ap hA5 hB fun g hg => by have := hlo g hg; omega
    have z5 := hA5.size
    have es := clk_succ cur 8 rTy k
    rw [hclk] at es
    have es : clk cur 8 rTy (k + 1) = (rTy r').bind fun y => some (xs ++ [y.1], y.2) := es
    refine ih hlt2 ⟨hA05, by omega, a5, _, c5, rfl, ?_, fun xs' r2 q => ?_⟩
    · rw [es]
      have R5 : RfS w5 rb B a0 c0 l0 ((rTy r').map (·.2)) := R5
      cases hp : rTy r' <;> (rw [hp] at R5; exact R5)
    · rw [es] at q
      obtain ⟨y, hp, q⟩ := bind_some q
      simp only [Option.some.injEq, Prod.mk.injEq] at q
      obtain ⟨rfl, rfl⟩ := q
      have hv := hE.ok y.1 y.2 hp
      have hrel : (eTy).rel (fun b => w1.heap.size ≤ b ∧ a ≠ some ⟨b, 0, none⟩ ∧ b < w4.heap.size) w4 [I c1, I c2] y.1 := by
        refine (eTy).sub (S := fun b => w2.heap.size ≤ b ∧ b < w3.heap.size) (fun b hb => ⟨by omega, fun e => by have := (hO.lt e).2; omega, by omega⟩) ((eTy).kp (h4.bl.kp _) ?_)
        obtain ⟨cs, e, hr2⟩ := hv
        rw [agg_inj e]; exact hr2
      exact ⟨by rw [List.length_append]; rfl, OwC.push e1 e2 e4 hO5 hA5 hf5 hrel⟩
  · have hfin : clk cur 8 rTy k = cur.bind (rList rTy) := by
      have he := clk_end min_ty (by decide) hok
      by_cases hkm : k < m
      · cases hq : clk cur 8 rTy k with
        | none => rw [← he, clk_none hq hk]
        | some x => rw [hq] at h; simp at h; omega
      · obtain rfl : k = m := by omega
        exact he
    refine rt1 ⟨hA2, by rw [← hfin]; exact R2, ⟨_, _, _, rfl⟩, fun xs r q => ?_⟩
    rw [← hfin] at q
    obtain ⟨rfl, hO⟩ := hI _ _ q
    have := clk_len q
    exact ⟨_, _, rfl, (hO.sl2 (by omega)).sub fun i hi => ⟨by omega, hi.2⟩⟩
set_option maxHeartbeats 1000000 in
theorem r_fields (cur : Option (List UInt8)) (w : World) (hR : RfS w rb B a0 c0 l0 cur) (hB : B ≤ rb) : Ret Tryz.prog 204 #[pr rb] w (RfR (rList rFld) (vLst eFld) gLst rb B a0 c0 l0 cur w) := by
  have hbig := hR.sl.big
  have hlt := hR.lt
  refine entr (vs := [pr rb]) [0, 2, 3, 4, 5, 6, 18] tabok Tryz.func204 (by kernel_rfl) ?_
  refine cl (r_length 12 (by decide) (by decide) cur w hR hB) ?_
  rintro v w1 ⟨hA, R1, ⟨m, rfl, hm0, hml⟩, hok⟩
  have z1 := hA.size
  refine lpk m 5 [4] [(0, pr rb), (3, I m)] (fun k vals w' => Ap w (some ⟨rb, 0, none⟩) w' ∧ w1.heap.size ≤ w'.heap.size ∧ ∃ a j c, vals = [.slice a j c] ∧ RfS w' rb B a0 c0 l0 ((clk cur 12 rFld k).map (·.2)) ∧
    ∀ xs r', clk cur 12 rFld k = some (xs, r') → j = xs.length ∧ OwC eFld (fun b => w1.heap.size ≤ b) w' w1.heap.size 86 a c xs) ⟨hA, Nat.le_refl _, none, 0, 0, rfl, by rw [clk_zero]; exact R1, fun xs r' q => by rw [clk_zero_nil q]; exact ⟨rfl, OwC.nil ..⟩⟩ ?_
  rintro k vals w2 hk ⟨hA2, z2, a, j, c, rfl, R2, hI⟩ ih
  obtain ⟨at2, hb2, _⟩ := R2.box
  refine ldg (fun _ => hb2.cell rfl) ?_
  refine br (fun h => ?_) (fun h => ?_)
  · have hlt2 : k < m := by simp at h; omega
    obtain ⟨xs, r', hclk⟩ : ∃ xs r', clk cur 12 rFld k = some (xs, r') := by
      cases hq : clk cur 12 rFld k with
      | none => rw [hq] at h; simp at h
      | some x => exact ⟨x.1, x.2, rfl⟩
    have hxl := clk_len hclk
    obtain ⟨rfl, hO⟩ := hI _ _ hclk
    rw [hclk] at R2
    have R2 : RfS w2 rb B a0 c0 l0 (some r') := R2
    refine al fun b6 w20 h6 => ?_
    have y6 := h6.blk
    have z20 := h6.size
    refine cl (r_number (some r') w20 (R2.bl h6.bl hB) hB) ?_
    rintro v w21 ⟨A21, R21, ⟨c1, rfl⟩, k21⟩
    have z21 := A21.size
    refine st (A21.box h6.box (ap_ne (by omega))) fun w22 k22 x22 => ?_
    have z22 := k22.size
    have R22 := R21.ap k22.ap hB fun g hg => by simp only [Option.some.injEq, Addr.mk.injEq, and_true] at hg; omega
    refine cl (r_typeOf _ w22 R22 hB) ?_
    rintro v w23 ⟨A23, R23, ⟨c2, c3, rfl⟩, k23⟩
    have z23 := A23.size
    refine sta (A23.box x22 (ap_ne (by omega))) fun w3 k3 x3 => ?_
    have hE : RfR rFld (vAgg eFld) gI3 rb B a0 c0 l0 (some r') w2 (asV [I c1, I c2, I c3]) w3 := by
      have R3 := R23.ap k3.ap hB fun g hg => by simp only [Option.some.injEq, Addr.mk.injEq, and_true] at hg; omega
      refine ⟨((((Ap.bl h6.bl _).trans A21).new k22 (by omega)).trans A23).new k3 (by omega), ?_, ⟨_, _, _, rfl⟩, fun x r q => ?_⟩
      · have R3 : RfS w3 rb B a0 c0 l0 ((((rNum r').map (·.2)).bind rTy).map (·.2)) := R3
        show RfS w3 rb B a0 c0 l0 ((rFld r').map (·.2))
        unfold rFld
        cases h1 : rNum r' with
        | none => rw [h1] at R3; exact R3
        | some x =>
          rw [h1] at R3
          have R3 : RfS w3 rb B a0 c0 l0 ((rTy x.2).map (·.2)) := R3
          simp only [Option.bind_some]
          cases h2 : rTy x.2 <;> (rw [h2] at R3; exact R3)
      · have q : rFld r' = some (x, r) := q
        obtain ⟨u1, q1, q⟩ := bind_some q
        obtain ⟨u2, q2, q⟩ := bind_some q
        simp only [Option.some.injEq, Prod.mk.injEq] at q
        obtain ⟨rfl, _⟩ := q
        have e2 := k21 u1.1 u1.2 q1
        obtain ⟨cs, e3, e4⟩ := k23 u2.1 u2.2 (by show ((rNum r').map (·.2)).bind rTy = _; rw [q1]; exact q2)
        simp only [vNum, Value.int.injEq, true_and] at e2
        have e4 : cs = encTy u2.1 := e4
        have e5 : [I c2, I c3] = encTy u2.1 := (agg_inj e3).trans e4
        exact ⟨[I c1, I c2, I c3], rfl, by rw [e2]; exact congrArg (fun l => I u1.1 :: l) e5⟩
    refine lda x3.at ?_
    have hO3 := hO.rb hE.ap (by omega) fun i hi => by omega
    have z3 := hE.ap.size
    refine bs (cs := [I c1, I c2, I c3]) fun b4 w4 h4 => ?_
    have z4 := h4.size
    have y4 := h4.blk
    obtain ⟨ys, e1, e2, hOx, e4⟩ := (hO3.bl h4.bl).row
    refine ap hOx (.inr ⟨b4, 0, rfl, h4.box.at⟩) (by omega) (fun a5 c5 w5 hO5 hA5 hf5 => ?_)
    have hlo : ∀ g, a = some ⟨g, 0, none⟩ → w1.heap.size ≤ g := fun g hg => (hO.lt hg).1
    have hA05 : Ap w (some ⟨rb, 0, none⟩) w5 := ((hA2.trans hE.ap).thenBl h4.bl).ap hA5 fun g hg => by have := hlo g hg; omega
    have R5 := (hE.st.bl h4.bl hB).ap hA5 hB fun g hg => by have := hlo g hg; omega
    have z5 := hA5.size
    have es := clk_succ cur 12 rFld k
    rw [hclk] at es
    have es : clk cur 12 rFld (k + 1) = (rFld r').bind fun y => some (xs ++ [y.1], y.2) := es
    refine ih hlt2 ⟨hA05, by omega, a5, _, c5, rfl, ?_, fun xs' r2 q => ?_⟩
    · rw [es]
      have R5 : RfS w5 rb B a0 c0 l0 ((rFld r').map (·.2)) := R5
      cases hp : rFld r' <;> (rw [hp] at R5; exact R5)
    · rw [es] at q
      obtain ⟨y, hp, q⟩ := bind_some q
      simp only [Option.some.injEq, Prod.mk.injEq] at q
      obtain ⟨rfl, rfl⟩ := q
      have hv := hE.ok y.1 y.2 hp
      have hrel : (eFld).rel (fun b => w1.heap.size ≤ b ∧ a ≠ some ⟨b, 0, none⟩ ∧ b < w4.heap.size) w4 [I c1, I c2, I c3] y.1 := by
        refine (eFld).sub (S := fun b => w2.heap.size ≤ b ∧ b < w3.heap.size) (fun b hb => ⟨by omega, fun e => by have := (hO.lt e).2; omega, by omega⟩) ((eFld).kp (h4.bl.kp _) ?_)
        obtain ⟨cs, e, hr2⟩ := hv
        rw [agg_inj e]; exact hr2
      exact ⟨by rw [List.length_append]; rfl, OwC.push e1 e2 e4 hO5 hA5 hf5 hrel⟩
  · have hfin : clk cur 12 rFld k = cur.bind (rList rFld) := by
      have he := clk_end min_fld (by decide) hok
      by_cases hkm : k < m
      · cases hq : clk cur 12 rFld k with
        | none => rw [← he, clk_none hq hk]
        | some x => rw [hq] at h; simp at h; omega
      · obtain rfl : k = m := by omega
        exact he
    refine rt1 ⟨hA2, by rw [← hfin]; exact R2, ⟨_, _, _, rfl⟩, fun xs r q => ?_⟩
    rw [← hfin] at q
    obtain ⟨rfl, hO⟩ := hI _ _ q
    have := clk_len q
    exact ⟨_, _, rfl, (hO.sl2 (by omega)).sub fun i hi => ⟨by omega, hi.2⟩⟩
set_option maxHeartbeats 2000000 in
theorem r_method (cur : Option (List UInt8)) (w : World) (hR : RfS w rb B a0 c0 l0 cur) (hB : B ≤ rb) : Ret Tryz.prog 205 #[pr rb] w (RfR rMth (vAgg eMth) gMth rb B a0 c0 l0 cur w) := by
  have hbig := hR.sl.big
  have hlt := hR.lt
  refine entr (vs := [pr rb]) [0, 2, 3, 4, 5, 6, 33] tabok Tryz.func205 (by kernel_rfl) ?_
  refine al fun b2 w1 h1 => ?_
  have y1 := h1.blk
  have z1 := h1.size
  refine al fun b3 w2 h2 => ?_
  have y2 := h2.blk
  have z2 := h2.size
  have A02 : Ap w (some ⟨rb, 0, none⟩) w2 := Ap.bl (h1.bl.trans h2.bl) _
  have o2 := Bl.box h2.bl h1.box
  have x2 := h2.box
  have R2 := hR.bl (h1.bl.trans h2.bl) hB
  refine cl (r_number _ w2 R2 hB) ?_
  rintro v w2a ⟨A2a, R2a, ⟨n1, rfl⟩, k2a⟩
  have z2a := A2a.size
  refine st (A2a.box x2 (ap_ne (by omega))) fun w3 k2 x3 => ?_
  have z3 := k2.size
  have A03 : Ap w (some ⟨rb, 0, none⟩) w3 := (A02.trans A2a).new k2 (by omega)
  have o3 := k2.box (A2a.box o2 (ap_ne (by omega))) (by omega)
  have R3 := R2a.ap k2.ap hB fun g hg => by simp only [Option.some.injEq, Addr.mk.injEq, and_true] at hg; omega
  refine cl (r_number _ w3 R3 hB) ?_
  rintro v w3a ⟨A3a, R3a, ⟨n2, rfl⟩, k3a⟩
  have z3a := A3a.size
  refine st (A3a.box x3 (ap_ne (by omega))) fun w4 k3 x4 => ?_
  have z4 := k3.size
  have A04 : Ap w (some ⟨rb, 0, none⟩) w4 := (A03.trans A3a).new k3 (by omega)
  have o4 := k3.box (A3a.box o3 (ap_ne (by omega))) (by omega)
  have R4 := R3a.ap k3.ap hB fun g hg => by simp only [Option.some.injEq, Addr.mk.injEq, and_true] at hg; omega
  refine cl (r_types _ w4 R4 hB) ?_
  rintro v w4a ⟨A4a, R4a, ⟨p3, j3, q3, rfl⟩, k4a⟩
  have z4a := A4a.size
  refine st (A4a.box x4 (ap_ne (by omega))) fun w5 k4 x5 => ?_
  have z5 := k4.size
  have A05 : Ap w (some ⟨rb, 0, none⟩) w5 := (A04.trans A4a).new k4 (by omega)
  have o5 := k4.box (A4a.box o4 (ap_ne (by omega))) (by omega)
  have R5 := R4a.ap k4.ap hB fun g hg => by simp only [Option.some.injEq, Addr.mk.injEq, and_true] at hg; omega
  refine cl (r_types _ w5 R5 hB) ?_
  rintro v w5a ⟨A5a, R5a, ⟨p4, j4, q4, rfl⟩, k5a⟩
  have z5a := A5a.size
  refine st (A5a.box x5 (ap_ne (by omega))) fun w6 k5 x6 => ?_
  have z6 := k5.size
  have A06 : Ap w (some ⟨rb, 0, none⟩) w6 := (A05.trans A5a).new k5 (by omega)
  have o6 := k5.box (A5a.box o5 (ap_ne (by omega))) (by omega)
  have R6 := R5a.ap k5.ap hB fun g hg => by simp only [Option.some.injEq, Addr.mk.injEq, and_true] at hg; omega
  refine cl (r_typeOf _ w6 R6 hB) ?_
  rintro v w6a ⟨A6a, R6a, ⟨n5, n6, rfl⟩, k6a⟩
  have z6a := A6a.size
  refine sta (A6a.box x6 (ap_ne (by omega))) fun w7 k6 x7 => ?_
  have z7 := k6.size
  have A07 : Ap w (some ⟨rb, 0, none⟩) w7 := (A06.trans A6a).new k6 (by omega)
  have o7 := k6.box (A6a.box o6 (ap_ne (by omega))) (by omega)
  have R7 := R6a.ap k6.ap hB fun g hg => by simp only [Option.some.injEq, Addr.mk.injEq, and_true] at hg; omega
  refine cl (r_length 12 (by decide) (by decide) _ w7 R7 hB) ?_
  rintro v w8 ⟨A7a, R8, ⟨m, rfl, hm0, hml⟩, hok⟩
  have z8 := A7a.size
  have A08 := A07.trans A7a
  have o8 := A7a.box o7 (ap_ne (by omega))
  have x8 := A7a.box x7 (ap_ne (by omega))
  generalize hcur : Option.map (·.2) (Option.bind (Option.map (·.2) (Option.bind (Option.map (·.2) (Option.bind (Option.map (·.2) (Option.bind (Option.map (·.2) (Option.bind cur rNum)) rNum)) (rList rTy))) (rList rTy))) rTy) = cu at *
  refine lpk m 5 [] [(0, pr rb), (2, pr b2), (3, pr b3), (4, I m)] (fun k vals w' => vals = [] ∧ Ap w (some ⟨rb, 0, none⟩) w' ∧ w8.heap.size ≤ w'.heap.size ∧ (∀ i, b3 < i → i < w8.heap.size → w'.heap[i]? = w8.heap[i]?) ∧ Box w' b2 64 [I 0, I 0, .slice none 0 0, .slice none 0 0, I 0, I 0, .slice none 0 0] ∧ ∃ a j c, Box w' b3 64 [I n1, I n2, .slice p3 j3 q3, .slice p4 j4 q4, I n5, I n6, .slice a j c] ∧ RfS w' rb B a0 c0 l0 ((clk cu 12 rIns k).map (·.2)) ∧
    ∀ xs r', clk cu 12 rIns k = some (xs, r') → j = xs.length ∧ OwC eIns (fun b => w8.heap.size ≤ b) w' w8.heap.size 89 a c xs) ⟨rfl, A08, Nat.le_refl _, fun _ _ _ => rfl, o8, none, 0, 0, x8, by rw [clk_zero]; exact R8, fun xs r' q => by rw [clk_zero_nil q]; exact ⟨rfl, OwC.nil ..⟩⟩ ?_
  rintro k vals v2 hk ⟨rfl, hA2, z2, hkeep, ho2, a, j, c, hx2, R2, hI⟩ ih
  obtain ⟨at2, hb2, _⟩ := R2.box
  refine ldg (fun _ => hb2.cell rfl) ?_
  refine br (fun h => ?_) (fun h => ?_)
  · have hlt2 : k < m := by simp at h; omega
    obtain ⟨xs, r', hclk⟩ : ∃ xs r', clk cu 12 rIns k = some (xs, r') := by
      cases hq : clk cu 12 rIns k with
      | none => rw [hq] at h; simp at h
      | some x => exact ⟨x.1, x.2, rfl⟩
    have hxl := clk_len hclk
    obtain ⟨rfl, hO⟩ := hI _ _ hclk
    rw [hclk] at R2
    have R2 : RfS v2 rb B a0 c0 l0 (some r') := R2
    refine al fun b6 v20 h6 => ?_
    have y6 := h6.blk
    have z20 := h6.size
    refine cl (r_number (some r') v20 (R2.bl h6.bl hB) hB) ?_
    rintro v v21 ⟨A21, R21, ⟨d1, rfl⟩, k21⟩
    have z21 := A21.size
    refine st (A21.box h6.box (ap_ne (by omega))) fun v22 k22 x22 => ?_
    have z22 := k22.size
    have R22 := R21.ap k22.ap hB fun g hg => by simp only [Option.some.injEq, Addr.mk.injEq, and_true] at hg; omega
    refine cl (r_number _ v22 R22 hB) ?_
    rintro v v23 ⟨A23, R23, ⟨d2, rfl⟩, k23⟩
    have z23 := A23.size
    refine st (A23.box x22 (ap_ne (by omega))) fun v24 k24 x24 => ?_
    have z24 := k24.size
    have R24 := R23.ap k24.ap hB fun g hg => by simp only [Option.some.injEq, Addr.mk.injEq, and_true] at hg; omega
    refine cl (r_number _ v24 R24 hB) ?_
    rintro v v25 ⟨A25, R25, ⟨d3, rfl⟩, k25⟩
    have z25 := A25.size
    refine st (A25.box x24 (ap_ne (by omega))) fun v3 k3 x3 => ?_
    have hE : RfR rIns (vAgg eIns) gI3 rb B a0 c0 l0 (some r') v2 (asV [I d1, I d2, I d3]) v3 := by
      have R3 := R25.ap k3.ap hB fun g hg => by simp only [Option.some.injEq, Addr.mk.injEq, and_true] at hg; omega
      refine ⟨((((((Ap.bl h6.bl _).trans A21).new k22 (by omega)).trans A23).new k24 (by omega)).trans A25).new k3 (by omega), ?_, ⟨_, _, _, rfl⟩, fun x r q => ?_⟩
      · have R3 : RfS v3 rb B a0 c0 l0 ((((((rNum r').map (·.2)).bind rNum).map (·.2)).bind rNum).map (·.2)) := R3
        show RfS v3 rb B a0 c0 l0 ((rIns r').map (·.2))
        unfold rIns
        cases h1 : rNum r' with
        | none => rw [h1] at R3; exact R3
        | some x =>
          rw [h1] at R3
          have R3 : RfS v3 rb B a0 c0 l0 ((((rNum x.2).map (·.2)).bind rNum).map (·.2)) := R3
          simp only [Option.bind_some]
          cases h2 : rNum x.2 with
          | none => rw [h2] at R3; exact R3
          | some y =>
            rw [h2] at R3
            have R3 : RfS v3 rb B a0 c0 l0 ((rNum y.2).map (·.2)) := R3
            simp only [Option.bind_some]
            cases h3 : rNum y.2 <;> (rw [h3] at R3; exact R3)
      · have q : rIns r' = some (x, r) := q
        obtain ⟨u1, q1, q⟩ := bind_some q
        obtain ⟨u2, q2, q⟩ := bind_some q
        obtain ⟨u3, q3, q⟩ := bind_some q
        simp only [Option.some.injEq, Prod.mk.injEq] at q
        obtain ⟨rfl, _⟩ := q
        have c1 : ((rNum r').map (·.2)).bind rNum = some u2 := by rw [q1]; exact q2
        have e2 := k21 u1.1 u1.2 q1
        have e3 := k23 u2.1 u2.2 c1
        have e4 := k25 u3.1 u3.2 (by show (((((rNum r').map (·.2)).bind rNum).map (·.2)).bind rNum) = _; rw [c1]; exact q3)
        simp only [vNum, Value.int.injEq, true_and] at e2 e3 e4
        exact ⟨[I d1, I d2, I d3], rfl, by rw [e2, e3, e4]; rfl⟩
    have hO3 := hO.rb hE.ap (by omega) fun i hi => by omega
    have z3 := hE.ap.size
    have hx3 := hE.ap.box hx2 (ap_ne (by omega))
    refine ld (hx3.cell rfl) ?_
    refine lda x3.at ?_
    refine bs (cs := [I d1, I d2, I d3]) fun b4 v4 h4 => ?_
    have z4 := h4.size
    have y4 := h4.blk
    obtain ⟨ys, e1, e2, hOx, e4⟩ := (hO3.bl h4.bl).row
    refine ap hOx (.inr ⟨b4, 0, rfl, h4.box.at⟩) (by omega) (fun a5 c5 v5 hO5 hA5 hf5 => ?_)
    have hlo : ∀ g, a = some ⟨g, 0, none⟩ → w8.heap.size ≤ g := fun g hg => (hO.lt hg).1
    have nlo : ∀ i, i < w8.heap.size → a ≠ some ⟨i, 0, none⟩ := fun i hi e => by have := hlo i e; omega
    have hx5 := hA5.box (Bl.box h4.bl hx3) (nlo _ (by omega))
    have ho5 := hA5.box (Bl.box h4.bl (hE.ap.box ho2 (ap_ne (by omega)))) (nlo _ (by omega))
    have z5 := hA5.size
    refine st hx5 fun v6 k6 hx6 => ?_
    have z6 := k6.size
    have hA06 : Ap w (some ⟨rb, 0, none⟩) v6 := (((hA2.trans hE.ap).thenBl h4.bl).ap hA5 fun g hg => by have := hlo g hg; omega).new k6 (by omega)
    have R6 := ((hE.st.bl h4.bl hB).ap hA5 hB fun g hg => by have := hlo g hg; omega).ap k6.ap hB fun g hg => by simp only [Option.some.injEq, Addr.mk.injEq, and_true] at hg; omega
    have es := clk_succ cu 12 rIns k
    rw [hclk] at es
    have es : clk cu 12 rIns (k + 1) = (rIns r').bind fun y => some (xs ++ [y.1], y.2) := es
    refine ih hlt2 ⟨rfl, hA06, by omega, fun i h1 h2 => ?_, k6.box ho5 (by omega), a5, _, c5, hx6, ?_, fun xs' r2 q => ?_⟩
    · exact (k6.block i (by omega)).trans ((hA5.block i (by omega) (nlo i h2)).trans ((h4.bl.block i (by omega)).trans ((hE.ap.block i (by omega) (ap_ne (by omega))).trans (hkeep i h1 h2))))
    · rw [es]
      have R6 : RfS v6 rb B a0 c0 l0 ((rIns r').map (·.2)) := R6
      cases hp : rIns r' <;> (rw [hp] at R6; exact R6)
    · rw [es] at q
      obtain ⟨y, hp, q⟩ := bind_some q
      simp only [Option.some.injEq, Prod.mk.injEq] at q
      obtain ⟨rfl, rfl⟩ := q
      have hv := hE.ok y.1 y.2 hp
      have hrel : (eIns).rel (fun b => w8.heap.size ≤ b ∧ a ≠ some ⟨b, 0, none⟩ ∧ b < v4.heap.size) v4 [I d1, I d2, I d3] y.1 := by
        refine (eIns).sub (S := fun b => v2.heap.size ≤ b ∧ b < v3.heap.size) (fun b hb => ⟨by omega, fun e => by have := (hO.lt e).2; omega, by omega⟩) ((eIns).kp (h4.bl.kp _) ?_)
        obtain ⟨cs, e, hr2⟩ := hv
        rw [agg_inj e]; exact hr2
      exact ⟨by rw [List.length_append]; rfl, (OwC.push e1 e2 e4 hO5 hA5 hf5 hrel).wr k6 (by omega) fun i hi => by omega⟩
  have hfin : clk cu 12 rIns k = (cu).bind (rList rIns) := by
    have he := clk_end min_ins (by decide) hok
    by_cases hkm : k < m
    · cases hq : clk cu 12 rIns k with
      | none => rw [← he, clk_none hq hk]
      | some x => rw [hq] at h; simp at h; omega
    · obtain rfl : k = m := by omega
      exact he
  clear ih h
  rw [hfin] at R2
  have hsl : ∀ xs r, (cu).bind (rList rIns) = some (xs, r) → j = xs.length ∧ Sl eIns (fun i => w8.heap.size ≤ i ∧ i < v2.heap.size) v2 a xs := fun xs r q => by
    rw [← hfin] at q
    obtain ⟨h1, hO⟩ := hI _ _ q
    have := clk_len q
    exact ⟨h1, hO.sl2 (by omega)⟩
  refine lda hx2.at ?_
  refine sta ho2 fun w10 k10 x10 => ?_
  have z10 := k10.size
  have A010 := hA2.new k10 (by omega)
  have R10 := R2.ap k10.ap hB fun g hg => by simp only [Option.some.injEq, Addr.mk.injEq, and_true] at hg; omega
  have e : cur.bind rMth = (cur.bind rNum).bind fun x => (rNum x.2).bind fun y => (rList rTy y.2).bind fun p => (rList rTy p.2).bind fun q => (rTy q.2).bind fun t => (rList rIns t.2).bind fun c => some (⟨x.1, y.1, p.1, q.1, t.1, c.1⟩, c.2) := by cases cur <;> rfl
  refine rtc x10.at ⟨A010, ?_, ⟨n1, n2, p3, j3, q3, p4, j4, q4, n5, n6, a, j, c, rfl⟩, fun t r q => ?_⟩
  · rw [← hcur] at R10
    rw [e]
    cases h0 : cur.bind rNum with
    | none => rw [h0] at R10; exact R10
    | some x0 =>
      rw [h0] at R10
      have R10 : RfS w10 rb B a0 c0 l0 (((((((((((((((rNum) x0.2).map (·.2))).bind (rList rTy)).map (·.2))).bind (rList rTy)).map (·.2))).bind (rTy)).map (·.2))).bind (rList rIns)).map (·.2)) := R10
      simp only [Option.bind_some]
      cases h1 : (rNum) x0.2 with
      | none => rw [h1] at R10; exact R10
      | some x1 =>
        rw [h1] at R10
        have R10 : RfS w10 rb B a0 c0 l0 ((((((((((((rList rTy) x1.2).map (·.2))).bind (rList rTy)).map (·.2))).bind (rTy)).map (·.2))).bind (rList rIns)).map (·.2)) := R10
        simp only [Option.bind_some]
        cases h2 : (rList rTy) x1.2 with
        | none => rw [h2] at R10; exact R10
        | some x2 =>
          rw [h2] at R10
          have R10 : RfS w10 rb B a0 c0 l0 (((((((((rList rTy) x2.2).map (·.2))).bind (rTy)).map (·.2))).bind (rList rIns)).map (·.2)) := R10
          simp only [Option.bind_some]
          cases h3 : (rList rTy) x2.2 with
          | none => rw [h3] at R10; exact R10
          | some x3 =>
            rw [h3] at R10
            have R10 : RfS w10 rb B a0 c0 l0 ((((((rTy) x3.2).map (·.2))).bind (rList rIns)).map (·.2)) := R10
            simp only [Option.bind_some]
            cases h4 : (rTy) x3.2 with
            | none => rw [h4] at R10; exact R10
            | some x4 =>
              rw [h4] at R10
              have R10 : RfS w10 rb B a0 c0 l0 (((rList rIns) x4.2).map (·.2)) := R10
              simp only [Option.bind_some]
              cases h5 : (rList rIns) x4.2 <;> (rw [h5] at R10; exact R10)
  · rw [e] at q
    obtain ⟨u1, q1, q⟩ := bind_some q
    obtain ⟨u2, q2, q⟩ := bind_some q
    obtain ⟨u3, q3', q⟩ := bind_some q
    obtain ⟨u4, q4', q⟩ := bind_some q
    obtain ⟨u5, q5, q⟩ := bind_some q
    obtain ⟨u6, q6, q⟩ := bind_some q
    simp only [Option.some.injEq, Prod.mk.injEq] at q
    obtain ⟨rfl, _⟩ := q
    have c1 : ((cur.bind rNum).map (·.2)).bind rNum = some u2 := by rw [q1]; exact q2
    have c2 : ((((cur.bind rNum).map (·.2)).bind rNum).map (·.2)).bind (rList rTy) = some u3 := by rw [c1]; exact q3'
    have c3 : ((((((cur.bind rNum).map (·.2)).bind rNum).map (·.2)).bind (rList rTy)).map (·.2)).bind (rList rTy) = some u4 := by rw [c2]; exact q4'
    have c4 : ((((((((cur.bind rNum).map (·.2)).bind rNum).map (·.2)).bind (rList rTy)).map (·.2)).bind (rList rTy)).map (·.2)).bind rTy = some u5 := by rw [c3]; exact q5
    have ecu : cu = some u5.2 := by rw [← hcur, c4]; rfl
    have e2 := k2a u1.1 u1.2 q1
    have e3 := k3a u2.1 u2.2 c1
    obtain ⟨a4, d4, e4, S4⟩ := k4a u3.1 u3.2 c2
    obtain ⟨a5, d5, e5, S5⟩ := k5a u4.1 u4.2 c3
    obtain ⟨cs, e6, e7⟩ := k6a u5.1 u5.2 c4
    obtain ⟨e8, S6⟩ := hsl u6.1 u6.2 (by rw [ecu]; exact q6)
    simp only [vNum, Value.int.injEq, true_and] at e2 e3
    obtain ⟨rfl, rfl, rfl⟩ := Value.slice.inj e4
    obtain ⟨rfl, rfl, rfl⟩ := Value.slice.inj e5
    have e7 : cs = encTy u5.1 := e7
    have e9 : [I n5, I n6] = encTy u5.1 := (agg_inj e6).trans e7
    simp only [encTy, List.cons.injEq, Value.int.injEq, true_and, and_true] at e9
    obtain ⟨rfl, rfl⟩ := e9
    subst e2 e3 e8
    have K8 : ∀ i, b3 < i → i < w8.heap.size → w10.heap[i]? = w8.heap[i]? := fun i h1 h2 => (k10.block i (by omega)).trans (hkeep i h1 h2)
    have K5 : ∀ i, b3 < i → i < w5.heap.size → w10.heap[i]? = w5.heap[i]? := fun i h1 h2 => (K8 i h1 (by omega)).trans ((A7a.block i (by omega) (ap_ne (by omega))).trans ((k6.block i (by omega)).trans ((A6a.block i (by omega) (ap_ne (by omega))).trans ((k5.block i (by omega)).trans (A5a.block i h2 (ap_ne (by omega)))))))
    have K5a : ∀ i, b3 < i → i < w5a.heap.size → w10.heap[i]? = w5a.heap[i]? := fun i h1 h2 => (K8 i h1 (by omega)).trans ((A7a.block i (by omega) (ap_ne (by omega))).trans ((k6.block i (by omega)).trans ((A6a.block i (by omega) (ap_ne (by omega))).trans (k5.block i (by omega)))))
    have KP : ∀ {wx : World} {S : Nat → Prop}, (∀ i, b3 < i → i < wx.heap.size → w10.heap[i]? = wx.heap[i]?) → (∀ i, S i → b3 < i ∧ i < wx.heap.size) → Kp S wx w10 := fun K hS b o v hs hv => by
      have h1 := hS b hs
      rw [World.cell?_of_block (K b h1.1 h1.2)]; exact hv
    have S4 : Sl eTy (fun i => w.heap.size ≤ i ∧ i < w10.heap.size) w10 p3 u3.1 := ((S4.kp (k4.kp fun i hi => by omega)).kp (KP K5 fun i hi => by omega)).sub fun i hi => by omega
    have S5 : Sl eTy (fun i => w.heap.size ≤ i ∧ i < w10.heap.size) w10 p4 u4.1 := (S5.kp (KP K5a fun i hi => by omega)).sub fun i hi => by omega
    have S6 : Sl eIns (fun i => w.heap.size ≤ i ∧ i < w10.heap.size) w10 a u6.1 := (S6.kp (k10.kp fun i hi => by omega)).sub fun i hi => by omega
    exact ⟨_, rfl, p3, q3, p4, q4, a, c, rfl, S4, S5, S6⟩
abbrev vUnt : (Nat → Prop) → World → Value → Unt → Prop := fun S w v u => ∃ a : UA, v = asV (ucells u a) ∧ Sl eStr S w a.a1 u.pool ∧ Sl eCls S w a.a2 u.classes ∧ Sl eFld S w a.a3 u.statics ∧ Sl eMth S w a.a4 u.methods
abbrev gUnt : Value → Prop := fun v => ∃ s p1 n1 c1 p2 n2 c2 p3 n3 c3 p4 n4 c4, v = asV [.string s, .slice p1 n1 c1, .slice p2 n2 c2, .slice p3 n3 c3, .slice p4 n4 c4]
set_option maxHeartbeats 4000000 in
theorem r_unit (cur : Option (List UInt8)) (w : World) (hR : RfS w rb B a0 c0 l0 cur) (hB : B ≤ rb) : Ret Tryz.prog 153 #[pr rb] w (RfR rUnt vUnt gUnt rb B a0 c0 l0 cur w) := by
  have hbig := hR.sl.big
  have hlt := hR.lt
  refine entr (vs := [pr rb]) [0, 2, 3, 4, 5, 6, 7, 8, 9, 10, 25, 47, 79] tabok Tryz.func153 (by kernel_rfl) ?_
  refine al fun b2 w1 h1 => ?_
  have y1 := h1.blk
  have z1 := h1.size
  refine al fun b3 w2 h2 => ?_
  have y2 := h2.blk
  have z2 := h2.size
  have A02 : Ap w (some ⟨rb, 0, none⟩) w2 := Ap.bl (h1.bl.trans h2.bl) _
  have o2 := Bl.box h2.bl h1.box
  have x2 := h2.box
  have R2 := hR.bl (h1.bl.trans h2.bl) hB
  refine cl (r_text _ w2 R2 hB) ?_
  rintro v w2a ⟨A2a, R2a, ⟨nm, rfl⟩, k2a⟩
  have z2a := A2a.size
  refine st (A2a.box x2 (ap_ne (by omega))) fun w3 k2 x3 => ?_
  have z3 := k2.size
  have A03 : Ap w (some ⟨rb, 0, none⟩) w3 := (A02.trans A2a).new k2 (by omega)
  have o3 := k2.box (A2a.box o2 (ap_ne (by omega))) (by omega)
  have R3 := R2a.ap k2.ap hB fun g hg => by simp only [Option.some.injEq, Addr.mk.injEq, and_true] at hg; omega
  obtain ⟨cu1, hcu1⟩ : ∃ cu, cu = (cur.bind rTxt).map (·.2) := ⟨_, rfl⟩
  rw [← hcu1] at R3
  refine cl (r_length 4 (by decide) (by decide) _ w3 R3 hB) ?_
  rintro v w4 ⟨A3a, R4, ⟨m1, rfl, hm01, hml1⟩, hok1⟩
  have z4 := A3a.size
  have A04 := A03.trans A3a
  have o4 := A3a.box o3 (ap_ne (by omega))
  have x4 := A3a.box x3 (ap_ne (by omega))
  refine lpk m1 5 [] [(0, pr rb), (2, pr b2), (3, pr b3), (4, I m1)] (fun k vals w' => vals = [] ∧ Ap w (some ⟨rb, 0, none⟩) w' ∧ w4.heap.size ≤ w'.heap.size ∧ (∀ i, b3 < i → i < w4.heap.size → w'.heap[i]? = w4.heap[i]?) ∧ Box w' b2 30 [.string ⟨#[]⟩, .slice none 0 0, .slice none 0 0, .slice none 0 0, .slice none 0 0] ∧ ∃ aA jA cA, Box w' b3 30 [.string nm, .slice aA jA cA, .slice none 0 0, .slice none 0 0, .slice none 0 0] ∧ RfS w' rb B a0 c0 l0 ((clk cu1 4 rTxt k).map (·.2)) ∧
    ∀ xs r', clk cu1 4 rTxt k = some (xs, r') → jA = xs.length ∧ OwC eStr (fun b => w4.heap.size ≤ b) w' w4.heap.size 9 aA cA xs) ⟨rfl, A04, Nat.le_refl _, fun _ _ _ => rfl, o4, none, 0, 0, x4, by rw [clk_zero]; exact R4, fun xs r' q => by rw [clk_zero_nil q]; exact ⟨rfl, OwC.nil ..⟩⟩ ?_
  rintro k vals v2A hk ⟨rfl, hA2A, z2A, hkeepA, ho2A, aA, jA, cA, hx2A, R2A, hIA⟩ ih
  obtain ⟨at2, hb2, _⟩ := R2A.box
  refine ldg (fun _ => hb2.cell rfl) ?_
  refine br (fun h => ?_) (fun h => ?_)
  · have hlt2 : k < m1 := by simp at h; omega
    obtain ⟨xs, r', hclk⟩ : ∃ xs r', clk cu1 4 rTxt k = some (xs, r') := by
      cases hq : clk cu1 4 rTxt k with
      | none => rw [hq] at h; simp at h
      | some x => exact ⟨x.1, x.2, rfl⟩
    have hxl := clk_len hclk
    obtain ⟨rfl, hO⟩ := hIA _ _ hclk
    rw [hclk] at R2A
    have R2A : RfS v2A rb B a0 c0 l0 (some r') := R2A
    refine cl (r_text (some r') v2A R2A hB) ?_
    rintro v v3 ⟨A3, R3', ⟨d1, rfl⟩, k3⟩
    have hE : RfR rTxt vTxt gTxt rb B a0 c0 l0 (some r') v2A (.string d1) v3 := ⟨A3, R3', ⟨_, rfl⟩, k3⟩
    have hO3 := hO.rb hE.ap (by omega) fun i hi => by omega
    have z3 := hE.ap.size
    have hx3 := hE.ap.box hx2A (ap_ne (by omega))
    refine ld (hx3.cell rfl) ?_
    refine bs (cs := [.string d1]) fun b4 v4 h4 => ?_
    have z4 := h4.size
    have y4 := h4.blk
    obtain ⟨ys, e1, e2, hOx, e4⟩ := (hO3.bl h4.bl).row
    refine ap hOx (.inr ⟨b4, 0, rfl, h4.box.at⟩) (by omega) (fun a5 c5 v5 hO5 hA5 hf5 => ?_)
    have hlo : ∀ g, aA = some ⟨g, 0, none⟩ → w4.heap.size ≤ g := fun g hg => (hO.lt hg).1
    have nlo : ∀ i, i < w4.heap.size → aA ≠ some ⟨i, 0, none⟩ := fun i hi e => by have := hlo i e; omega
    have hx5 := hA5.box (Bl.box h4.bl hx3) (nlo _ (by omega))
    have ho5 := hA5.box (Bl.box h4.bl (hE.ap.box ho2A (ap_ne (by omega)))) (nlo _ (by omega))
    have z5 := hA5.size
    refine st hx5 fun v6 k6 hx6 => ?_
    have z6 := k6.size
    have hA06 : Ap w (some ⟨rb, 0, none⟩) v6 := (((hA2A.trans hE.ap).thenBl h4.bl).ap hA5 fun g hg => by have := hlo g hg; omega).new k6 (by omega)
    have R6 := ((hE.st.bl h4.bl hB).ap hA5 hB fun g hg => by have := hlo g hg; omega).ap k6.ap hB fun g hg => by simp only [Option.some.injEq, Addr.mk.injEq, and_true] at hg; omega
    have es := clk_succ cu1 4 rTxt k
    rw [hclk] at es
    have es : clk cu1 4 rTxt (k + 1) = (rTxt r').bind fun y => some (xs ++ [y.1], y.2) := es
    refine ih hlt2 ⟨rfl, hA06, by omega, fun i h1 h2 => ?_, k6.box ho5 (by omega), a5, _, c5, hx6, ?_, fun xs' r2 q => ?_⟩
    · exact (k6.block i (by omega)).trans ((hA5.block i (by omega) (nlo i h2)).trans ((h4.bl.block i (by omega)).trans ((hE.ap.block i (by omega) (ap_ne (by omega))).trans (hkeepA i h1 h2))))
    · rw [es]
      have R6 : RfS v6 rb B a0 c0 l0 ((rTxt r').map (·.2)) := R6
      cases hp : rTxt r' <;> (rw [hp] at R6; exact R6)
    · rw [es] at q
      obtain ⟨y, hp, q⟩ := bind_some q
      simp only [Option.some.injEq, Prod.mk.injEq] at q
      obtain ⟨rfl, rfl⟩ := q
      have hv := hE.ok y.1 y.2 hp
      have hrel : (eStr).rel (fun b => w4.heap.size ≤ b ∧ aA ≠ some ⟨b, 0, none⟩ ∧ b < v4.heap.size) v4 [.string d1] y.1 := by
        refine (eStr).sub (S := fun b => v2A.heap.size ≤ b ∧ b < v3.heap.size) (fun b hb => ⟨by omega, fun e => by have := (hO.lt e).2; omega, by omega⟩) ((eStr).kp (h4.bl.kp _) ?_)
        have hv : Value.string d1 = .string y.1 := hv
        rw [hv]; rfl
      exact ⟨by rw [List.length_append]; rfl, (OwC.push e1 e2 e4 hO5 hA5 hf5 hrel).wr k6 (by omega) fun i hi => by omega⟩
  have hfinA : clk cu1 4 rTxt k = (cu1).bind (rList rTxt) := by
    have he := clk_end min_txt (by decide) hok1
    by_cases hkm : k < m1
    · cases hq : clk cu1 4 rTxt k with
      | none => rw [← he, clk_none hq hk]
      | some x => rw [hq] at h; simp at h; omega
    · obtain rfl : k = m1 := by omega
      exact he
  clear ih h
  rw [hfinA] at R2A
  have hslA : ∀ xs r, (cu1).bind (rList rTxt) = some (xs, r) → jA = xs.length ∧ Sl eStr (fun i => w4.heap.size ≤ i ∧ i < v2A.heap.size) v2A aA xs := fun xs r q => by
    rw [← hfinA] at q
    obtain ⟨h1, hO⟩ := hIA _ _ q
    have := clk_len q
    exact ⟨h1, hO.sl2 (by omega)⟩
  obtain ⟨cu2, hcu2⟩ : ∃ cu, cu = (cu1.bind (rList rTxt)).map (·.2) := ⟨_, rfl⟩
  rw [← hcu2] at R2A
  refine cl (r_length 12 (by decide) (by decide) _ v2A R2A hB) ?_
  rintro v w6 ⟨A5a, R6, ⟨m2, rfl, hm02, hml2⟩, hok2⟩
  have z6 := A5a.size
  have A06 := hA2A.trans A5a
  have o6 := A5a.box ho2A (ap_ne (by omega))
  have x6 := A5a.box hx2A (ap_ne (by omega))
  refine lpk m2 7 [] [(0, pr rb), (2, pr b2), (3, pr b3), (4, I m2)] (fun k vals w' => vals = [] ∧ Ap w (some ⟨rb, 0, none⟩) w' ∧ w6.heap.size ≤ w'.heap.size ∧ (∀ i, b3 < i → i < w6.heap.size → w'.heap[i]? = w6.heap[i]?) ∧ Box w' b2 30 [.string ⟨#[]⟩, .slice none 0 0, .slice none 0 0, .slice none 0 0, .slice none 0 0] ∧ ∃ aB jB cB, Box w' b3 30 [.string nm, .slice aA jA cA, .slice aB jB cB, .slice none 0 0, .slice none 0 0] ∧ RfS w' rb B a0 c0 l0 ((clk cu2 12 rCls k).map (·.2)) ∧
    ∀ xs r', clk cu2 12 rCls k = some (xs, r') → jB = xs.length ∧ OwC eCls (fun b => w6.heap.size ≤ b) w' w6.heap.size 58 aB cB xs) ⟨rfl, A06, Nat.le_refl _, fun _ _ _ => rfl, o6, none, 0, 0, x6, by rw [clk_zero]; exact R6, fun xs r' q => by rw [clk_zero_nil q]; exact ⟨rfl, OwC.nil ..⟩⟩ ?_
  rintro k vals v2B hk ⟨rfl, hA2B, z2B, hkeepB, ho2B, aB, jB, cB, hx2B, R2B, hIB⟩ ih
  obtain ⟨at2, hb2, _⟩ := R2B.box
  refine ldg (fun _ => hb2.cell rfl) ?_
  refine br (fun h => ?_) (fun h => ?_)
  · have hlt2 : k < m2 := by simp at h; omega
    obtain ⟨xs, r', hclk⟩ : ∃ xs r', clk cu2 12 rCls k = some (xs, r') := by
      cases hq : clk cu2 12 rCls k with
      | none => rw [hq] at h; simp at h
      | some x => exact ⟨x.1, x.2, rfl⟩
    have hxl := clk_len hclk
    obtain ⟨rfl, hO⟩ := hIB _ _ hclk
    rw [hclk] at R2B
    have R2B : RfS v2B rb B a0 c0 l0 (some r') := R2B
    refine al fun b6 v20 h6 => ?_
    have y6 := h6.blk
    have z20 := h6.size
    refine cl (r_number (some r') v20 (R2B.bl h6.bl hB) hB) ?_
    rintro v v21 ⟨A21, R21, ⟨d1, rfl⟩, k21⟩
    have z21 := A21.size
    refine st (A21.box h6.box (ap_ne (by omega))) fun v22 k22 x22 => ?_
    have z22 := k22.size
    have R22 := R21.ap k22.ap hB fun g hg => by simp only [Option.some.injEq, Addr.mk.injEq, and_true] at hg; omega
    refine cl (r_number _ v22 R22 hB) ?_
    rintro v v23 ⟨A23, R23, ⟨d2, rfl⟩, k23⟩
    have z23 := A23.size
    refine st (A23.box x22 (ap_ne (by omega))) fun v24 k24 x24 => ?_
    have z24 := k24.size
    have R24 := R23.ap k24.ap hB fun g hg => by simp only [Option.some.injEq, Addr.mk.injEq, and_true] at hg; omega
    refine cl (r_fields _ v24 R24 hB) ?_
    rintro v v25 ⟨A25, R25, ⟨d3, d4, d5, rfl⟩, k25⟩
    have z25 := A25.size
    refine st (A25.box x24 (ap_ne (by omega))) fun v3 k3 x3 => ?_
    have zk3 := k3.size
    have hE : RfR rCls (vAgg eCls) gCls rb B a0 c0 l0 (some r') v2B (asV [I d1, I d2, .slice d3 d4 d5]) v3 := by
      have R3 := R25.ap k3.ap hB fun g hg => by simp only [Option.some.injEq, Addr.mk.injEq, and_true] at hg; omega
      refine ⟨((((((Ap.bl h6.bl _).trans A21).new k22 (by omega)).trans A23).new k24 (by omega)).trans A25).new k3 (by omega), ?_, ⟨_, _, _, _, _, rfl⟩, fun x r q => ?_⟩
      · have R3 : RfS v3 rb B a0 c0 l0 ((((((rNum r').map (·.2)).bind rNum).map (·.2)).bind (rList rFld)).map (·.2)) := R3
        show RfS v3 rb B a0 c0 l0 ((rCls r').map (·.2))
        unfold rCls
        cases h1 : rNum r' with
        | none => rw [h1] at R3; exact R3
        | some x =>
          rw [h1] at R3
          have R3 : RfS v3 rb B a0 c0 l0 ((((rNum x.2).map (·.2)).bind (rList rFld)).map (·.2)) := R3
          simp only [Option.bind_some]
          cases h2 : rNum x.2 with
          | none => rw [h2] at R3; exact R3
          | some y =>
            rw [h2] at R3
            have R3 : RfS v3 rb B a0 c0 l0 ((rList rFld y.2).map (·.2)) := R3
            simp only [Option.bind_some]
            cases h3 : rList rFld y.2 <;> (rw [h3] at R3; exact R3)
      · have q : rCls r' = some (x, r) := q
        obtain ⟨u1, q1, q⟩ := bind_some q
        obtain ⟨u2, q2, q⟩ := bind_some q
        obtain ⟨u3, q3, q⟩ := bind_some q
        simp only [Option.some.injEq, Prod.mk.injEq] at q
        obtain ⟨rfl, _⟩ := q
        have c1 : ((rNum r').map (·.2)).bind rNum = some u2 := by rw [q1]; exact q2
        have e2 := k21 u1.1 u1.2 q1
        have e3 := k23 u2.1 u2.2 c1
        obtain ⟨p4, d4', e4, hS⟩ := k25 u3.1 u3.2 (by show (((((rNum r').map (·.2)).bind rNum).map (·.2)).bind (rList rFld)) = _; rw [c1]; exact q3)
        simp only [vNum, Value.int.injEq, true_and] at e2 e3
        obtain ⟨rfl, rfl, rfl⟩ := Value.slice.inj e4
        exact ⟨[I d1, I d2, .slice d3 u3.1.length d5], rfl, d3, d5, by rw [e2, e3], (hS.kp (k3.kp fun i hi => by omega)).sub fun i hi => ⟨by omega, by omega⟩⟩
    have hO3 := hO.rb hE.ap (by omega) fun i hi => by omega
    have z3 := hE.ap.size
    have hx3 := hE.ap.box hx2B (ap_ne (by omega))
    refine ld (hx3.cell rfl) ?_
    refine lda x3.at ?_
    refine bs (cs := [I d1, I d2, .slice d3 d4 d5]) fun b4 v4 h4 => ?_
    have z4 := h4.size
    have y4 := h4.blk
    obtain ⟨ys, e1, e2, hOx, e4⟩ := (hO3.bl h4.bl).row
    refine ap hOx (.inr ⟨b4, 0, rfl, h4.box.at⟩) (by omega) (fun a5 c5 v5 hO5 hA5 hf5 => ?_)
    have hlo : ∀ g, aB = some ⟨g, 0, none⟩ → w6.heap.size ≤ g := fun g hg => (hO.lt hg).1
    have nlo : ∀ i, i < w6.heap.size → aB ≠ some ⟨i, 0, none⟩ := fun i hi e => by have := hlo i e; omega
    have hx5 := hA5.box (Bl.box h4.bl hx3) (nlo _ (by omega))
    have ho5 := hA5.box (Bl.box h4.bl (hE.ap.box ho2B (ap_ne (by omega)))) (nlo _ (by omega))
    have z5 := hA5.size
    refine st hx5 fun v6 k6 hx6 => ?_
    have z6 := k6.size
    have hA06 : Ap w (some ⟨rb, 0, none⟩) v6 := (((hA2B.trans hE.ap).thenBl h4.bl).ap hA5 fun g hg => by have := hlo g hg; omega).new k6 (by omega)
    have R6 := ((hE.st.bl h4.bl hB).ap hA5 hB fun g hg => by have := hlo g hg; omega).ap k6.ap hB fun g hg => by simp only [Option.some.injEq, Addr.mk.injEq, and_true] at hg; omega
    have es := clk_succ cu2 12 rCls k
    rw [hclk] at es
    have es : clk cu2 12 rCls (k + 1) = (rCls r').bind fun y => some (xs ++ [y.1], y.2) := es
    refine ih hlt2 ⟨rfl, hA06, by omega, fun i h1 h2 => ?_, k6.box ho5 (by omega), a5, _, c5, hx6, ?_, fun xs' r2 q => ?_⟩
    · exact (k6.block i (by omega)).trans ((hA5.block i (by omega) (nlo i h2)).trans ((h4.bl.block i (by omega)).trans ((hE.ap.block i (by omega) (ap_ne (by omega))).trans (hkeepB i h1 h2))))
    · rw [es]
      have R6 : RfS v6 rb B a0 c0 l0 ((rCls r').map (·.2)) := R6
      cases hp : rCls r' <;> (rw [hp] at R6; exact R6)
    · rw [es] at q
      obtain ⟨y, hp, q⟩ := bind_some q
      simp only [Option.some.injEq, Prod.mk.injEq] at q
      obtain ⟨rfl, rfl⟩ := q
      have hv := hE.ok y.1 y.2 hp
      have hrel : (eCls).rel (fun b => w6.heap.size ≤ b ∧ aB ≠ some ⟨b, 0, none⟩ ∧ b < v4.heap.size) v4 [I d1, I d2, .slice d3 d4 d5] y.1 := by
        refine (eCls).sub (S := fun b => v2B.heap.size ≤ b ∧ b < v3.heap.size) (fun b hb => ⟨by omega, fun e => by have := (hO.lt e).2; omega, by omega⟩) ((eCls).kp (h4.bl.kp _) ?_)
        obtain ⟨cs, e, hr2⟩ := hv
        rw [agg_inj e]; exact hr2
      exact ⟨by rw [List.length_append]; rfl, (OwC.push e1 e2 e4 hO5 hA5 hf5 hrel).wr k6 (by omega) fun i hi => by omega⟩
  have hfinB : clk cu2 12 rCls k = (cu2).bind (rList rCls) := by
    have he := clk_end min_cls (by decide) hok2
    by_cases hkm : k < m2
    · cases hq : clk cu2 12 rCls k with
      | none => rw [← he, clk_none hq hk]
      | some x => rw [hq] at h; simp at h; omega
    · obtain rfl : k = m2 := by omega
      exact he
  clear ih h
  rw [hfinB] at R2B
  have hslB : ∀ xs r, (cu2).bind (rList rCls) = some (xs, r) → jB = xs.length ∧ Sl eCls (fun i => w6.heap.size ≤ i ∧ i < v2B.heap.size) v2B aB xs := fun xs r q => by
    rw [← hfinB] at q
    obtain ⟨h1, hO⟩ := hIB _ _ q
    have := clk_len q
    exact ⟨h1, hO.sl2 (by omega)⟩
  obtain ⟨cu3, hcu3⟩ : ∃ cu, cu = (cu2.bind (rList rCls)).map (·.2) := ⟨_, rfl⟩
  rw [← hcu3] at R2B
  refine cl (r_fields _ v2B R2B hB) ?_
  rintro v w7 ⟨A7, R7, ⟨pF, nF, cF, rfl⟩, k7⟩
  have z7 := A7.size
  refine st (A7.box hx2B (ap_ne (by omega))) fun w8 k8 x8 => ?_
  have z8 := k8.size
  have R8 := R7.ap k8.ap hB fun g hg => by simp only [Option.some.injEq, Addr.mk.injEq, and_true] at hg; omega
  obtain ⟨cu4, hcu4⟩ : ∃ cu, cu = (cu3.bind (rList rFld)).map (·.2) := ⟨_, rfl⟩
  rw [← hcu4] at R8
  have o8 := k8.box (A7.box ho2B (ap_ne (by omega))) (by omega)
  refine cl (r_length 28 (by decide) (by decide) _ w8 R8 hB) ?_
  rintro v w9 ⟨A8a, R9, ⟨m3, rfl, hm03, hml3⟩, hok3⟩
  have z9 := A8a.size
  have A09 := ((hA2B.trans A7).new k8 (by omega)).trans A8a
  have o9 := A8a.box o8 (ap_ne (by omega))
  have x9 := A8a.box x8 (ap_ne (by omega))
  refine lpk m3 9 [] [(0, pr rb), (2, pr b2), (3, pr b3), (4, I m3)] (fun k vals w' => vals = [] ∧ Ap w (some ⟨rb, 0, none⟩) w' ∧ w9.heap.size ≤ w'.heap.size ∧ (∀ i, b3 < i → i < w9.heap.size → w'.heap[i]? = w9.heap[i]?) ∧ Box w' b2 30 [.string ⟨#[]⟩, .slice none 0 0, .slice none 0 0, .slice none 0 0, .slice none 0 0] ∧ ∃ aC jC cC, Box w' b3 30 [.string nm, .slice aA jA cA, .slice aB jB cB, .slice pF nF cF, .slice aC jC cC] ∧ RfS w' rb B a0 c0 l0 ((clk cu4 28 rMth k).map (·.2)) ∧
    ∀ xs r', clk cu4 28 rMth k = some (xs, r') → jC = xs.length ∧ OwC eMth (fun b => w9.heap.size ≤ b) w' w9.heap.size 64 aC cC xs) ⟨rfl, A09, Nat.le_refl _, fun _ _ _ => rfl, o9, none, 0, 0, x9, by rw [clk_zero]; exact R9, fun xs r' q => by rw [clk_zero_nil q]; exact ⟨rfl, OwC.nil ..⟩⟩ ?_
  rintro k vals v2C hk ⟨rfl, hA2C, z2C, hkeepC, ho2C, aC, jC, cC, hx2C, R2C, hIC⟩ ih
  obtain ⟨at2, hb2, _⟩ := R2C.box
  refine ldg (fun _ => hb2.cell rfl) ?_
  refine br (fun h => ?_) (fun h => ?_)
  · have hlt2 : k < m3 := by simp at h; omega
    obtain ⟨xs, r', hclk⟩ : ∃ xs r', clk cu4 28 rMth k = some (xs, r') := by
      cases hq : clk cu4 28 rMth k with
      | none => rw [hq] at h; simp at h
      | some x => exact ⟨x.1, x.2, rfl⟩
    have hxl := clk_len hclk
    obtain ⟨rfl, hO⟩ := hIC _ _ hclk
    rw [hclk] at R2C
    have R2C : RfS v2C rb B a0 c0 l0 (some r') := R2C
    refine cl (r_method (some r') v2C R2C hB) ?_
    rintro v v20 ⟨A20, R20, ⟨d1, d2, d3, d4, d5, d6, d7, d8, d9, d10, d11, d12, d13, rfl⟩, k20⟩
    refine al fun b6 v21 h6 => ?_
    have y6 := h6.blk
    have z20 := A20.size
    have z21 := h6.size
    refine sta h6.box fun v3 k3 x3 => ?_
    have zk3 := k3.size
    have hE : RfR rMth (vAgg eMth) gMth rb B a0 c0 l0 (some r') v2C (asV [I d1, I d2, .slice d3 d4 d5, .slice d6 d7 d8, I d9, I d10, .slice d11 d12 d13]) v3 := by
      refine ⟨A20.thenBl (h6.wr k3), R20.bl (h6.wr k3) hB, ⟨_, _, _, _, _, _, _, _, _, _, _, _, _, rfl⟩, fun x r q => ?_⟩
      obtain ⟨cs, e1, e2⟩ := k20 x r q
      exact ⟨cs, e1, eMth.sub (fun i hi => ⟨hi.1, by omega⟩) (eMth.kp ((h6.wr k3).kp _) e2)⟩
    have hO3 := hO.rb hE.ap (by omega) fun i hi => by omega
    have z3 := hE.ap.size
    have hx3 := hE.ap.box hx2C (ap_ne (by omega))
    refine ld (hx3.cell rfl) ?_
    refine lda x3.at ?_
    refine bs (cs := [I d1, I d2, .slice d3 d4 d5, .slice d6 d7 d8, I d9, I d10, .slice d11 d12 d13]) fun b4 v4 h4 => ?_
    have z4 := h4.size
    have y4 := h4.blk
    obtain ⟨ys, e1, e2, hOx, e4⟩ := (hO3.bl h4.bl).row
    refine ap hOx (.inr ⟨b4, 0, rfl, h4.box.at⟩) (by omega) (fun a5 c5 v5 hO5 hA5 hf5 => ?_)
    have hlo : ∀ g, aC = some ⟨g, 0, none⟩ → w9.heap.size ≤ g := fun g hg => (hO.lt hg).1
    have nlo : ∀ i, i < w9.heap.size → aC ≠ some ⟨i, 0, none⟩ := fun i hi e => by have := hlo i e; omega
    have hx5 := hA5.box (Bl.box h4.bl hx3) (nlo _ (by omega))
    have ho5 := hA5.box (Bl.box h4.bl (hE.ap.box ho2C (ap_ne (by omega)))) (nlo _ (by omega))
    have z5 := hA5.size
    refine st hx5 fun v6 k6 hx6 => ?_
    have z6 := k6.size
    have hA06 : Ap w (some ⟨rb, 0, none⟩) v6 := (((hA2C.trans hE.ap).thenBl h4.bl).ap hA5 fun g hg => by have := hlo g hg; omega).new k6 (by omega)
    have R6 := ((hE.st.bl h4.bl hB).ap hA5 hB fun g hg => by have := hlo g hg; omega).ap k6.ap hB fun g hg => by simp only [Option.some.injEq, Addr.mk.injEq, and_true] at hg; omega
    have es := clk_succ cu4 28 rMth k
    rw [hclk] at es
    have es : clk cu4 28 rMth (k + 1) = (rMth r').bind fun y => some (xs ++ [y.1], y.2) := es
    refine ih hlt2 ⟨rfl, hA06, by omega, fun i h1 h2 => ?_, k6.box ho5 (by omega), a5, _, c5, hx6, ?_, fun xs' r2 q => ?_⟩
    · exact (k6.block i (by omega)).trans ((hA5.block i (by omega) (nlo i h2)).trans ((h4.bl.block i (by omega)).trans ((hE.ap.block i (by omega) (ap_ne (by omega))).trans (hkeepC i h1 h2))))
    · rw [es]
      have R6 : RfS v6 rb B a0 c0 l0 ((rMth r').map (·.2)) := R6
      cases hp : rMth r' <;> (rw [hp] at R6; exact R6)
    · rw [es] at q
      obtain ⟨y, hp, q⟩ := bind_some q
      simp only [Option.some.injEq, Prod.mk.injEq] at q
      obtain ⟨rfl, rfl⟩ := q
      have hv := hE.ok y.1 y.2 hp
      have hrel : (eMth).rel (fun b => w9.heap.size ≤ b ∧ aC ≠ some ⟨b, 0, none⟩ ∧ b < v4.heap.size) v4 [I d1, I d2, .slice d3 d4 d5, .slice d6 d7 d8, I d9, I d10, .slice d11 d12 d13] y.1 := by
        refine (eMth).sub (S := fun b => v2C.heap.size ≤ b ∧ b < v3.heap.size) (fun b hb => ⟨by omega, fun e => by have := (hO.lt e).2; omega, by omega⟩) ((eMth).kp (h4.bl.kp _) ?_)
        obtain ⟨cs, e, hr2⟩ := hv
        rw [agg_inj e]; exact hr2
      exact ⟨by rw [List.length_append]; rfl, (OwC.push e1 e2 e4 hO5 hA5 hf5 hrel).wr k6 (by omega) fun i hi => by omega⟩
  have hfinC : clk cu4 28 rMth k = (cu4).bind (rList rMth) := by
    have he := clk_end min_mth (by decide) hok3
    by_cases hkm : k < m3
    · cases hq : clk cu4 28 rMth k with
      | none => rw [← he, clk_none hq hk]
      | some x => rw [hq] at h; simp at h; omega
    · obtain rfl : k = m3 := by omega
      exact he
  clear ih h
  rw [hfinC] at R2C
  have hslC : ∀ xs r, (cu4).bind (rList rMth) = some (xs, r) → jC = xs.length ∧ Sl eMth (fun i => w9.heap.size ≤ i ∧ i < v2C.heap.size) v2C aC xs := fun xs r q => by
    rw [← hfinC] at q
    obtain ⟨h1, hO⟩ := hIC _ _ q
    have := clk_len q
    exact ⟨h1, hO.sl2 (by omega)⟩
  refine lda hx2C.at ?_
  refine sta ho2C fun w10 k10 x10 => ?_
  have z10 := k10.size
  have A010 := hA2C.new k10 (by omega)
  have R10 := R2C.ap k10.ap hB fun g hg => by simp only [Option.some.injEq, Addr.mk.injEq, and_true] at hg; omega
  have e : cur.bind rUnt = (cur.bind rTxt).bind fun n => (rList rTxt n.2).bind fun p => (rList rCls p.2).bind fun c => (rList rFld c.2).bind fun s => (rList rMth s.2).bind fun m => some (⟨n.1, p.1, c.1, s.1, m.1⟩, m.2) := by cases cur <;> rfl
  refine rtc x10.at ⟨A010, ?_, ⟨_, _, _, _, _, _, _, _, _, _, _, _, _, rfl⟩, fun t r q => ?_⟩
  · rw [hcu4, hcu3, hcu2, hcu1] at R10
    rw [e]
    cases h0 : cur.bind rTxt with
    | none => rw [h0] at R10; exact R10
    | some x0 =>
      rw [h0] at R10
      have R10 : RfS w10 rb B a0 c0 l0 ((((((((((((rList rTxt) x0.2).map (·.2))).bind (rList rCls)).map (·.2))).bind (rList rFld)).map (·.2))).bind (rList rMth)).map (·.2)) := R10
      simp only [Option.bind_some]
      cases h1 : (rList rTxt) x0.2 with
      | none => rw [h1] at R10; exact R10
      | some x1 =>
        rw [h1] at R10
        have R10 : RfS w10 rb B a0 c0 l0 (((((((((rList rCls) x1.2).map (·.2))).bind (rList rFld)).map (·.2))).bind (rList rMth)).map (·.2)) := R10
        simp only [Option.bind_some]
        cases h2 : (rList rCls) x1.2 with
        | none => rw [h2] at R10; exact R10
        | some x2 =>
          rw [h2] at R10
          have R10 : RfS w10 rb B a0 c0 l0 ((((((rList rFld) x2.2).map (·.2))).bind (rList rMth)).map (·.2)) := R10
          simp only [Option.bind_some]
          cases h3 : (rList rFld) x2.2 with
          | none => rw [h3] at R10; exact R10
          | some x3 =>
            rw [h3] at R10
            have R10 : RfS w10 rb B a0 c0 l0 (((rList rMth) x3.2).map (·.2)) := R10
            simp only [Option.bind_some]
            cases h4 : (rList rMth) x3.2 <;> (rw [h4] at R10; exact R10)
  · rw [e] at q
    obtain ⟨u1, q1, q⟩ := bind_some q
    obtain ⟨u2, q2, q⟩ := bind_some q
    obtain ⟨u3, q3, q⟩ := bind_some q
    obtain ⟨u4, q4, q⟩ := bind_some q
    obtain ⟨u5, q5, q⟩ := bind_some q
    simp only [Option.some.injEq, Prod.mk.injEq] at q
    obtain ⟨rfl, _⟩ := q
    have d1 : cu1 = some u1.2 := by rw [hcu1, q1]; rfl
    have c2 : cu1.bind (rList rTxt) = some u2 := by rw [d1]; exact q2
    have d2 : cu2 = some u2.2 := by rw [hcu2, c2]; rfl
    have c3 : cu2.bind (rList rCls) = some u3 := by rw [d2]; exact q3
    have d3 : cu3 = some u3.2 := by rw [hcu3, c3]; rfl
    have c4 : cu3.bind (rList rFld) = some u4 := by rw [d3]; exact q4
    have d4 : cu4 = some u4.2 := by rw [hcu4, c4]; rfl
    have c5 : cu4.bind (rList rMth) = some u5 := by rw [d4]; exact q5
    have e1 : Value.string nm = .string u1.1 := k2a u1.1 u1.2 q1
    obtain ⟨e2, S2⟩ := hslA u2.1 u2.2 c2
    obtain ⟨e3, S3⟩ := hslB u3.1 u3.2 c3
    obtain ⟨a4, d4', e4, S4⟩ := k7 u4.1 u4.2 c4
    obtain ⟨e5, S5⟩ := hslC u5.1 u5.2 c5
    obtain rfl := Value.string.inj e1
    obtain ⟨rfl, rfl, rfl⟩ := Value.slice.inj e4
    subst e2 e3 e5
    have K9 : ∀ i, b3 < i → i < w9.heap.size → w10.heap[i]? = w9.heap[i]? := fun i h1 h2 => (k10.block i (by omega)).trans (hkeepC i h1 h2)
    have K7 : ∀ i, b3 < i → i < w7.heap.size → w10.heap[i]? = w7.heap[i]? := fun i h1 h2 => (K9 i h1 (by omega)).trans ((A8a.block i (by omega) (ap_ne (by omega))).trans (k8.block i (by omega)))
    have KB : ∀ i, b3 < i → i < v2B.heap.size → w10.heap[i]? = v2B.heap[i]? := fun i h1 h2 => (K7 i h1 (by omega)).trans (A7.block i h2 (ap_ne (by omega)))
    have K6 : ∀ i, b3 < i → i < w6.heap.size → w10.heap[i]? = w6.heap[i]? := fun i h1 h2 => (KB i h1 (by omega)).trans (hkeepB i h1 h2)
    have KA : ∀ i, b3 < i → i < v2A.heap.size → w10.heap[i]? = v2A.heap[i]? := fun i h1 h2 => (K6 i h1 (by omega)).trans (A5a.block i h2 (ap_ne (by omega)))
    have KP : ∀ {wx : World} {S : Nat → Prop}, (∀ i, b3 < i → i < wx.heap.size → w10.heap[i]? = wx.heap[i]?) → (∀ i, S i → b3 < i ∧ i < wx.heap.size) → Kp S wx w10 := fun K hS b o v hs hv => by
      have h1 := hS b hs
      rw [World.cell?_of_block (K b h1.1 h1.2)]; exact hv
    have S2 : Sl eStr (fun i => w.heap.size ≤ i ∧ i < w10.heap.size) w10 aA u2.1 := (S2.kp (KP KA fun i hi => by omega)).sub fun i hi => by omega
    have S3 : Sl eCls (fun i => w.heap.size ≤ i ∧ i < w10.heap.size) w10 aB u3.1 := (S3.kp (KP KB fun i hi => by omega)).sub fun i hi => by omega
    have S4 : Sl eFld (fun i => w.heap.size ≤ i ∧ i < w10.heap.size) w10 pF u4.1 := (S4.kp (KP K7 fun i hi => by omega)).sub fun i hi => by omega
    have S5 : Sl eMth (fun i => w.heap.size ≤ i ∧ i < w10.heap.size) w10 aC u5.1 := (S5.kp (k10.kp fun i hi => by omega)).sub fun i hi => by omega
    exact ⟨⟨aA, cA, aB, cB, pF, cF, aC, cC⟩, rfl, S2, S3, S4, S5⟩
end
end Go.Proofs.YtopjmiklpnejmaaGreatDoor

/- Walks: a unit read, in the document. -/
namespace Go.Proofs.YtopjmiklpnejmaaGreatDoor
open Eng Go.RowKit
theorem r_SumS (bs : List UInt8) (a : Option Addr) (cap : Nat) (S : Nat → Prop) (w : World) (hS : Sl eB S w a bs) : Ret Tryz.prog 155 #[I 0, .slice a bs.length cap] w fun v w' => v = I (sumB bs) ∧ w' = w := by
  have hbig := hS.big
  refine entr (vs := [I 0, .slice a bs.length cap]) [0, 1, 4, 5, 6, 10, 16] tabok Tryz.func155 (by kernel_rfl) ?_
  refine iop (rem_run (b := 65521) (by decide)) ?_
  refine brF ?_ (hp := by decide)
  refine lpk bs.length 6 [5] [(1, .slice a bs.length cap)] (fun k vals w' => vals = [I (sumB (bs.take k))] ∧ w = w') ⟨rfl, rfl⟩ ?_
  rintro k vals _ hk ⟨rfl, rfl⟩ ih
  by_cases hlt : k < bs.length
  · refine brT ?_
    obtain ⟨x, b, o, cs, hx, rfl, _, hAt, rfl⟩ := at_some hS hlt
    refine ix ?_
    refine ld (hAt 0 _ rfl) ?_
    refine cv (ks := .u8) (kb := .i64) (by kernel_rfl) (by kernel_rfl) ?_
    refine iop (rem_run (b := 65521) (by decide)) ?_
    refine ih hlt ⟨lst1 (vi ?_), rfl⟩
    rw [sumB_snoc hx]
    exact sum_step (sumB_range _) x
  · refine brF ?_
    obtain rfl : k = bs.length := by omega
    rw [List.take_length]
    exact rt1 ⟨rfl, rfl⟩
abbrev ua00 : UA := ⟨none, 0, none, 0, none, 0, none, 0⟩
/-- what Read answers -/
def ReadR (l : List UInt8) (w : World) (v : Value) (w' : World) : Prop := match parse l with
  | some u => ∃ a', v = .tuple #[.agg (ucells u a').toArray, .bool true] ∧ UnR (fun b => w.heap.size ≤ b) w' u a' ∧ Bl w w'
  | none => v = .tuple #[.agg (ucells u00 ua00).toArray, .bool false] ∧ Bl w w'
theorem read_none {l : List UInt8} {w w' : World} (h : parse l = none) (hB : Bl w w') : ReadR l w (.tuple #[.agg (ucells u00 ua00).toArray, .bool false]) w' := by
  unfold ReadR; rw [h]; exact ⟨rfl, hB⟩
theorem parse_ok {l : List UInt8} (h : l.take 4 = magic) : parse l = (rUnt (l.drop 4)).bind fun x => (rNum x.2).bind fun y => if y.2 = [] ∧ y.1 = sumB (l.take (l.length - x.2.length)) then some x.1 else none := by
  unfold parse; rw [if_pos h]
theorem magic_of (l : List UInt8) : ofL l = ⟨#[73, 83, 79, 49]⟩ ↔ l = magic := by
  constructor
  · intro h
    have := congrArg (fun s : ByteArray => s.data.toList) h
    simp only [toL_ofL] at this
    exact this
  · intro h; rw [h]; rfl
set_option maxHeartbeats 1000000 in
theorem r_Read (l : List UInt8) (a : Option Addr) (c : Nat) (w : World) (hS : Sl eB T w a l) (hl : l.length ≤ 1048576) (hcap : l.length ≤ c) : Ret Tryz.prog 102 #[.slice a l.length c] w (ReadR l w) := by
  have hS0 : Sl eB (· < w.heap.size) w a l := Sl.lt (by decide) hS
  refine entr (vs := [.slice a l.length c]) [0, 2, 3, 4, 5, 6, 7, 16, 49] tabok Tryz.func102 (by kernel_rfl) ?_
  refine al fun b2 w1 h1 => ?_
  have z1 := h1.size
  have y1 := h1.blk
  by_cases h4 : l.length < 4
  · have hno : parse l = none := by
      unfold parse
      rw [if_neg fun e => by
        have := congrArg List.length e
        rw [List.length_take] at this
        have e : magic.length = 4 := rfl
        omega]
    have h4' : (l.length : Int) < 4 := by omega
    refine spn (.slice none 0 0) ?_ (hb := by rw [decide_eq_true h4']; rfl)
    refine spn (.string ⟨#[]⟩) ?_ (hb := by rw [decide_eq_true h4']; rfl)
    refine brt ?_ (hp := by rw [decide_eq_true h4']; rfl)
    refine bd ?_
    refine sta h1.box fun w2 k2 x2 => ?_
    exact rtc2 x2.at (read_none hno (h1.bl.trans_wr k2 (by omega)))
  have h4' : ¬ (l.length : Int) < 4 := by omega
  refine spt (.slice none 0 0) ?_ (hb := by rw [decide_eq_false h4'])
  refine Eng.sl 0 4 ?_
  refine spt (.string ⟨#[]⟩) ?_
  have hS4 : Sl eB T w1 (if c = 0 then a else a.map (·.add (0 * 1))) (l.take 4) := slB_if (n := 0) (slB_take (hS.bl h1.bl) 4) (by rw [List.length_take]; omega)
  refine cbl (n := 4 - 0) hS4 (by rw [List.length_take]; omega) (fun _ => trivial) ?_
  refine br (fun h => ?_) (fun h => ?_)
  · rw [Bool.false_or] at h
    have hno : parse l = none := by
      unfold parse
      rw [if_neg fun e => of_decide_eq_true h ((magic_of _).2 e)]
    refine bd ?_
    refine sta h1.box fun w2 k2 x2 => ?_
    exact rtc2 x2.at (read_none hno (h1.bl.trans_wr k2 (by omega)))
  rw [Bool.false_or] at h
  have hm : l.take 4 = magic := (magic_of _).1 (Classical.not_not.1 (of_decide_eq_false h))
  have hpar := parse_ok hm
  refine bd ?_
  refine bx (cs := [.slice a l.length c, I 4, .bool false]) fun rb w2 h2 => ?_
  have z2 := h2.size
  have y2 := h2.blk
  have B02 := h1.bl.trans h2.bl
  have R2 : RfS w2 rb rb a c l (some (l.drop 4)) := ⟨⟨4, h2.box, fun r hr => ⟨4, rfl, by omega, (Option.some.inj hr).symm⟩⟩, (hS0.bl B02).sub fun i hi => by omega, hcap⟩
  have o2 := Bl.box h2.bl h1.box
  refine cl (r_unit _ w2 R2 (Nat.le_refl _)) ?_
  rintro v w3 ⟨A3, R3, ⟨nm, p1, n1, c1, p2, n2, c2, p3, n3, c3, p4, n4, c4, rfl⟩, k3⟩
  have z3 := A3.size
  have o3 := A3.box o2 (ap_ne (by omega))
  refine al fun b5 w4 h4 => ?_
  have z4 := h4.size
  have y4 := h4.blk
  refine sta h4.box fun w5 k5 x5 => ?_
  have z5 := k5.size
  have B35 := h4.wr k5
  have R5 := R3.bl B35 (Nat.le_refl _)
  have o5 := Bl.box B35 o3
  obtain ⟨at5, hb5, hr5⟩ := R5.box
  refine ld (hb5.cell rfl) ?_
  refine cl (r_number _ w5 R5 (Nat.le_refl _)) ?_
  rintro v w6 ⟨A6, R6, ⟨sum, rfl⟩, k6⟩
  have z6 := A6.size
  have A26 : Ap w2 (some ⟨rb, 0, none⟩) w6 := (A3.thenBl B35).trans A6
  have B06 : Bl w w6 := Below.trans B02 (A26.below (by omega) fun g hg => by simp only [Option.some.injEq, Addr.mk.injEq, and_true] at hg; omega)
  have o6 := A6.box o5 (ap_ne (by omega))
  have x6 := A6.box x5 (ap_ne (by omega))
  obtain ⟨at6, hb6, hr6⟩ := R6.box
  refine ld (hb6.cell rfl) ?_
  cases e1 : rUnt (l.drop 4) with
  | none =>
    have hno : parse l = none := by rw [hpar, e1]; rfl
    have e0 : ((Option.map (·.2) (Option.bind (some (l.drop 4)) rUnt)).bind rNum).map (·.2) = none := by show ((Option.map (·.2) (rUnt (l.drop 4))).bind rNum).map (·.2) = none; rw [e1]; rfl
    rw [e0] at hb6
    refine ldg (fun _ => hb6.cell rfl) ?_
    rw [e0]
    refine spn (.slice none 0 0) ?_
    refine spn (I 0) ?_
    refine brt ?_
    refine bd ?_
    refine sta o6 fun w7 k7 x7 => ?_
    exact rtc2 x7.at (read_none hno (B06.trans_wr k7 (by omega)))
  | some x =>
    have eA : Option.map (·.2) (Option.bind (some (l.drop 4)) rUnt) = some x.2 := by show Option.map (·.2) (rUnt (l.drop 4)) = _; rw [e1]; rfl
    rw [eA] at hr5 hb6 hr6 k6 ⊢
    obtain ⟨k, rfl, hk, hxk⟩ := hr5 x.2 rfl
    have hxl : x.2.length = l.length - k := by rw [hxk, List.length_drop]
    have ekk : l.length - x.2.length = k := by omega
    cases e2 : rNum x.2 with
    | none =>
      have hno : parse l = none := by rw [hpar, e1]; show (rNum x.2).bind _ = none; rw [e2]; rfl
      have e0 : ((some x.2).bind rNum).map (·.2) = none := by show (rNum x.2).map (·.2) = none; rw [e2]; rfl
      rw [e0] at hb6 ⊢
      refine ldg (fun _ => hb6.cell rfl) ?_
      refine spn (.slice none 0 0) ?_
      refine spn (I 0) ?_
      refine brt ?_
      refine bd ?_
      refine sta o6 fun w7 k7 x7 => ?_
      exact rtc2 x7.at (read_none hno (B06.trans_wr k7 (by omega)))
    | some y =>
      have e0 : ((some x.2).bind rNum).map (·.2) = some y.2 := by show (rNum x.2).map (·.2) = _; rw [e2]; rfl
      rw [e0] at hb6 hr6 ⊢
      obtain ⟨kk, rfl, hkk, hyk⟩ := hr6 y.2 rfl
      have hsum : sum = y.1 := by
        have := k6 y.1 y.2 e2
        simp only [vNum, Value.int.injEq, true_and] at this
        exact this
      subst hsum
      have hp : parse l = if y.2 = [] ∧ y.1 = sumB (l.take k) then some x.1 else none := by
        rw [hpar, e1]
        show (rNum x.2).bind _ = _
        rw [e2, ← ekk]; rfl
      have hyl : y.2.length = l.length - kk := by rw [hyk, List.length_drop]
      refine ldg (fun _ => hb6.cell rfl) ?_
      by_cases hy : kk = l.length
      · have hy0 : ¬ ¬ (kk : Int) = (l.length : Int) := fun q => q (by omega)
        have hynil : y.2 = [] := List.eq_nil_of_length_eq_zero (by omega)
        refine spt (.slice none 0 0) ?_ (hb := by rw [decide_eq_false hy0]; rfl)
        refine Eng.sl 0 k ?_
        refine spt (I 0) ?_
        have hlen : (l.take k).length = k := by rw [List.length_take]; omega
        have hSk : Sl eB T w6 (if c = 0 then a else a.map (·.add (0 * 1))) (l.take k) := slB_if (n := 0) (slB_take (hS.bl B06) _) (by rw [hlen]; omega)
        have hcs := r_SumS (l.take k) (if c = 0 then a else a.map (·.add (0 * 1))) (c - 0) T w6 hSk
        rw [hlen] at hcs
        refine cl hcs ?_
        rintro _ w6 ⟨rfl, rfl⟩
        refine br (fun h => ?_) (fun h => ?_)
        · rw [Bool.false_or] at h
          have hno : parse l = none := by rw [hp, if_neg fun q => of_decide_eq_true h q.2]
          refine bd ?_
          refine sta o6 fun w7 k7 x7 => ?_
          exact rtc2 x7.at (read_none hno (B06.trans_wr k7 (by omega)))
        · rw [Bool.false_or] at h
          have hsm : y.1 = sumB (l.take k) := Classical.not_not.1 (of_decide_eq_false h)
          have hpu : parse l = some x.1 := by rw [hp, if_pos ⟨hynil, hsm⟩]
          have hz := parse_size hpu
          obtain ⟨ua, eu, S1, S2, S3, S4⟩ := k3 x.1 x.2 e1
          have eu := agg_inj eu
          refine lda x6.at ?_
          refine sta o6 fun w7 k7 x7 => ?_
          have z7 := k7.size
          refine rtc2 x7.at ?_
          have K : Kp (fun i => w2.heap.size ≤ i ∧ i < w3.heap.size) w3 w7 := (B35.kp _).trans (((A6.kp.sub fun i hi => ap_ne (by omega))).trans (k7.kp fun i hi => by omega))
          unfold ReadR
          rw [hpu]
          refine ⟨ua, by rw [← eu], ?_, B06.trans_wr k7 (by omega)⟩
          exact ⟨by have := hz.1; omega, fun s hs => by have := hz.2 s hs; omega, (S1.kp K).sub fun i hi => by omega, (S2.kp K).sub fun i hi => by omega, (S3.kp K).sub fun i hi => by omega, (S4.kp K).sub fun i hi => by omega⟩
      · have hy0 : ¬ (kk : Int) = (l.length : Int) := by omega
        have hno : parse l = none := by
          rw [hp, if_neg fun q => by
            have := congrArg List.length q.1
            rw [List.length_nil] at this
            omega]
        refine spn (.slice none 0 0) ?_ (hb := by rw [decide_eq_true hy0]; rfl)
        refine spn (I 0) ?_ (hb := by rw [decide_eq_true hy0]; rfl)
        refine brt ?_ (hp := by rw [decide_eq_true hy0]; rfl)
        refine bd ?_
        refine sta o6 fun w7 k7 x7 => ?_
        exact rtc2 x7.at (read_none hno (B06.trans_wr k7 (by omega)))
set_option maxHeartbeats 1000000 in
theorem r_Decode (l : List UInt8) (a : Option Addr) (c : Nat) (w : World) (hS : Sl eB T w a l) (hl : l.length ≤ 1048576) (hcap : l.length ≤ c) : Ret Tryz.prog 38 #[.slice a l.length c] w (DecR l w) := by
  refine entr (vs := [.slice a l.length c]) [0, 2, 3, 4, 5, 6, 13, 18] tabok Tryz.func38 (by kernel_rfl) ?_
  refine al fun b2 w1 h1 => ?_
  have z1 := h1.size
  have y1 := h1.blk
  refine cl (r_Read l a c w1 (hS.bl h1.bl) hl hcap) ?_
  intro v w2 hv
  unfold ReadR at hv
  cases hpu : parse l with
  | none =>
    rw [hpu] at hv
    obtain ⟨rfl, B12⟩ := hv
    have z2 := B12.size
    refine al fun b4 w3 h3 => ?_
    have y3 := h3.blk
    refine sta h3.box fun w4 k4 x4 => ?_
    have B04 := (h1.bl.trans B12).trans (h3.wr k4)
    refine brt ?_
    refine bd ?_
    refine sta (Bl.box (B12.trans (h3.wr k4)) h1.box) fun w5 k5 x5 => ?_
    exact rtc2 x5.at (dec_none hpu (B04.trans_wr k5 (by omega)))
  | some u =>
    rw [hpu] at hv
    obtain ⟨a', rfl, hU, B12⟩ := hv
    have z2 := B12.size
    refine al fun b4 w3 h3 => ?_
    have y3 := h3.blk
    have z3 := h3.size
    refine sta (cs' := ucells u a') h3.box fun w4 k4 x4 => ?_
    have z4 := k4.size
    have B24 := h3.wr k4
    have B04 := (h1.bl.trans B12).trans B24
    have x2 := Bl.box (B12.trans B24) h1.box
    refine brf ?_
    refine lda x4.at ?_
    refine cl (r_Check u a' w4 ((hU.bl B24).all)) ?_
    rintro _ w5 ⟨rfl, B45⟩
    have B05 := B04.trans B45
    have z5 := B45.size
    refine br (t := decide (¬ checkE u = 0)) (fun h => ?_) (fun h => ?_)
    · have h0 := of_decide_eq_true h
      refine bd ?_
      refine sta (Bl.box B45 x2) fun w6 k6 x6 => ?_
      exact rtc2 x6.at (dec_err (by unfold decE; rw [hpu]) (by unfold decU; rw [hpu]; exact if_neg h0) (B05.trans_wr k6 (by omega)))
    have h0 : checkE u = 0 := Classical.not_not.1 (of_decide_eq_false h)
    refine lda (Bl.box B45 x4).at ?_
    refine sta (Bl.box B45 x2) fun w6 k6 x6 => ?_
    have eE : decE l = 0 := by unfold decE; rw [hpu]; exact h0
    have eU : decU l = u := by unfold decU; rw [hpu]; exact if_pos h0
    refine rtc2 x6.at ⟨a', ?_, ?_, B05.trans_wr k6 (by omega)⟩
    · rw [eE, eU]; rfl
    · rw [eU]
      exact ((((hU.bl B24).bl B45).kp (k6.kp fun i hi => by omega))).all
end Go.Proofs.YtopjmiklpnejmaaGreatDoor

/- Walks: the law UnitChecks. -/
namespace Go.Proofs.YtopjmiklpnejmaaGreatDoor
open Eng Go.RowKit
theorem l_Checks (u : Unt) (a : UA) (w : World) (hU : UnR T w u a) (hG : Gl w) : Ret Tryz.prog 4 #[.agg (ucells u a).toArray] w fun v w' => v = .bool true ∧ Bl w w' := by
  refine entr (vs := [.agg (ucells u a).toArray]) [0, 1, 2, 3, 5] tabok Tryz.func4 (by kernel_rfl) ?_
  refine bx (cs := ucells u a) fun b1 w1 h1 => ?_
  refine lda h1.box.at ?_
  refine cl (l_heavy u a w1 (hU.bl h1.bl)) ?_
  rintro _ w2 ⟨hv, rfl, B12⟩
  have B02 := h1.bl.trans B12
  have hx1 := Bl.box B12 h1.box
  cases hv with
  | true =>
    refine br (fun _ => ?_) (fun q => ?_)
    · refine cl (l_sane w2 (hG.bl B02)) ?_
      rintro _ w3 ⟨rfl, h3⟩
      exact rt1 ⟨rfl, B02.trans h3⟩
    · cases q
  | false =>
    refine br (fun q => ?_) (fun _ => ?_)
    · cases q
    refine lda hx1.at ?_
    refine cl (r_Copy u a w2 (hU.bl B02)) ?_
    rintro _ w3 ⟨a', rfl, hV, B23⟩
    refine al fun b4 w4 h4 => ?_
    refine sta h4.box fun w5 k5 hx5 => ?_
    have B35 : Bl w3 w5 := h4.wr k5
    have B05 := (B02.trans B23).trans B35
    have hy1 := Bl.box (B23.trans B35) hx1
    refine dh T [0, 2, 1, 3, 4, 5, 6, 7, 8, 9, 10, 11, 12, 13] fun w6 h6 => ?_
    have B06 := B05.trans h6.bl
    replace hy1 := Bl.box h6.bl hy1
    replace hx5 := Bl.box h6.bl hx5
    refine lda hx5.at ?_ (hm := trivial)
    refine lda hy1.at ?_ (hm := trivial)
    refine cl (u_Check u a' w6 ((hV.bl (B35.trans h6.bl)).all) (hG.bl B06)) ?_
    rintro _ w7 ⟨rfl, B67⟩
    refine cl (r_Check u a w7 (hU.bl (B06.trans B67))) ?_
    rintro _ w8 ⟨rfl, B78⟩
    have B68 := B67.trans B78
    refine spt (.agg (ucells u a).toArray) ?_
    refine lda (Bl.box B68 hy1).at ?_ (hm := trivial)
    refine spt (.agg (ucells u a).toArray) ?_
    refine lda (Bl.box B68 hx5).at ?_ (hm := trivial)
    refine spt (.bool true) ?_
    refine cl (r_Same_eq u a a' w8 (hU.bl (B06.trans B68)) (hV.bl ((B35.trans h6.bl).trans B68)).all) ?_
    rintro _ w9 ⟨rfl, B89⟩
    refine spt (.bool true) ?_
    refine cl (l_sane w9 (hG.bl ((B06.trans B68).trans B89))) ?_
    rintro _ w10 ⟨rfl, B910⟩
    exact rt1 ⟨by first | rfl | simp, ((B06.trans B68).trans B89).trans B910⟩
end Go.Proofs.YtopjmiklpnejmaaGreatDoor

/- The law UnitInterns: what is taken in is there, and stays when it is taken in again. -/
namespace Go.Proofs.YtopjmiklpnejmaaGreatDoor
open Eng Go.RowKit
theorem dup_snoc (s : ByteArray) : ∀ l : List ByteArray, dup (l ++ [s]) = (dup l || hasB l s)
  | [] => by simp [dup, hasB]
  | x :: l => by
    have ih := dup_snoc s l
    have e : hasB (l ++ [s]) x = (hasB l x || decide (s = x)) := by simp [hasB]
    have e2 : hasB (x :: l) s = (decide (x = s) || hasB l s) := by simp [hasB]
    rw [List.cons_append, dup, dup, ih, e, e2]
    by_cases h : s = x
    · subst h; cases hasB l s <;> cases dup l <;> simp
    · have h' : ¬ x = s := fun h2 => h h2.symm
      cases hasB l s <;> cases dup l <;> cases hasB l x <;> simp [h, h']
theorem inE_zero {l : List ByteArray} {s : ByteArray} (h : inE l s = 0) : (noP s || l.any noP) = false ∧ dup l = false ∧ ¬ (60 < l.length ∨ (Lib.idxOfS l s < 0 ∧ l.length = 60)) := by
  unfold inE at h
  split at h
  · cases h
  rename_i h1
  split at h
  · cases h
  rename_i h2
  split at h
  · cases h
  rename_i h3
  exact ⟨by simpa using h1, by simpa using h2, h3⟩
theorem inE_of {l : List ByteArray} {s : ByteArray} (h1 : (noP s || l.any noP) = false) (h2 : dup l = false) (h3 : ¬ (60 < l.length ∨ (Lib.idxOfS l s < 0 ∧ l.length = 60))) : inE l s = 0 := by
  unfold inE
  rw [h1, h2, if_neg (by decide), if_neg (by decide), if_neg h3]
/-- once more -/
theorem in_again {l : List ByteArray} {s : ByteArray} (h : inE l s = 0) : inE (inL l s) s = 0 ∧ inL (inL l s) s = inL l s ∧ inA (inL l s) s = inA l s ∧ 0 ≤ inA l s ∧ (inL l s)[(inA l s).toNat]? = some s ∧ (inL l s).length ≤ 60 := by
  obtain ⟨h1, h2, h3⟩ := inE_zero h
  by_cases hi : Lib.idxOfS l s < 0
  · have hm : s ∉ l := fun q => by have := (Lib.idxOfS_nonneg_iff l s).2 q; omega
    have eL : inL l s = l ++ [s] := by unfold inL; rw [if_pos h, if_pos hi]
    have eA : inA l s = l.length := by unfold inA; rw [if_pos h, if_pos hi]
    have hd : dup (l ++ [s]) = false := by
      rw [dup_snoc, h2, Bool.false_or, ← Bool.not_eq_true, hasB_iff]; exact hm
    have hat : (l ++ [s])[l.length]? = some s := by rw [List.getElem?_append_right (Nat.le_refl _), Nat.sub_self]; rfl
    have hx : ((l.length : Nat) : Int) = Lib.idxOfS (l ++ [s]) s := last_idx hd (fun _ => ⟨by omega, by rw [Int.toNat_natCast]; exact hat⟩) (fun q => absurd (List.mem_append_right l (List.mem_singleton.2 rfl)) q)
    have hn : (noP s || (l ++ [s]).any noP) = false := by
      rw [Bool.or_eq_false_iff] at h1
      rw [List.any_append, h1.1, h1.2]; simp [h1.1]
    have hE : inE (l ++ [s]) s = 0 := inE_of hn hd (by rw [← hx, List.length_append]; simp only [List.length_cons, List.length_nil]; omega)
    rw [eL, eA]
    refine ⟨hE, ?_, ?_, by omega, by rw [Int.toNat_natCast]; exact hat, by rw [List.length_append]; simp only [List.length_cons, List.length_nil]; omega⟩
    · unfold inL; rw [if_pos hE, if_neg (by omega)]
    · unfold inA; rw [if_pos hE, if_neg (by omega), ← hx]
  · have hm : s ∈ l := (Lib.idxOfS_nonneg_iff l s).1 (by omega)
    have eL : inL l s = l := by unfold inL; rw [if_pos h, if_neg hi]
    have eA : inA l s = Lib.idxOfS l s := by unfold inA; rw [if_pos h, if_neg hi]
    obtain ⟨k, hk⟩ := List.mem_iff_getElem?.1 hm
    have hx : ((k : Nat) : Int) = Lib.idxOfS l s := last_idx h2 (fun _ => ⟨by omega, by rw [Int.toNat_natCast]; exact hk⟩) (fun q => absurd hm q)
    rw [eL]
    refine ⟨h, eL, rfl, by rw [eA]; omega, by rw [eA, ← hx, Int.toNat_natCast]; exact hk, by omega⟩
theorem in_sizes {l : List ByteArray} {s : ByteArray} (hl : ∀ x ∈ l, x.size ≤ 1048576) (hs : s.size ≤ 1048576) : ∀ x ∈ inL l s, x.size ≤ 1048576 := fun x hx => by
  unfold inL at hx
  split at hx
  · split at hx
    · rcases List.mem_append.1 hx with h | h
      · exact hl x h
      · rw [List.mem_singleton.1 h]; exact hs
    · exact hl x hx
  · cases hx
theorem made0 {w w' : World} {b e esz cap : Nat} {cs : List Value} (h : New w b e cs w') (hl : cs.length = cap * esz) (hn : cap ≤ 8388608) : Ow w' b e esz (some ⟨b, 0, none⟩) 0 cap [] :=
  ⟨⟨by simp, .inr ⟨b, cap, cs.toArray, rfl, Nat.le_refl _, h.box, Nat.zero_le _, by unfold maxLen; omega, by simp [hl], by simp⟩⟩⟩
theorem l_Interns (l : List ByteArray) (a : Option Addr) (cap : Nat) (s : ByteArray) (w : World) (hS : Sl eStr T w a l) (hl : ∀ x ∈ l, x.size ≤ 1048576) (hs : s.size ≤ 1048576) (hG : Gl w) :
    Ret Tryz.prog 5 #[.slice a l.length cap, .string s] w fun v w' => v = .bool true ∧ Bl w w' := by
  have hbig := hS.big
  refine entr (vs := [.slice a l.length cap, .string s]) [0, 1, 4, 5, 6, 7, 8, 9, 10, 11, 12, 13, 14, 17, 58, 60, 88] tabok Tryz.func5 (by kernel_rfl) ?_
  refine br (fun _ => ?_) (fun hn => ?_)
  · refine cl (l_sane w hG) ?_
    rintro _ w1 ⟨rfl, h1⟩
    exact rt1 ⟨rfl, h1⟩
  have hn := of_decide_eq_false hn
  refine mk (m := 0) (n := l.length + 3) ?_ (hy := by exact congrArg some (vi (by rw [wrap_fit (by omega) (by omega)]; rfl)))
  intro b1 w1 h1
  obtain rfl := h1.blk
  have hO1 : OwP 1 encStr w1 w.heap.size 9 (some ⟨w.heap.size, 0, none⟩) (l.length + 3) [] := made0 h1 (by rw [rep_length]; rfl) (by omega)
  refine apl (enc := encStr) (l0 := []) (l1 := l) hO1 (src_of (hS.bl h1.bl)) (by have := h1.size; omega) (fun a2 cap2 w2 hO2 hA2 hf2 => ?_)
  have B02 : Bl w w2 := Eng.Ow.below hO1 hA2 h1.bl (by have := h1.size; omega)
  have hS2 : Sl eStr T w2 a2 l := owp_sl hO2 hbig fun _ _ => trivial
  refine cl (u_Intern l a2 cap2 s w2 hS2 hl hs (hG.bl B02)) ?_
  rintro _ w3 ⟨a3, cap3, rfl, hS3, h3⟩
  have B03 := B02.trans h3
  refine cl (r_Intern l a cap s w3 (hS.bl B03) hl hs) ?_
  rintro _ w4 ⟨a4, cap4, rfl, hS4, h4⟩
  have B04 := B03.trans h4
  refine spt (.bool true) ?_
  refine cl (r_SameStrings (inL l s) (inL l s) a3 a4 cap3 cap4 w4 (hS3.bl h4) hS4) ?_
  rintro _ w5 ⟨rfl, h5⟩
  rw [decide_eq_true (rfl : inL l s = inL l s)]
  refine spt (.bool true) ?_
  refine cl (r_SameStrings l l a2 a cap2 cap w5 (hS2.bl ((h3.trans h4).trans h5)) (hS.bl (B04.trans h5))) ?_
  rintro _ w6 ⟨rfl, h6⟩
  rw [decide_eq_true (rfl : l = l)]
  have B06 := (B04.trans h5).trans h6
  have h36 := (h4.trans h5).trans h6
  refine brf ?_
  refine br (fun hE => ?_) (fun _ => ?_)
  rotate_left
  · refine cl (l_sane w6 (hG.bl B06)) ?_
    rintro _ w7 ⟨rfl, h7⟩
    exact rt1 ⟨rfl, B06.trans h7⟩
  have hE := of_decide_eq_true hE
  obtain ⟨e1, e2, e3, e4, e5, e6⟩ := in_again hE
  refine cl (u_Intern (inL l s) a3 cap3 s w6 (hS3.bl h36) (in_sizes hl hs) hs (hG.bl B06)) ?_
  rintro _ w7 ⟨a7, cap7, rfl, hS7, h7⟩
  rw [e2] at hS7 ⊢
  rw [e1, e3]
  refine spt (.bool true) ?_
  refine cl (r_SameStrings (inL l s) (inL l s) a7 a3 cap7 cap3 w7 hS7 (hS3.bl (h36.trans h7))) ?_
  rintro _ w8 ⟨rfl, h8⟩
  rw [decide_eq_true (rfl : inL l s = inL l s)]
  have hlt := (List.getElem?_eq_some_iff.1 e5).1
  obtain ⟨x, b, o, cs, hx, rfl, _, hAt, rfl⟩ := at_some (hS3.bl ((h36.trans h7).trans h8)) hlt
  obtain rfl : s = x := by rw [e5] at hx; exact Option.some.inj hx
  refine spt (.pointer none) ?_
  refine ix (j := (inA l s).toNat) ?_ (hij := by exact (Int.toNat_of_nonneg e4).symm)
  refine spt (.string s) ?_
  refine ld (hAt 0 _ rfl) ?_
  refine brf ?_
  have B08 := (B06.trans h7).trans h8
  refine cl (l_sane w8 (hG.bl B08)) ?_
  rintro _ w9 ⟨rfl, h9⟩
  exact rt1 ⟨rfl, B08.trans h9⟩
end Go.Proofs.YtopjmiklpnejmaaGreatDoor

/- Walks: a unit copied, in the document: in rows of its own. -/
namespace Go.Proofs.YtopjmiklpnejmaaGreatDoor
open Eng Go.RowKit
theorem take_push {α : Type} {l : List α} {k : Nat} (hk : l.length = k) (x : α) (i : Nat) : ((l ++ [x]).take (k + 1))[i]? = if i = k then some x else (l.take k)[i]? := by
  subst hk
  rw [List.take_of_length_le (by simp), List.take_length]
  by_cases h : i = l.length
  · subst h; simp
  · rw [if_neg h]
    rcases Nat.lt_or_ge i l.length with q | q
    · rw [List.getElem?_append_left q]
    · rw [List.getElem?_eq_none (by simp; omega), List.getElem?_eq_none q]
/-- one more class, its fields in a row of their own -/
theorem rowN_pushC {X : UX} {k j : Nat} {x : ClR} {a : Option Addr} {c : Nat} (hk : X.cl.length = k) : setR (setR (rowN X k j) (.fld k) (rwF x)) .cls ⟨58, 3, a, (X.cl ++ [x]).length, c, (X.cl ++ [x]).flatMap encC⟩ = rowN { X with cl := X.cl ++ [x], a2 := a, c2 := c } (k + 1) j := by
  funext key
  cases key with
  | fld i =>
    simp only [setR, rowN, reduceCtorEq, if_false, Key.fld.injEq, take_push hk]
    by_cases h : i = k
    · rw [if_pos h, if_pos h]; rfl
    · rw [if_neg h, if_neg h]
  | _ => simp [setR, rowN]
theorem rowN_pushM {X : UX} {i k : Nat} {x : MtR} {a : Option Addr} {c : Nat} (hk : X.ml.length = k) : setR (setR (setR (setR (rowN X i k) (.prm k) (rwP x)) (.loc k) (rwL x)) (.cod k) (rwI x)) .mth ⟨64, 7, a, (X.ml ++ [x]).length, c, (X.ml ++ [x]).flatMap encM⟩ = rowN { X with ml := X.ml ++ [x], a4 := a, c4 := c } i (k + 1) := by
  have key3 : ∀ (j : Nat) (f : MtR → Rw), (if j = k then f x else (((X.ml.take k)[j]?).map f).getD (Rw.no 0 0)) = ((((X.ml ++ [x]).take (k + 1))[j]?).map f).getD (Rw.no 0 0) := fun j f => by
    rw [take_push hk]
    by_cases h : j = k
    · rw [if_pos h, if_pos h]; rfl
    · rw [if_neg h, if_neg h]
  funext key
  cases key with
  | prm j => simpa [setR, rowN] using key3 j rwP
  | loc j => simpa [setR, rowN] using key3 j rwL
  | cod j => simpa [setR, rowN] using key3 j rwI
  | _ => simp [setR, rowN]
/-- a row that is empty may be one of other elements -/
theorem SepR.empty {w : World} {base : Nat} {R : Key → Rw} (h : SepR w base R) (k : Key) {r : Rw} (hr : r.a = none) (hn : r.n = 0) (hc : r.cap = 0) (hs : r.cs = []) : SepR w base (setR R k r) := by
  refine h.upd k (Ap.of_bl (Bl.refl w) _) (by unfold Rw.ok; rw [hr, hn, hc, hs]; exact Ow.nil ..) fun g hg => by rw [hr] at hg; cases hg
theorem r_Copy2 (u : Unt) (a : UA) (w : World) (hU : UnR T w u a) : Ret Tryz.prog 20 #[.agg (ucells u a).toArray] w fun v w' => ∃ X, v = .agg X.cells.toArray ∧ X.u = u ∧ SepU w' w.heap.size X ∧ Bl w w' := by
  have hU0 := hU.lt
  have hp1 := hU.pool.big
  have hp2 := hU.cls.big
  have hp3 := hU.sta.big
  have hp4 := hU.mth.big
  refine entr (vs := [.agg (ucells u a).toArray]) [0, 1, 2, 3, 4, 5, 6, 7, 27, 49] tabok Tryz.func20 (by kernel_rfl) ?_
  refine bx (cs := ucells u a) fun b1 w1 h1 => ?_
  refine al fun b2 w2 h2 => ?_
  have hx12 := Bl.box h2.bl h1.box
  refine ld (hx12.cell rfl) ?_
  refine bd ?_
  refine al fun b3 w3 h3 => ?_
  refine sta h3.box fun w4 k4 hx4 => ?_
  have B24 : Bl w2 w4 := h3.wr k4
  have B04 : Bl w w4 := (h1.bl.trans h2.bl).trans B24
  have z1 := h1.size
  have z2 := h2.size
  have z3 := h3.size
  have z4 := k4.size
  have y1 := h1.blk
  have y2 := h2.blk
  have y3 := h3.blk
  have hx14 := Bl.box B24 hx12
  have hx24 := Bl.box B24 h2.box
  refine ld (hx4.cell rfl) ?_
  refine ld (hx14.cell rfl) ?_
  refine apl (enc := encStr) (base := w4.heap.size) (l0 := []) (l1 := u.pool) (Ow.nil ..) (src_of (hU.bl B04).pool) (Nat.le_refl _) (fun a5 cap5 w5 hO5 hA5 hf5 => ?_)
  have B45 : Bl w4 w5 := hA5.below (Nat.le_refl _) fun g hg => absurd hg nn
  refine st (Bl.box B45 hx4) fun w6 k6 hx6 => ?_
  refine ld (hx6.cell rfl) ?_
  have S6 : CpS w w4 b3 w6 := ((CpS.refl B04 (by omega)).bl B45).wr k6 (.inl rfl)
  have z5 := B45.size
  have z6 := k6.size
  refine ld ((S6.box hx14 (by omega)).cell rfl) ?_
  refine apl (enc := encFld) (base := w4.heap.size) (l0 := []) (l1 := u.statics) (Ow.nil ..) (src_of (hU0.below S6.below).sta) (by omega) (fun a7 cap7 w7 hO7 hA7 hf7 => ?_)
  have B67 : Bl w6 w7 := hA7.below (Nat.le_refl _) fun g hg => absurd hg nn
  refine st (Bl.box B67 hx6) fun w8 k8 hx8 => ?_
  have S8 : CpS w w4 b3 w8 := (S6.bl B67).wr k8 (.inl rfl)
  have z7 := B67.size
  have z8 := k8.size
  have hB3 : b3 < w4.heap.size := hx4.lt
  have q8 : SepR w8 w4.heap.size (rowN ⟨u.name, a5, cap5, u.pool, none, 0, [], a7, cap7, u.statics, none, 0, []⟩ 0 0) := by
    have q0 : SepR w4 w4.heap.size fun _ => Rw.no 0 0 := SepR.no _ _ _ fun _ => ⟨0, 0, rfl⟩
    have q1 := q0.upd .pool (r := ⟨9, 1, a5, u.pool.length, cap5, u.pool.flatMap encStr⟩) hA5 hO5 hf5
    have q2 := (q1.wr k6 hB3).upd .sta (r := ⟨86, 3, a7, u.statics.length, cap7, u.statics.flatMap encFld⟩) hA7 hO7 hf7
    have q3 := ((q2.wr k8 hB3).empty .cls (r := ⟨58, 3, none, 0, 0, []⟩) rfl rfl rfl rfl).empty .mth (r := ⟨64, 7, none, 0, 0, []⟩) rfl rfl rfl rfl
    refine cast (congrArg (SepR w8 w4.heap.size) (funext fun k => ?_)) q3
    cases k <;> simp [setR, rowN]
  refine lpk u.classes.length 4 [] [(1, .pointer (some ⟨b1, 0, none⟩)), (2, .pointer (some ⟨b2, 0, none⟩)), (3, .pointer (some ⟨b3, 0, none⟩))] (fun k vals w' => vals = [] ∧ CpS w w4 b3 w' ∧ ∃ ac cc, ∃ xs : List ClR, xs.map (·.c) = u.classes.take k ∧ SepR w' w4.heap.size (rowN ⟨u.name, a5, cap5, u.pool, ac, cc, xs, a7, cap7, u.statics, none, 0, []⟩ k 0) ∧
    Box w' b3 30 [.string u.name, .slice a5 u.pool.length cap5, .slice ac xs.length cc, .slice a7 u.statics.length cap7, .slice none 0 0]) ⟨rfl, S8, none, 0, [], rfl, q8, hx8⟩ ?_
  rintro k vals w9 hk ⟨rfl, S9, ac, cc, xs, exs, hS9, hx9⟩ ih
  have lxs : xs.length = k := by have := congrArg List.length exs; rw [List.length_map, List.length_take] at this; omega
  have hx19 := S9.box hx14 (by omega)
  have z9 := S9.sz
  refine ld (hx19.cell rfl) ?_
  by_cases hlt : k < u.classes.length
  · refine brT ?_
    obtain ⟨c, bs2, o2, cs, hc, e2, _, hAt, af, cf, rfl, hf⟩ := at_some (hU0.below S9.below).cls hlt
    refine ld (hx19.cell rfl) ?_
    rw [e2]
    refine ix ?_
    refine lda hAt ?_
    refine al fun b5 w10 h10 => ?_
    refine sta h10.box fun w11 k11 hx11 => ?_
    have B911 : Bl w9 w11 := h10.wr k11
    have z10 := h10.size
    have z11 := k11.size
    have y10 := h10.blk
    have hfb := hf.big
    refine ld (hx11.cell rfl) ?_
    refine apl (enc := encFld) (base := w4.heap.size) (l0 := []) (l1 := c.fields) (Ow.nil ..) (src_of (hf.bl B911)) (by omega) (fun a12 cap12 w12 hO12 hA12 hf12 => ?_)
    have B1112 : Bl w11 w12 := hA12.below (Nat.le_refl _) fun g hg => absurd hg nn
    refine st (Bl.box B1112 hx11) fun w13 k13 hx13 => ?_
    have z12 := B1112.size
    have z13 := k13.size
    have B1013 : Bl w9 w13 := (B911.trans B1112).trans_wr k13 (by omega)
    refine ld ((Bl.box B1013 hx9).cell rfl) ?_
    refine lda hx13.at ?_
    refine bs fun b14 w14 h14 => ?_
    have z14 := h14.size
    have B914 : Bl w9 w14 := B1013.trans h14.bl
    have g12 : ∀ g, a12 = some ⟨g, 0, none⟩ → w11.heap.size ≤ g := fun g hg => by
      rcases hf12 g hg with e | e
      · cases e
      · exact e
    have q14 := hS9.upd (.fld k) (r := rwF ⟨c, a12, cap12⟩) (Ap.of_bl B914 _) ((Ow.wr hO12 k13 fun g hg => by have := g12 g hg; omega).bl h14.bl) fun g hg => .inr (by have := g12 g hg; omega)
    have ho14 : OwP 3 encC w14 w4.heap.size 58 ac cc xs := q14.own .cls
    refine apl (enc := encC) (base := w4.heap.size) (l0 := xs) (l1 := [⟨c, a12, cap12⟩]) ho14 (.inr ⟨b14, 0, rfl, h14.box.at⟩) (by omega) (fun a15 cap15 w15 hO15 hA15 hf15 => ?_)
    have q15 := q14.upd .cls (r := ⟨58, 3, a15, (xs ++ [(⟨c, a12, cap12⟩ : ClR)]).length, cap15, (xs ++ [(⟨c, a12, cap12⟩ : ClR)]).flatMap encC⟩) hA15 hO15 hf15
    have hlt9 : ∀ g, ac = some ⟨g, 0, none⟩ → w4.heap.size ≤ g := fun g hg => (hS9.lt (k := .cls) hg).1
    have S15 := (S9.bl B914).ap hA15 hlt9
    refine st (hA15.box (Bl.box B914 hx9) fun e => by have := hlt9 _ e; omega) fun w16 k16 hx16 => ?_
    have hq := q15.wr k16 hB3
    rw [rowN_pushC (X := ⟨u.name, a5, cap5, u.pool, ac, cc, xs, a7, cap7, u.statics, none, 0, []⟩) lxs] at hq
    refine ih hlt ⟨rfl, S15.wr k16 (.inl rfl), a15, cap15, xs ++ [⟨c, a12, cap12⟩], by rw [List.map_append, exs, take_succ_some hc]; rfl, hq, ?_⟩
    exact hx16
  refine brF ?_
  obtain rfl : k = u.classes.length := by omega
  clear ih
  rw [List.take_length] at exs
  refine lpk u.methods.length 6 [] [(1, .pointer (some ⟨b1, 0, none⟩)), (2, .pointer (some ⟨b2, 0, none⟩)), (3, .pointer (some ⟨b3, 0, none⟩))] (fun k vals w' => vals = [] ∧ CpS w w4 b3 w' ∧ ∃ am cm, ∃ ms : List MtR, ms.map (·.m) = u.methods.take k ∧ SepR w' w4.heap.size (rowN ⟨u.name, a5, cap5, u.pool, ac, cc, xs, a7, cap7, u.statics, am, cm, ms⟩ u.classes.length k) ∧
    Box w' b3 30 [.string u.name, .slice a5 u.pool.length cap5, .slice ac xs.length cc, .slice a7 u.statics.length cap7, .slice am ms.length cm]) ⟨rfl, S9, none, 0, [], rfl, hS9, hx9⟩ ?_
  rintro k vals wA hk ⟨rfl, SA, am, cm, ms, ems, hSA, hxA⟩ ih
  have lms : ms.length = k := by have := congrArg List.length ems; rw [List.length_map, List.length_take] at this; omega
  have hx1A := SA.box hx14 (by omega)
  have zA := SA.sz
  refine ld (hx1A.cell rfl) ?_
  by_cases hlt : k < u.methods.length
  · refine brT ?_
    obtain ⟨m, bs2, o2, cs, hm, e2, _, hAt, q1, s1, q2, s2, q3, s3, rfl, f1, f2, f3⟩ := at_some (hU0.below SA.below).mth hlt
    have g1 := f1.big
    have g2 := f2.big
    have g3 := f3.big
    refine ld (hx1A.cell rfl) ?_
    rw [e2]
    refine ix ?_
    refine lda hAt ?_
    refine al fun b5 w10 h10 => ?_
    refine sta h10.box fun w11 k11 hx11 => ?_
    have BA11 : Bl wA w11 := h10.wr k11
    have z10 := h10.size
    have z11 := k11.size
    have y10 := h10.blk
    refine ld (hx11.cell rfl) ?_
    refine apl (enc := encTy) (base := w4.heap.size) (l0 := []) (l1 := m.params) (Ow.nil ..) (src_of (f1.bl BA11)) (by omega) (fun a12 cap12 w12 hO12 hA12 hf12 => ?_)
    have B1112 : Bl w11 w12 := hA12.below (Nat.le_refl _) fun g hg => absurd hg nn
    refine st (Bl.box B1112 hx11) fun w13 k13 hx13 => ?_
    have z12 := B1112.size
    have z13 := k13.size
    have BA13 : Bl wA w13 := (BA11.trans B1112).trans_wr k13 (by omega)
    refine ld (hx13.cell rfl) ?_
    refine apl (enc := encTy) (base := w4.heap.size) (l0 := []) (l1 := m.locals) (Ow.nil ..) (src_of (f2.bl BA13)) (by omega) (fun a14 cap14 w14 hO14 hA14 hf14 => ?_)
    have B1314 : Bl w13 w14 := hA14.below (Nat.le_refl _) fun g hg => absurd hg nn
    refine st (Bl.box B1314 hx13) fun w15 k15 hx15 => ?_
    have z14 := B1314.size
    have z15 := k15.size
    have BA15 : Bl wA w15 := (BA13.trans B1314).trans_wr k15 (by omega)
    refine ld (hx15.cell rfl) ?_
    refine apl (enc := encIns) (base := w4.heap.size) (l0 := []) (l1 := m.code) (Ow.nil ..) (src_of (f3.bl BA15)) (by omega) (fun a16 cap16 w16 hO16 hA16 hf16 => ?_)
    have B1516 : Bl w15 w16 := hA16.below (Nat.le_refl _) fun g hg => absurd hg nn
    refine st (Bl.box B1516 hx15) fun w17 k17 hx17 => ?_
    have z16 := B1516.size
    have z17 := k17.size
    have BA17 : Bl wA w17 := (BA15.trans B1516).trans_wr k17 (by omega)
    refine ld ((Bl.box BA17 hxA).cell rfl) ?_
    refine lda hx17.at ?_
    refine bs fun b18 w18 h18 => ?_
    have z18 := h18.size
    have BA18 : Bl wA w18 := BA17.trans h18.bl
    have fr : ∀ {x : Option Addr} {w1 : World}, (∀ g, x = some ⟨g, 0, none⟩ → (none : Option Addr) = some ⟨g, 0, none⟩ ∨ w1.heap.size ≤ g) → ∀ g, x = some ⟨g, 0, none⟩ → w1.heap.size ≤ g := fun h g hg => by
      rcases h g hg with e | e
      · cases e
      · exact e
    have g12 := fr hf12
    have g14 := fr hf14
    have g16 := fr hf16
    let x : MtR := ⟨m, a12, cap12, a14, cap14, a16, cap16⟩
    have qA : SepR w12 w4.heap.size (setR (rowN ⟨u.name, a5, cap5, u.pool, ac, cc, xs, a7, cap7, u.statics, am, cm, ms⟩ u.classes.length k) (.prm k) (rwP x)) :=
      hSA.upd (.prm k) (r := rwP x) (Ap.of_bl (BA11.trans B1112) _) hO12 fun g hg => .inr (by have := g12 g hg; omega)
    have nb : ∀ {w1 w2 : World} {R : Key → Rw}, SepR w1 w4.heap.size R → Wr w1 b5 w2 → (∀ j g, (R j).a = some ⟨g, 0, none⟩ → g ≠ b5) → SepR w2 w4.heap.size R := fun h k hn => h.ap k.ap fun j g hg e => hn j g hg (by simp only [Option.some.injEq, Addr.mk.injEq, and_true] at e; exact e.symm)
    have n0 : ∀ j g, (rowN ⟨u.name, a5, cap5, u.pool, ac, cc, xs, a7, cap7, u.statics, am, cm, ms⟩ u.classes.length k j).a = some ⟨g, 0, none⟩ → g ≠ b5 := fun j g hg => by have := (hSA.lt hg).2; omega
    have n1 : ∀ {R : Key → Rw} {j0 : Key} {r : Rw}, (∀ j g, (R j).a = some ⟨g, 0, none⟩ → g ≠ b5) → (∀ g, r.a = some ⟨g, 0, none⟩ → g ≠ b5) → ∀ j g, (setR R j0 r j).a = some ⟨g, 0, none⟩ → g ≠ b5 := fun h h2 j g hg => by
      unfold setR at hg
      split at hg
      · exact h2 g hg
      · exact h j g hg
    have nA := n1 (j0 := .prm k) (r := rwP x) n0 fun g hg => by have := g12 g hg; omega
    have qB := nb qA k13 nA
    have qC := qB.upd (.loc k) (r := rwL x) (Ap.of_bl B1314 _) hO14 fun g hg => .inr (by have := g14 g hg; omega)
    have nC := n1 (j0 := .loc k) (r := rwL x) nA fun g hg => by have := g14 g hg; omega
    have qD := nb qC k15 nC
    have qE := qD.upd (.cod k) (r := rwI x) (Ap.of_bl B1516 _) hO16 fun g hg => .inr (by have := g16 g hg; omega)
    have nE := n1 (j0 := .cod k) (r := rwI x) nC fun g hg => by have := g16 g hg; omega
    have q18 := (nb qE k17 nE).bl h18.bl
    have ho18 : OwP 7 encM w18 w4.heap.size 64 am cm ms := q18.own .mth
    refine apl (enc := encM) (base := w4.heap.size) (l0 := ms) (l1 := [x]) ho18 (.inr ⟨b18, 0, rfl, h18.box.at⟩) (by omega) (fun a19 cap19 w19 hO19 hA19 hf19 => ?_)
    have q19 := q18.upd .mth (r := ⟨64, 7, a19, (ms ++ [x]).length, cap19, (ms ++ [x]).flatMap encM⟩) hA19 hO19 hf19
    have hltA : ∀ g, am = some ⟨g, 0, none⟩ → w4.heap.size ≤ g := fun g hg => (hSA.lt (k := .mth) hg).1
    have S19 := (SA.bl BA18).ap hA19 hltA
    refine st (hA19.box (Bl.box BA18 hxA) fun e => by have := hltA _ e; omega) fun w20 k20 hx20 => ?_
    have hq := q19.wr k20 hB3
    rw [rowN_pushM (X := ⟨u.name, a5, cap5, u.pool, ac, cc, xs, a7, cap7, u.statics, am, cm, ms⟩) lms] at hq
    refine ih hlt ⟨rfl, S19.wr k20 (.inl rfl), a19, cap19, ms ++ [x], by rw [List.map_append, ems, take_succ_some hm]; rfl, hq, ?_⟩
    exact hx20
  refine brF ?_
  obtain rfl : k = u.methods.length := by omega
  rw [List.take_length] at ems
  refine lda hxA.at ?_
  refine sta (SA.box hx24 (by omega)) fun wB kB hxB => ?_
  refine rtc hxB.at ⟨⟨u.name, a5, cap5, u.pool, ac, cc, xs, a7, cap7, u.statics, am, cm, ms⟩, rfl, ?_, ?_, SA.below.trans (kB.below (by omega))⟩
  · simp only [UX.u, exs, ems]
  · unfold SepU UX.row
    rw [lxs, lms]
    exact (hSA.wr kB (by omega)).base B04.size
end Go.Proofs.YtopjmiklpnejmaaGreatDoor

/- Walks: the document's comparison of any two units. -/
namespace Go.Proofs.YtopjmiklpnejmaaGreatDoor
open Eng Go.RowKit
theorem sameU_no {u v : Unt} (h : ¬ (u.name = v.name ∧ u.pool = v.pool ∧ u.classes = v.classes ∧ u.statics = v.statics ∧ u.methods = v.methods)) : sameU u v = false := by
  rw [← Bool.not_eq_true]
  intro h2
  simp only [sameU, Bool.and_eq_true, decide_eq_true_eq] at h2
  exact h ⟨h2.1.1.1.1, h2.1.1.1.2, h2.1.1.2, h2.1.2, h2.2⟩
theorem r_Same (u v : Unt) (a b : UA) (w : World) (hU : UnR T w u a) (hV : UnR T w v b) : Ret Tryz.prog 23 #[.agg (ucells u a).toArray, .agg (ucells v b).toArray] w fun x w' => x = .bool (sameU u v) ∧ Bl w w' := by
  refine entr (vs := [.agg (ucells u a).toArray, .agg (ucells v b).toArray]) [0, 1, 2, 3, 4, 5, 6, 7, 8, 9, 10, 49, 54, 86, 91, 146] tabok Tryz.func23 (by kernel_rfl) ?_
  have hp2 := hU.cls.big
  have hp4 := hU.mth.big
  have hp2' := hV.cls.big
  have hp4' := hV.mth.big
  refine bx (cs := ucells u a) fun b1 w1 h1 => ?_
  refine bx (cs := ucells v b) fun b2 w2 h2 => ?_
  have B02 : Bl w w2 := h1.bl.trans h2.bl
  have hx1 := Bl.box h2.bl h1.box
  have hx2 := h2.box
  refine ld (hx1.cell rfl) ?_
  refine ld (hx2.cell rfl) ?_
  refine ldg (fun _ => hx1.cell rfl) ?_
  refine ldg (fun _ => hx2.cell rfl) ?_
  refine sp (.bool true) (fun k1 => ?_) (fun k1 => ?_)
  rotate_left
  · refine ldg (fun _ => hx1.cell rfl) ?_
    refine ldg (fun _ => hx2.cell rfl) ?_
    refine ldg (fun _ => hx1.cell rfl) ?_
    refine ldg (fun _ => hx2.cell rfl) ?_
    refine ldg (fun _ => hx1.cell rfl) ?_
    refine ldg (fun _ => hx2.cell rfl) ?_
    refine spn (.bool true) ?_
    refine br (fun _ => ?_) (fun k3 => ?_)
    rotate_left
    · exfalso; simp_all
    refine rt1 ⟨vb (sameU_no fun q => ?_).symm, B02⟩
    simp_all
  refine cl (r_SameStrings u.pool v.pool a.a1 b.a1 a.c1 b.c1 w2 (hU.bl B02).pool (hV.bl B02).pool) ?_
  rintro _ w3 ⟨rfl, h3⟩
  replace hx1 := Bl.box h3 hx1
  replace hx2 := Bl.box h3 hx2
  have B03 := B02.trans h3
  refine ldg (fun _ => hx1.cell rfl) ?_
  refine ldg (fun _ => hx2.cell rfl) ?_
  refine ldg (fun _ => hx1.cell rfl) ?_
  refine ldg (fun _ => hx2.cell rfl) ?_
  refine ldg (fun _ => hx1.cell rfl) ?_
  refine ldg (fun _ => hx2.cell rfl) ?_
  refine sp (.bool true) (fun k2 => ?_) (fun k2 => ?_)
  rotate_left
  · refine br (fun _ => ?_) (fun k3 => ?_)
    rotate_left
    · exfalso; simp_all
    refine rt1 ⟨vb (sameU_no fun q => ?_).symm, B03⟩
    simp_all
  refine cl (r_sameFields u.statics v.statics a.a3 b.a3 a.c3 b.c3 w3 (hU.bl B03).sta (hV.bl B03).sta) ?_
  rintro _ w4 ⟨rfl, h4⟩
  replace hx1 := Bl.box h4 hx1
  replace hx2 := Bl.box h4 hx2
  have B04 := B03.trans h4
  refine br (fun k3 => ?_) (fun k3 => ?_)
  · refine rt1 ⟨vb (sameU_no fun q => ?_).symm, B04⟩
    simp_all
  have k5 : u.name = v.name ∧ u.pool = v.pool ∧ u.classes.length = v.classes.length ∧ u.methods.length = v.methods.length ∧ u.statics = v.statics := by
    simp_all
    omega
  clear k1 k2 k3
  obtain ⟨n1, n2, n3, n4, n5⟩ := k5
  refine lpk u.classes.length 5 [] [(2, .pointer (some ⟨b1, 0, none⟩)), (3, .pointer (some ⟨b2, 0, none⟩))] (fun k vals w' => vals = [] ∧ u.classes.take k = v.classes.take k ∧ Bl w4 w') ⟨rfl, rfl, Bl.refl _⟩ ?_
  rintro k vals w5 hk ⟨rfl, ha, hB⟩ ih
  have hy1 := Bl.box hB hx1
  have hy2 := Bl.box hB hx2
  have B05 := B04.trans hB
  refine ld (hy1.cell rfl) ?_
  by_cases hlt : k < u.classes.length
  · refine brT ?_
    obtain ⟨c, bs, o, cs, hc, e2, _, hAt, af, cf, rfl, hf⟩ := at_some (hU.bl B05).cls hlt
    obtain ⟨d, bs', o', cs', hd, e2', _, hAt', af', cf', rfl, hf'⟩ := at_some (hV.bl B05).cls (i := k) (by omega)
    have hcd : c ≠ d → sameU u v = false := fun hne => sameU_no fun q => of_decide_eq_false (same_no hc hd hne) q.2.2.1
    refine ld (hy1.cell rfl) ?_
    rw [e2]
    refine ix ?_
    refine lda hAt ?_
    refine al fun b6 w6 h6 => ?_
    refine sta h6.box fun w7 k7 hx7 => ?_
    have B57 : Bl w5 w7 := h6.wr k7
    refine ld ((Bl.box B57 hy2).cell rfl) ?_
    rw [e2']
    refine ix ?_
    refine lda (hAt'.bl B57) ?_
    refine al fun b8 w8 h8 => ?_
    refine sta h8.box fun w9 k9 hx9 => ?_
    have B79 : Bl w7 w9 := h8.wr k9
    have hz7 := Bl.box B79 hx7
    have B59 := B57.trans B79
    refine ld (hz7.cell rfl) ?_
    refine ld (hx9.cell rfl) ?_
    refine ldg (fun _ => hz7.cell rfl) ?_
    refine ldg (fun _ => hx9.cell rfl) ?_
    refine ldg (fun _ => hz7.cell rfl) ?_
    refine ldg (fun _ => hx9.cell rfl) ?_
    refine sp (.bool true) (fun k1 => ?_) (fun k1 => ?_)
    rotate_left
    · refine br (fun _ => ?_) (fun k3 => ?_)
      rotate_left
      · exfalso; simp_all
      refine rt1 ⟨vb (hcd fun q => ?_).symm, B05.trans B59⟩
      rw [cls_eq] at q
      simp_all
    refine cl (r_sameFields c.fields d.fields af af' cf cf' w9 (hf.bl B59) (hf'.bl B59)) ?_
    rintro _ w10 ⟨rfl, h10⟩
    refine br (fun k3 => ?_) (fun k3 => ?_)
    · refine rt1 ⟨vb (hcd fun q => ?_).symm, (B05.trans B59).trans h10⟩
      rw [cls_eq] at q
      simp_all
    · refine ih hlt ⟨rfl, same_go hc hd ?_ ha, (hB.trans B59).trans h10⟩
      rw [cls_eq]
      simp_all
  refine brF ?_
  have eC : u.classes = v.classes := of_decide_eq_true (same_end (by omega) ha (by omega))
  clear ih hy1 hy2
  refine lpk u.methods.length 8 [] [(2, .pointer (some ⟨b1, 0, none⟩)), (3, .pointer (some ⟨b2, 0, none⟩))] (fun k vals w' => vals = [] ∧ u.methods.take k = v.methods.take k ∧ Bl w4 w') ⟨rfl, rfl, hB⟩ ?_
  clear hB B05 ha
  rintro k vals w5 hk ⟨rfl, ha, hB⟩ ih
  have hy1 := Bl.box hB hx1
  have hy2 := Bl.box hB hx2
  have B05 := B04.trans hB
  refine ld (hy1.cell rfl) ?_
  by_cases hlt : k < u.methods.length
  · refine brT ?_
    obtain ⟨c, bs, o, cs, hc, e2, _, hAt, q1, s1, q2, s2, q3, s3, rfl, f1, f2, f3⟩ := at_some (hU.bl B05).mth hlt
    obtain ⟨d, bs', o', cs', hd, e2', _, hAt', q1', s1', q2', s2', q3', s3', rfl, f1', f2', f3'⟩ := at_some (hV.bl B05).mth (i := k) (by omega)
    have hcd : c ≠ d → sameU u v = false := fun hne => sameU_no fun q => of_decide_eq_false (same_no hc hd hne) q.2.2.2.2
    refine ld (hy1.cell rfl) ?_
    rw [e2]
    refine ix ?_
    refine lda hAt ?_
    refine al fun b6 w6 h6 => ?_
    refine sta h6.box fun w7 k7 hx7 => ?_
    have B57 : Bl w5 w7 := h6.wr k7
    refine ld ((Bl.box B57 hy2).cell rfl) ?_
    rw [e2']
    refine ix ?_
    refine lda (hAt'.bl B57) ?_
    refine al fun b8 w8 h8 => ?_
    refine sta h8.box fun w9 k9 hx9 => ?_
    have B79 : Bl w7 w9 := h8.wr k9
    have hz7 := Bl.box B79 hx7
    have B59 := B57.trans B79
    refine ld (hz7.cell rfl) ?_
    refine ld (hx9.cell rfl) ?_
    refine ldg (fun _ => hz7.cell rfl) ?_
    refine ldg (fun _ => hx9.cell rfl) ?_
    refine sp (.agg (encTy c.result).toArray) (fun k1 => ?_) (fun k1 => ?_)
    rotate_left
    · refine spn (.agg (encTy d.result).toArray) ?_
      refine spn (.bool true) ?_
      refine ldg (fun _ => hz7.cell rfl) ?_
      refine ldg (fun _ => hx9.cell rfl) ?_
      refine spn (.bool true) ?_
      refine ldg (fun _ => hz7.cell rfl) ?_
      refine ldg (fun _ => hx9.cell rfl) ?_
      refine spn (.bool true) ?_
      refine ldg (fun _ => hz7.cell rfl) ?_
      refine ldg (fun _ => hx9.cell rfl) ?_
      refine spn (.bool true) ?_
      refine br (fun _ => ?_) (fun k3 => ?_)
      rotate_left
      · exfalso; simp_all
      refine rt1 ⟨vb (hcd fun q => ?_).symm, B05.trans B59⟩
      rw [mth_eq] at q
      simp_all
    refine lda (At.left (cs := encTy c.result) hz7.at.tail.tail.tail.tail) ?_
    refine spt (.bool true) ?_
    refine lda (At.left (cs := encTy d.result) hx9.at.tail.tail.tail.tail) ?_
    refine spt (.bool true) ?_
    refine neA (fun w => eq_ty c.result d.result) ?_
    refine ldg (fun _ => hz7.cell rfl) ?_
    refine ldg (fun _ => hx9.cell rfl) ?_
    refine sp (.bool true) (fun k2 => ?_) (fun k2 => ?_)
    rotate_left
    · refine ldg (fun _ => hz7.cell rfl) ?_
      refine ldg (fun _ => hx9.cell rfl) ?_
      refine spn (.bool true) ?_
      refine ldg (fun _ => hz7.cell rfl) ?_
      refine ldg (fun _ => hx9.cell rfl) ?_
      refine spn (.bool true) ?_
      refine br (fun _ => ?_) (fun k3 => ?_)
      rotate_left
      · exfalso; simp_all
      refine rt1 ⟨vb (hcd fun q => ?_).symm, B05.trans B59⟩
      rw [mth_eq] at q
      simp_all
    refine cl (r_sameTypes c.params d.params q1 q1' s1 s1' w9 (f1.bl B59) (f1'.bl B59)) ?_
    rintro _ w10 ⟨rfl, h10⟩
    have B510 := B59.trans h10
    replace hz7 := Bl.box h10 hz7
    replace hx9 := Bl.box h10 hx9
    refine ldg (fun _ => hz7.cell rfl) ?_
    refine ldg (fun _ => hx9.cell rfl) ?_
    refine sp (.bool true) (fun k3 => ?_) (fun k3 => ?_)
    rotate_left
    · refine ldg (fun _ => hz7.cell rfl) ?_
      refine ldg (fun _ => hx9.cell rfl) ?_
      refine spn (.bool true) ?_
      refine br (fun _ => ?_) (fun k4 => ?_)
      rotate_left
      · exfalso; simp_all
      refine rt1 ⟨vb (hcd fun q => ?_).symm, B05.trans B510⟩
      rw [mth_eq] at q
      simp_all
    refine cl (r_sameTypes c.locals d.locals q2 q2' s2 s2' w10 (f2.bl B510) (f2'.bl B510)) ?_
    rintro _ w11 ⟨rfl, h11⟩
    have B511 := B510.trans h11
    replace hz7 := Bl.box h11 hz7
    replace hx9 := Bl.box h11 hx9
    refine ldg (fun _ => hz7.cell rfl) ?_
    refine ldg (fun _ => hx9.cell rfl) ?_
    refine sp (.bool true) (fun k4 => ?_) (fun k4 => ?_)
    rotate_left
    · refine br (fun _ => ?_) (fun k5 => ?_)
      rotate_left
      · exfalso; simp_all
      refine rt1 ⟨vb (hcd fun q => ?_).symm, B05.trans B511⟩
      rw [mth_eq] at q
      simp_all
    refine cl (r_SameCode c.code d.code q3 q3' s3 s3' w11 (f3.bl B511) (f3'.bl B511)) ?_
    rintro _ w12 ⟨rfl, h12⟩
    refine br (fun k5 => ?_) (fun k5 => ?_)
    · refine rt1 ⟨vb (hcd fun q => ?_).symm, (B05.trans B511).trans h12⟩
      rw [mth_eq] at q
      simp_all
    · refine ih hlt ⟨rfl, same_go hc hd ?_ ha, (hB.trans B511).trans h12⟩
      rw [mth_eq]
      simp_all
  refine brF ?_
  have eM : u.methods = v.methods := of_decide_eq_true (same_end (by omega) ha (by omega))
  refine rt1 ⟨vb ?_, B05⟩
  simp [sameU, n1, n2, n5, eC, eM]
end Go.Proofs.YtopjmiklpnejmaaGreatDoor

/- Walks: a unit renamed, in the document; the law UnitRenames. -/
namespace Go.Proofs.YtopjmiklpnejmaaGreatDoor
open Eng Go.RowKit
theorem fm_take {l : List (List UInt8)} (i : Nat) : ((l.take i).flatMap fun q => (46 : UInt8) :: q).length ≤ (l.flatMap fun q => (46 : UInt8) :: q).length := by
  conv => rhs; rw [← List.take_append_drop i l, List.flatMap_append, List.length_append]
  omega
set_option maxHeartbeats 1000000 in
theorem r_Rename (u : Unt) (a : UA) (name : ByteArray) (w : World) (hU : UnR T w u a) (hs : name.size ≤ 1048576) : Ret Tryz.prog 29 #[.agg (ucells u a).toArray, .string name] w (RenR u name w) := by
  refine entr (vs := [.agg (ucells u a).toArray, .string name]) [0, 1, 2, 4, 5, 6, 7, 8, 9, 10, 11, 15, 20, 30, 49, 54, 71] tabok Tryz.func29 (by kernel_rfl) ?_
  refine bx (cs := ucells u a) fun b1 w1 h1 => ?_
  refine al fun b2 w2 h2 => ?_
  have B02 := h1.bl.trans h2.bl
  have z1 := h1.size
  have z2 := h2.size
  have y1 := h1.blk
  have y2 := h2.blk
  have hx1 := Bl.box h2.bl h1.box
  have hx2 := h2.box
  refine lda hx1.at ?_
  refine cl (r_Check u a w2 (hU.bl B02)) ?_
  rintro _ w3 ⟨rfl, B23⟩
  have B03 := B02.trans B23
  replace hx1 := Bl.box B23 hx1
  replace hx2 := Bl.box B23 hx2
  have z3 := B23.size
  refine br (t := decide (¬ checkE u = 0)) (fun h => ?_) (fun h => ?_)
  · have h0 := of_decide_eq_true h
    refine bd ?_
    refine sta hx2 fun w4 k4 hx4 => ?_
    exact rtc2 hx4.at (ren_err (by unfold renE; rw [if_neg h0]) h0 (B03.trans_wr k4 (by omega)))
  have h0 : checkE u = 0 := Classical.not_not.1 (of_decide_eq_false h)
  have hC := (ckU_iff u).1 h0
  refine cl (r_Simple name w3 hs) ?_
  rintro _ w3 ⟨rfl, rfl⟩
  refine br (t := !simple name) (fun h => ?_) (fun h => ?_)
  · have h1 : simple name = false := by simpa using h
    refine bd ?_
    refine sta hx2 fun w4 k4 hx4 => ?_
    exact rtc2 hx4.at (ren_err (by unfold renE; rw [if_pos h0, if_pos h1]) (by decide) (B03.trans_wr k4 (by omega)))
  have h1 : simple name = true := by simpa using h
  have hns : name.size ≤ 12 := by
    have := simpleL_len (l := name.data.toList) h1
    rw [ba_len] at this; exact this.2
  have hpt : (46 : UInt8) ∉ u.name.data.toList := simple_nodot hC.nm
  refine lda hx1.at ?_
  refine cl (r_Copy2 u a w3 (hU.bl B03)) ?_
  rintro _ w4 ⟨X, rfl, hXu, hS4, B34⟩
  have B04 := B03.trans B34
  replace hx1 := Bl.box B34 hx1
  replace hx2 := Bl.box B34 hx2
  have z4 := B34.size
  have hpX : X.pool = u.pool := congrArg Unt.pool hXu
  have hnX : X.name = u.name := congrArg Unt.name hXu
  refine al fun b3 w5 h5 => ?_
  refine sta (cs' := X.cells) h5.box fun w6 k6 hx6 => ?_
  have y5 := h5.blk
  have z5 := h5.size
  have z6 := k6.size
  have B46 : Bl w4 w6 := h5.wr k6
  replace hx1 := Bl.box B46 hx1
  replace hx2 := Bl.box B46 hx2
  have hS6 := hS4.bl B46
  refine st hx6 fun w7 k7 hx7 => ?_
  have z7 := k7.size
  have B07 := (B04.trans B46).trans_wr k7 (by omega)
  replace hx1 := k7.box hx1 (by omega)
  replace hx2 := k7.box hx2 (by omega)
  have nb : ∀ (k : Key) g, (X.row k).a = some ⟨g, 0, none⟩ → g ≠ b3 := fun k g hg => by
    have := (SepR.lt hS4 hg).2
    omega
  have hS7 : SepR w7 w3.heap.size X.row := SepR.ap hS6 k7.ap fun k g hg e => nb k g hg (by simp only [Option.some.injEq, Addr.mk.injEq, and_true] at e; exact e.symm)
  have hpl := (lim_of hC.lim).pool
  have hpl2 : X.pool.length ≤ 60 := by rw [hpX]; omega
  have nb1 : X.a1 ≠ some ⟨b3, 0, none⟩ := fun e => nb .pool b3 e rfl
  refine lpk X.pool.length 8 [] [(1, .string name), (2, .pointer (some ⟨b1, 0, none⟩)), (4, .pointer (some ⟨b2, 0, none⟩)), (7, .pointer (some ⟨b3, 0, none⟩))] (fun k vals w' => vals = [] ∧ SepR w' w3.heap.size (setR X.row .pool ⟨9, 1, X.a1, (renK u name k).length, X.c1, (renK u name k).flatMap encStr⟩) ∧
    Box w' b3 30 [.string name, .slice X.a1 X.pool.length X.c1, .slice X.a2 X.cl.length X.c2, .slice X.a3 X.sta.length X.c3, .slice X.a4 X.ml.length X.c4] ∧ Box w' b1 30 (ucells u a) ∧ Box w' b2 30 [.string ⟨#[]⟩, .slice none 0 0, .slice none 0 0, .slice none 0 0, .slice none 0 0] ∧ Bl w w' ∧ w7.heap.size ≤ w'.heap.size) ⟨rfl, by rw [renK_zero, ← hpX]; exact (setR_self X.row .pool).symm ▸ hS7, hx7, hx1, hx2, B07, Nat.le_refl _⟩ ?_
  clear hx1 hx2 hx7 hx6 hS7 hS6 hS4
  rintro k vals w8 hk ⟨rfl, hS8, hx8, hx1, hx2, B08, z8⟩ ih
  refine ld (hx8.cell rfl) ?_
  by_cases hlt : k < X.pool.length
  · refine brT ?_
    obtain ⟨s, hs1⟩ := some_of_lt (l := u.pool) (k := k) (by rw [← hpX]; exact hlt)
    obtain ⟨hk1, hk2⟩ := renK_set (name := name) hs1
    have hps : path s ≠ 0 := fun e => by
      have := of_decide_eq_true (List.all_eq_true.1 hC.ps s (List.mem_of_getElem? hs1))
      omega
    have hss := path_size hps
    have hle := renK_len u name k
    obtain ⟨g, cur, ea, hgb, hln, hAt, hg⟩ := hS8.box .pool (by show 0 < (renK u name k).length; rw [hle, ← hpX]; omega)
    have ea : X.a1 = some ⟨g, 0, none⟩ := ea
    have hln : (renK u name k).length * 1 ≤ cur.length := hln
    rw [hle, ← hpX] at hln
    have hAx := at_elem (sz := 1) (enc := encStr) hAt hk1 fun _ => rfl
    have gb3 : g ≠ b3 := fun e => nb1 (by rw [ea, e])
    refine ld (hx8.cell rfl) ?_
    rw [ea]
    refine ix ?_
    refine ld (hAx 0 _ rfl) ?_
    refine cl (r_Parts s w8 (by omega)) ?_
    rintro _ w9 ⟨ap, cp, rfl, hP, B89⟩
    replace hx8 := Bl.box B89 hx8
    replace hx1 := Bl.box B89 hx1
    replace hx2 := Bl.box B89 hx2
    replace hgb := Bl.box B89 hgb
    replace hS8 := hS8.bl B89
    have B09 := B08.trans B89
    have z9 := B89.size
    obtain ⟨p, ps, hcut⟩ : ∃ p ps, cutDot s.data.toList = p :: ps := by
      cases hc : cutDot s.data.toList with
      | nil => exact absurd hc (cutDot_ne _)
      | cons p ps => exact ⟨p, ps, rfl⟩
    have hparts : partsB s = ofL p :: ps.map ofL := by unfold partsB; rw [hcut]; rfl
    have hpn : (partsB s).length = ps.length + 1 := by rw [hparts]; simp
    have her : ren u.name name s = ofL (if 1 < ps.length + 1 ∧ p = u.name.data.toList then name.data.toList ++ ps.flatMap (fun q => 46 :: q) else s.data.toList) := by unfold ren; rw [renL_parts hpt hcut]
    have hpsl : ps.length ≤ 38 := by
      have := cutDot_length s.data.toList
      rw [hcut, ba_len] at this
      simp only [List.length_cons] at this
      omega
    have hjl : (ps.flatMap fun q => (46 : UInt8) :: q).length ≤ 38 := by
      have := congrArg List.length (cutDot_join hcut)
      rw [List.length_append, ba_len] at this
      omega
    have miss : ¬ (1 < ps.length + 1 ∧ p = u.name.data.toList) → renK u name (k + 1) = renK u name k := fun hno => by
      rw [← hk2, her, if_neg hno, ofL_toL]
      refine List.ext_getElem? fun i => ?_
      rw [List.getElem?_set]
      split
      · rename_i e
        subst e
        rw [hk1, if_pos (by rw [hle, ← hpX]; exact hlt)]
      · rfl
    refine ds fun w10 h10 => ?_
    have hx10 := h10.box hx8
    have hP10 := hP.bl h10.bl
    replace hx1 := h10.box hx1
    replace hx2 := h10.box hx2
    replace hgb := h10.box hgb
    replace hS8 := hS8.bl h10.bl
    have B010 := B09.trans h10.bl
    have z10 : w10.heap.size = w9.heap.size := by rw [h10.heap]
    obtain ⟨s0, b0, o0, cs0, hs0, e0, _, hAt0, rfl⟩ := at_some hP10 (i := 0) (by omega)
    have es0 : s0 = ofL p := by rw [hparts] at hs0; simpa using hs0.symm
    subst es0
    rw [e0]
    refine sp (.pointer none) (fun q => ?_) (fun q => ?_)
    · have q1 : 1 < ps.length + 1 := by rw [hpn] at q; have := of_decide_eq_true q; omega
      refine ix (j := 0) ?_
      refine spt (.string ⟨#[]⟩) ?_
      refine ld (hAt0 0 _ rfl) ?_
      refine spt (.string ⟨#[]⟩) ?_
      refine ld (hx1.cell rfl) ?_
      refine br (t := decide (ofL p = u.name)) (fun h => ?_) (fun h => ?_)
      · have hpe : p = u.name.data.toList := by rw [← of_decide_eq_true h, toL_ofL]
        refine lp (vals := [.string name, I 1]) [10, 11] [(1, .string name), (2, .pointer (some ⟨b1, 0, none⟩)), (4, .pointer (some ⟨b2, 0, none⟩)), (7, .pointer (some ⟨b3, 0, none⟩)), (8, I k), (9, .slice (some ⟨b0, o0, none⟩) (partsB s).length cp)] (fun m vals w' => ∃ i : Nat, m = ps.length - i ∧ i ≤ ps.length ∧ vals = [.string (ofL (name.data.toList ++ (ps.take i).flatMap fun q => 46 :: q)), I ((i + 1 : Nat) : Int)] ∧ w' = w10) ⟨rfl, rfl, rfl, rfl, rfl, rfl, trivial⟩ ⟨0, rfl, Nat.zero_le _, by simp [ofL_toL], rfl⟩ ?_
        rintro m vals _ ⟨i, rfl, hi, rfl, rfl⟩ ih2
        by_cases hlt2 : i < ps.length
        · refine brT ?_ (hp := by rw [hpn]; omega)
          obtain ⟨q1, hq1⟩ := some_of_lt hlt2
          obtain ⟨s1, b1', o1, cs1, hs1', e1, _, hAt1, rfl⟩ := at_some hP10 (i := i + 1) (by omega)
          have es1 : s1 = ofL q1 := by rw [hparts] at hs1'; simp [hq1] at hs1'; exact hs1'.symm
          subst es1
          have hql : q1.length ≤ 38 := by
            have := fm_take (l := ps) (i + 1)
            rw [take_succ_some hq1, List.flatMap_append, List.length_append] at this
            have e : ([q1].flatMap fun q => (46 : UInt8) :: q).length = q1.length + 1 := by simp
            rw [e] at this
            omega
          have hil := fm_take (l := ps) i
          obtain ⟨rfl, rfl⟩ : b1' = b0 ∧ o1 = o0 := by rw [e0] at e1; simp only [Option.some.injEq, Addr.mk.injEq, and_true] at e1; exact ⟨e1.1.symm, e1.2.symm⟩
          refine ix ?_
          refine ld (hAt1 0 _ rfl) ?_
          refine cat ?_ (hab := by rw [ofL_size]; show 1 + _ ≤ _; omega)
          refine cat ?_ (hab := by
            rw [ByteArray.size_append, ofL_size, ofL_size, List.length_append, ba_len]; show _ + (1 + _) ≤ _; omega)
          refine again (ih2 _ _ _ _ ?_ ⟨rfl, rfl, rfl, rfl, rfl, rfl, trivial⟩ rfl ⟨i + 1, rfl, by omega, ?_, rfl⟩)
          · omega
          · refine lst2 ?_ ?_
            · rw [take_succ_some hq1, List.flatMap_append]
              congr 1
              rw [show (⟨#[46]⟩ : ByteArray) = ofL [46] from rfl, ofL_append, ofL_append]
              simp
            · rw [wrap_fit (by omega) (by omega)]; rfl
        · refine brF ?_ (hp := by rw [hpn]; omega)
          obtain rfl : i = ps.length := by omega
          rw [List.take_length]
          rw [if_pos ⟨q1, hpe⟩] at her
          refine ld (hx10.cell rfl) ?_
          rw [ea]
          refine ix ?_
          refine stx hgb (fun w11 k11 hb11 => ?_) (ho := by omega)
          rw [← her] at hb11 ⊢
          have q := hS8.set .pool (g := g) ea hgb k11 hb11 (r := ⟨9, 1, X.a1, (renK u name (k + 1)).length, X.c1, (renK u name (k + 1)).flatMap encStr⟩) (by
            rw [← hk2, List.length_set, ← flat_set (sz := 1) (enc := encStr) (fun _ => rfl) hk1 (j := 0) (v := .string (ren u.name name s)) (by omega) rfl, Nat.zero_add]; rfl)
          rw [setR_setR] at q
          refine ih hlt ⟨rfl, q, ?_, k11.box hx1 (by omega), k11.box hx2 (by omega), B010.trans_wr k11 (by omega), by rw [k11.size]; omega⟩
          exact k11.box hx10 (by omega)
      · refine ih hlt ⟨rfl, ?_, hx10, hx1, hx2, B010, by omega⟩
        rw [miss fun hh => by
          have := of_decide_eq_false h
          exact this (by rw [hh.2, ofL_toL])]
        exact hS8
    · have q1 : ¬ 1 < ps.length + 1 := by rw [hpn] at q; have := of_decide_eq_false q; omega
      refine spn (.string ⟨#[]⟩) ?_
      refine spn (.string ⟨#[]⟩) ?_
      refine brf ?_ (hp := by simp; intros; omega)
      refine ih hlt ⟨rfl, ?_, hx10, hx1, hx2, B010, by omega⟩
      rw [miss fun hh => q1 hh.1]
      exact hS8
  refine brF ?_
  obtain rfl : k = X.pool.length := by omega
  clear ih
  rw [hpX, renK_end] at hS8
  have hlen : (renPool u name).length = u.pool.length := by simp [renPool]
  refine ld (hx8.cell rfl) ?_
  have hsl : Sl eStr T w8 X.a1 (renPool u name) := owp_sl (enc := encStr) (hS8.own .pool) (by omega) fun _ _ => trivial
  have hc := r_twice (renPool u name) X.a1 X.c1 T w8 hsl
  rw [hlen, ← hpX] at hc
  refine cl hc ?_
  rintro _ w9 ⟨rfl, B89⟩
  have B09 := B08.trans B89
  have z9 := B89.size
  replace hx8 := Bl.box B89 hx8
  replace hx2 := Bl.box B89 hx2
  refine br (t := dup (renPool u name)) (fun h => ?_) (fun h => ?_)
  · refine bd ?_
    refine sta hx2 fun w10 k10 hx10 => ?_
    exact rtc2 hx10.at (ren_err (by unfold renE; rw [if_pos h0, if_neg (by rw [h1]; simp), if_pos h]) (by decide) (B09.trans_wr k10 (by omega)))
  have he : renE u name = 0 := by unfold renE; rw [if_pos h0, if_neg (by rw [h1]; simp), if_neg (by rw [h]; simp)]
  refine lda hx8.at ?_
  refine sta hx2 fun w10 k10 hx10 => ?_
  have eu : renU u name = UX.u { X with name := name, pool := renPool u name } := by
    unfold renU; rw [if_pos he, ← hXu]; rfl
  have B10 := B09.trans_wr k10 (by omega)
  have hS10 : SepU w10 w3.heap.size { X with name := name, pool := renPool u name } := SepU.pool ((hS8.bl B89).wr k10 (by omega)) name
  have hz : Siz (renU u name) := by
    have q := hU.siz
    rw [show renU u name = { u with name := name, pool := renPool u name } by unfold renU; rw [if_pos he]]
    exact ⟨hs, fun s hs => by have := renU_size he s hs; omega, by rw [hlen]; exact q.pool, q.cls, q.sta, q.mth, q.flds, q.prms, q.locs, q.cods⟩
  refine rtc2 hx10.at ⟨(UX.mk name X.a1 X.c1 (renPool u name) X.a2 X.c2 X.cl X.a3 X.c3 X.sta X.a4 X.c4 X.ml).a, ?_, ?_, B10⟩
  · rw [eu, he, UX.cells_eq]
    simp only [UX.cells, hlen, hpX]
  · rw [eu] at hz ⊢
    exact (SepU.unr hS10 hz).sub fun i hi => by have := B03.size; omega
end Go.Proofs.YtopjmiklpnejmaaGreatDoor
/- Walks: the law UnitRenames. -/
namespace Go.Proofs.YtopjmiklpnejmaaGreatDoor
open Eng Go.RowKit
def freeS (name s : ByteArray) : Bool := !(decide (1 < (partsB s).length) && decide ((partsB s).head? = some name))
theorem l_free (u : Unt) (a : UA) (name : ByteArray) (w : World) (hU : UnR T w u a) : Ret Tryz.prog 30 #[.agg (ucells u a).toArray, .string name] w fun v w' => v = .bool (freeU u name) ∧ Bl w w' := by
  have hbig := hU.pool.big
  refine entr (vs := [.agg (ucells u a).toArray, .string name]) [0, 1, 2, 4, 5, 6, 11, 29] tabok Tryz.func30 (by kernel_rfl) ?_
  refine bx (cs := ucells u a) fun b1 w1 h1 => ?_
  refine lpk u.pool.length 5 [] [(1, .string name), (2, .pointer (some ⟨b1, 0, none⟩))] (fun k vals w' => vals = [] ∧ ((u.pool.take k).all (freeS name)) = true ∧ Bl w1 w') ⟨rfl, rfl, Bl.refl _⟩ ?_
  rintro k vals w2 hk ⟨rfl, ha, B12⟩ ih
  have hx := Bl.box B12 h1.box
  refine ld (hx.cell rfl) ?_
  by_cases hlt : k < u.pool.length
  · refine brT ?_
    obtain ⟨s, b, o, cs, hs, e2, _, hAt, rfl⟩ := at_some (hU.bl (h1.bl.trans B12)).pool hlt
    refine ld (hx.cell rfl) ?_
    rw [e2]
    refine ix ?_
    refine ld (hAt 0 _ rfl) ?_
    refine cl (r_Parts s w2 (hU.ps s (List.mem_of_getElem? hs))) ?_
    rintro _ w3 ⟨ap, cp, rfl, hP, B23⟩
    have next : freeS name s = true → ((u.pool.take (k + 1)).all (freeS name)) = true := fun h => by rw [take_succ_some hs, List.all_append, ha]; simp [h]
    refine sp (.pointer none) (fun q => ?_) (fun q => ?_)
    · have q1 : 1 < (partsB s).length := by have := of_decide_eq_true q; omega
      obtain ⟨s0, b0, o0, cs0, hs0, e0, _, hAt0, rfl⟩ := at_some hP (i := 0) (by omega)
      rw [e0]
      refine ix (j := 0) ?_
      refine spt (.string ⟨#[]⟩) ?_
      refine ld (hAt0 0 _ rfl) ?_
      have hh : (partsB s).head? = some s0 := by rw [List.head?_eq_getElem?]; exact hs0
      refine br (t := decide (s0 = name)) (fun h => ?_) (fun h => ?_)
      · refine rt1 ⟨vb ?_, h1.bl.trans (B12.trans B23)⟩
        symm
        unfold freeU
        rw [← Bool.not_eq_true, List.all_eq_true]
        intro hall
        have := hall s (List.mem_of_getElem? hs)
        rw [hh, of_decide_eq_true h, decide_eq_true q1] at this
        simp at this
      · refine ih hlt ⟨rfl, next ?_, B12.trans B23⟩
        unfold freeS
        rw [hh]
        have := of_decide_eq_false h
        simp [this]
    · have q1 : ¬ 1 < (partsB s).length := by have := of_decide_eq_false q; omega
      refine spn (.string ⟨#[]⟩) ?_
      refine brf ?_ (hp := by simp; intros; omega)
      refine ih hlt ⟨rfl, next ?_, B12.trans B23⟩
      unfold freeS
      rw [decide_eq_false q1]; rfl
  refine brF ?_
  obtain rfl : k = u.pool.length := by omega
  rw [List.take_length] at ha
  exact rt1 ⟨vb ha.symm, h1.bl.trans B12⟩
theorem same_refl (u : Unt) : sameU u u = true := by simp [sameU]
set_option maxHeartbeats 1000000 in
theorem l_Renames (u : Unt) (a : UA) (name : ByteArray) (w : World) (hU : UnR T w u a) (hs : name.size ≤ 1048576) (hG : Gl w) : Ret Tryz.prog 7 #[.agg (ucells u a).toArray, .string name] w fun v w' => v = .bool true ∧ Bl w w' := by
  refine entr (vs := [.agg (ucells u a).toArray, .string name]) [0, 1, 2, 4, 5, 6, 7, 8, 9, 10, 11, 13, 43, 50, 65] tabok Tryz.func7 (by kernel_rfl) ?_
  refine bx (cs := ucells u a) fun b1 w1 h1 => ?_
  have hx1 := h1.box
  refine lda hx1.at ?_
  refine cl (l_heavy u a w1 (hU.bl h1.bl)) ?_
  rintro _ w2 ⟨hv, rfl, B12⟩
  have B02 := h1.bl.trans B12
  replace hx1 := Bl.box B12 hx1
  cases hv with
  | true =>
    refine br (fun _ => ?_) (fun q => ?_)
    · refine cl (l_sane w2 (hG.bl B02)) ?_
      rintro _ w4 ⟨rfl, h4⟩
      exact rt1 ⟨rfl, B02.trans h4⟩
    · cases q
  | false =>
  refine br (fun q => ?_) (fun _ => ?_)
  · cases q
  refine lda hx1.at ?_
  refine cl (r_Copy u a w2 (hU.bl B02)) ?_
  rintro _ w3 ⟨ac, rfl, hC3, B23⟩
  refine al fun b5 w4 h4 => ?_
  refine sta (cs' := ucells u ac) h4.box fun w5 k5 hx5 => ?_
  have B25 := B23.trans (h4.wr k5)
  have B05 := B02.trans B25
  replace hx1 := Bl.box B25 hx1
  have hC5 := (hC3.all).bl (h4.wr k5)
  refine lda hx5.at ?_
  refine cl (u_Rename u ac name w5 hC5 hs (hG.bl B05)) ?_
  rintro _ w6 ⟨av, rfl, hV6, B56⟩
  refine al fun b6 w7 h7 => ?_
  refine sta (cs' := ucells (renU u name) av) h7.box fun w8 k8 hx6 => ?_
  have B58 := B56.trans (h7.wr k8)
  have B08 := B05.trans B58
  replace hx1 := Bl.box B58 hx1
  replace hx5 := Bl.box B58 hx5
  have hV8 := (hV6.all).bl (h7.wr k8)
  refine lda hx1.at ?_
  refine cl (r_Rename u a name w8 (hU.bl B08) hs) ?_
  rintro _ w9 ⟨aw, rfl, hW9, B89⟩
  refine al fun b8 w10 h10 => ?_
  refine sta (cs' := ucells (renU u name) aw) h10.box fun w11 k11 hx8 => ?_
  have B811 := B89.trans (h10.wr k11)
  have B011 := B08.trans B811
  replace hx1 := Bl.box B811 hx1
  replace hx5 := Bl.box B811 hx5
  replace hx6 := Bl.box B811 hx6
  have hV11 := hV8.bl B811
  have hW11 := (hW9.all).bl (h10.wr k11)
  have hC11 := hC5.bl (B58.trans B811)
  refine spt (.bool false) ?_
  refine lda hx6.at ?_
  refine spt (.bool false) ?_
  refine lda hx8.at ?_
  refine spt (.bool false) ?_
  refine cl (r_Same (renU u name) (renU u name) av aw w11 hV11 hW11) ?_
  rintro _ w12 ⟨rfl, B1112⟩
  rw [same_refl]
  have B012 := B011.trans B1112
  replace hx1 := Bl.box B1112 hx1
  replace hx5 := Bl.box B1112 hx5
  replace hx6 := Bl.box B1112 hx6
  refine spt (.bool false) ?_
  refine lda hx5.at ?_
  refine spt (.bool false) ?_
  refine lda hx1.at ?_
  refine spt (.bool false) ?_
  refine cl (r_Same u u ac a w12 (hC11.bl B1112) (hU.bl B012)) ?_
  rintro _ w13 ⟨rfl, B1213⟩
  rw [same_refl]
  have B013 := B012.trans B1213
  replace hx1 := Bl.box B1213 hx1
  replace hx6 := Bl.box B1213 hx6
  refine brf ?_
  have fin : ∀ {w'}, Bl w13 w' → Gl w' := fun h => hG.bl (B013.trans h)
  refine sp (.agg (ucells u a).toArray) (fun q => ?_) (fun q => ?_)
  · have he : renE u name = 0 := by simpa using q
    refine lda hx1.at ?_
    refine spt (.bool false) ?_
    refine cl (l_free u a name w13 (hU.bl B013)) ?_
    rintro _ w14 ⟨rfl, B1314⟩
    have B014 := B013.trans B1314
    replace hx1 := Bl.box B1314 hx1
    replace hx6 := Bl.box B1314 hx6
    refine br (t := freeU u name) (fun h => ?_) (fun h => ?_)
    · obtain ⟨hb1, hb2⟩ := ren_back he h
      refine lda hx6.at ?_
      refine ld (hx1.cell rfl) ?_
      refine cl (u_Rename (renU u name) av u.name w14 (hV11.bl ((B1112.trans B1213).trans B1314)) hU.nm (hG.bl B014)) ?_
      rintro _ w15 ⟨ab, rfl, hA15, B1415⟩
      rw [hb2] at hA15
      rw [hb2, hb1]
      refine al fun b10 w16 h16 => ?_
      refine sta (cs' := ucells u ab) h16.box fun w17 k17 hx10 => ?_
      have B1417 := B1415.trans (h16.wr k17)
      have B017 := B014.trans B1417
      replace hx1 := Bl.box B1417 hx1
      refine spt (.bool false) ?_
      refine lda hx10.at ?_
      refine spt (.bool false) ?_
      refine lda hx1.at ?_
      refine spt (.bool false) ?_
      refine cl (r_Same u u ab a w17 ((hA15.all).bl (h16.wr k17)) (hU.bl B017)) ?_
      rintro _ w18 ⟨rfl, B1718⟩
      rw [same_refl]
      refine brf ?_
      refine cl (l_sane w18 (hG.bl (B017.trans B1718))) ?_
      rintro _ w19 ⟨rfl, h19⟩
      exact rt1 ⟨rfl, (B017.trans B1718).trans h19⟩
    · refine cl (l_sane w14 (hG.bl B014)) ?_
      rintro _ w19 ⟨rfl, h19⟩
      exact rt1 ⟨rfl, B014.trans h19⟩
  · refine spn (.bool false) ?_
    refine brf ?_
    refine cl (l_sane w13 (hG.bl B013)) ?_
    rintro _ w19 ⟨rfl, h19⟩
    exact rt1 ⟨rfl, B013.trans h19⟩
end Go.Proofs.YtopjmiklpnejmaaGreatDoor

/- Walks: the law UnitReads. -/
namespace Go.Proofs.YtopjmiklpnejmaaGreatDoor
open Eng Go.RowKit
theorem dec_zero {l : List UInt8} (h : decE l = 0) : ∃ u, parse l = some u ∧ checkE u = 0 ∧ decU l = u ∧ enc u = l := by
  unfold decE at h
  cases hp : parse l with
  | none => rw [hp] at h; cases h
  | some u =>
    rw [hp] at h
    exact ⟨u, rfl, h, by unfold decU; rw [hp]; exact if_pos h, (parse_out hp).1.symm⟩
set_option maxHeartbeats 1000000 in
theorem l_Reads (l : List UInt8) (a : Option Addr) (c : Nat) (w : World) (hS : Sl eB T w a l) (hcap : l.length ≤ c) (hl : l.length ≤ 1048576) (hG : Gl w) : Ret Tryz.prog 9 #[.slice a l.length c] w fun v w' => v = .bool true ∧ Bl w w' := by
  refine entr (vs := [.slice a l.length c]) [0, 2, 3, 4, 5, 6, 7, 8, 9, 41, 43, 57] tabok Tryz.func9 (by kernel_rfl) ?_
  refine mk (m := 0) (n := l.length + 3) ?_ (hy := by exact congrArg some (vi (by rw [wrap_fit (by omega) (by omega)]; rfl)))
  intro b1 w1 h1
  obtain rfl := h1.blk
  have z1 := h1.size
  have hO1 : OwP 1 encB w1 w.heap.size 5 (some ⟨w.heap.size, 0, none⟩) (l.length + 3) [] := made0 h1 (by rw [rep_length]; rfl) (by omega)
  refine apl (enc := encB) (l0 := []) (l1 := l) hO1 (src_of (hS.bl h1.bl)) (by omega) (fun a2 cap2 w2 hO2 hA2 hf2 => ?_)
  have B02 : Bl w w2 := Eng.Ow.below hO1 hA2 h1.bl (by omega)
  have hO2 : OwP 1 encB w2 w.heap.size 5 a2 cap2 l := hO2
  have S2 : Sl eB T w2 a2 l := owp_sl (enc := encB) hO2 (by omega) fun _ _ => trivial
  have hcap2 : l.length ≤ cap2 := ow_cap hO2
  refine cl (u_Decode l a2 cap2 w2 S2 hl hcap2 (hG.bl B02)) ?_
  rintro _ w3 ⟨ua, rfl, hU3, B23⟩
  refine al fun b4 w4 h4 => ?_
  refine sta (cs' := ucells (decU l) ua) h4.box fun w5 k5 x5 => ?_
  have B35 := h4.wr k5
  have B25 := B23.trans B35
  have B05 := B02.trans B25
  have U5 := hU3.bl B35
  refine cl (r_Decode l a c w5 (hS.bl B05) hl hcap) ?_
  rintro _ w6 ⟨va, rfl, hV6, B56⟩
  refine al fun b7 w7 h7 => ?_
  refine sta (cs' := ucells (decU l) va) h7.box fun w8 k8 x8 => ?_
  have B68 := h7.wr k8
  have B58 := B56.trans B68
  have B08 := B05.trans B58
  have x58 := Bl.box B58 x5
  refine spt (.agg (ucells (decU l) ua).toArray) ?_
  refine lda x58.at ?_
  refine spt (.agg (ucells (decU l) va).toArray) ?_
  refine lda x8.at ?_
  refine spt (.bool false) ?_
  refine cl (r_Same (decU l) (decU l) ua va w8 (U5.bl B58) (hV6.bl B68)) ?_
  rintro _ w9 ⟨rfl, B89⟩
  rw [same_refl]
  have B09 := B08.trans B89
  have S9 : Sl eB T w9 a2 l := (S2.bl (B25.trans B58)).bl B89
  refine spt (.string ⟨#[]⟩) ?_
  refine cbl S9 rfl (fun _ => trivial) ?_
  refine spt (.string ⟨#[]⟩) ?_
  refine cbl (hS.bl B09) rfl (fun _ => trivial) ?_
  refine brf ?_
  refine br (t := decide (decE l = 0)) (fun h => ?_) (fun h => ?_)
  · have hE := of_decide_eq_true h
    obtain ⟨u, hp, hc, hu, he⟩ := dec_zero hE
    refine lda (Bl.box B89 x58).at ?_
    refine cl (u_Encode (decU l) ua w9 ((U5.bl B58).bl B89) (hG.bl B09)) ?_
    rintro v w10 ⟨hR, B910⟩
    unfold EncR at hR
    rw [hu, if_pos hc, he] at hR
    obtain ⟨ar, cr, rfl, hrow⟩ := hR
    have B010 := B09.trans B910
    refine spt (.string ⟨#[]⟩) ?_
    refine cbl (hrow.sl (by omega)) rfl (fun _ => trivial) ?_
    refine spt (.string ⟨#[]⟩) ?_
    refine cbl (hS.bl B010) rfl (fun _ => trivial) ?_
    refine brf ?_
    refine cl (l_sane w10 (hG.bl B010)) ?_
    rintro _ w11 ⟨rfl, B1011⟩
    exact rt1 ⟨rfl, B010.trans B1011⟩
  · refine cl (l_sane w9 (hG.bl B09)) ?_
    rintro _ w11 ⟨rfl, B911⟩
    exact rt1 ⟨rfl, B09.trans B911⟩
end Go.Proofs.YtopjmiklpnejmaaGreatDoor

/- Walks: the law UnitGuards. -/
namespace Go.Proofs.YtopjmiklpnejmaaGreatDoor
open Eng Go.RowKit
theorem row_own {w : World} {B cap : Nat} {a : Option Addr} {bs : List UInt8} (h : RowS w B a cap bs) (hl : 4 < bs.length) : OwP 1 encB w B 5 a cap bs := by
  cases h with
  | own h => exact h
  | lit g ha hB hc hne hat h4 => omega
theorem enc_ge {u : Unt} (h : checkE u = 0) : 29 ≤ (enc u).length := by
  have k := chk_ok h
  have hn := simpleL_len (l := u.name.data.toList) k.nm
  rw [ba_len] at hn
  have h1 : ∀ n : Nat, n ≤ 1048576 → (num (n : Int)).length = 4 := fun n hn => num_word (word_small (by omega) (by omega))
  have hL := k.lim
  have e1 := h1 u.name.size (by omega)
  have e2 := h1 u.pool.length (by have := hL.pool; omega)
  have e3 := h1 u.classes.length (by have := hL.cls; omega)
  have e4 := h1 u.statics.length (by have := hL.sta; omega)
  have e5 := h1 u.methods.length (by have := hL.mth; omega)
  have e6 : (num (sumB (body u))).length = 4 := num_word (sum_word _)
  have e7 : magic.length = 4 := rfl
  have e8 : (toL u.name).length = u.name.size := ba_len _
  have hb : (body u).length = 4 + (oUnt u).length := by rw [body_unt, List.length_append, e7]
  have ho : 24 + (toL u.name).length - 4 ≤ (oUnt u).length := by
    unfold oUnt oList oTxt
    simp only [List.length_append]
    omega
  unfold enc
  rw [List.length_append]
  omega
theorem enc_dec {u : Unt} (h : checkE u = 0) : parse (enc u) = some u ∧ decE (enc u) = 0 ∧ decU (enc u) = u := by
  have hp := parse_inn (chk_words h)
  exact ⟨hp, by unfold decE; rw [hp]; exact h, by unfold decU; rw [hp]; exact if_pos h⟩
/-- an index of any number -/
theorem idxG (x : Int) {n : Nat} (hn : 0 < n) (hb : n ≤ 1048576) : ∃ k : Nat, k < n ∧ (IntKind.i64.wrap (x.tmod (n : Int) + (n : Int))).tmod (n : Int) = (k : Int) := by
  have h1 := Int.tmod_lt_of_pos x (b := (n : Int)) (by omega)
  have h2 := Int.lt_tmod_of_pos x (b := (n : Int)) (by omega)
  rw [wrap_fit (by omega) (by omega)]
  have h3 := Int.tmod_lt_of_pos (x.tmod (n : Int) + (n : Int)) (b := (n : Int)) (by omega)
  have h4 : 0 ≤ (x.tmod (n : Int) + (n : Int)).tmod (n : Int) := Int.tmod_nonneg _ (by omega)
  exact ⟨((x.tmod (n : Int) + (n : Int)).tmod (n : Int)).toNat, by omega, (Int.toNat_of_nonneg h4).symm⟩
theorem xor_run {T : TypeId} {a b : Nat} (ha : a < 256) (hb : b < 256) : ∀ P w, (binOp .xor T (.int .u8 (a : Int)) (.int .u8 (b : Int))).run P w = .ok (.int .u8 ((a ^^^ b : Nat) : Int)) w := fun P w => by
  have e : binOp .xor T (.int .u8 (a : Int)) (.int .u8 (b : Int)) = pure (.int .u8 (bits .xor .u8 (a : Int) (b : Int))) := by simp [binOp]; rfl
  rw [e, u8_xor_nat _ _ ha hb]
  rfl
theorem flatB_set {l : List UInt8} {k : Nat} {b : UInt8} : (l.flatMap encB).set k (.int .u8 (b.toNat : Int)) = (l.set k b).flatMap encB := by
  have e : ∀ l : List UInt8, l.flatMap encB = l.map fun c => Value.int .u8 (c.toNat : Int) := fun l => by
    induction l with
    | nil => rfl
    | cons x l ih => rw [List.flatMap_cons, ih]; rfl
  rw [e, e, List.map_set]
theorem xor_ne {a b : UInt8} (hb : b.toNat ≠ 0) : a ^^^ b ≠ a := fun e => by
  have h := congrArg (fun x => a ^^^ x) e
  simp only [← UInt8.xor_assoc, UInt8.xor_self, UInt8.zero_xor] at h
  exact hb (by rw [h]; rfl)
set_option maxHeartbeats 1000000 in
theorem l_Guards (u : Unt) (a : UA) (p : Int) (x : UInt8) (q : Int) (w : World) (hU : UnR T w u a) (hG : Gl w) : Ret Tryz.prog 10 #[.agg (ucells u a).toArray, I p, .int .u8 (x.toNat : Int), I q] w fun v w' => v = .bool true ∧ Bl w w' := by
  refine entr (vs := [.agg (ucells u a).toArray, I p, .int .u8 (x.toNat : Int), I q]) [0, 1, 2, 3, 4, 8, 9, 10, 11, 12, 14, 16, 23, 36, 65, 67, 81] tabok Tryz.func10 (by kernel_rfl) ?_
  refine bx (cs := ucells u a) fun b1 w1 h1 => ?_
  have B01 := h1.bl
  refine lda h1.box.at ?_
  refine cl (l_heavy u a w1 (hU.bl B01)) ?_
  rintro _ w2 ⟨hv, rfl, B12⟩
  have B02 := B01.trans B12
  have x2 := Bl.box B12 h1.box
  cases hv with
  | true =>
    refine spn (.agg (ucells u a).toArray) ?_
    refine spn (I 0) ?_
    refine brt ?_
    refine cl (l_sane w2 (hG.bl B02)) ?_
    rintro _ w3 ⟨rfl, h3⟩
    exact rt1 ⟨rfl, B02.trans h3⟩
  | false =>
  refine spt (.agg (ucells u a).toArray) ?_
  refine lda x2.at ?_
  refine spt (I 0) ?_
  refine cl (r_Check u a w2 (hU.bl B02)) ?_
  rintro _ w3 ⟨rfl, B23⟩
  have B03 := B02.trans B23
  have x3 := Bl.box B23 x2
  refine br (t := false || decide (¬ checkE u = 0)) (fun h => ?_) (fun h => ?_)
  · refine cl (l_sane w3 (hG.bl B03)) ?_
    rintro _ w4 ⟨rfl, h4⟩
    exact rt1 ⟨rfl, B03.trans h4⟩
  rw [Bool.false_or] at h
  have h0 : checkE u = 0 := Classical.not_not.1 (of_decide_eq_false h)
  refine lda x3.at ?_
  refine cl (u_Encode u a w3 (hU.bl B03) (hG.bl B03)) ?_
  rintro v w4 ⟨hR, B34⟩
  unfold EncR at hR
  rw [if_pos h0] at hR
  obtain ⟨ar, cr, rfl, hrow⟩ := hR
  have B04 := B03.trans B34
  have hge := enc_ge h0
  have hle := enc_le h0
  have hO4 := row_own hrow (by omega)
  have hcr := ow_cap hO4
  have hwd := chk_words h0
  have hne : ((enc u).length : Int) ≠ 0 := by omega
  refine brf ?_ (hp := by rw [decide_eq_false (show ¬ ((enc u).length : Int) < 29 by omega)]; rfl)
  obtain ⟨k1, hk1, e1⟩ := idxG p (n := (enc u).length) (by omega) (by omega)
  obtain ⟨k2, hk2, e2⟩ := idxG q (n := (enc u).length) (by omega) (by omega)
  refine iop (rem_run (b := ((enc u).length : Int)) hne) ?_
  refine iop (rem_run (b := ((enc u).length : Int)) hne) ?_
  rw [e1]
  refine iop (rem_run (b := ((enc u).length : Int)) hne) ?_
  refine iop (rem_run (b := ((enc u).length : Int)) hne) ?_
  rw [e2]
  refine Eng.sl 0 k2 ?_
  have S4 : Sl eB T w4 ar (enc u) := owp_sl (enc := encB) hO4 (by omega) fun _ _ => trivial
  have hlen : ((enc u).take k2).length = k2 := by rw [List.length_take]; omega
  have hSk : Sl eB T w4 (if cr = 0 then ar else ar.map (·.add (0 * 1))) ((enc u).take k2) := slB_if (n := 0) (slB_take S4 _) (by rw [hlen]; omega)
  have hcs := u_Decode ((enc u).take k2) (if cr = 0 then ar else ar.map (·.add (0 * 1))) (cr - 0) w4 hSk (by omega) (by omega) (hG.bl B04)
  rw [hlen] at hcs
  refine cl hcs ?_ (hm := by intros; exact True.intro)
  rintro _ w5 ⟨ua, rfl, hU5, B45⟩
  have eD : decE ((enc u).take k2) = 4 := by unfold decE; rw [cut_bad hwd hk2]
  rw [eD]
  refine al fun b6 w6 h6 => ?_
  refine sta (cs' := ucells (decU ((enc u).take k2)) ua) h6.box fun w7 k7 x7 => ?_
  have B57 := h6.wr k7
  have B47 := B45.trans B57
  have B07 := B04.trans B47
  refine brF ?_ (hp := by simp)
  refine br (t := decide (¬ ((x.toNat : Nat) : Int) = 0)) (fun hx => ?_) (fun hx => ?_)
  rotate_left
  · refine cl (l_sane w7 (hG.bl B07)) ?_
    rintro _ w8 ⟨rfl, h8⟩
    exact rt1 ⟨rfl, B07.trans h8⟩
  have hx0 : x.toNat ≠ 0 := by have := of_decide_eq_true hx; omega
  have hO7 := hO4.bl B47
  obtain ⟨y, hy⟩ := some_of_lt (l := enc u) (k := k1) hk1
  obtain ⟨g, cur, rfl, hgb, hgl, hgt, hgc, hgn⟩ : ∃ g cur, ar = some ⟨g, 0, none⟩ ∧ Box w7 g 5 cur ∧ cur.length = cr * 1 ∧ cur.take ((enc u).length * 1) = (enc u).flatMap encB ∧ (enc u).length ≤ cr ∧ (enc u).length * 1 ≤ cur.length := by
    rcases hO7.shape with ⟨_, h0, _⟩ | ⟨g, cur, rfl, _⟩
    · omega
    · obtain ⟨cur, q1, q2, q3, q4, q5⟩ := Eng.Ow.box hO7
      exact ⟨g, cur, rfl, q1, q2, q3, q4, q5⟩
  have hlo := (hO7.lt rfl).1
  have hAy := at_elem (sz := 1) (enc := encB) (hO7.at rfl) hy fun _ => rfl
  have hy1 := y.toNat_lt
  have hx1 := x.toNat_lt
  refine ix ?_
  refine ld (hAy 0 _ rfl) ?_
  refine iop (xor_run hy1 hx1) ?_
  refine ix ?_
  refine stx hgb (fun w8 k8 hb8 => ?_) (ho := by omega)
  have exy : ((y.toNat ^^^ x.toNat : Nat) : Int) = ((y ^^^ x).toNat : Int) := by rw [UInt8.toNat_xor]
  have hb8 : Box w8 g 5 (cur.set k1 (.int .u8 ((y ^^^ x).toNat : Int))) := by rw [← exy]; simpa using hb8
  have hO8 : OwP 1 encB w8 w3.heap.size 5 (some ⟨g, 0, none⟩) cr ((enc u).set k1 (y ^^^ x)) := by
    have := Eng.Ow.set hO7 hgb hb8
    rw [flatB_set] at this
    unfold OwP
    rw [List.length_set]
    exact this
  have B08 : Bl w w8 := B07.trans_wr k8 (by have := B03.size; omega)
  have hl8 : ((enc u).set k1 (y ^^^ x)).length = (enc u).length := List.length_set
  have S8 : Sl eB T w8 (some ⟨g, 0, none⟩) ((enc u).set k1 (y ^^^ x)) := owp_sl (enc := encB) hO8 (by omega) fun _ _ => trivial
  have hcs := u_Decode ((enc u).set k1 (y ^^^ x)) (some ⟨g, 0, none⟩) cr w8 S8 (by omega) (by omega) (hG.bl B08)
  rw [hl8] at hcs
  refine cl hcs ?_ (hm := by intros; exact True.intro)
  rintro _ w9 ⟨ub, rfl, hU9, B89⟩
  have eD2 : decE ((enc u).set k1 (y ^^^ x)) = 4 := by unfold decE; rw [flip_bad hy (xor_ne hx0)]
  rw [eD2]
  refine al fun b10 w10 h10 => ?_
  refine sta (cs' := ucells (decU ((enc u).set k1 (y ^^^ x))) ub) h10.box fun w11 k11 x11 => ?_
  have B011 := (B08.trans B89).trans (h10.wr k11)
  refine brF ?_ (hp := by simp)
  refine cl (l_sane w11 (hG.bl B011)) ?_
  rintro _ w12 ⟨rfl, h12⟩
  exact rt1 ⟨rfl, B011.trans h12⟩
end Go.Proofs.YtopjmiklpnejmaaGreatDoor

/- Walks: a unit written, in the document. -/
namespace Go.Proofs.YtopjmiklpnejmaaGreatDoor
open Eng Go.RowKit
/-- nothing but one row has turned, which may lie in a new block now -/
structure WT (w w' : World) (a a' : Option Addr) : Prop where
  ap : Ap w a w'
  fr : ∀ g, a' = some ⟨g, 0, none⟩ → a = some ⟨g, 0, none⟩ ∨ w.heap.size ≤ g
theorem WT.trans {w w1 w2 : World} {a a1 a2 : Option Addr} (h : WT w w1 a a1) (k : WT w1 w2 a1 a2) : WT w w2 a a2 := by
  refine ⟨⟨k.ap.os.trans h.ap.os, k.ap.tape.trans h.ap.tape, k.ap.output.trans h.ap.output, Nat.le_trans h.ap.size k.ap.size, fun i hi hn => (k.ap.block i (Nat.lt_of_lt_of_le hi h.ap.size) fun e => ?_).trans (h.ap.block i hi hn)⟩, fun g hg => ?_⟩
  · rcases h.fr i e with q | q
    · exact hn q
    · omega
  · rcases k.fr g hg with q | q
    · exact h.fr g q
    · exact .inr (Nat.le_trans h.ap.size q)
theorem WT.bl {w w' : World} {a : Option Addr} (h : Bl w w') : WT w w' a a := ⟨Ap.bl h a, fun _ h => .inl h⟩
theorem WT.below {w w' : World} {a a' : Option Addr} {B cap : Nat} {ss : List UInt8} (h : WT w w' a a') (hR : RowS w B a cap ss) (hB : B ≤ w.heap.size) : Below B w w' := h.ap.below hB fun _ hg => (hR.lt hg).1
/-- what a writer answers -/
def WR (B : Nat) (a : Option Addr) (ss out : List UInt8) (w : World) (v : Value) (w' : World) : Prop := ∃ a' c', v = .slice a' (ss ++ out).length c' ∧ RowS w' B a' c' (ss ++ out) ∧ WT w w' a a'
theorem r_num (n : Int) (B : Nat) (a : Option Addr) (cap : Nat) (ss : List UInt8) (w : World) (hR : RowS w B a cap ss) (hB : B ≤ w.heap.size) (hn : ss.length ≤ 1000000) : Ret Tryz.prog 165 #[.slice a ss.length cap, I n] w (WR B a ss (num n) w) := by
  have h4 : (num n).length ≤ 4 := by unfold num; split <;> simp
  refine entr (vs := [.slice a ss.length cap, I n]) [0, 1, 4, 5] tabok Tryz.func165 (by kernel_rfl) ?_
  refine cl (r_Bytes n w) ?_
  rintro _ w1 ⟨ab, cb, e, rfl, hsrc, B01⟩
  refine apb (hR.bl B01) hsrc (Nat.le_trans hB B01.size) (fun a2 c2 w2 hR2 hA2 hf2 => ?_)
  exact rt1 ⟨a2, c2, rfl, hR2, (WT.bl B01).trans ⟨hA2, hf2⟩⟩
theorem num_ne {ss : List UInt8} {n : Int} (h : isWord n = true) : ss ++ num n ≠ [] := fun e => by
  have := congrArg List.length e
  rw [List.length_append, num_word h, List.length_nil] at this
  omega
theorem r_wtext (s : ByteArray) (B : Nat) (a : Option Addr) (cap : Nat) (ss : List UInt8) (w : World) (hR : RowS w B a cap ss) (hB : B ≤ w.heap.size) (hs : s.size ≤ 1048576) (hn : ss.length ≤ 900000) : Ret Tryz.prog 164 #[.slice a ss.length cap, .string s] w (WR B a ss (oTxt s) w) := by
  have hw : isWord (s.size : Int) = true := word_small (by omega) (by omega)
  refine entr (vs := [.slice a ss.length cap, .string s]) [0, 1, 4] tabok Tryz.func164 (by kernel_rfl) ?_
  refine cl (r_num s.size B a cap ss w hR hB (by omega)) ?_
  rintro _ w1 ⟨a1, c1, rfl, R1, T1⟩
  refine aps R1 (num_ne hw) (Nat.le_trans hB T1.ap.size) (fun a2 c2 w2 hR2 hA2 hf2 => ?_) (hb := by rw [List.length_append, num_word hw]; omega)
  have e : ss ++ num (s.size : Int) ++ toL s = ss ++ oTxt s := by unfold oTxt; rw [List.append_assoc]
  rw [e] at hR2 ⊢
  exact rt1 ⟨a2, c2, rfl, hR2, T1.trans ⟨hA2, hf2⟩⟩
theorem r_wty (t : Ty) (B : Nat) (a : Option Addr) (cap : Nat) (ss : List UInt8) (w : World) (hR : RowS w B a cap ss) (hB : B ≤ w.heap.size) (hn : ss.length ≤ 900000) : Ret Tryz.prog 209 #[.slice a ss.length cap, .agg (encTy t).toArray] w (WR B a ss (oTy t) w) := by
  have h4 : (num t.kind).length ≤ 4 := by unfold num; split <;> simp
  refine entr (vs := [.slice a ss.length cap, .agg (encTy t).toArray]) [0, 1, 3, 4] tabok Tryz.func209 (by kernel_rfl) ?_
  refine bx (cs := encTy t) fun b1 w1 h1 => ?_
  have z1 := h1.size
  have y1 := h1.blk
  refine ld (h1.box.cell rfl) ?_
  refine cl (r_num t.kind B a cap ss w1 (hR.bl h1.bl) (by omega) (by omega)) ?_
  rintro _ w2 ⟨a2, c2, rfl, R2, T2⟩
  have x2 := T2.ap.box h1.box fun e => by have := (hR.lt e).2; omega
  refine ld (x2.cell rfl) ?_
  refine cl (r_num t.cls B a2 c2 (ss ++ num t.kind) w2 R2 (by have := T2.ap.size; omega) (by rw [List.length_append]; omega)) ?_
  rintro _ w3 ⟨a3, c3, rfl, R3, T3⟩
  have e : ss ++ num t.kind ++ num t.cls = ss ++ oTy t := by unfold oTy; rw [List.append_assoc]
  rw [e] at R3 ⊢
  exact rt1 ⟨a3, c3, rfl, R3, ((WT.bl h1.bl).trans T2).trans T3⟩
theorem num_le (n : Int) : (num n).length ≤ 4 := by unfold num; split <;> simp
theorem r_wflds (l : List Fld) (al : Option Addr) (cl' : Nat) (B : Nat) (a : Option Addr) (cap : Nat) (ss : List UInt8) (w : World) (hR : RowS w B a cap ss) (hB : B ≤ w.heap.size) (hS : Sl eFld (· < B) w al l) (hn : (ss ++ oList oFld l).length ≤ 800000) : Ret Tryz.prog 166 #[.slice a ss.length cap, .slice al l.length cl'] w (WR B a ss (oList oFld l) w) := by
  have hbig := hS.big
  have hn1 : ss.length + (num (l.length : Int)).length + (l.flatMap oFld).length ≤ 800000 := by unfold oList at hn; simp only [List.length_append] at hn; omega
  refine entr (vs := [.slice a ss.length cap, .slice al l.length cl']) [0, 1, 4, 5, 13] tabok Tryz.func166 (by kernel_rfl) ?_
  refine cl (r_num l.length B a cap ss w hR hB (by omega)) ?_
  rintro _ w1 ⟨a1, c1, rfl, R1, T1⟩
  refine lpk (vals := [.slice a1 (ss ++ num (l.length : Int)).length c1]) l.length 5 [0] [(1, .slice al l.length cl')] (fun k vals w' => ∃ a' c', vals = [.slice a' (ss ++ num (l.length : Int) ++ (l.take k).flatMap oFld).length c'] ∧ RowS w' B a' c' (ss ++ num (l.length : Int) ++ (l.take k).flatMap oFld) ∧ WT w w' a a') ⟨a1, c1, by simp, by simpa using R1, T1⟩ ?_
  rintro k vals w2 hk ⟨a2, c2, rfl, R2, T2⟩ ih
  have B2 := T2.below hR hB
  have z2 := T2.ap.size
  by_cases hlt : k < l.length
  · refine brT ?_
    obtain ⟨x, b, o, cs, hx, rfl, hSb, hAt, rfl⟩ := at_some (hS.kp (Below.kp B2)) hlt
    have hq := fm_take_le oFld hx
    have hxl : (oFld x).length = (num x.name).length + (oTy x.ty).length := by unfold oFld; rw [List.length_append]
    refine ix ?_
    refine ld (hAt 0 _ rfl) ?_
    refine cl (r_num x.name B a2 c2 _ w2 R2 (by omega) (by simp only [List.length_append]; omega)) ?_
    rintro _ w3 ⟨a3, c3, rfl, R3, T3⟩
    have hAt3 := hAt.kp (Below.kp (T3.below R2 (by omega))) hSb
    have z3 := T3.ap.size
    refine ix ?_
    refine lda (fldAt hAt3) ?_
    refine cl (r_wty x.ty B a3 c3 _ w3 R3 (by omega) (by simp only [List.length_append]; omega)) ?_
    rintro _ w4 ⟨a4, c4, rfl, R4, T4⟩
    have e : ss ++ num (l.length : Int) ++ (l.take k).flatMap oFld ++ num x.name ++ oTy x.ty = ss ++ num (l.length : Int) ++ (l.take (k + 1)).flatMap oFld := by
      rw [flatMap_snoc hx]; unfold oFld; simp only [List.append_assoc]
    refine ih hlt ⟨a4, c4, ?_, ?_, (T2.trans T3).trans T4⟩
    · rw [← e]
    · rw [← e]; exact R4
  · refine brF ?_
    obtain rfl : k = l.length := by omega
    rw [List.take_length] at R2 ⊢
    have e : ss ++ num (l.length : Int) ++ l.flatMap oFld = ss ++ oList oFld l := by unfold oList; rw [List.append_assoc]
    rw [e] at R2 ⊢
    exact rt1 ⟨a2, c2, rfl, R2, T2⟩
theorem r_wtys (l : List Ty) (al : Option Addr) (cl' : Nat) (B : Nat) (a : Option Addr) (cap : Nat) (ss : List UInt8) (w : World) (hR : RowS w B a cap ss) (hB : B ≤ w.heap.size) (hS : Sl eTy (· < B) w al l) (hn : (ss ++ oList oTy l).length ≤ 800000) : Ret Tryz.prog 210 #[.slice a ss.length cap, .slice al l.length cl'] w (WR B a ss (oList oTy l) w) := by
  have hbig := hS.big
  have hn1 : ss.length + (num (l.length : Int)).length + (l.flatMap oTy).length ≤ 800000 := by unfold oList at hn; simp only [List.length_append] at hn; omega
  refine entr (vs := [.slice a ss.length cap, .slice al l.length cl']) [0, 1, 4, 5, 13] tabok Tryz.func210 (by kernel_rfl) ?_
  refine cl (r_num l.length B a cap ss w hR hB (by omega)) ?_
  rintro _ w1 ⟨a1, c1, rfl, R1, T1⟩
  refine lpk (vals := [.slice a1 (ss ++ num (l.length : Int)).length c1]) l.length 5 [0] [(1, .slice al l.length cl')] (fun k vals w' => ∃ a' c', vals = [.slice a' (ss ++ num (l.length : Int) ++ (l.take k).flatMap oTy).length c'] ∧ RowS w' B a' c' (ss ++ num (l.length : Int) ++ (l.take k).flatMap oTy) ∧ WT w w' a a') ⟨a1, c1, by simp, by simpa using R1, T1⟩ ?_
  rintro k vals w2 hk ⟨a2, c2, rfl, R2, T2⟩ ih
  have B2 := T2.below hR hB
  have z2 := T2.ap.size
  by_cases hlt : k < l.length
  · refine brT ?_
    obtain ⟨x, b, o, cs, hx, rfl, hSb, hAt, rfl⟩ := at_some (hS.kp (Below.kp B2)) hlt
    have hq := fm_take_le oTy hx
    refine ix ?_
    refine lda hAt ?_
    refine cl (r_wty x B a2 c2 _ w2 R2 (by omega) (by simp only [List.length_append]; omega)) ?_
    rintro _ w4 ⟨a4, c4, rfl, R4, T4⟩
    have e : ss ++ num (l.length : Int) ++ (l.take k).flatMap oTy ++ oTy x = ss ++ num (l.length : Int) ++ (l.take (k + 1)).flatMap oTy := by
      rw [flatMap_snoc hx, List.append_assoc]
    refine ih hlt ⟨a4, c4, ?_, ?_, T2.trans T4⟩
    · rw [← e]
    · rw [← e]; exact R4
  · refine brF ?_
    obtain rfl : k = l.length := by omega
    rw [List.take_length] at R2 ⊢
    have e : ss ++ num (l.length : Int) ++ l.flatMap oTy = ss ++ oList oTy l := by unfold oList; rw [List.append_assoc]
    rw [e] at R2 ⊢
    exact rt1 ⟨a2, c2, rfl, R2, T2⟩
set_option maxHeartbeats 1000000 in
theorem r_wmth (m : Mth) (q1 : Option Addr) (s1 : Nat) (q2 : Option Addr) (s2 : Nat) (q3 : Option Addr) (s3 : Nat) (B : Nat) (a : Option Addr) (cap : Nat) (ss : List UInt8) (w : World) (hR : RowS w B a cap ss) (hB : B ≤ w.heap.size) (f1 : Sl eTy (· < B) w q1 m.params) (f2 : Sl eTy (· < B) w q2 m.locals) (f3 : Sl eIns (· < B) w q3 m.code) (hn : (ss ++ oMth m).length ≤ 800000) :
    Ret Tryz.prog 167 #[.slice a ss.length cap, .agg (mcells m q1 s1 q2 s2 q3 s3).toArray] w (WR B a ss (oMth m) w) := by
  have hb3 := f3.big
  have hn1 : ss.length + (num m.name).length + (num m.cls).length + (oList oTy m.params).length + (oList oTy m.locals).length + (oTy m.result).length + (num (m.code.length : Int)).length + (m.code.flatMap oIns).length ≤ 800000 := by
    unfold oMth at hn; rw [show oList oIns m.code = num (m.code.length : Int) ++ m.code.flatMap oIns from rfl] at hn; simp only [List.length_append] at hn; omega
  refine entr (vs := [.slice a ss.length cap, .agg (mcells m q1 s1 q2 s2 q3 s3).toArray]) [0, 1, 3, 4, 5, 35] tabok Tryz.func167 (by kernel_rfl) ?_
  refine bx (cs := mcells m q1 s1 q2 s2 q3 s3) fun b1 w1 h1 => ?_
  have z1 := h1.size
  have y1 := h1.blk
  have hR1 := hR.bl h1.bl
  have X : ∀ {w' a'}, WT w1 w' a a' → Box w' b1 64 (mcells m q1 s1 q2 s2 q3 s3) := fun h => h.ap.box h1.box fun e => by have := (hR.lt e).2; omega
  have BW : ∀ {w' a'}, WT w1 w' a a' → Below B w w' := fun h => Below.trans (h1.bl.mono hB) (h.below hR1 (by omega))
  refine ld (h1.box.cell rfl) ?_
  refine cl (r_num m.name B a cap ss w1 hR1 (by omega) (by omega)) ?_
  rintro _ w2 ⟨a2, c2, rfl, R2, T2⟩
  have z2 := T2.ap.size
  refine ld ((X T2).cell rfl) ?_
  refine cl (r_num m.cls B a2 c2 _ w2 R2 (by omega) (by simp only [List.length_append]; omega)) ?_
  rintro _ w3 ⟨a3, c3, rfl, R3, T3⟩
  have T3 := T2.trans T3
  have z3 := T3.ap.size
  refine ld ((X T3).cell rfl) ?_
  refine cl (r_wtys m.params q1 s1 B a3 c3 _ w3 R3 (by omega) (f1.kp (Below.kp (BW T3))) (by simp only [List.length_append]; omega)) ?_
  rintro _ w4 ⟨a4, c4, rfl, R4, T4⟩
  have T4 := T3.trans T4
  have z4 := T4.ap.size
  refine ld ((X T4).cell rfl) ?_
  refine cl (r_wtys m.locals q2 s2 B a4 c4 _ w4 R4 (by omega) (f2.kp (Below.kp (BW T4))) (by simp only [List.length_append]; omega)) ?_
  rintro _ w5 ⟨a5, c5, rfl, R5, T5⟩
  have T5 := T4.trans T5
  have z5 := T5.ap.size
  refine lda (At.left (cs := encTy m.result) (X T5).at.tail.tail.tail.tail) ?_
  refine cl (r_wty m.result B a5 c5 _ w5 R5 (by omega) (by simp only [List.length_append]; omega)) ?_
  rintro _ w6 ⟨a6, c6, rfl, R6, T6⟩
  have T6 := T5.trans T6
  have z6 := T6.ap.size
  refine ld ((X T6).cell rfl) ?_
  refine cl (r_num m.code.length B a6 c6 _ w6 R6 (by omega) (by simp only [List.length_append]; omega)) ?_
  rintro _ w7 ⟨a7, c7, rfl, R7, T7⟩
  have T7 := T6.trans T7
  generalize hss : ss ++ num m.name ++ num m.cls ++ oList oTy m.params ++ oList oTy m.locals ++ oTy m.result ++ num (m.code.length : Int) = s7 at *
  have hs7 : s7.length + (m.code.flatMap oIns).length ≤ 800000 := by rw [← hss]; simp only [List.length_append]; omega
  refine lpk (vals := [.slice a7 s7.length c7]) m.code.length 5 [0] [(3, .pointer (some ⟨b1, 0, none⟩))] (fun k vals w' => ∃ a' c', vals = [.slice a' (s7 ++ (m.code.take k).flatMap oIns).length c'] ∧ RowS w' B a' c' (s7 ++ (m.code.take k).flatMap oIns) ∧ WT w1 w' a a') ⟨a7, c7, by simp, by simpa using R7, T7⟩ ?_
  rintro k vals w8 hk ⟨a8, c8, rfl, R8, T8⟩ ih
  have z8 := T8.ap.size
  refine ld ((X T8).cell rfl) ?_
  by_cases hlt : k < m.code.length
  · refine brT ?_
    obtain ⟨x, b, o, cs, hx, e3, hSb, hAt, rfl⟩ := at_some f3 hlt
    have hq := fm_take_le oIns hx
    have hxl : (oIns x).length = (num x.op).length + (num x.a).length + (num x.b).length := by unfold oIns; simp only [List.length_append]
    refine ld ((X T8).cell rfl) ?_
    rw [e3]
    refine ix ?_
    refine ld ((hAt.kp (Below.kp (BW T8)) hSb) 0 _ rfl) ?_
    refine cl (r_num x.op B a8 c8 _ w8 R8 (by omega) (by simp only [List.length_append]; omega)) ?_
    rintro _ w9 ⟨a9, c9, rfl, R9, T9⟩
    have T9 := T8.trans T9
    have z9 := T9.ap.size
    refine ld ((X T9).cell rfl) ?_
    rw [e3]
    refine ix ?_
    refine ld ((hAt.kp (Below.kp (BW T9)) hSb) 1 _ rfl) ?_
    refine cl (r_num x.a B a9 c9 _ w9 R9 (by omega) (by simp only [List.length_append]; omega)) ?_
    rintro _ w10 ⟨a10, c10, rfl, R10, T10⟩
    have T10 := T9.trans T10
    have z10 := T10.ap.size
    refine ld ((X T10).cell rfl) ?_
    rw [e3]
    refine ix ?_
    refine ld ((hAt.kp (Below.kp (BW T10)) hSb) 2 _ rfl) ?_
    refine cl (r_num x.b B a10 c10 _ w10 R10 (by omega) (by simp only [List.length_append]; omega)) ?_
    rintro _ w11 ⟨a11, c11, rfl, R11, T11⟩
    have e : s7 ++ (m.code.take k).flatMap oIns ++ num x.op ++ num x.a ++ num x.b = s7 ++ (m.code.take (k + 1)).flatMap oIns := by
      rw [flatMap_snoc hx]; unfold oIns; simp only [List.append_assoc]
    refine ih hlt ⟨a11, c11, ?_, ?_, T10.trans T11⟩
    · rw [← e]
    · rw [← e]; exact R11
  · refine brF ?_
    obtain rfl : k = m.code.length := by omega
    rw [List.take_length] at R8 ⊢
    have e : s7 ++ m.code.flatMap oIns = ss ++ oMth m := by
      rw [← hss]; unfold oMth; rw [show oList oIns m.code = num (m.code.length : Int) ++ m.code.flatMap oIns from rfl]; simp only [List.append_assoc]
    rw [e] at R8 ⊢
    exact rt1 ⟨a8, c8, rfl, R8, (WT.bl h1.bl).trans T8⟩
theorem row_base {w : World} {B B' cap : Nat} {a : Option Addr} {bs : List UInt8} (h : RowS w B a cap bs) (hb : B' ≤ B) : RowS w B' a cap bs := by
  cases h with
  | own h => exact .own (Ow.base h hb)
  | lit g ha hB hc hne hat h4 => exact .lit g ha (Nat.le_trans hb hB) hc hne hat h4
theorem flat_take_le {α : Type} (f : α → List UInt8) (l : List α) (k : Nat) : ((l.take k).flatMap f).length ≤ (l.flatMap f).length := by
  conv => rhs; rw [← List.take_append_drop k l, List.flatMap_append, List.length_append]
  omega
set_option maxHeartbeats 2000000 in
theorem r_Write (u : Unt) (a : UA) (w : World) (hU : UnR T w u a) (hb : (enc u).length ≤ 500000) : Ret Tryz.prog 115 #[.agg (ucells u a).toArray] w fun v w' => ∃ a' c', v = .slice a' (enc u).length c' ∧ RowS w' w.heap.size a' c' (enc u) ∧ Bl w w' := by
  have n1 := hU.pool.big
  have n2 := hU.cls.big
  have n3 := hU.sta.big
  have n4 := hU.mth.big
  have hlen : 4 + (oTxt u.name).length + (num (u.pool.length : Int)).length + (u.pool.flatMap oTxt).length + (num (u.classes.length : Int)).length + (u.classes.flatMap oCls).length + (oList oFld u.statics).length + (num (u.methods.length : Int)).length + (u.methods.flatMap oMth).length + (num (sumB (body u))).length ≤ 500000 := by
    have e : (enc u).length = (body u).length + (num (sumB (body u))).length := by unfold enc; rw [List.length_append]
    have e2 : (body u).length = 4 + (oTxt u.name).length + (num (u.pool.length : Int)).length + (u.pool.flatMap oTxt).length + (num (u.classes.length : Int)).length + (u.classes.flatMap oCls).length + (oList oFld u.statics).length + (num (u.methods.length : Int)).length + (u.methods.flatMap oMth).length := by
      rw [body_unt, List.length_append, show magic.length = 4 from rfl]
      unfold oUnt
      rw [show oList oTxt u.pool = num (u.pool.length : Int) ++ u.pool.flatMap oTxt from rfl, show oList oCls u.classes = num (u.classes.length : Int) ++ u.classes.flatMap oCls from rfl, show oList oMth u.methods = num (u.methods.length : Int) ++ u.methods.flatMap oMth from rfl]
      simp only [List.length_append]; omega
    omega
  refine entr (vs := [.agg (ucells u a).toArray]) [0, 1, 2, 3, 4, 5, 6, 7, 23, 42, 82] tabok Tryz.func115 (by kernel_rfl) ?_
  refine bx (cs := ucells u a) fun b1 w1 h1 => ?_
  have z1 := h1.size
  have y1 := h1.blk
  refine bs fun b3 w3 h3 => ?_
  have y3 := h3.blk
  refine cvl h3 fun w4 hat4 hB4 hz4 => ?_
  have z3 := h3.size
  have x4 := Bl.box hB4 h1.box
  have R4 : RowS w4 w1.heap.size (some ⟨b3, 0, none⟩) 4 magic := .lit b3 rfl (by omega) rfl (by decide) hat4 (by decide)
  have hz : w1.heap.size ≤ w4.heap.size := by omega
  have U4 : UnR (· < w1.heap.size) w4 u a := (((hU.bl h1.bl).lt)).bl hB4
  have X : ∀ {w' a'}, WT w4 w' (some ⟨b3, 0, none⟩) a' → Box w' b1 30 (ucells u a) := fun h => h.ap.box x4 fun e => by
    simp only [Option.some.injEq, Addr.mk.injEq, and_true] at e; omega
  have BW : ∀ {w' a'}, WT w4 w' (some ⟨b3, 0, none⟩) a' → Below w1.heap.size w4 w' := fun h => h.below R4 hz
  have UW : ∀ {w' a'}, WT w4 w' (some ⟨b3, 0, none⟩) a' → UnR (· < w1.heap.size) w' u a := fun h => U4.kp (Below.kp (BW h))
  refine ld (x4.cell rfl) ?_
  refine cl (r_wtext u.name w1.heap.size _ 4 magic w4 R4 hz hU.nm (by decide)) ?_
  rintro _ w5 ⟨a5, c5, rfl, R5, T5⟩
  have z5 := T5.ap.size
  have lm : magic.length = 4 := rfl
  refine ld ((X T5).cell rfl) ?_
  refine cl (r_num u.pool.length w1.heap.size a5 c5 _ w5 R5 (by omega) (by rw [List.length_append]; omega)) ?_
  rintro _ w6 ⟨a6, c6, rfl, R6, T6⟩
  have T6 := T5.trans T6
  generalize hs6 : magic ++ oTxt u.name ++ num (u.pool.length : Int) = s6 at *
  have l6 : s6.length = 4 + (oTxt u.name).length + (num (u.pool.length : Int)).length := by rw [← hs6]; simp only [List.length_append, lm]
  refine lpk (vals := [.slice a6 s6.length c6]) u.pool.length 4 [3] [(1, .pointer (some ⟨b1, 0, none⟩))] (fun k vals w' => ∃ a' c', vals = [.slice a' (s6 ++ (u.pool.take k).flatMap oTxt).length c'] ∧ RowS w' w1.heap.size a' c' (s6 ++ (u.pool.take k).flatMap oTxt) ∧ WT w4 w' (some ⟨b3, 0, none⟩) a') ⟨a6, c6, by simp, by simpa using R6, T6⟩ ?_
  rintro k vals w7 hk ⟨a7, c7, rfl, R7, T7⟩ ih
  have z7 := T7.ap.size
  refine ld ((X T7).cell rfl) ?_
  by_cases hlt : k < u.pool.length
  · refine brT ?_
    obtain ⟨s, b, o, cs, hs, e2, _, hAt, rfl⟩ := at_some (UW T7).pool hlt
    have hq := fm_take_le oTxt hs
    refine ld ((X T7).cell rfl) ?_
    rw [e2]
    refine ix ?_
    refine ld (hAt 0 _ rfl) ?_
    refine cl (r_wtext s w1.heap.size a7 c7 _ w7 R7 (by omega) (hU.ps s (List.mem_of_getElem? hs)) (by rw [List.length_append]; omega)) ?_
    rintro _ w8 ⟨a8, c8, rfl, R8, T8⟩
    have e : s6 ++ (u.pool.take k).flatMap oTxt ++ oTxt s = s6 ++ (u.pool.take (k + 1)).flatMap oTxt := by rw [flatMap_snoc hs, List.append_assoc]
    refine ih hlt ⟨a8, c8, ?_, ?_, T7.trans T8⟩
    · rw [← e]
    · rw [← e]; exact R8
  refine brF ?_
  obtain rfl : k = u.pool.length := by omega
  clear ih
  rw [List.take_length] at R7 ⊢
  refine ld ((X T7).cell rfl) ?_
  refine cl (r_num u.classes.length w1.heap.size a7 c7 _ w7 R7 (by omega) (by rw [List.length_append]; omega)) ?_
  rintro _ w8 ⟨a8, c8, rfl, R8, T8⟩
  have T8 := T7.trans T8
  generalize hs8 : s6 ++ u.pool.flatMap oTxt ++ num (u.classes.length : Int) = s8 at *
  have l8 : s8.length = s6.length + (u.pool.flatMap oTxt).length + (num (u.classes.length : Int)).length := by rw [← hs8]; simp only [List.length_append]
  refine lpk (vals := [.slice a8 s8.length c8]) u.classes.length 5 [3] [(1, .pointer (some ⟨b1, 0, none⟩))] (fun k vals w' => ∃ a' c', vals = [.slice a' (s8 ++ (u.classes.take k).flatMap oCls).length c'] ∧ RowS w' w1.heap.size a' c' (s8 ++ (u.classes.take k).flatMap oCls) ∧ WT w4 w' (some ⟨b3, 0, none⟩) a') ⟨a8, c8, by simp, by simpa using R8, T8⟩ ?_
  rintro k vals w9 hk ⟨a9, c9, rfl, R9, T9⟩ ih
  have z9 := T9.ap.size
  refine ld ((X T9).cell rfl) ?_
  by_cases hlt : k < u.classes.length
  · refine brT ?_
    obtain ⟨x, b, o, cs, hx, e2, hSb, hAt, af, cf, rfl, hF⟩ := at_some (UW T9).cls hlt
    have hq := fm_take_le oCls hx
    have hxl : (oCls x).length = (num x.name).length + (num x.super).length + (oList oFld x.fields).length := by unfold oCls; simp only [List.length_append]
    refine ld ((X T9).cell rfl) ?_
    rw [e2]
    refine ix ?_
    refine ld (hAt 0 _ rfl) ?_
    refine cl (r_num x.name w1.heap.size a9 c9 _ w9 R9 (by omega) (by rw [List.length_append]; omega)) ?_
    rintro _ w10 ⟨a10, c10, rfl, R10, T10⟩
    have K10 : Kp (· < w1.heap.size) w9 w10 := Below.kp (T10.below R9 (by omega))
    have z10 := T10.ap.size
    have T10 := T9.trans T10
    refine ld ((X T10).cell rfl) ?_
    rw [e2]
    refine ix ?_
    refine ld ((hAt.kp K10 hSb) 1 _ rfl) ?_
    refine cl (r_num x.super w1.heap.size a10 c10 _ w10 R10 (by omega) (by simp only [List.length_append]; omega)) ?_
    rintro _ w11 ⟨a11, c11, rfl, R11, T11⟩
    have K11 : Kp (· < w1.heap.size) w9 w11 := K10.trans (Below.kp (T11.below R10 (by omega)))
    have z11 := T11.ap.size
    have T11 := T10.trans T11
    refine ld ((X T11).cell rfl) ?_
    rw [e2]
    refine ix ?_
    refine ld ((hAt.kp K11 hSb) 2 _ rfl) ?_
    refine cl (r_wflds x.fields af cf w1.heap.size a11 c11 _ w11 R11 (by omega) (hF.kp K11) (by simp only [List.length_append]; omega)) ?_
    rintro _ w12 ⟨a12, c12, rfl, R12, T12⟩
    have e : s8 ++ (u.classes.take k).flatMap oCls ++ num x.name ++ num x.super ++ oList oFld x.fields = s8 ++ (u.classes.take (k + 1)).flatMap oCls := by
      rw [flatMap_snoc hx]; unfold oCls; simp only [List.append_assoc]
    refine ih hlt ⟨a12, c12, ?_, ?_, T11.trans T12⟩
    · rw [← e]
    · rw [← e]; exact R12
  refine brF ?_
  obtain rfl : k = u.classes.length := by omega
  clear ih
  rw [List.take_length] at R9 ⊢
  refine ld ((X T9).cell rfl) ?_
  refine cl (r_wflds u.statics a.a3 a.c3 w1.heap.size a9 c9 _ w9 R9 (by omega) (UW T9).sta (by simp only [List.length_append]; omega)) ?_
  rintro _ w10 ⟨a10, c10, rfl, R10, T10⟩
  have T10 := T9.trans T10
  have z10 := T10.ap.size
  refine ld ((X T10).cell rfl) ?_
  refine cl (r_num u.methods.length w1.heap.size a10 c10 _ w10 R10 (by omega) (by simp only [List.length_append]; omega)) ?_
  rintro _ w11 ⟨a11, c11, rfl, R11, T11⟩
  have T11 := T10.trans T11
  generalize hs11 : s8 ++ u.classes.flatMap oCls ++ oList oFld u.statics ++ num (u.methods.length : Int) = s11 at *
  have l11 : s11.length = s8.length + (u.classes.flatMap oCls).length + (oList oFld u.statics).length + (num (u.methods.length : Int)).length := by rw [← hs11]; simp only [List.length_append]
  refine lpk (vals := [.slice a11 s11.length c11]) u.methods.length 6 [3] [(1, .pointer (some ⟨b1, 0, none⟩))] (fun k vals w' => ∃ a' c', vals = [.slice a' (s11 ++ (u.methods.take k).flatMap oMth).length c'] ∧ RowS w' w1.heap.size a' c' (s11 ++ (u.methods.take k).flatMap oMth) ∧ WT w4 w' (some ⟨b3, 0, none⟩) a') ⟨a11, c11, by simp, by simpa using R11, T11⟩ ?_
  rintro k vals w12 hk ⟨a12, c12, rfl, R12, T12⟩ ih
  have z12 := T12.ap.size
  refine ld ((X T12).cell rfl) ?_
  by_cases hlt : k < u.methods.length
  · refine brT ?_
    obtain ⟨x, b, o, cs, hx, e2, hSb, hAt, q1, t1, q2, t2, q3, t3, rfl, f1, f2, f3⟩ := at_some (UW T12).mth hlt
    have hq := fm_take_le oMth hx
    refine ld ((X T12).cell rfl) ?_
    rw [e2]
    refine ix ?_
    refine lda hAt ?_
    refine cl (r_wmth x q1 t1 q2 t2 q3 t3 w1.heap.size a12 c12 _ w12 R12 (by omega) f1 f2 f3 (by simp only [List.length_append]; omega)) ?_
    rintro _ w13 ⟨a13, c13, rfl, R13, T13⟩
    have e : s11 ++ (u.methods.take k).flatMap oMth ++ oMth x = s11 ++ (u.methods.take (k + 1)).flatMap oMth := by rw [flatMap_snoc hx, List.append_assoc]
    refine ih hlt ⟨a13, c13, ?_, ?_, T12.trans T13⟩
    · rw [← e]
    · rw [← e]; exact R13
  refine brF ?_
  obtain rfl : k = u.methods.length := by omega
  clear ih
  rw [List.take_length] at R12 ⊢
  have eb : s11 ++ u.methods.flatMap oMth = body u := by
    rw [← hs11, ← hs8, ← hs6, body_unt]
    unfold oUnt
    rw [show oList oTxt u.pool = num (u.pool.length : Int) ++ u.pool.flatMap oTxt from rfl, show oList oCls u.classes = num (u.classes.length : Int) ++ u.classes.flatMap oCls from rfl, show oList oMth u.methods = num (u.methods.length : Int) ++ u.methods.flatMap oMth from rfl]
    simp only [List.append_assoc]
  rw [eb] at R12 ⊢
  have lb : (body u).length = s11.length + (u.methods.flatMap oMth).length := by rw [← eb, List.length_append]
  refine cl (r_SumS (body u) a12 c12 T w12 (R12.sl (by omega))) ?_
  rintro _ w12 ⟨rfl, rfl⟩
  refine cl (r_num (sumB (body u)) w1.heap.size a12 c12 _ w12 R12 (by omega) (by omega)) ?_
  rintro _ w13 ⟨a13, c13, rfl, R13, T13⟩
  have T13 := T12.trans T13
  have ee : body u ++ num (sumB (body u)) = enc u := rfl
  rw [ee] at R13 ⊢
  exact rt1 ⟨a13, c13, rfl, row_base R13 (by omega), Below.trans (h1.bl.trans hB4) ((BW T13).mono (by omega))⟩
theorem r_Encode (u : Unt) (a : UA) (w : World) (hU : UnR T w u a) : Ret Tryz.prog 42 #[.agg (ucells u a).toArray] w fun v w' => EncR u w v w' ∧ Bl w w' := by
  refine entr (vs := [.agg (ucells u a).toArray]) [0, 1, 2, 3, 4, 8] tabok Tryz.func42 (by kernel_rfl) ?_
  refine bx (cs := ucells u a) fun b1 w1 h1 => ?_
  refine lda h1.box.at ?_
  refine cl (r_Check u a w1 (hU.bl h1.bl)) ?_
  rintro _ w2 ⟨rfl, hB2⟩
  have B02 := h1.bl.trans hB2
  refine br (t := decide (¬ checkE u = 0)) (fun h => ?_) (fun h => ?_)
  · have h0 := of_decide_eq_true h
    exact rt2 ⟨by unfold EncR; rw [if_neg h0], B02⟩
  have h0 : checkE u = 0 := Classical.not_not.1 (of_decide_eq_false h)
  refine lda (Bl.box hB2 h1.box).at ?_
  refine cl (r_Write u a w2 (hU.bl B02) (Nat.le_trans (enc_le h0) (by decide))) ?_
  rintro _ w3 ⟨a3, c3, rfl, R3, B23⟩
  exact rt2 ⟨by unfold EncR; rw [if_pos h0]; exact ⟨a3, c3, rfl, row_base R3 B02.size⟩, B02.trans B23⟩
end Go.Proofs.YtopjmiklpnejmaaGreatDoor

/- Walks: the law UnitWrites. -/
namespace Go.Proofs.YtopjmiklpnejmaaGreatDoor
open Eng Go.RowKit
set_option maxHeartbeats 1000000 in
theorem l_Writes (u : Unt) (a : UA) (w : World) (hU : UnR T w u a) (hG : Gl w) : Ret Tryz.prog 12 #[.agg (ucells u a).toArray] w fun v w' => v = .bool true ∧ Bl w w' := by
  refine entr (vs := [.agg (ucells u a).toArray]) [0, 1, 2, 3, 4, 5, 6, 7, 8, 10, 31, 33, 52] tabok Tryz.func12 (by kernel_rfl) ?_
  refine bx (cs := ucells u a) fun b1 w1 h1 => ?_
  have B01 := h1.bl
  refine lda h1.box.at ?_
  refine cl (l_heavy u a w1 (hU.bl B01)) ?_
  rintro _ w2 ⟨hv, rfl, B12⟩
  have B02 := B01.trans B12
  have x2 := Bl.box B12 h1.box
  cases hv with
  | true =>
    refine brt ?_
    refine cl (l_sane w2 (hG.bl B02)) ?_
    rintro _ w3 ⟨rfl, h3⟩
    exact rt1 ⟨rfl, B02.trans h3⟩
  | false =>
  refine brf ?_
  refine lda x2.at ?_
  refine cl (u_Encode u a w2 (hU.bl B02) (hG.bl B02)) ?_
  rintro v3 w3 ⟨hR3, B23⟩
  have B03 := B02.trans B23
  have x3 := Bl.box B23 x2
  unfold EncR at hR3
  by_cases h0 : checkE u = 0
  · rw [if_pos h0] at hR3
    obtain ⟨ar, cr, rfl, hrow⟩ := hR3
    refine lda x3.at ?_
    refine cl (r_Encode u a w3 (hU.bl B03)) ?_
    rintro v4 w4 ⟨hR4, B34⟩
    have B04 := B03.trans B34
    have x4 := Bl.box B34 x3
    unfold EncR at hR4
    rw [if_pos h0] at hR4
    obtain ⟨as2, cs2, rfl, hros⟩ := hR4
    have hge := enc_ge h0
    have hle := enc_le h0
    have hO3 := row_own hrow (by omega)
    have hcr := ow_cap hO3
    have S3 : Sl eB T w3 ar (enc u) := owp_sl (enc := encB) hO3 (by omega) fun _ _ => trivial
    have S4 := S3.bl B34
    refine spt (.slice none 0 0) ?_
    refine cbl S4 rfl (fun _ => trivial) ?_
    refine spt (.slice none 0 0) ?_
    refine cbl (hros.sl (by omega)) rfl (fun _ => trivial) ?_
    refine brf ?_
    refine brT ?_
    refine cl (u_Decode (enc u) ar cr w4 S4 (by omega) hcr (hG.bl B04)) ?_
    rintro _ w5 ⟨ua, rfl, hU5, B45⟩
    obtain ⟨_, eE, eU⟩ := enc_dec h0
    rw [eE]
    rw [eU] at hU5 ⊢
    refine al fun b6 w6 h6 => ?_
    refine sta (cs' := ucells u ua) h6.box fun w7 k7 x7 => ?_
    have B57 := h6.wr k7
    have B47 := B45.trans B57
    have B07 := B04.trans B47
    have x47 := Bl.box B47 x4
    refine spt (.agg (ucells u a).toArray) ?_
    refine lda x47.at ?_
    refine spt (.agg (ucells u a).toArray) ?_
    refine lda x7.at ?_
    refine spt (.bool false) ?_
    refine cl (r_Same u u a ua w7 (hU.bl B07) (hU5.bl B57)) ?_
    rintro _ w8 ⟨rfl, B78⟩
    rw [same_refl]
    have B08 := B07.trans B78
    refine spt (.agg (ucells u a).toArray) ?_
    refine lda (Bl.box B78 x47).at ?_
    refine spt (.agg (ucells u a).toArray) ?_
    refine lda (Bl.box B78 x7).at ?_
    refine spt (.bool false) ?_
    refine cl (u_Same u u a ua w8 (hU.bl B08) (hU5.bl (B57.trans B78))) ?_
    rintro _ w9 ⟨rfl, B89⟩
    rw [same_refl]
    have B09 := B08.trans B89
    refine brf ?_
    refine cl (l_sane w9 (hG.bl B09)) ?_
    rintro _ w10 ⟨rfl, h10⟩
    exact rt1 ⟨rfl, B09.trans h10⟩
  · rw [if_neg h0] at hR3
    subst hR3
    refine lda x3.at ?_
    refine cl (r_Encode u a w3 (hU.bl B03)) ?_
    rintro v4 w4 ⟨hR4, B34⟩
    have B04 := B03.trans B34
    unfold EncR at hR4
    rw [if_neg h0] at hR4
    subst hR4
    have S0 : Sl eB T w4 none [] := ⟨by simp, fun i x hx => by simp at hx⟩
    refine spt (.slice none 0 0) ?_
    refine cbl S0 rfl (fun _ => trivial) ?_
    refine spt (.slice none 0 0) ?_
    refine cbl S0 rfl (fun _ => trivial) ?_
    refine brf ?_
    refine brF ?_ (hp := by simp [h0])
    refine cl (l_sane w4 (hG.bl B04)) ?_
    rintro _ w10 ⟨rfl, h10⟩
    exact rt1 ⟨rfl, B04.trans h10⟩
end Go.Proofs.YtopjmiklpnejmaaGreatDoor
