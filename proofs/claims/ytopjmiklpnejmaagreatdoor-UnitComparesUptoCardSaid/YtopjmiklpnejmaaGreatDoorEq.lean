/- Walks: the program's comparison of lists. -/
import Derived.Test.YtopjmiklpnejmaaGreatDoorSm
import Derived.Test.YtopjmiklpnejmaaGreatDoorIdx
namespace Go.Proofs.YtopjmiklpnejmaaGreatDoor
open Eng Go.RowKit
theorem c_EqStr (l m : List ByteArray) (a1 a2 : Option Addr) (c1 c2 : Nat) (w : World) (h1 : Sl eStr T w a1 l) (h2 : Sl eStr T w a2 m) : Ret Tryz.prog 77 #[.slice a1 l.length c1, .slice a2 m.length c2] w fun v w' => v = .bool (decide (l = m)) ∧ Bl w w' := by
  refine entr (vs := [.slice a1 l.length c1, .slice a2 m.length c2]) [0, 1, 4, 5, 10, 12, 13, 14, 24] tabok Tryz.func77 (by kernel_rfl) ?_
  have hb1 := h1.big
  have hb2 := h2.big
  refine br (fun h => ?_) (fun h => ?_)
  · exact rt1 ⟨vb (same_len (of_decide_eq_true h)).symm, Bl.refl _⟩
  have hl := Classical.not_not.1 (of_decide_eq_false h)
  refine lpk l.length 13 [] [(0, .slice a1 l.length c1), (1, .slice a2 m.length c2), (12, I l.length)] (fun k vals w' => vals = [] ∧ l.take k = m.take k ∧ Bl w w') ⟨rfl, rfl, Bl.refl _⟩ ?_
  rintro k vals w2 hk ⟨rfl, ha, hB⟩ ih
  by_cases hlt : k < l.length
  · refine brT ?_
    obtain ⟨x, b, o, cs, hx, rfl, _, hAt, rfl⟩ := at_some (h1.bl hB) hlt
    obtain ⟨y, b', o', cs', hy, rfl, _, hAt', rfl⟩ := at_some (h2.bl hB) (i := k) (by omega)
    refine dh T (List.range 9) fun w8 h8 => ?_
    have hC := hAt.bl h8.bl
    have hC' := hAt'.bl h8.bl
    refine ix ?_
    refine ld (hC 0 _ rfl) ?_ (hm := trivial)
    refine ix ?_
    refine ld (hC' 0 _ rfl) ?_ (hm := trivial)
    skip
    refine br (fun h => ?_) (fun h => ?_)
    · exact rt1 ⟨vb (same_no hx hy (of_decide_eq_true h)).symm, hB.trans h8.bl⟩
    · exact ih hlt ⟨rfl, same_go hx hy (Classical.not_not.1 (of_decide_eq_false h)) ha, hB.trans h8.bl⟩
  refine brF ?_
  exact rt1 ⟨vb (same_end hl ha (by omega)).symm, hB⟩
theorem c_EqFld (l m : List Fld) (a1 a2 : Option Addr) (c1 c2 : Nat) (w : World) (h1 : Sl eFld T w a1 l) (h2 : Sl eFld T w a2 m) : Ret Tryz.prog 73 #[.slice a1 l.length c1, .slice a2 m.length c2] w fun v w' => v = .bool (decide (l = m)) ∧ Bl w w' := by
  refine entr (vs := [.slice a1 l.length c1, .slice a2 m.length c2]) [0, 1, 4, 5, 10, 12, 13, 14, 24] tabok Tryz.func73 (by kernel_rfl) ?_
  have hb1 := h1.big
  have hb2 := h2.big
  refine br (fun h => ?_) (fun h => ?_)
  · exact rt1 ⟨vb (same_len (of_decide_eq_true h)).symm, Bl.refl _⟩
  have hl := Classical.not_not.1 (of_decide_eq_false h)
  refine lpk l.length 13 [] [(0, .slice a1 l.length c1), (1, .slice a2 m.length c2), (12, I l.length)] (fun k vals w' => vals = [] ∧ l.take k = m.take k ∧ Bl w w') ⟨rfl, rfl, Bl.refl _⟩ ?_
  rintro k vals w2 hk ⟨rfl, ha, hB⟩ ih
  by_cases hlt : k < l.length
  · refine brT ?_
    obtain ⟨x, b, o, cs, hx, rfl, _, hAt, rfl⟩ := at_some (h1.bl hB) hlt
    obtain ⟨y, b', o', cs', hy, rfl, _, hAt', rfl⟩ := at_some (h2.bl hB) (i := k) (by omega)
    refine dh T (List.range 9) fun w8 h8 => ?_
    have hC := hAt.bl h8.bl
    have hC' := hAt'.bl h8.bl
    refine ix ?_
    refine lda hC ?_ (hm := trivial)
    refine ix ?_
    refine lda hC' ?_ (hm := trivial)
    refine neA (fun w => eq_fld x y) ?_
    refine br (fun h => ?_) (fun h => ?_)
    · exact rt1 ⟨vb (same_no hx hy (fun e => by rw [decide_eq_true e] at h; cases h)).symm, hB.trans h8.bl⟩
    · exact ih hlt ⟨rfl, same_go hx hy (Classical.byContradiction fun e => by rw [decide_eq_false e] at h; cases h) ha, hB.trans h8.bl⟩
  refine brF ?_
  exact rt1 ⟨vb (same_end hl ha (by omega)).symm, hB⟩
theorem c_EqTy (l m : List Ty) (a1 a2 : Option Addr) (c1 c2 : Nat) (w : World) (h1 : Sl eTy T w a1 l) (h2 : Sl eTy T w a2 m) : Ret Tryz.prog 75 #[.slice a1 l.length c1, .slice a2 m.length c2] w fun v w' => v = .bool (decide (l = m)) ∧ Bl w w' := by
  refine entr (vs := [.slice a1 l.length c1, .slice a2 m.length c2]) [0, 1, 4, 5, 10, 12, 13, 14, 24] tabok Tryz.func75 (by kernel_rfl) ?_
  have hb1 := h1.big
  have hb2 := h2.big
  refine br (fun h => ?_) (fun h => ?_)
  · exact rt1 ⟨vb (same_len (of_decide_eq_true h)).symm, Bl.refl _⟩
  have hl := Classical.not_not.1 (of_decide_eq_false h)
  refine lpk l.length 13 [] [(0, .slice a1 l.length c1), (1, .slice a2 m.length c2), (12, I l.length)] (fun k vals w' => vals = [] ∧ l.take k = m.take k ∧ Bl w w') ⟨rfl, rfl, Bl.refl _⟩ ?_
  rintro k vals w2 hk ⟨rfl, ha, hB⟩ ih
  by_cases hlt : k < l.length
  · refine brT ?_
    obtain ⟨x, b, o, cs, hx, rfl, _, hAt, rfl⟩ := at_some (h1.bl hB) hlt
    obtain ⟨y, b', o', cs', hy, rfl, _, hAt', rfl⟩ := at_some (h2.bl hB) (i := k) (by omega)
    refine dh T (List.range 9) fun w8 h8 => ?_
    have hC := hAt.bl h8.bl
    have hC' := hAt'.bl h8.bl
    refine ix ?_
    refine lda hC ?_ (hm := trivial)
    refine ix ?_
    refine lda hC' ?_ (hm := trivial)
    refine neA (fun w => eq_ty x y) ?_
    refine br (fun h => ?_) (fun h => ?_)
    · exact rt1 ⟨vb (same_no hx hy (fun e => by rw [decide_eq_true e] at h; cases h)).symm, hB.trans h8.bl⟩
    · exact ih hlt ⟨rfl, same_go hx hy (Classical.byContradiction fun e => by rw [decide_eq_false e] at h; cases h) ha, hB.trans h8.bl⟩
  refine brF ?_
  exact rt1 ⟨vb (same_end hl ha (by omega)).symm, hB⟩
theorem c_EqIns (l m : List Ins) (a1 a2 : Option Addr) (c1 c2 : Nat) (w : World) (h1 : Sl eIns T w a1 l) (h2 : Sl eIns T w a2 m) : Ret Tryz.prog 76 #[.slice a1 l.length c1, .slice a2 m.length c2] w fun v w' => v = .bool (decide (l = m)) ∧ Bl w w' := by
  refine entr (vs := [.slice a1 l.length c1, .slice a2 m.length c2]) [0, 1, 4, 5, 10, 12, 13, 14, 24] tabok Tryz.func76 (by kernel_rfl) ?_
  have hb1 := h1.big
  have hb2 := h2.big
  refine br (fun h => ?_) (fun h => ?_)
  · exact rt1 ⟨vb (same_len (of_decide_eq_true h)).symm, Bl.refl _⟩
  have hl := Classical.not_not.1 (of_decide_eq_false h)
  refine lpk l.length 13 [] [(0, .slice a1 l.length c1), (1, .slice a2 m.length c2), (12, I l.length)] (fun k vals w' => vals = [] ∧ l.take k = m.take k ∧ Bl w w') ⟨rfl, rfl, Bl.refl _⟩ ?_
  rintro k vals w2 hk ⟨rfl, ha, hB⟩ ih
  by_cases hlt : k < l.length
  · refine brT ?_
    obtain ⟨x, b, o, cs, hx, rfl, _, hAt, rfl⟩ := at_some (h1.bl hB) hlt
    obtain ⟨y, b', o', cs', hy, rfl, _, hAt', rfl⟩ := at_some (h2.bl hB) (i := k) (by omega)
    refine dh T (List.range 9) fun w8 h8 => ?_
    have hC := hAt.bl h8.bl
    have hC' := hAt'.bl h8.bl
    refine ix ?_
    refine lda hC ?_ (hm := trivial)
    refine ix ?_
    refine lda hC' ?_ (hm := trivial)
    refine neA (fun w => eq_ins x y) ?_
    refine br (fun h => ?_) (fun h => ?_)
    · exact rt1 ⟨vb (same_no hx hy (fun e => by rw [decide_eq_true e] at h; cases h)).symm, hB.trans h8.bl⟩
    · exact ih hlt ⟨rfl, same_go hx hy (Classical.byContradiction fun e => by rw [decide_eq_false e] at h; cases h) ha, hB.trans h8.bl⟩
  refine brF ?_
  exact rt1 ⟨vb (same_end hl ha (by omega)).symm, hB⟩
theorem c_EqCls (l m : List Cls) (a1 a2 : Option Addr) (c1 c2 : Nat) (g : FuncId) (caps : List Value) (w : World) (h1 : Sl eCls T w a1 l) (h2 : Sl eCls T w a2 m)
    (hp : ∀ x y cs ds, ∀ w', Bl w w' → (eCls).rel T w' cs x → (eCls).rel T w' ds y → Ret Tryz.prog g ([asV cs, asV ds] ++ caps).toArray w' fun v w'' => v = .bool (decide (x = y)) ∧ Bl w' w'') :
    Ret Tryz.prog 78 #[.slice a1 l.length c1, .slice a2 m.length c2, .func (.func g) #[] caps.toArray] w fun v w' => v = .bool (decide (l = m)) ∧ Bl w w' := by
  refine entr (vs := [.slice a1 l.length c1, .slice a2 m.length c2, .func (.func g) #[] caps.toArray]) [0, 1, 2, 6, 7, 8, 9, 14, 15, 16, 17, 18, 30] tabok Tryz.func78 (by kernel_rfl) ?_
  have hb1 := h1.big
  have hb2 := h2.big
  refine br (fun h => ?_) (fun h => ?_)
  · exact rt1 ⟨vb (same_len (of_decide_eq_true h)).symm, Bl.refl _⟩
  have hl := Classical.not_not.1 (of_decide_eq_false h)
  refine lpk l.length 17 [] [(1, .slice a2 m.length c2), (2, .func (.func g) #[] caps.toArray), (15, .slice a1 l.length c1), (16, I l.length)] (fun k vals w' => vals = [] ∧ l.take k = m.take k ∧ Bl w w') ⟨rfl, rfl, Bl.refl _⟩ ?_
  rintro k vals w2 hk ⟨rfl, ha, hB⟩ ih
  by_cases hlt : k < l.length
  · refine brT ?_
    obtain ⟨x, b, o, cs, hx, rfl, _, hAt, hr⟩ := at_some (h1.bl hB) hlt
    obtain ⟨y, b', o', cs', hy, rfl, _, hAt', hr'⟩ := at_some (h2.bl hB) (i := k) (by omega)
    have hr0 := hr
    have hr0' := hr'
    obtain ⟨af, cf, rfl, _⟩ := hr
    obtain ⟨af', cf', rfl, _⟩ := hr'
    refine ix ?_
    refine lda hAt ?_
    refine al fun b5 w5 h5 => ?_
    refine sta h5.box fun w6 k6 hx6 => ?_
    have B26 : Bl w2 w6 := h5.wr k6
    refine ix ?_
    refine lda (hAt'.bl B26) ?_
    refine al fun b7 w7 h7 => ?_
    refine sta h7.box fun w8 k8 hx8 => ?_
    have B68 : Bl w6 w8 := h7.wr k8
    have B28 := B26.trans B68
    refine lda (Bl.box B68 hx6).at ?_
    refine lda hx8.at ?_
    refine cl (hp x y _ _ w8 (hB.trans B28) ((eCls).kp (B28.kp T) hr0) ((eCls).kp (B28.kp T) hr0')) ?_
    rintro _ w9 ⟨rfl, h9⟩
    refine br (fun h => ?_) (fun h => ?_)
    · exact rt1 ⟨vb (same_no hx hy (fun e => by rw [decide_eq_true e] at h; cases h)).symm, (hB.trans B28).trans h9⟩
    · exact ih hlt ⟨rfl, same_go hx hy (Classical.byContradiction fun e => by rw [decide_eq_false e] at h; cases h) ha, (hB.trans B28).trans h9⟩
  refine brF ?_
  exact rt1 ⟨vb (same_end hl ha (by omega)).symm, hB⟩
theorem c_EqMth (l m : List Mth) (a1 a2 : Option Addr) (c1 c2 : Nat) (g : FuncId) (caps : List Value) (w : World) (h1 : Sl eMth T w a1 l) (h2 : Sl eMth T w a2 m)
    (hp : ∀ x y cs ds, ∀ w', Bl w w' → (eMth).rel T w' cs x → (eMth).rel T w' ds y → Ret Tryz.prog g ([asV cs, asV ds] ++ caps).toArray w' fun v w'' => v = .bool (decide (x = y)) ∧ Bl w' w'') :
    Ret Tryz.prog 79 #[.slice a1 l.length c1, .slice a2 m.length c2, .func (.func g) #[] caps.toArray] w fun v w' => v = .bool (decide (l = m)) ∧ Bl w w' := by
  refine entr (vs := [.slice a1 l.length c1, .slice a2 m.length c2, .func (.func g) #[] caps.toArray]) [0, 1, 2, 6, 7, 8, 9, 14, 15, 16, 17, 18, 30] tabok Tryz.func79 (by kernel_rfl) ?_
  have hb1 := h1.big
  have hb2 := h2.big
  refine br (fun h => ?_) (fun h => ?_)
  · exact rt1 ⟨vb (same_len (of_decide_eq_true h)).symm, Bl.refl _⟩
  have hl := Classical.not_not.1 (of_decide_eq_false h)
  refine lpk l.length 17 [] [(1, .slice a2 m.length c2), (2, .func (.func g) #[] caps.toArray), (15, .slice a1 l.length c1), (16, I l.length)] (fun k vals w' => vals = [] ∧ l.take k = m.take k ∧ Bl w w') ⟨rfl, rfl, Bl.refl _⟩ ?_
  rintro k vals w2 hk ⟨rfl, ha, hB⟩ ih
  by_cases hlt : k < l.length
  · refine brT ?_
    obtain ⟨x, b, o, cs, hx, rfl, _, hAt, hr⟩ := at_some (h1.bl hB) hlt
    obtain ⟨y, b', o', cs', hy, rfl, _, hAt', hr'⟩ := at_some (h2.bl hB) (i := k) (by omega)
    have hr0 := hr
    have hr0' := hr'
    obtain ⟨q1, s1, q2, s2, q3, s3, rfl, _⟩ := hr
    obtain ⟨q1', s1', q2', s2', q3', s3', rfl, _⟩ := hr'
    refine ix ?_
    refine lda hAt ?_
    refine al fun b5 w5 h5 => ?_
    refine sta h5.box fun w6 k6 hx6 => ?_
    have B26 : Bl w2 w6 := h5.wr k6
    refine ix ?_
    refine lda (hAt'.bl B26) ?_
    refine al fun b7 w7 h7 => ?_
    refine sta h7.box fun w8 k8 hx8 => ?_
    have B68 : Bl w6 w8 := h7.wr k8
    have B28 := B26.trans B68
    refine lda (Bl.box B68 hx6).at ?_
    refine lda hx8.at ?_
    refine cl (hp x y _ _ w8 (hB.trans B28) ((eMth).kp (B28.kp T) hr0) ((eMth).kp (B28.kp T) hr0')) ?_
    rintro _ w9 ⟨rfl, h9⟩
    refine br (fun h => ?_) (fun h => ?_)
    · exact rt1 ⟨vb (same_no hx hy (fun e => by rw [decide_eq_true e] at h; cases h)).symm, (hB.trans B28).trans h9⟩
    · exact ih hlt ⟨rfl, same_go hx hy (Classical.byContradiction fun e => by rw [decide_eq_false e] at h; cases h) ha, (hB.trans B28).trans h9⟩
  refine brF ?_
  exact rt1 ⟨vb (same_end hl ha (by omega)).symm, hB⟩
end Go.Proofs.YtopjmiklpnejmaaGreatDoor
