/- Walks: the document's comparison of any two units. -/
import Derived.Test.YtopjmiklpnejmaaGreatDoorUs
namespace Go.Proofs.YtopjmiklpnejmaaGreatDoor
open Eng Go.RowKit
theorem sameU_no {u v : Unt} (h : ¬ (u.name = v.name ∧ u.pool = v.pool ∧ u.classes = v.classes ∧ u.statics = v.statics ∧ u.methods = v.methods)) : sameU u v = false := by
  rw [← Bool.not_eq_true]
  intro h2
  simp only [sameU, Bool.and_eq_true, decide_eq_true_eq] at h2
  exact h ⟨h2.1.1.1.1, h2.1.1.1.2, h2.1.1.2, h2.1.2, h2.2⟩
theorem r_Same (u v : Unt) (a b : UA) (w : World) (hU : UnR T w u a) (hV : UnR T w v b) : Ret Tryz.prog 23 #[.agg (ucells u a).toArray, .agg (ucells v b).toArray] w fun x w' => x = .bool (sameU u v) ∧ Bl w w' := by
  refine entr (vs := [.agg (ucells u a).toArray, .agg (ucells v b).toArray]) [0, 1, 2, 3, 4, 5, 6, 7, 8, 9, 10, 49, 54, 86, 91, 146] tabok Tryz.func23 (by kernel_rfl) ?_
  have hp2 := hU.cls.big
  have hp4 := hU.mth.big
  have hp2' := hV.cls.big
  have hp4' := hV.mth.big
  refine bx (cs := ucells u a) fun b1 w1 h1 => ?_
  refine bx (cs := ucells v b) fun b2 w2 h2 => ?_
  have B02 : Bl w w2 := h1.bl.trans h2.bl
  have hx1 := Bl.box h2.bl h1.box
  have hx2 := h2.box
  refine ld (hx1.cell rfl) ?_
  refine ld (hx2.cell rfl) ?_
  refine ldg (fun _ => hx1.cell rfl) ?_
  refine ldg (fun _ => hx2.cell rfl) ?_
  refine sp (.bool true) (fun k1 => ?_) (fun k1 => ?_)
  rotate_left
  · refine ldg (fun _ => hx1.cell rfl) ?_
    refine ldg (fun _ => hx2.cell rfl) ?_
    refine ldg (fun _ => hx1.cell rfl) ?_
    refine ldg (fun _ => hx2.cell rfl) ?_
    refine ldg (fun _ => hx1.cell rfl) ?_
    refine ldg (fun _ => hx2.cell rfl) ?_
    refine spn (.bool true) ?_
    refine br (fun _ => ?_) (fun k3 => ?_)
    rotate_left
    · exfalso; simp_all
    refine rt1 ⟨vb (sameU_no fun q => ?_).symm, B02⟩
    simp_all
  refine cl (r_SameStrings u.pool v.pool a.a1 b.a1 a.c1 b.c1 w2 (hU.bl B02).pool (hV.bl B02).pool) ?_
  rintro _ w3 ⟨rfl, h3⟩
  replace hx1 := Bl.box h3 hx1
  replace hx2 := Bl.box h3 hx2
  have B03 := B02.trans h3
  refine ldg (fun _ => hx1.cell rfl) ?_
  refine ldg (fun _ => hx2.cell rfl) ?_
  refine ldg (fun _ => hx1.cell rfl) ?_
  refine ldg (fun _ => hx2.cell rfl) ?_
  refine ldg (fun _ => hx1.cell rfl) ?_
  refine ldg (fun _ => hx2.cell rfl) ?_
  refine sp (.bool true) (fun k2 => ?_) (fun k2 => ?_)
  rotate_left
  · refine br (fun _ => ?_) (fun k3 => ?_)
    rotate_left
    · exfalso; simp_all
    refine rt1 ⟨vb (sameU_no fun q => ?_).symm, B03⟩
    simp_all
  refine cl (r_sameFields u.statics v.statics a.a3 b.a3 a.c3 b.c3 w3 (hU.bl B03).sta (hV.bl B03).sta) ?_
  rintro _ w4 ⟨rfl, h4⟩
  replace hx1 := Bl.box h4 hx1
  replace hx2 := Bl.box h4 hx2
  have B04 := B03.trans h4
  refine br (fun k3 => ?_) (fun k3 => ?_)
  · refine rt1 ⟨vb (sameU_no fun q => ?_).symm, B04⟩
    simp_all
  have k5 : u.name = v.name ∧ u.pool = v.pool ∧ u.classes.length = v.classes.length ∧ u.methods.length = v.methods.length ∧ u.statics = v.statics := by
    simp_all
    omega
  clear k1 k2 k3
  obtain ⟨n1, n2, n3, n4, n5⟩ := k5
  refine lpk u.classes.length 5 [] [(2, .pointer (some ⟨b1, 0, none⟩)), (3, .pointer (some ⟨b2, 0, none⟩))] (fun k vals w' => vals = [] ∧ u.classes.take k = v.classes.take k ∧ Bl w4 w') ⟨rfl, rfl, Bl.refl _⟩ ?_
  rintro k vals w5 hk ⟨rfl, ha, hB⟩ ih
  have hy1 := Bl.box hB hx1
  have hy2 := Bl.box hB hx2
  have B05 := B04.trans hB
  refine ld (hy1.cell rfl) ?_
  by_cases hlt : k < u.classes.length
  · refine brT ?_
    obtain ⟨c, bs, o, cs, hc, e2, _, hAt, af, cf, rfl, hf⟩ := at_some (hU.bl B05).cls hlt
    obtain ⟨d, bs', o', cs', hd, e2', _, hAt', af', cf', rfl, hf'⟩ := at_some (hV.bl B05).cls (i := k) (by omega)
    have hcd : c ≠ d → sameU u v = false := fun hne => sameU_no fun q => of_decide_eq_false (same_no hc hd hne) q.2.2.1
    refine ld (hy1.cell rfl) ?_
    rw [e2]
    refine ix ?_
    refine lda hAt ?_
    refine al fun b6 w6 h6 => ?_
    refine sta h6.box fun w7 k7 hx7 => ?_
    have B57 : Bl w5 w7 := h6.wr k7
    refine ld ((Bl.box B57 hy2).cell rfl) ?_
    rw [e2']
    refine ix ?_
    refine lda (hAt'.bl B57) ?_
    refine al fun b8 w8 h8 => ?_
    refine sta h8.box fun w9 k9 hx9 => ?_
    have B79 : Bl w7 w9 := h8.wr k9
    have hz7 := Bl.box B79 hx7
    have B59 := B57.trans B79
    refine ld (hz7.cell rfl) ?_
    refine ld (hx9.cell rfl) ?_
    refine ldg (fun _ => hz7.cell rfl) ?_
    refine ldg (fun _ => hx9.cell rfl) ?_
    refine ldg (fun _ => hz7.cell rfl) ?_
    refine ldg (fun _ => hx9.cell rfl) ?_
    refine sp (.bool true) (fun k1 => ?_) (fun k1 => ?_)
    rotate_left
    · refine br (fun _ => ?_) (fun k3 => ?_)
      rotate_left
      · exfalso; simp_all
      refine rt1 ⟨vb (hcd fun q => ?_).symm, B05.trans B59⟩
      rw [cls_eq] at q
      simp_all
    refine cl (r_sameFields c.fields d.fields af af' cf cf' w9 (hf.bl B59) (hf'.bl B59)) ?_
    rintro _ w10 ⟨rfl, h10⟩
    refine br (fun k3 => ?_) (fun k3 => ?_)
    · refine rt1 ⟨vb (hcd fun q => ?_).symm, (B05.trans B59).trans h10⟩
      rw [cls_eq] at q
      simp_all
    · refine ih hlt ⟨rfl, same_go hc hd ?_ ha, (hB.trans B59).trans h10⟩
      rw [cls_eq]
      simp_all
  refine brF ?_
  have eC : u.classes = v.classes := of_decide_eq_true (same_end (by omega) ha (by omega))
  clear ih hy1 hy2
  refine lpk u.methods.length 8 [] [(2, .pointer (some ⟨b1, 0, none⟩)), (3, .pointer (some ⟨b2, 0, none⟩))] (fun k vals w' => vals = [] ∧ u.methods.take k = v.methods.take k ∧ Bl w4 w') ⟨rfl, rfl, hB⟩ ?_
  clear hB B05 ha
  rintro k vals w5 hk ⟨rfl, ha, hB⟩ ih
  have hy1 := Bl.box hB hx1
  have hy2 := Bl.box hB hx2
  have B05 := B04.trans hB
  refine ld (hy1.cell rfl) ?_
  by_cases hlt : k < u.methods.length
  · refine brT ?_
    obtain ⟨c, bs, o, cs, hc, e2, _, hAt, q1, s1, q2, s2, q3, s3, rfl, f1, f2, f3⟩ := at_some (hU.bl B05).mth hlt
    obtain ⟨d, bs', o', cs', hd, e2', _, hAt', q1', s1', q2', s2', q3', s3', rfl, f1', f2', f3'⟩ := at_some (hV.bl B05).mth (i := k) (by omega)
    have hcd : c ≠ d → sameU u v = false := fun hne => sameU_no fun q => of_decide_eq_false (same_no hc hd hne) q.2.2.2.2
    refine ld (hy1.cell rfl) ?_
    rw [e2]
    refine ix ?_
    refine lda hAt ?_
    refine al fun b6 w6 h6 => ?_
    refine sta h6.box fun w7 k7 hx7 => ?_
    have B57 : Bl w5 w7 := h6.wr k7
    refine ld ((Bl.box B57 hy2).cell rfl) ?_
    rw [e2']
    refine ix ?_
    refine lda (hAt'.bl B57) ?_
    refine al fun b8 w8 h8 => ?_
    refine sta h8.box fun w9 k9 hx9 => ?_
    have B79 : Bl w7 w9 := h8.wr k9
    have hz7 := Bl.box B79 hx7
    have B59 := B57.trans B79
    refine ld (hz7.cell rfl) ?_
    refine ld (hx9.cell rfl) ?_
    refine ldg (fun _ => hz7.cell rfl) ?_
    refine ldg (fun _ => hx9.cell rfl) ?_
    refine sp (.agg (encTy c.result).toArray) (fun k1 => ?_) (fun k1 => ?_)
    rotate_left
    · refine spn (.agg (encTy d.result).toArray) ?_
      refine spn (.bool true) ?_
      refine ldg (fun _ => hz7.cell rfl) ?_
      refine ldg (fun _ => hx9.cell rfl) ?_
      refine spn (.bool true) ?_
      refine ldg (fun _ => hz7.cell rfl) ?_
      refine ldg (fun _ => hx9.cell rfl) ?_
      refine spn (.bool true) ?_
      refine ldg (fun _ => hz7.cell rfl) ?_
      refine ldg (fun _ => hx9.cell rfl) ?_
      refine spn (.bool true) ?_
      refine br (fun _ => ?_) (fun k3 => ?_)
      rotate_left
      · exfalso; simp_all
      refine rt1 ⟨vb (hcd fun q => ?_).symm, B05.trans B59⟩
      rw [mth_eq] at q
      simp_all
    refine lda (At.left (cs := encTy c.result) hz7.at.tail.tail.tail.tail) ?_
    refine spt (.bool true) ?_
    refine lda (At.left (cs := encTy d.result) hx9.at.tail.tail.tail.tail) ?_
    refine spt (.bool true) ?_
    refine neA (fun w => eq_ty c.result d.result) ?_
    refine ldg (fun _ => hz7.cell rfl) ?_
    refine ldg (fun _ => hx9.cell rfl) ?_
    refine sp (.bool true) (fun k2 => ?_) (fun k2 => ?_)
    rotate_left
    · refine ldg (fun _ => hz7.cell rfl) ?_
      refine ldg (fun _ => hx9.cell rfl) ?_
      refine spn (.bool true) ?_
      refine ldg (fun _ => hz7.cell rfl) ?_
      refine ldg (fun _ => hx9.cell rfl) ?_
      refine spn (.bool true) ?_
      refine br (fun _ => ?_) (fun k3 => ?_)
      rotate_left
      · exfalso; simp_all
      refine rt1 ⟨vb (hcd fun q => ?_).symm, B05.trans B59⟩
      rw [mth_eq] at q
      simp_all
    refine cl (r_sameTypes c.params d.params q1 q1' s1 s1' w9 (f1.bl B59) (f1'.bl B59)) ?_
    rintro _ w10 ⟨rfl, h10⟩
    have B510 := B59.trans h10
    replace hz7 := Bl.box h10 hz7
    replace hx9 := Bl.box h10 hx9
    refine ldg (fun _ => hz7.cell rfl) ?_
    refine ldg (fun _ => hx9.cell rfl) ?_
    refine sp (.bool true) (fun k3 => ?_) (fun k3 => ?_)
    rotate_left
    · refine ldg (fun _ => hz7.cell rfl) ?_
      refine ldg (fun _ => hx9.cell rfl) ?_
      refine spn (.bool true) ?_
      refine br (fun _ => ?_) (fun k4 => ?_)
      rotate_left
      · exfalso; simp_all
      refine rt1 ⟨vb (hcd fun q => ?_).symm, B05.trans B510⟩
      rw [mth_eq] at q
      simp_all
    refine cl (r_sameTypes c.locals d.locals q2 q2' s2 s2' w10 (f2.bl B510) (f2'.bl B510)) ?_
    rintro _ w11 ⟨rfl, h11⟩
    have B511 := B510.trans h11
    replace hz7 := Bl.box h11 hz7
    replace hx9 := Bl.box h11 hx9
    refine ldg (fun _ => hz7.cell rfl) ?_
    refine ldg (fun _ => hx9.cell rfl) ?_
    refine sp (.bool true) (fun k4 => ?_) (fun k4 => ?_)
    rotate_left
    · refine br (fun _ => ?_) (fun k5 => ?_)
      rotate_left
      · exfalso; simp_all
      refine rt1 ⟨vb (hcd fun q => ?_).symm, B05.trans B511⟩
      rw [mth_eq] at q
      simp_all
    refine cl (r_SameCode c.code d.code q3 q3' s3 s3' w11 (f3.bl B511) (f3'.bl B511)) ?_
    rintro _ w12 ⟨rfl, h12⟩
    refine br (fun k5 => ?_) (fun k5 => ?_)
    · refine rt1 ⟨vb (hcd fun q => ?_).symm, (B05.trans B511).trans h12⟩
      rw [mth_eq] at q
      simp_all
    · refine ih hlt ⟨rfl, same_go hc hd ?_ ha, (hB.trans B511).trans h12⟩
      rw [mth_eq]
      simp_all
  refine brF ?_
  have eM : u.methods = v.methods := of_decide_eq_true (same_end (by omega) ha (by omega))
  refine rt1 ⟨vb ?_, B05⟩
  simp [sameU, n1, n2, n5, eC, eM]
end Go.Proofs.YtopjmiklpnejmaaGreatDoor
