/- Walks: the law UnitCompares. -/
import Derived.Test.YtopjmiklpnejmaaGreatDoorNa
import Derived.Test.YtopjmiklpnejmaaGreatDoorRs
namespace Go.Proofs.YtopjmiklpnejmaaGreatDoor
open Eng Go.RowKit
theorem sameU_refl (u : Unt) : sameU u u = true := by simp [sameU]
theorem l_Compares (u v : Unt) (a b : UA) (w : World) (hU : UnR T w u a) (hV : UnR T w v b) (hG : Gl w) : Ret Tryz.prog 6 #[.agg (ucells u a).toArray, .agg (ucells v b).toArray] w fun x w' => x = .bool true ∧ Bl w w' := by
  refine entr (vs := [.agg (ucells u a).toArray, .agg (ucells v b).toArray]) [0, 1, 2, 3, 4, 10] tabok Tryz.func6 (by kernel_rfl) ?_
  refine bx (cs := ucells u a) fun b1 w1 h1 => ?_
  refine bx (cs := ucells v b) fun b2 w2 h2 => ?_
  have B02 := h1.bl.trans h2.bl
  have hx1 := Bl.box h2.bl h1.box
  have hx2 := h2.box
  refine lda hx1.at ?_
  refine cl (l_heavy u a w2 (hU.bl B02)) ?_
  rintro _ w3 ⟨hv, rfl, B23⟩
  have B03 := B02.trans B23
  replace hx1 := Bl.box B23 hx1
  replace hx2 := Bl.box B23 hx2
  cases hv with
  | true =>
    refine spn (.agg (ucells v b).toArray) ?_
    refine spn (.bool true) ?_
    refine br (fun _ => ?_) (fun q => ?_)
    · refine cl (l_sane w3 (hG.bl B03)) ?_
      rintro _ w4 ⟨rfl, h4⟩
      exact rt1 ⟨rfl, B03.trans h4⟩
    · cases q
  | false =>
    refine spt (.agg (ucells v b).toArray) ?_
    refine lda hx2.at ?_
    refine spt (.bool true) ?_
    refine cl (l_heavy v b w3 (hV.bl B03)) ?_
    rintro _ w4 ⟨hv, rfl, B34⟩
    have B04 := B03.trans B34
    replace hx1 := Bl.box B34 hx1
    replace hx2 := Bl.box B34 hx2
    cases hv with
    | true =>
      refine br (fun _ => ?_) (fun q => ?_)
      · refine cl (l_sane w4 (hG.bl B04)) ?_
        rintro _ w5 ⟨rfl, h5⟩
        exact rt1 ⟨rfl, B04.trans h5⟩
      · cases q
    | false =>
    refine br (fun q => ?_) (fun _ => ?_)
    · cases q
    refine dh T [0, 1, 3, 4, 2, 5, 6, 7, 8, 9, 10, 11, 12, 13, 14, 15, 16] fun w5 h5 => ?_
    have B05 := B04.trans h5.bl
    replace hx1 := Bl.box h5.bl hx1
    replace hx2 := Bl.box h5.bl hx2
    refine lda hx1.at ?_ (hm := trivial)
    refine lda hx2.at ?_ (hm := trivial)
    refine lda hx1.at ?_ (hm := trivial)
    refine lda hx2.at ?_ (hm := trivial)
    refine cl (u_Same u v a b w5 (hU.bl B05) (hV.bl B05)) ?_
    rintro _ w6 ⟨rfl, B56⟩
    have B06 := B05.trans B56
    replace hx1 := Bl.box B56 hx1
    replace hx2 := Bl.box B56 hx2
    refine cl (r_Same u v a b w6 (hU.bl B06) (hV.bl B06)) ?_
    rintro _ w7 ⟨rfl, B67⟩
    have B07 := B06.trans B67
    replace hx1 := Bl.box B67 hx1
    refine beb ?_
    rw [beq_self_eq_true]
    refine spt (.agg (ucells u a).toArray) ?_
    refine lda hx1.at ?_ (hm := trivial)
    refine spt (.agg (ucells u a).toArray) ?_
    refine lda hx1.at ?_ (hm := trivial)
    refine spt (.agg (ucells u a).toArray) ?_
    refine cl (r_Copy u a w7 (hU.bl B07)) ?_ (hm := fun _ _ r => mdW_bl r.choose_spec.2.2)
    rintro _ w8 ⟨a', rfl, hC, B78⟩
    have B08 := B07.trans B78
    refine spt (.bool true) ?_
    refine cl (u_Same u u a a' w8 (hU.bl B08) hC.all) ?_
    rintro _ w9 ⟨rfl, B89⟩
    have B09 := B08.trans B89
    rw [sameU_refl]
    refine spt (.bool true) ?_
    refine cl (l_sane w9 (hG.bl B09)) ?_
    rintro _ w10 ⟨rfl, B910⟩
    exact rt1 ⟨by first | rfl | simp, B09.trans B910⟩
end Go.Proofs.YtopjmiklpnejmaaGreatDoor
