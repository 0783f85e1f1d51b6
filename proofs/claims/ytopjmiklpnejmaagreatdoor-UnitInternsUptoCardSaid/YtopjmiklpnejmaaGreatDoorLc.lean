/- Walks: the law UnitChecks. -/
import Derived.Test.YtopjmiklpnejmaaGreatDoorNa
import Derived.Test.YtopjmiklpnejmaaGreatDoorSm
namespace Go.Proofs.YtopjmiklpnejmaaGreatDoor
open Eng Go.RowKit
theorem l_Checks (u : Unt) (a : UA) (w : World) (hU : UnR T w u a) (hG : Gl w) : Ret Tryz.prog 4 #[.agg (ucells u a).toArray] w fun v w' => v = .bool true ∧ Bl w w' := by
  refine entr (vs := [.agg (ucells u a).toArray]) [0, 1, 2, 3, 5] tabok Tryz.func4 (by kernel_rfl) ?_
  refine bx (cs := ucells u a) fun b1 w1 h1 => ?_
  refine lda h1.box.at ?_
  refine cl (l_heavy u a w1 (hU.bl h1.bl)) ?_
  rintro _ w2 ⟨hv, rfl, B12⟩
  have B02 := h1.bl.trans B12
  have hx1 := Bl.box B12 h1.box
  cases hv with
  | true =>
    refine br (fun _ => ?_) (fun q => ?_)
    · refine cl (l_sane w2 (hG.bl B02)) ?_
      rintro _ w3 ⟨rfl, h3⟩
      exact rt1 ⟨rfl, B02.trans h3⟩
    · cases q
  | false =>
    refine br (fun q => ?_) (fun _ => ?_)
    · cases q
    refine lda hx1.at ?_
    refine cl (r_Copy u a w2 (hU.bl B02)) ?_
    rintro _ w3 ⟨a', rfl, hV, B23⟩
    refine al fun b4 w4 h4 => ?_
    refine sta h4.box fun w5 k5 hx5 => ?_
    have B35 : Bl w3 w5 := h4.wr k5
    have B05 := (B02.trans B23).trans B35
    have hy1 := Bl.box (B23.trans B35) hx1
    refine dh T [0, 2, 1, 3, 4, 5, 6, 7, 8, 9, 10, 11, 12, 13] fun w6 h6 => ?_
    have B06 := B05.trans h6.bl
    replace hy1 := Bl.box h6.bl hy1
    replace hx5 := Bl.box h6.bl hx5
    refine lda hx5.at ?_ (hm := trivial)
    refine lda hy1.at ?_ (hm := trivial)
    refine cl (u_Check u a' w6 ((hV.bl (B35.trans h6.bl)).all) (hG.bl B06)) ?_
    rintro _ w7 ⟨rfl, B67⟩
    refine cl (r_Check u a w7 (hU.bl (B06.trans B67))) ?_
    rintro _ w8 ⟨rfl, B78⟩
    have B68 := B67.trans B78
    refine spt (.agg (ucells u a).toArray) ?_
    refine lda (Bl.box B68 hy1).at ?_ (hm := trivial)
    refine spt (.agg (ucells u a).toArray) ?_
    refine lda (Bl.box B68 hx5).at ?_ (hm := trivial)
    refine spt (.bool true) ?_
    refine cl (r_Same_eq u a a' w8 (hU.bl (B06.trans B68)) (hV.bl ((B35.trans h6.bl).trans B68)).all) ?_
    rintro _ w9 ⟨rfl, B89⟩
    refine spt (.bool true) ?_
    refine cl (l_sane w9 (hG.bl ((B06.trans B68).trans B89))) ?_
    rintro _ w10 ⟨rfl, B910⟩
    exact rt1 ⟨by first | rfl | simp, ((B06.trans B68).trans B89).trans B910⟩
end Go.Proofs.YtopjmiklpnejmaaGreatDoor
