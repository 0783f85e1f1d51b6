import Derived.Test.YtonipkobpibcjaaGreatM2
import Derived.Test.YtonipkobpibcjaaGreatM4
/- Walks: the law ReplayDiffers. -/
namespace Go.Proofs.YtonipkobpibcjaaGreat
open Eng Go.RowKit
theorem l_ReplayDiffers (a1 a2 : Option Addr) (n1 n2 c1 c2 : Nat) (w : World) (h1 : n1 ≤ 5000 → ∃ l : List Ent, l.length = n1 ∧ Sl eEnt T w a1 l) (h2 : n2 ≤ 5000 → ∃ l : List Ent, l.length = n2 ∧ Sl eEnt T w a2 l) :
    Ret Tryz.prog 4 #[.slice a1 n1 c1, .slice a2 n2 c2] w fun v w' => v = .bool true ∧ Bl w w' := by
  refine entr (vs := [.slice a1 n1 c1, .slice a2 n2 c2]) [0, 1, 4, 5, 6, 7, 8, 9, 10, 12, 20] tabok Tryz.func4 (by kernel_rfl) ?_
  by_cases hg : n1 ≤ 5000 ∧ n2 ≤ 5000
  rotate_left
  · refine brt ?_ (hp := by first | (simp; done) | (simp; omega))
    refine cl (Zr.k_sane28 w) ?_
    rintro _ w2 ⟨rfl, hB⟩
    exact rt1 ⟨rfl, hB⟩
  obtain ⟨l, rfl, hl⟩ := h1 hg.1
  obtain ⟨m, rfl, hm⟩ := h2 hg.2
  refine brf ?_ (hp := by first | (simp; done) | (simp; omega))
  refine cl (p_Differ l m a1 a2 c1 c2 w hl hm) ?_
  rintro _ w2 ⟨rfl, B2⟩
  refine cl (r_Differ l m a1 a2 c1 c2 w2 (hl.bl B2) (hm.bl B2)) ?_
  rintro _ w3 ⟨rfl, B3'⟩
  have B3 := B2.trans B3'
  refine cl (p_Differ m l a2 a1 c2 c1 w3 (hm.bl B3) (hl.bl B3)) ?_
  rintro _ w4 ⟨rfl, B4'⟩
  have B4 := B3.trans B4'
  refine cl (p_Differ l l a1 a1 c1 c1 w4 (hl.bl B4) (hl.bl B4)) ?_
  rintro _ w5 ⟨rfl, B5'⟩
  have B5 := B4.trans B5'
  rw [dif_sym m l, dif_self l]
  refine spt (.bool false) ?_ (hb := by simp)
  refine cl (Zr.k_sane28 w5) ?_
  rintro _ w6 ⟨rfl, B6⟩
  exact rt1 ⟨rfl, B5.trans B6⟩
end Go.Proofs.YtonipkobpibcjaaGreat
