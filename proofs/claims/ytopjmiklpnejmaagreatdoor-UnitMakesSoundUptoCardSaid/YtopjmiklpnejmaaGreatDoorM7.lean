import Derived.Test.YtopjmiklpnejmaaGreatDoorM5
import Derived.Test.YtopjmiklpnejmaaGreatDoorM6
/- Walks: the law UnitMakesSound. -/
namespace Go.Proofs.YtopjmiklpnejmaaGreatDoor
open Eng Go.RowKit
theorem dec_fine {l : List UInt8} (h : decE l = 0) : ∃ u, checkE u = 0 ∧ decU l = u := by
  unfold decE at h
  cases hp : parse l with
  | none => rw [hp] at h; cases h
  | some u =>
    rw [hp] at h
    exact ⟨u, h, by unfold decU; rw [hp]; exact if_pos h⟩
theorem parts_first (x : ByteArray) : 0 < (partsB x).length ∧ (partsB x)[0]? = some (fstP x) := by
  have hpos : 0 < (partsB x).length := by
    unfold partsB
    rw [List.length_map]
    exact List.length_pos_iff.2 (cutDot_ne _)
  refine ⟨hpos, ?_⟩
  unfold fstP
  cases hq : partsB x with
  | nil => rw [hq] at hpos; cases hpos
  | cons y l => rfl
def foundS (l : List ByteArray) (n : ByteArray) (k : Nat) : Bool := (l.take k).any fun x => decide (fstP x = n)
theorem found_snoc {l : List ByteArray} {n x : ByteArray} {k : Nat} (h : l[k]? = some x) : foundS l n (k + 1) = (foundS l n k || decide (fstP x = n)) := by
  unfold foundS
  rw [take_succ_some h, List.any_append]; simp
theorem need_found {u : Unt} {o3 o5 : List ByteArray} (h3 : Asc (useL u) o3) (h5 : Asc (needP u (useL u)) o5) {n : ByteArray} (hn : n ∈ o5) : foundS o3 n o3.length = true ∧ n ≠ u.name := by
  have := (h5.mem n).1 hn
  simp only [needP, List.mem_filter, List.mem_map] at this
  obtain ⟨⟨x, hx, rfl⟩, h2⟩ := this
  refine ⟨?_, by simpa using h2⟩
  unfold foundS
  rw [List.take_length, List.any_eq_true]
  exact ⟨x, (h3.mem x).2 hx, decide_eq_true rfl⟩
set_option maxHeartbeats 2000000 in
theorem l_Sound (l : List UInt8) (a : Option Addr) (c : Nat) (name : ByteArray) (w : World) (hS : Sl eB T w a l) (hl : l.length ≤ 1048576) (hcap : l.length ≤ c) (hs : name.size ≤ 1048576) (hG : Gl w) : Ret Tryz.prog 13 #[.slice a l.length c, .string name] w fun v w' => v = .bool true ∧ Bl w w' := by
  refine entr (vs := [.slice a l.length c, .string name]) [0, 1, 4, 5, 6, 8, 9, 10, 11, 12, 13, 14, 15, 16, 17, 18, 19, 26, 54, 67, 83, 87, 93, 121] tabok Tryz.func13 (by kernel_rfl) ?_
  refine cl (u_Decode l a c w hS hl hcap hG) ?_
  rintro _ w1 ⟨ua, rfl, hU1, B01⟩
  refine al fun b2 w2 h2 => ?_
  refine sta (cs' := ucells (decU l) ua) h2.box fun w3 k3 x3 => ?_
  have B13 := h2.wr k3
  have B03 := B01.trans B13
  have U3 := hU1.bl B13
  by_cases hE : decE l = 0
  rotate_left
  · refine brT ?_ (hp := by exact hE)
    refine cl (r_Decode l a c w3 (hS.bl B03) hl hcap) ?_
    rintro _ w4 ⟨va, rfl, _, B34⟩
    refine al fun b5 w5 h5 => ?_
    refine sta (cs' := ucells (decU l) va) h5.box fun w6 k6 x6 => ?_
    have B06 := (B03.trans B34).trans (h5.wr k6)
    refine spt (.bool false) ?_
    refine cl (l_sane w6 (hG.bl B06)) ?_
    rintro _ w7 ⟨rfl, B67⟩
    exact rt1 ⟨rfl, B06.trans B67⟩
  refine brF ?_ (hp := by exact fun h => h hE)
  obtain ⟨u, hc, hu⟩ := dec_fine hE
  rw [hu] at U3 x3
  refine lda x3.at ?_
  refine cl (u_Strip u ua w3 U3 (hG.bl B03)) ?_
  rintro _ w4 ⟨a4, rfl, U4, B34⟩
  rw [hc]
  refine al fun b5 w5 h5 => ?_
  refine sta (cs' := ucells (strE u) a4) h5.box fun w6 k6 x6 => ?_
  have B46 := h5.wr k6
  have B36 := B34.trans B46
  have B06 := B03.trans B36
  have x36 := Bl.box B36 x3
  have U6 := U3.bl B36
  refine lda x36.at ?_
  refine cl (u_Check u ua w6 U6 (hG.bl B06)) ?_
  rintro _ w7 ⟨rfl, B67⟩
  rw [hc]
  have B07 := B06.trans B67
  have eS : checkE (strE u) = 0 := by unfold strE; rw [if_pos hc]; exact str_check hc
  refine spt (.agg (ucells u ua).toArray) ?_
  refine lda (Bl.box B67 x6).at ?_
  refine spt (I 0) ?_
  refine cl (u_Check (strE u) a4 w7 ((U4.bl (B46.trans B67)).all) (hG.bl B07)) ?_
  rintro _ w8 ⟨rfl, B78⟩
  rw [eS]
  have B68 := B67.trans B78
  have B08 := B06.trans B68
  have x38 := Bl.box B68 x36
  have U8 := U6.bl B68
  refine brf ?_
  refine lda x38.at ?_
  refine cl (u_Rename u ua name w8 U8 hs (hG.bl B08)) ?_
  rintro _ w9 ⟨a9, rfl, U9, B89⟩
  refine al fun b10 w10 h10 => ?_
  refine sta (cs' := ucells (renU u name) a9) h10.box fun w11 k11 x11 => ?_
  have B911 := h10.wr k11
  have B811 := B89.trans B911
  have B011 := B08.trans B811
  by_cases hr : renE u name = 0
  · have hcr : checkE (renU u name) = 0 := by unfold renU; rw [if_pos hr]; exact ren_check hr
    rw [hr]
    refine spt (.agg (ucells u ua).toArray) ?_
    refine lda x11.at ?_
    refine spt (I 0) ?_
    refine cl (u_Check (renU u name) a9 w11 ((U9.bl B911).all) (hG.bl B011)) ?_
    rintro _ w12 ⟨rfl, B1112⟩
    rw [hcr]
    refine brf ?_
    have B012 := B011.trans B1112
    have B812 := B811.trans B1112
    have x312 := Bl.box B812 x38
    have U12 := U8.bl B812
    refine lda x312.at ?_
    refine cl (u_Needs u ua w12 U12 (hG.bl B012)) ?_
    intro v w13 hT
    obtain ⟨o5, a5, c5, rfl, S5, B1213, A5⟩ := tell_any hT
    clear hT
    rw [if_pos hc] at A5
    rw [hc]
    have B013 := B012.trans B1213
    refine lda (Bl.box B1213 x312).at ?_
    refine cl (u_Uses u ua w13 (U12.bl B1213) (hG.bl B013)) ?_
    intro v w14 hT
    obtain ⟨o3, a3, c3, rfl, S3, B1314, A3⟩ := tell_any hT
    clear hT
    rw [if_pos hc] at A3
    rw [hc]
    have B014 := B013.trans B1314
    have x14 := Bl.box (B1213.trans B1314) x312
    have T5 := S5.bl B1314
    have hz3 : ∀ x ∈ o3, x.size ≤ 1048576 := fun x hx => U8.ps x (useL_mem ((A3.mem x).1 hx))
    have n5 := S5.big
    have n3 := S3.big
    refine brf ?_
    refine lpk o5.length 17 [] [(5, .pointer (some ⟨b2, 0, none⟩)), (13, .slice a5 o5.length c5), (15, .slice a3 o3.length c3)] (fun k vals w' => vals = [] ∧ Bl w14 w') ⟨rfl, Bl.refl _⟩ ?_
    rintro k vals w15 hk ⟨rfl, B1415⟩ ih
    by_cases hlt : k < o5.length
    · refine brT ?_
      obtain ⟨n, hn⟩ := some_of_lt hlt
      obtain ⟨hfd, hne⟩ := need_found A3 A5 (List.mem_of_getElem? hn)
      refine lpk (vals := [.bool false]) o3.length 19 [18] [(5, .pointer (some ⟨b2, 0, none⟩)), (13, .slice a5 o5.length c5), (15, .slice a3 o3.length c3), (17, I k)] (fun j vals w' => vals = [.bool (foundS o3 n j)] ∧ Bl w14 w') ⟨rfl, B1415⟩ ?_
      rintro j vals w16 hj ⟨rfl, B1416⟩ ih2
      by_cases hlj : j < o3.length
      · refine brT ?_
        refine dh T [0, 1, 2, 3, 4, 5, 9, 10, 11, 12, 6, 7, 8, 13, 14, 15] fun w17 h17 => ?_
        have B1417 := B1416.trans h17.bl
        obtain ⟨x, b, o, cs, hx, e3, _, hAt, rfl⟩ := at_some (S3.bl B1417) hlj
        obtain ⟨n', b', o', cs', hn', e5, _, hAt', rfl⟩ := at_some (T5.bl B1417) hlt
        rw [hn] at hn'
        obtain rfl := Option.some.inj hn'
        have hfs := found_snoc (n := n) hx
        cases hf : foundS o3 n j with
        | false =>
          rw [hf, Bool.false_or] at hfs
          rw [e3]
          refine spt (.pointer none) ?_
          refine ix ?_
          refine spt (.string ⟨#[]⟩) ?_
          refine ld (hAt 0 _ rfl) ?_ (hm := by exact trivial)
          rw [e5]
          refine spt (.pointer none) ?_
          refine ix ?_
          refine spt (.string ⟨#[]⟩) ?_
          refine ld (hAt' 0 _ rfl) ?_ (hm := by exact trivial)
          refine spt (.slice none 0 0) ?_
          refine cl (r_Parts x w17 (hz3 x (List.mem_of_getElem? hx))) ?_ (hm := by rintro v w' ⟨_, _, _, _, hb⟩; exact mdW_bl hb)
          rintro _ w18 ⟨ap, cp, rfl, hP, B1718⟩
          obtain ⟨hpos, hp0⟩ := parts_first x
          obtain ⟨p0, b0, o0, cs0, hs0, e0, _, hAt0, rfl⟩ := at_some hP (i := 0) hpos
          rw [hp0] at hs0
          obtain rfl := Option.some.inj hs0
          rw [e0]
          refine spt (.pointer none) ?_
          refine ix (j := 0) ?_
          refine spt (.string ⟨#[]⟩) ?_
          refine ld (hAt0 0 _ rfl) ?_ (hm := by exact trivial)
          exact ih2 hlj ⟨by rw [hfs], B1417.trans B1718⟩ (hsub := by simp only [e3, e5]; repeat (first | exact True.intro | (refine ⟨rfl, ?_⟩)))
        | true =>
          rw [hf, Bool.true_or] at hfs
          refine spn (.pointer none) ?_
          refine spn (.string ⟨#[]⟩) ?_
          refine spn (.pointer none) ?_
          refine spn (.string ⟨#[]⟩) ?_
          refine spn (.slice none 0 0) ?_
          refine spn (.pointer none) ?_
          refine spn (.string ⟨#[]⟩) ?_
          exact ih2 hlj ⟨by rw [hfs], B1417⟩
      refine brF ?_
      obtain rfl : j = o3.length := by omega
      rw [hfd]
      refine ds fun w17 h17 => ?_
      have B1417 := B1416.trans h17.bl
      obtain ⟨n', b', o', cs', hn', e5, _, hAt', rfl⟩ := at_some (T5.bl B1417) hlt
      rw [hn] at hn'
      obtain rfl := Option.some.inj hn'
      rw [e5]
      refine spt (.pointer none) ?_
      refine ix ?_
      refine spt (.string ⟨#[]⟩) ?_
      refine ld (hAt' 0 _ rfl) ?_
      refine spt (.string ⟨#[]⟩) ?_
      refine ld ((Bl.box B1417 x14).cell rfl) ?_
      refine brF ?_ (hp := by exact hne)
      exact ih hlt ⟨rfl, B1417⟩ (hsub := by simp only [e5]; repeat (first | exact True.intro | (refine ⟨rfl, ?_⟩)))
    refine brF ?_
    obtain rfl : k = o5.length := by omega
    clear ih
    have B015 := B014.trans B1415
    refine cl (l_sane w15 (hG.bl B015)) ?_
    rintro _ w16 ⟨rfl, B1516⟩
    exact rt1 ⟨rfl, B015.trans B1516⟩
  · have B1112 : Bl w11 w11 := Bl.refl _
    refine spn (.agg (ucells u ua).toArray) ?_ (hb := by simp [hr])
    refine spn (I 0) ?_ (hb := by simp [hr])
    refine brf ?_ (hp := by simp [hr])
    have B012 := B011.trans B1112
    have B812 := B811.trans B1112
    have x312 := Bl.box B812 x38
    have U12 := U8.bl B812
    refine lda x312.at ?_
    refine cl (u_Needs u ua w11 U12 (hG.bl B012)) ?_
    intro v w13 hT
    obtain ⟨o5, a5, c5, rfl, S5, B1213, A5⟩ := tell_any hT
    clear hT
    rw [if_pos hc] at A5
    rw [hc]
    have B013 := B012.trans B1213
    refine lda (Bl.box B1213 x312).at ?_
    refine cl (u_Uses u ua w13 (U12.bl B1213) (hG.bl B013)) ?_
    intro v w14 hT
    obtain ⟨o3, a3, c3, rfl, S3, B1314, A3⟩ := tell_any hT
    clear hT
    rw [if_pos hc] at A3
    rw [hc]
    have B014 := B013.trans B1314
    have x14 := Bl.box (B1213.trans B1314) x312
    have T5 := S5.bl B1314
    have hz3 : ∀ x ∈ o3, x.size ≤ 1048576 := fun x hx => U8.ps x (useL_mem ((A3.mem x).1 hx))
    have n5 := S5.big
    have n3 := S3.big
    refine brf ?_
    refine lpk o5.length 17 [] [(5, .pointer (some ⟨b2, 0, none⟩)), (13, .slice a5 o5.length c5), (15, .slice a3 o3.length c3)] (fun k vals w' => vals = [] ∧ Bl w14 w') ⟨rfl, Bl.refl _⟩ ?_
    rintro k vals w15 hk ⟨rfl, B1415⟩ ih
    by_cases hlt : k < o5.length
    · refine brT ?_
      obtain ⟨n, hn⟩ := some_of_lt hlt
      obtain ⟨hfd, hne⟩ := need_found A3 A5 (List.mem_of_getElem? hn)
      refine lpk (vals := [.bool false]) o3.length 19 [18] [(5, .pointer (some ⟨b2, 0, none⟩)), (13, .slice a5 o5.length c5), (15, .slice a3 o3.length c3), (17, I k)] (fun j vals w' => vals = [.bool (foundS o3 n j)] ∧ Bl w14 w') ⟨rfl, B1415⟩ ?_
      rintro j vals w16 hj ⟨rfl, B1416⟩ ih2
      by_cases hlj : j < o3.length
      · refine brT ?_
        refine dh T [0, 1, 2, 3, 4, 5, 9, 10, 11, 12, 6, 7, 8, 13, 14, 15] fun w17 h17 => ?_
        have B1417 := B1416.trans h17.bl
        obtain ⟨x, b, o, cs, hx, e3, _, hAt, rfl⟩ := at_some (S3.bl B1417) hlj
        obtain ⟨n', b', o', cs', hn', e5, _, hAt', rfl⟩ := at_some (T5.bl B1417) hlt
        rw [hn] at hn'
        obtain rfl := Option.some.inj hn'
        have hfs := found_snoc (n := n) hx
        cases hf : foundS o3 n j with
        | false =>
          rw [hf, Bool.false_or] at hfs
          rw [e3]
          refine spt (.pointer none) ?_
          refine ix ?_
          refine spt (.string ⟨#[]⟩) ?_
          refine ld (hAt 0 _ rfl) ?_ (hm := by exact trivial)
          rw [e5]
          refine spt (.pointer none) ?_
          refine ix ?_
          refine spt (.string ⟨#[]⟩) ?_
          refine ld (hAt' 0 _ rfl) ?_ (hm := by exact trivial)
          refine spt (.slice none 0 0) ?_
          refine cl (r_Parts x w17 (hz3 x (List.mem_of_getElem? hx))) ?_ (hm := by rintro v w' ⟨_, _, _, _, hb⟩; exact mdW_bl hb)
          rintro _ w18 ⟨ap, cp, rfl, hP, B1718⟩
          obtain ⟨hpos, hp0⟩ := parts_first x
          obtain ⟨p0, b0, o0, cs0, hs0, e0, _, hAt0, rfl⟩ := at_some hP (i := 0) hpos
          rw [hp0] at hs0
          obtain rfl := Option.some.inj hs0
          rw [e0]
          refine spt (.pointer none) ?_
          refine ix (j := 0) ?_
          refine spt (.string ⟨#[]⟩) ?_
          refine ld (hAt0 0 _ rfl) ?_ (hm := by exact trivial)
          exact ih2 hlj ⟨by rw [hfs], B1417.trans B1718⟩ (hsub := by simp only [e3, e5]; repeat (first | exact True.intro | (refine ⟨rfl, ?_⟩)))
        | true =>
          rw [hf, Bool.true_or] at hfs
          refine spn (.pointer none) ?_
          refine spn (.string ⟨#[]⟩) ?_
          refine spn (.pointer none) ?_
          refine spn (.string ⟨#[]⟩) ?_
          refine spn (.slice none 0 0) ?_
          refine spn (.pointer none) ?_
          refine spn (.string ⟨#[]⟩) ?_
          exact ih2 hlj ⟨by rw [hfs], B1417⟩
      refine brF ?_
      obtain rfl : j = o3.length := by omega
      rw [hfd]
      refine ds fun w17 h17 => ?_
      have B1417 := B1416.trans h17.bl
      obtain ⟨n', b', o', cs', hn', e5, _, hAt', rfl⟩ := at_some (T5.bl B1417) hlt
      rw [hn] at hn'
      obtain rfl := Option.some.inj hn'
      rw [e5]
      refine spt (.pointer none) ?_
      refine ix ?_
      refine spt (.string ⟨#[]⟩) ?_
      refine ld (hAt' 0 _ rfl) ?_
      refine spt (.string ⟨#[]⟩) ?_
      refine ld ((Bl.box B1417 x14).cell rfl) ?_
      refine brF ?_ (hp := by exact hne)
      exact ih hlt ⟨rfl, B1417⟩ (hsub := by simp only [e5]; repeat (first | exact True.intro | (refine ⟨rfl, ?_⟩)))
    refine brF ?_
    obtain rfl : k = o5.length := by omega
    clear ih
    have B015 := B014.trans B1415
    refine cl (l_sane w15 (hG.bl B015)) ?_
    rintro _ w16 ⟨rfl, B1516⟩
    exact rt1 ⟨rfl, B015.trans B1516⟩
end Go.Proofs.YtopjmiklpnejmaaGreatDoor
