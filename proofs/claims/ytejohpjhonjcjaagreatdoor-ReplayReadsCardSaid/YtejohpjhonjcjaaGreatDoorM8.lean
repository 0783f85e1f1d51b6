import Derived.Test.YtejohpjhonjcjaaGreatDoorM4
import Derived.Test.YtejohpjhonjcjaaGreatDoorM7
/- Walks: the laws ReplayReads and ReplayWrites. -/
namespace Go.Proofs.YtejohpjhonjcjaaGreatDoor
open Eng Go.RowKit
theorem parR_len (s : List UInt8) : (parR s).1.length ≤ 3000 := by
  unfold parR
  split
  · exact Nat.zero_le _
  · split
    · exact Nat.zero_le _
    · simp only; omega
theorem l_ReplayReads (s : ByteArray) (w : World) (hG : Gs w) : Ret Tryz.prog 3 #[.string s] w fun v w' => v = .bool true ∧ Bl w w' := by
  have hsl := ba_len s
  refine entr (vs := [.string s]) [0, 2, 3, 4, 5, 6, 8, 9, 10, 13, 37, 39, 51] tabok Tryz.func3 (by kernel_rfl) ?_
  by_cases hg : s.size ≤ 100000
  rotate_left
  · refine brt ?_ (hp := by first | (simp; done) | (simp; omega))
    refine cl (Zr.k_sane28 w) ?_
    rintro _ w2 ⟨rfl, hB⟩
    exact rt1 ⟨rfl, hB⟩
  refine brf ?_ (hp := by first | (simp; done) | (simp; omega))
  refine cl (p_Parse s (by omega) w hG) ?_
  rintro _ w2 ⟨a, c, rfl, O2, B2⟩
  refine cl (r_Parse s (by omega) w2 (hG.bl B2)) ?_
  rintro _ w3 ⟨a', c', rfl, O3, B23⟩
  have B3 := B2.trans B23
  have hn := parR_len s.data.toList
  have S2 : Sl eEnt T w2 a (parR s.data.toList).1 := owp_sl O2 (by omega) fun _ _ => trivial
  have S3 : Sl eEnt T w3 a' (parR s.data.toList).1 := owp_sl O3 (by omega) fun _ _ => trivial
  refine cl (r_Differ _ _ a a' c c' w3 (S2.bl B23) S3) ?_
  rintro _ w4 ⟨rfl, B34⟩
  rw [dif_self]
  have B4 := B3.trans B34
  refine brf ?_ (hp := by simp)
  cases hp : parL s.data.toList with
  | none =>
    rw [parR_none hp]
    refine brf ?_ (hp := by simp)
    refine cl (Zr.k_sane28 w4) ?_
    rintro _ w5 ⟨rfl, B5⟩
    exact rt1 ⟨rfl, B4.trans B5⟩
  | some l =>
    obtain ⟨htx, hsh⟩ := parL_of hp
    have S4 := (S2.bl B23).bl B34
    rw [parR_some hp] at S4 ⊢
    by_cases h3 : 3000 < l.length
    · rw [if_pos h3]
      refine brf ?_ (hp := by simp)
      refine cl (Zr.k_sane28 w4) ?_
      rintro _ w5 ⟨rfl, B5⟩
      exact rt1 ⟨rfl, B4.trans B5⟩
    · rw [if_neg h3] at S4 ⊢
      refine brt ?_ (hp := by simp)
      refine cl (p_Text l (fun e he => wfE_of_sh (hsh e he)) a c w4 S4 (hG.bl B4)) ?_
      rintro _ w5 ⟨rfl, B5⟩
      have e1 : txtS l = s := by unfold txtS; rw [if_neg h3, htx, ofL_toL]
      have e2 : txtE l = 0 := by unfold txtE; rw [if_neg h3]
      rw [e1, e2]
      refine brf ?_ (hp := by simp)
      refine cl (Zr.k_sane28 w5) ?_
      rintro _ w6 ⟨rfl, B6⟩
      exact rt1 ⟨rfl, (B4.trans B5).trans B6⟩
def smB (n : Int) : Bool := decide (-1000000000000000000 < n) && decide (n < 1000000000000000000)
theorem l_small (n : Int) (w : World) : Ret Tryz.prog 11 #[I n] w fun v w' => v = .bool (smB n) ∧ w' = w := by
  refine entr (vs := [I n]) [0, 2] tabok Tryz.func11 (by kernel_rfl) ?_
  exact rt1 ⟨rfl, rfl⟩
def smE (e : Ent) : Bool := smB e.a && smB e.b && smB e.c && smB e.d && smB e.e
theorem shE_of {e : Ent} (h : smE e = true) : ShE e := by
  unfold smE smB at h
  simp only [Bool.and_eq_true, decide_eq_true_eq] at h
  obtain ⟨⟨⟨⟨h1, h2⟩, h3⟩, h4⟩, h5⟩ := h
  exact ⟨shN_of h1.1 h1.2, shN_of h2.1 h2.2, shN_of h3.1 h3.2, shN_of h4.1 h4.2, shN_of h5.1 h5.2⟩
set_option maxHeartbeats 8000000 in
theorem l_ReplayWrites (a : Option Addr) (n c : Nat) (w : World) (h1 : n ≤ 4000 → ∃ l : List Ent, l.length = n ∧ Sl eEnt T w a l ∧ ∀ e ∈ l, WfE e) (hG : Gs w) :
    Ret Tryz.prog 4 #[.slice a n c] w fun v w' => v = .bool true ∧ Bl w w' := by
  refine entr (vs := [.slice a n c]) [0, 2, 3, 4, 5, 6, 7, 8, 9, 10, 11, 12, 15, 34, 40, 84, 105] tabok Tryz.func4 (by kernel_rfl) ?_
  by_cases hg : n ≤ 4000
  rotate_left
  · refine brt ?_ (hp := by first | (simp; done) | (simp; omega))
    refine cl (Zr.k_sane28 w) ?_
    rintro _ w2 ⟨rfl, hB⟩
    exact rt1 ⟨rfl, hB⟩
  obtain ⟨l, rfl, hl, hwf⟩ := h1 hg
  refine brf ?_ (hp := by first | (simp; done) | (simp; omega))
  refine cl (p_Text l hwf a c w hl hG) ?_
  rintro _ w2 ⟨rfl, B2⟩
  refine cl (r_Text l hwf a c w2 (hl.bl B2) (hG.bl B2)) ?_
  rintro _ w3 ⟨rfl, B23⟩
  have B3 := B2.trans B23
  refine brf ?_ (hp := by simp)
  refine lpk (vals := [.bool (decide (txtE l = 0))]) l.length 8 [7] [(0, .slice a l.length c), (3, .string (txtS l))]
    (fun j vals w' => vals = [.bool (decide (txtE l = 0) && (l.take j).all smE)] ∧ Bl w w') ⟨by simp, B3⟩ ?_
  rintro j vals w4 hj ⟨rfl, B4⟩ ih
  by_cases hlt : j < l.length
  · refine brT ?_
    obtain ⟨e, bf, off, cs, he, rfl, _, hAt, rfl⟩ := at_some (hl.bl B4) hlt
    have e1 : (decide (txtE l = 0) && (l.take (j + 1)).all smE) = ((decide (txtE l = 0) && (l.take j).all smE) && smE e) := by
      rw [take_succ_some he, List.all_append]; simp [Bool.and_assoc]
    cases hs : decide (txtE l = 0) && (l.take j).all smE with
    | false =>
      rw [hs] at e1
      refine spn (.pointer (some ⟨0, 0, none⟩)) ?_
      refine spn (I 0) ?_
      refine spn (.bool false) ?_
      refine spn (.pointer (some ⟨0, 0, none⟩)) ?_
      refine spn (I 0) ?_
      refine spn (.bool false) ?_
      refine spn (.pointer (some ⟨0, 0, none⟩)) ?_
      refine spn (I 0) ?_
      refine spn (.bool false) ?_
      refine spn (.pointer (some ⟨0, 0, none⟩)) ?_
      refine spn (I 0) ?_
      refine spn (.bool false) ?_
      refine spn (.pointer (some ⟨0, 0, none⟩)) ?_
      refine spn (I 0) ?_
      refine spn (.bool false) ?_
      exact ih hlt ⟨by rw [e1], B4⟩
    | true =>
      rw [hs, Bool.true_and] at e1
      refine spt (.pointer none) ?_
      refine ix ?_
      refine spt (I 0) ?_
      refine ld (hAt 0 _ rfl) ?_
      refine spt (.bool false) ?_
      refine cl (l_small e.a _) ?_
      rintro _ _ ⟨rfl, rfl⟩
      cases ha : smB e.a with
      | false =>
        refine spn (.pointer (some ⟨0, 0, none⟩)) ?_
        refine spn (I 0) ?_
        refine spn (.bool false) ?_
        refine spn (.pointer (some ⟨0, 0, none⟩)) ?_
        refine spn (I 0) ?_
        refine spn (.bool false) ?_
        refine spn (.pointer (some ⟨0, 0, none⟩)) ?_
        refine spn (I 0) ?_
        refine spn (.bool false) ?_
        refine spn (.pointer (some ⟨0, 0, none⟩)) ?_
        refine spn (I 0) ?_
        refine spn (.bool false) ?_
        have hsm : smE e = false := by unfold smE; simp [ha]
        rw [hsm] at e1
        exact ih hlt ⟨by rw [e1], B4⟩
      | true =>
        refine spt (.pointer none) ?_
        refine ix ?_
        refine spt (I 0) ?_
        refine ld (hAt 1 _ rfl) ?_
        refine spt (.bool false) ?_
        refine cl (l_small e.b _) ?_
        rintro _ _ ⟨rfl, rfl⟩
        cases hb : smB e.b with
        | false =>
          refine spn (.pointer (some ⟨0, 0, none⟩)) ?_
          refine spn (I 0) ?_
          refine spn (.bool false) ?_
          refine spn (.pointer (some ⟨0, 0, none⟩)) ?_
          refine spn (I 0) ?_
          refine spn (.bool false) ?_
          refine spn (.pointer (some ⟨0, 0, none⟩)) ?_
          refine spn (I 0) ?_
          refine spn (.bool false) ?_
          have hsm : smE e = false := by unfold smE; simp [hb]
          rw [hsm] at e1
          exact ih hlt ⟨by rw [e1], B4⟩
        | true =>
          refine spt (.pointer none) ?_
          refine ix ?_
          refine spt (I 0) ?_
          refine ld (hAt 2 _ rfl) ?_
          refine spt (.bool false) ?_
          refine cl (l_small e.c _) ?_
          rintro _ _ ⟨rfl, rfl⟩
          cases hc : smB e.c with
          | false =>
            refine spn (.pointer (some ⟨0, 0, none⟩)) ?_
            refine spn (I 0) ?_
            refine spn (.bool false) ?_
            refine spn (.pointer (some ⟨0, 0, none⟩)) ?_
            refine spn (I 0) ?_
            refine spn (.bool false) ?_
            have hsm : smE e = false := by unfold smE; simp [hc]
            rw [hsm] at e1
            exact ih hlt ⟨by rw [e1], B4⟩
          | true =>
            refine spt (.pointer none) ?_
            refine ix ?_
            refine spt (I 0) ?_
            refine ld (hAt 3 _ rfl) ?_
            refine spt (.bool false) ?_
            refine cl (l_small e.d _) ?_
            rintro _ _ ⟨rfl, rfl⟩
            cases hd : smB e.d with
            | false =>
              refine spn (.pointer (some ⟨0, 0, none⟩)) ?_
              refine spn (I 0) ?_
              refine spn (.bool false) ?_
              have hsm : smE e = false := by unfold smE; simp [hd]
              rw [hsm] at e1
              exact ih hlt ⟨by rw [e1], B4⟩
            | true =>
              refine spt (.pointer none) ?_
              refine ix ?_
              refine spt (I 0) ?_
              refine ld (hAt 4 _ rfl) ?_
              refine spt (.bool false) ?_
              refine cl (l_small e.e _) ?_
              rintro _ _ ⟨rfl, rfl⟩
              have hsm : smE e = smB e.e := by unfold smE; simp [ha, hb, hc, hd]
              rw [hsm] at e1
              exact ih hlt ⟨by rw [e1], B4⟩
  · refine brF ?_
    obtain rfl : j = l.length := by omega
    rw [List.take_length]
    cases hs : decide (txtE l = 0) && l.all smE with
    | false =>
      refine brf ?_ (hp := by rfl)
      refine cl (Zr.k_sane28 w4) ?_
      rintro _ w5 ⟨rfl, B5⟩
      exact rt1 ⟨rfl, B4.trans B5⟩
    | true =>
      simp only [Bool.and_eq_true, decide_eq_true_eq] at hs
      have h3 : ¬ 3000 < l.length := fun q => by
        have := hs.1
        unfold txtE at this
        rw [if_pos q] at this; cases this
      have hsh : ∀ e ∈ l, ShE e := fun e he => shE_of (List.all_eq_true.1 hs.2 e he)
      have hts : txtS l = ofL (txtL l) := by unfold txtS; rw [if_neg h3]
      have hln := txt_len hwf
      have hpar : parR (txtS l).data.toList = (l, 0) := by
        rw [hts, toL_ofL, parR_some (parL_txt hsh), if_neg h3]
      refine brt ?_ (hp := by rfl)
      refine cl (p_Parse (txtS l) (by rw [hts, ofL_size]; omega) w4 (hG.bl B4)) ?_
      rintro _ w5 ⟨a5, c5, rfl, O5, B45⟩
      rw [hpar] at O5 ⊢
      have S5 : Sl eEnt T w5 a5 l := owp_sl O5 (show l.length ≤ _ by omega) fun _ _ => trivial
      have B5 := B4.trans B45
      refine cl (p_Differ l l a5 a c5 c w5 S5 (hl.bl B5)) ?_
      rintro _ w6 ⟨rfl, B56⟩
      rw [dif_self]
      refine brf ?_ (hp := by simp)
      refine cl (Zr.k_sane28 w6) ?_
      rintro _ w7 ⟨rfl, B7⟩
      exact rt1 ⟨rfl, (B5.trans B56).trans B7⟩
end Go.Proofs.YtejohpjhonjcjaaGreatDoor
