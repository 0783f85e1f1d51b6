/- Walks: the document's Check of a unit. -/
import Derived.Test.YtopjmiklpnejmaaGreatDoorCa
import Derived.Test.YtopjmiklpnejmaaGreatDoorVd
namespace Go.Proofs.YtopjmiklpnejmaaGreatDoor
open Eng Go.RowKit
def pathsOk (u : Unt) : Bool := u.pool.all fun s => decide (¬ (path s : Int) = 0)
def refsOk (u : Unt) : Bool := (refs u).all fun r => !(decide (0 ≤ r.at') && decide (¬ (path (nm u r.at') : Int) = r.parts))
def mErr (l : List Mth) : Int := match l with
  | [] => 0
  | m :: r => if codeE m.code true = 0 then mErr r else codeE m.code true
theorem mErr_hit {l : List Mth} {k : Nat} {m : Mth} (hm : l[k]? = some m) (h : ∀ x ∈ l.take k, codeE x.code true = 0) (h2 : codeE m.code true ≠ 0) : mErr l = codeE m.code true := by
  induction l generalizing k with
  | nil => simp at hm
  | cons y l ih =>
    cases k with
    | zero => simp at hm; subst hm; simp [mErr, h2]
    | succ k =>
      have h3 := h y (by simp)
      simp only [mErr, h3, if_true]
      exact ih (by simpa using hm) fun x hx => h x (by simp [hx])
theorem mErr_none {l : List Mth} (h : ∀ x ∈ l, codeE x.code true = 0) : mErr l = 0 := by
  induction l with
  | nil => rfl
  | cons y l ih => simp only [mErr, h y (by simp), if_true]; exact ih fun x hx => h x (by simp [hx])
def checkE (u : Unt) : Int :=
  if limits u = false then 2 else if simple u.name = false then 8 else if pathsOk u = false then 8 else if (kinds u && places u) = false then 1 else if refsOk u = false then 8 else if doubled u = true then 9
  else if mErr u.methods ≠ 0 then mErr u.methods else if codesOk u = false then 8 else 0
theorem operand_ge (i : Ins) (hv : validI i true = true) (h : 0 < (operand i).2) : 0 ≤ (operand i).1 := by
  obtain ⟨op, a, b⟩ := i
  have hr : 0 ≤ op ∧ op < 36 := by
    unfold validI at hv
    simp only [Bool.and_eq_true, decide_eq_true_eq] at hv
    exact ⟨hv.1.1.1.1, hv.1.1.1.2⟩
  have hc : op = 0 ∨ op = 1 ∨ op = 2 ∨ op = 3 ∨ op = 4 ∨ op = 5 ∨ op = 6 ∨ op = 7 ∨ op = 8 ∨ op = 9 ∨ op = 10 ∨ op = 11 ∨ op = 12 ∨ op = 13 ∨ op = 14 ∨ op = 15 ∨ op = 16 ∨ op = 17 ∨ op = 18 ∨ op = 19 ∨ op = 20 ∨ op = 21 ∨ op = 22 ∨ op = 23 ∨ op = 24 ∨ op = 25 ∨ op = 26 ∨ op = 27 ∨ op = 28 ∨ op = 29 ∨ op = 30 ∨ op = 31 ∨ op = 32 ∨ op = 33 ∨ op = 34 ∨ op = 35 := by omega
  rcases hc with rfl | rfl | rfl | rfl | rfl | rfl | rfl | rfl | rfl | rfl | rfl | rfl | rfl | rfl | rfl | rfl | rfl | rfl | rfl | rfl | rfl | rfl | rfl | rfl | rfl | rfl | rfl | rfl | rfl | rfl | rfl | rfl | rfl | rfl | rfl | rfl <;> first
    | (exfalso; revert h; simp [operand, named]; done)
    | (simp [operand, named]; simp [validI, inR, rngs, isPool, mosts] at hv; omega)
    | (by_cases h2 : a = 2 ∨ a = 4
       · simp [operand, named, h2]; simp [validI, inR, rngs, isPool] at hv; omega
       · exfalso; revert h; simp [operand, named, h2])
theorem r_Check (u : Unt) (a : UA) (w : World) (hU : UnR T w u a) : Ret Tryz.prog 22 #[.agg (ucells u a).toArray] w fun v w' => v = I (checkE u) ∧ Bl w w' := by
  refine entr (vs := [.agg (ucells u a).toArray]) [0, 1, 2, 3, 4, 5, 6, 7, 10, 14, 19, 28, 39, 43, 69, 71, 76, 87, 91] tabok Tryz.func22 (by kernel_rfl) ?_
  refine bx (cs := ucells u a) fun b w1 hn => ?_
  refine lda hn.box.at ?_
  refine cl (r_limits u a _ (hU.bl hn.bl)) ?_
  rintro _ w2 ⟨rfl, hB⟩
  have hx := Bl.box hB hn.box
  refine br (t := !limits u) (fun h => ?_) (fun h => ?_)
  · exact rt1 ⟨vi (by unfold checkE; rw [if_pos (by simpa using h)]), hn.bl.trans hB⟩
  have hl1 : limits u = true := by simpa using h
  have hL := lim_of hl1
  have hl2 := hL.pool
  have hl3 := hL.mth
  refine ld (hx.cell rfl) ?_
  refine cl (r_Simple u.name _ hU.nm) ?_
  rintro _ _ ⟨rfl, rfl⟩
  refine br (t := !simple u.name) (fun h => ?_) (fun h => ?_)
  · exact rt1 ⟨vi (by unfold checkE; rw [if_neg (by rw [hl1]; simp), if_pos (by simpa using h)]), hn.bl.trans hB⟩
  have hs1 : simple u.name = true := by simpa using h
  refine lpk u.pool.length 3 [] [(1, .pointer (some ⟨b, 0, none⟩))] (fun k vals w' => vals = [] ∧ ((u.pool.take k).all fun s => decide (¬ (path s : Int) = 0)) = true ∧ Bl w1 w') ⟨rfl, rfl, hB⟩ ?_
  rintro k vals w3 hk ⟨rfl, ha, hB3⟩ ih
  have hx3 := Bl.box hB3 hn.box
  refine ld (hx3.cell rfl) ?_
  by_cases hlt : k < u.pool.length
  · refine brT ?_
    obtain ⟨s, b4, o4, cs4, hs, e4, _, hAt4, rfl⟩ := at_some (hU.bl (hn.bl.trans hB3)).pool hlt
    refine ld (hx3.cell rfl) ?_
    rw [e4]
    refine ix ?_
    refine ld (hAt4 0 _ rfl) ?_
    refine cl (r_Path s _ (hU.ps s (List.mem_of_getElem? hs))) ?_
    rintro _ w4 ⟨rfl, hB4⟩
    refine br (t := decide ((path s : Int) = 0)) (fun h => ?_) (fun h => ?_)
    · have h0 := of_decide_eq_true h
      refine rt1 ⟨vi ?_, hn.bl.trans (hB3.trans hB4)⟩
      have : pathsOk u = false := all_miss hs (decide_eq_false (by simp [h0]))
      unfold checkE; rw [if_neg (by rw [hl1]; simp), if_neg (by rw [hs1]; simp), if_pos this]
    · exact ih hlt ⟨rfl, all_snoc' hs ha (decide_eq_true (of_decide_eq_false h)), hB3.trans hB4⟩
  refine brF ?_
  obtain rfl : k = u.pool.length := by omega
  have hp1 : pathsOk u = true := all_end ha
  have hE1 : checkE u = if (kinds u && places u) = false then 1 else if refsOk u = false then 8 else if doubled u = true then 9 else if mErr u.methods ≠ 0 then mErr u.methods else if codesOk u = false then 8 else 0 := by
    unfold checkE; rw [if_neg (by rw [hl1]; simp), if_neg (by rw [hs1]; simp), if_neg (by rw [hp1]; simp)]
  have hU3 := hU.bl (hn.bl.trans hB3)
  refine lda hx3.at ?_
  refine cl (r_Refs u a _ hU3 hL) ?_
  rintro _ w4 ⟨ar, cr, rfl, hR, hB4⟩
  have hB14 := hB3.trans hB4
  have hx4 := Bl.box hB14 hn.box
  refine lda hx4.at ?_
  refine cl (r_kinds u a _ (hU3.bl hB4) hL) ?_
  rintro _ w5 ⟨rfl, hB5⟩
  have hB15 := hB14.trans hB5
  have hx5 := Bl.box hB15 hn.box
  refine sp (.agg (ucells u a).toArray) (fun q => ?_) (fun q => ?_)
  rotate_left
  · refine sp (.bool false) (fun q2 => ?_) (fun q2 => ?_)
    · rw [q] at q2; cases q2
    refine br (fun h => ?_) (fun h => ?_)
    · refine rt1 ⟨vi ?_, hn.bl.trans hB15⟩
      rw [hE1, if_pos]
      have : kinds u = false := by simpa using q
      rw [this]; rfl
    · rw [q] at h; simp at h
  have hk1 : kinds u = true := by simpa using q
  refine lda hx5.at ?_
  refine sp (.bool false) (fun q2 => ?_) (fun q2 => ?_)
  rotate_left
  · exact absurd q2 (by decide)
  refine cl (r_places u a (refs u) ar cr _ (hU3.bl (hB4.trans hB5)) hL (hR.bl hB5)) ?_
  rintro _ w6 ⟨rfl, hB6⟩
  have hB16 := hB15.trans hB6
  refine br (t := !places u) (fun h => ?_) (fun h => ?_)
  · refine rt1 ⟨vi ?_, hn.bl.trans hB16⟩
    rw [hE1, if_pos]
    have : places u = false := by simpa using h
    rw [this]; simp
  have hpl : places u = true := by simpa using h
  have hP : Plc u := plc_of (by unfold places at hpl; simp only [Bool.and_eq_true] at hpl; exact hpl.1)
  have hE2 : checkE u = if refsOk u = false then 8 else if doubled u = true then 9 else if mErr u.methods ≠ 0 then mErr u.methods else if codesOk u = false then 8 else 0 := by rw [hE1, if_neg (by rw [hk1, hpl]; simp)]
  have hR6 := (hR.bl hB5).bl hB6
  have hbr := hR6.big
  have hU6 := hU.bl (hn.bl.trans hB16)
  refine lpk (refs u).length 5 [] [(1, .pointer (some ⟨b, 0, none⟩)), (4, .slice ar (refs u).length cr)] (fun k vals w' => vals = [] ∧ (((refs u).take k).all fun r => !(decide (0 ≤ r.at') && decide (¬ (path (nm u r.at') : Int) = r.parts))) = true ∧ Bl w6 w') ⟨rfl, rfl, Bl.refl _⟩ ?_
  rintro k vals w7 hk ⟨rfl, ha, hB7⟩ ih
  by_cases hlt : k < (refs u).length
  · refine brT ?_
    obtain ⟨r, b8, o8, cs8, hr, rfl, _, hAt8, rfl⟩ := at_some (hR6.bl hB7) hlt
    have hx7 := Bl.box (hB16.trans hB7) hn.box
    have hrp : refOk u.pool.length r = true := by
      unfold places at hpl; simp only [Bool.and_eq_true] at hpl
      exact List.all_eq_true.1 hpl.1 r (List.mem_of_getElem? hr)
    refine dh T [0, 1, 2, 3, 4, 5, 6, 7, 8, 9, 10, 11, 12, 13, 14, 15, 17, 18, 19, 20, 21, 16, 22, 23] fun w8 h8 => ?_
    have hx8 := h8.box hx7
    have hAt9 := hAt8.bl h8.bl
    refine ix ?_
    refine ld (hAt9 0 _ rfl) ?_
    refine ldg (fun _ => hx8.cell rfl) ?_
    refine ixg (fun _ => hlt) ?_
    refine ldg (fun _ => hAt9 0 _ rfl) ?_
    refine sp (.pointer (some ⟨0, 0, none⟩)) (fun q => ?_) (fun q => ?_)
    · have q0 := of_decide_eq_true q
      have hin : inP u r.at' := by
        simp only [refOk, Bool.or_eq_true, Bool.and_eq_true, decide_eq_true_eq, Bool.not_eq_true', Bool.or_eq_false_iff, decide_eq_false_iff_not] at hrp
        exact ⟨q0, by omega⟩
      obtain ⟨b9, o9, e9, _, hc9, hz9, hi9, hp9⟩ := pool_at (hU6.bl (hB7.trans h8.bl)) hin
      rw [e9]
      refine ix (hij := hi9) ?_
      refine ldg (fun _ => hc9) ?_
      refine ixg (fun _ => hlt) ?_
      refine ldg (fun _ => hAt9 1 _ rfl) ?_
      refine sp (I 0) (fun _ => ?_) (fun p => ?_)
      · refine cl (r_Path (nm u r.at') _ hz9) ?_
        rintro _ w9 ⟨rfl, hB9⟩
        have hB79 := hB7.trans (h8.bl.trans hB9)
        refine br (t := decide (¬ (path (nm u r.at') : Int) = r.parts)) (fun h => ?_) (fun h => ?_)
        · refine rt1 ⟨vi ?_, hn.bl.trans (hB16.trans hB79)⟩
          rw [hE2, if_pos]
          exact all_miss hr (by rw [q, h]; rfl)
        · exact ih hlt ⟨rfl, all_snoc' hr ha (by rw [q, h]; rfl), hB79⟩
      · cases p
    · refine ldg (v := .string ⟨#[]⟩) (fun e => ?_) ?_
      · rw [q] at e; cases e
      refine ixg (fun _ => hlt) ?_
      refine ldg (fun _ => hAt9 1 _ rfl) ?_
      refine sp (I 0) (fun p => ?_) (fun p => ?_)
      · rw [q] at p; cases p
      refine br (fun h => ?_) (fun h => ?_)
      · rw [q] at h; simp at h
      · exact ih hlt ⟨rfl, all_snoc' hr ha (by rw [show decide (0 ≤ r.at') = false from q]; rfl), hB7.trans h8.bl⟩
  refine brF ?_
  obtain rfl : k = (refs u).length := by omega
  have hr1 : refsOk u = true := all_end ha
  have hE3 : checkE u = if doubled u = true then 9 else if mErr u.methods ≠ 0 then mErr u.methods else if codesOk u = false then 8 else 0 := by rw [hE2, if_neg (by rw [hr1]; simp)]
  have hx7 := Bl.box (hB16.trans hB7) hn.box
  refine lda hx7.at ?_
  refine cl (r_doubled u a _ (hU6.bl hB7) hL hP) ?_
  rintro _ w8 ⟨rfl, hB8⟩
  have hB18 := hB16.trans (hB7.trans hB8)
  refine br (fun h => ?_) (fun h => ?_)
  · exact rt1 ⟨vi (by rw [hE3, if_pos h]), hn.bl.trans hB18⟩
  have hE4 : checkE u = if mErr u.methods ≠ 0 then mErr u.methods else if codesOk u = false then 8 else 0 := by rw [hE3, if_neg (by rw [h]; simp)]
  refine lpk u.methods.length 6 [] [(1, .pointer (some ⟨b, 0, none⟩))] (fun k vals w' => vals = [] ∧ (∀ m ∈ u.methods.take k, codeE m.code true = 0) ∧ Bl w1 w') ⟨rfl, by simp, hB18⟩ ?_
  rintro k vals w9 hk ⟨rfl, ha9, hB9⟩ ih9
  have hx9 := Bl.box hB9 hn.box
  have hU9 := hU.bl (hn.bl.trans hB9)
  refine ld (hx9.cell rfl) ?_
  by_cases hlt : k < u.methods.length
  · refine brT ?_
    obtain ⟨m, b2, o2, cs, hm, e2, _, hAt, a1, c1, a2, c2, a3, c3, rfl, h1, h2, h3⟩ := at_some hU9.mth hlt
    refine ld (hx9.cell rfl) ?_
    rw [e2]
    refine ix ?_
    refine ld (hAt 6 _ rfl) ?_
    refine cl (r3_Check m.code _ _ true T _ h3) ?_
    rintro _ w10 ⟨rfl, hB10⟩
    refine br (t := decide (¬ codeE m.code true = 0)) (fun h => ?_) (fun h => ?_)
    · have h4 := of_decide_eq_true h
      refine rt1 ⟨vi ?_, hn.bl.trans (hB9.trans hB10)⟩
      have := mErr_hit hm ha9 h4
      rw [hE4, if_pos (by rw [this]; exact h4), this]
    · have h4 := Classical.not_not.1 (of_decide_eq_false h)
      refine ih9 hlt ⟨rfl, fun y hy => ?_, hB9.trans hB10⟩
      rw [take_succ_some hm, List.mem_append] at hy
      rcases hy with hy | hy
      · exact ha9 y hy
      · simp at hy; subst hy; exact h4
  refine brF ?_
  obtain rfl : k = u.methods.length := by omega
  rw [List.take_length] at ha9
  have hE5 : checkE u = if codesOk u = false then 8 else 0 := by rw [hE4, if_neg (by rw [mErr_none ha9]; simp)]
  refine lda hx9.at ?_
  refine cl (r_codes u a _ hU9 ?_) ?_
  · intro m hm i hi
    refine operand_ge i ?_
    have := ha9 m hm
    unfold codeE at this
    split at this
    · cases this
    · split at this
      · rename_i hv
        exact List.all_eq_true.1 hv i hi
      · cases this
  rintro _ w10 ⟨rfl, hB10⟩
  refine br (t := !codesOk u) (fun h => ?_) (fun h => ?_)
  · exact rt1 ⟨vi (by rw [hE5, if_pos (by simpa using h)]), hn.bl.trans (hB9.trans hB10)⟩
  · exact rt1 ⟨vi (by rw [hE5, if_neg (by simpa using h)]), hn.bl.trans (hB9.trans hB10)⟩
end Go.Proofs.YtopjmiklpnejmaaGreatDoor
