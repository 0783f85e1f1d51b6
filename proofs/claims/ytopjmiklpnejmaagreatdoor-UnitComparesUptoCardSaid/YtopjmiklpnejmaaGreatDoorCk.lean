/- What the program's Check sees is what the document's Check sees. No program stands here. -/
import Derived.Test.YtopjmiklpnejmaaGreatDoorDb
namespace Go.Proofs.YtopjmiklpnejmaaGreatDoor
open Eng Go.RowKit
def beyB (u : Unt) (r : Rf) : Bool := !refOk u.pool.length r
def frmB (u : Unt) (r : Rf) : Bool := refOk u.pool.length r && decide (0 ≤ r.at') && decide (¬ (path (nm u r.at') : Int) = r.parts)
theorem any_congr {α : Type} {q r : α → Bool} : ∀ {l : List α}, (∀ x ∈ l, q x = r x) → l.any q = l.any r
  | [], _ => rfl
  | x :: l, h => by rw [List.any_cons, List.any_cons, h x (List.mem_cons_self ..), any_congr fun y hy => h y (List.mem_cons_of_mem _ hy)]
section
variable {p : Rf → Bool} (hp : ∀ r : Rf, r.at' = -1 → r.opt = true → p r = false)
include hp
theorem ty_any {t : Ty} (hb : bare t = true) : (tyU t).any p = p (typed t) := by
  unfold tyU
  cases ht : tcls t with
  | true => simp [typed, ht]
  | false =>
    have : t.cls = -1 := by simpa [bare, ht] using hb
    simp [hp (typed t) this (by simp [typed, ht])]
theorem fld_any {f : Fld} (hb : bare f.ty = true) : (fldU f).any p = (fref f).any p := by simp [fldU, fref, ty_any hp hb]
theorem heads_any {u : Unt} (hc : classless u = true) : (headsU u).any p = (refs u).any p := by
  unfold classless at hc
  simp only [Bool.and_eq_true, List.all_eq_true] at hc
  obtain ⟨⟨h1, h2⟩, h3⟩ := hc
  unfold headsU refs
  rw [List.any_append, List.any_append, List.any_append, List.any_append, List.any_flatMap, List.any_flatMap, List.any_flatMap, List.any_flatMap, List.any_flatMap, List.any_flatMap]
  congr 1
  · congr 1
    · refine any_congr fun c hcm => ?_
      have hb := h1 c hcm
      simp only [bcls, List.all_eq_true] at hb
      simp only [clsU, cref, List.any_cons, List.any_append, List.any_nil, Bool.or_false, Bool.or_assoc]
      congr 2
      rw [List.any_flatMap, List.any_flatMap]
      exact any_congr fun f hf => fld_any hp (hb f hf)
    · exact any_congr fun f hf => fld_any hp (h2 f hf)
  · refine any_congr fun m hm => ?_
    have hb := h3 m hm
    simp only [bmth, Bool.and_eq_true, List.all_eq_true] at hb
    obtain ⟨⟨g1, g2⟩, g3⟩ := hb
    have e : ∀ l : List Ty, (∀ t ∈ l, bare t = true) → (l.flatMap tyU).any p = (l.map typed).any p := fun l hl => by
      rw [List.any_flatMap, List.any_map]
      exact any_congr fun t ht => ty_any hp (hl t ht)
    simp only [mthU, mref, List.any_cons, List.any_append, List.any_nil, Bool.or_false, Bool.or_assoc, List.flatMap_cons, List.flatMap_nil, List.append_nil]
    rw [e _ g2, e _ g3, ty_any hp g1]
end
theorem bey_none (u : Unt) : ∀ r : Rf, r.at' = -1 → r.opt = true → beyB u r = false := fun r h1 h2 => by simp [beyB, refOk, h1, h2]
theorem frm_none (u : Unt) : ∀ r : Rf, r.at' = -1 → r.opt = true → frmB u r = false := fun r h1 h2 => by simp [frmB, h1]
theorem heads_bey {u : Unt} (hc : classless u = true) : (headsU u).any (beyB u) = !(refs u).all (refOk u.pool.length) := by
  rw [heads_any (bey_none u) hc, List.not_all_eq_any_not]; rfl
theorem heads_frm {u : Unt} (hc : classless u = true) (hr : (refs u).all (refOk u.pool.length) = true) : (headsU u).any (frmB u) = !refsOk u := by
  rw [heads_any (frm_none u) hc]
  unfold refsOk
  rw [List.not_all_eq_any_not]
  rw [List.all_eq_true] at hr
  have : ∀ l : List Rf, (∀ r ∈ l, refOk u.pool.length r = true) → l.any (frmB u) = l.any fun r => !!(decide (0 ≤ r.at') && decide (¬ (path (nm u r.at') : Int) = r.parts)) := by
    intro l hl
    induction l with
    | nil => rfl
    | cons r l ih =>
      rw [List.any_cons, List.any_cons, ih fun x hx => hl x (List.mem_cons_of_mem _ hx)]
      congr 1
      unfold frmB
      rw [hl r (List.mem_cons_self ..)]; simp
  exact this _ hr
/-- the words of one instruction -/
theorem op_any {u : Unt} {i : Ins} (hv : validI i true = true) : ((opU i).any (beyB u) || (opU i).any (frmB u)) = !insOk u i := by
  have hge := operand_ge i hv
  have h12 : i.op = 12 → i.a = 2 ∨ i.a = 3 ∨ i.a = 4 := fun h => by
    obtain ⟨op, a, b⟩ := i
    subst h
    simp [validI, inR, rngs, isPool] at hv
    simp only
    omega
  have key : opU i = if 0 < (operand i).2 then [⟨(operand i).1, (operand i).2, false⟩] else [] := by
    unfold opU operand named
    by_cases e1 : i.op = 17 ∨ i.op = 18
    · simp [e1]
    by_cases e2 : i.op = 14 ∨ i.op = 24 ∨ i.op = 22 ∨ i.op = 23 ∨ i.op = 25
    · simp [e1, e2]
    by_cases e3 : i.op = 16
    · simp [e3]
    by_cases e4 : i.op = 12
    · have := h12 e4
      by_cases e5 : i.a = 3
      · simp [e4, e5]
      · have e6 : i.a = 2 ∨ i.a = 4 := by omega
        simp [e4, e5, e6]
    by_cases e7 : i.op = 26
    · simp [e7]
    simp [e1, e2, e3, e4, e7]
  rw [key]
  unfold insOk
  by_cases h0 : 0 < (operand i).2
  · have h1 := hge h0
    simp only [if_pos h0, List.any_cons, List.any_nil, Bool.or_false, decide_eq_true h0, Bool.true_and, Bool.not_not]
    unfold beyB frmB refOk
    simp only [Bool.and_false, Bool.false_or]
    by_cases h2 : (operand i).1 ≥ u.pool.length
    · simp [h2]
    · have h3 : ¬ (operand i).1 < 0 := by omega
      simp [h2, h3, h1]
  · simp [h0]
end Go.Proofs.YtopjmiklpnejmaaGreatDoor
/- Walks: the program's Check of a unit. -/
namespace Go.Proofs.YtopjmiklpnejmaaGreatDoor
open Eng Go.RowKit
/-- what Check's visitor keeps: all but two cells stay; these tell what it has seen -/
structure SeeJ (u : Unt) (bb bf : Nat) (w0 : World) (pre : List Rf) (w : World) : Prop where
  os : w.os = w0.os
  tape : w.tape = w0.tape
  output : w.output = w0.output
  size : w0.heap.size ≤ w.heap.size
  block : ∀ k, k < w0.heap.size → k ≠ bb → k ≠ bf → w.heap[k]? = w0.heap[k]?
  bey : Box w bb 4 [.bool (pre.any (beyB u))]
  frm : Box w bf 4 [.bool (pre.any (frmB u))]
abbrev seeS (bb bf : Nat) (w0 : World) : Nat → Prop := fun i => i < w0.heap.size ∧ i ≠ bb ∧ i ≠ bf
theorem SeeJ.bl {u : Unt} {bb bf : Nat} {w0 : World} {pre : List Rf} {w w' : World} (h : SeeJ u bb bf w0 pre w) (k : Bl w w') : SeeJ u bb bf w0 pre w' :=
  ⟨k.os.trans h.os, k.tape.trans h.tape, k.output.trans h.output, Nat.le_trans h.size k.size, fun i h1 h2 h3 => (k.block i (Nat.lt_of_lt_of_le h1 h.size)).trans (h.block i h1 h2 h3), Bl.box k h.bey, Bl.box k h.frm⟩
theorem SeeJ.kp {u : Unt} {bb bf : Nat} {w0 : World} {pre : List Rf} {w : World} (h : SeeJ u bb bf w0 pre w) : Kp (seeS bb bf w0) w0 w := fun b o v s x => by
  rw [World.cell?_of_block (w := w0) (h.block b s.1 s.2.1 s.2.2)]; exact x
theorem SeeJ.below {u : Unt} {bb bf B : Nat} {w00 w0 : World} {pre : List Rf} {w : World} (h : SeeJ u bb bf w0 pre w) (k : Below B w00 w0) (h1 : B ≤ bb) (h2 : B ≤ bf) (h3 : B ≤ w0.heap.size) : Below B w00 w :=
  ⟨h.os.trans k.os, h.tape.trans k.tape, h.output.trans k.output, Nat.le_trans k.size h.size, fun i hi => (h.block i (by omega) (by omega) (by omega)).trans (k.block i hi)⟩
theorem v_see (u : Unt) (a : UA) (b1 bb bf : Nat) (hne : bb ≠ bf) (n1 : b1 ≠ bb) (n2 : b1 ≠ bf) (w0 : World) (hb1 : b1 < w0.heap.size) (_hbb : bb < w0.heap.size) (_hbf : bf < w0.heap.size) (hU : UnR (seeS bb bf w0) w0 u a) (hx : At w0 b1 0 (ucells u a)) (hG : Gl w0) (hGg : seeS bb bf w0 0) :
    EachC (seeS bb bf w0) w0 49 [.pointer (some ⟨b1, 0, none⟩), .pointer (some ⟨bb, 0, none⟩), .pointer (some ⟨bf, 0, none⟩)] (SeeJ u bb bf w0) (fun _ => True) := by
  refine ⟨fun pre w h => h.kp, fun pre w w' k h => h.bl k, fun pre r b o w _ hJ hc => ?_⟩
  have hb1S : seeS bb bf w0 b1 := ⟨hb1, n1, n2⟩
  show Ret Tryz.prog 49 #[.agg #[.pointer (some ⟨b, o, none⟩), I r.parts, .bool r.opt], .pointer (some ⟨b1, 0, none⟩), .pointer (some ⟨bb, 0, none⟩), .pointer (some ⟨bf, 0, none⟩)] w _
  refine entr (vs := [.agg #[.pointer (some ⟨b, o, none⟩), I r.parts, .bool r.opt], .pointer (some ⟨b1, 0, none⟩), .pointer (some ⟨bb, 0, none⟩), .pointer (some ⟨bf, 0, none⟩)]) [0, 1, 2, 3, 4, 5, 10, 17, 27] tabok Tryz.func49 (by kernel_rfl) ?_
  refine bx (cs := [.pointer (some ⟨b, o, none⟩), I r.parts, .bool r.opt]) fun b4 w1 h1 => ?_
  have hJ1 := hJ.bl h1.bl
  have X1 := hx.kp hJ1.kp hb1S
  refine ld (h1.box.cell rfl) ?_
  refine ld (h1.bl.kp T _ _ _ trivial hc) ?_
  refine ld (h1.box.cell rfl) ?_
  have e1 : ∀ p : Rf → Bool, (pre ++ [r]).any p = (pre.any p || p r) := fun p => by rw [List.any_append]; simp
  have stay : beyB u r = false → frmB u r = false → ∀ {w'}, SeeJ u bb bf w0 pre w' → SeeJ u bb bf w0 (pre ++ [r]) w' := fun h1 h2 w' h => ⟨h.os, h.tape, h.output, h.size, h.block, by rw [e1, h1, Bool.or_false]; exact h.bey, by rw [e1, h2, Bool.or_false]; exact h.frm⟩
  refine br (t := r.opt && decide (r.at' = -1)) (fun h => ?_) (fun h => ?_)
  · simp only [Bool.and_eq_true, decide_eq_true_eq] at h
    exact en (vs := []) (stay (bey_none u r h.2 h.1) (frm_none u r h.2 h.1) hJ1)
  refine ldg (fun _ => X1 1 _ rfl) ?_
  refine br (t := decide (r.at' < 0) || decide ((u.pool.length : Int) ≤ r.at')) (fun h2 => ?_) (fun h2 => ?_)
  · have hb : beyB u r = true := by
      unfold beyB refOk
      have e3 : (decide (r.at' = -1) && r.opt) = false := by rw [Bool.and_comm]; exact h
      rw [e3]; simpa using h2
    have hf : frmB u r = false := by unfold frmB; unfold beyB at hb; simp at hb; simp [hb]
    refine st hJ1.bey (fun w2 h3 y3 => ?_)
    refine en (vs := []) ⟨h3.os.trans hJ1.os, h3.tape.trans hJ1.tape, h3.output.trans hJ1.output, by rw [h3.size]; exact hJ1.size, fun i g1 g2 g3 => (h3.block i g2).trans (hJ1.block i g1 g2 g3), by rw [e1, hb, Bool.or_true]; exact y3, by rw [e1, hf, Bool.or_false]; exact h3.box hJ1.frm (Ne.symm hne)⟩
  have hin : inP u r.at' := by
    simp only [Bool.or_eq_false_iff, decide_eq_false_iff_not] at h2
    exact ⟨by omega, by omega⟩
  have hok : refOk u.pool.length r = true := by unfold refOk; obtain ⟨g1, g2⟩ := hin; simp; right; omega
  have hb : beyB u r = false := by unfold beyB; rw [hok]; rfl
  obtain ⟨b9, o9, e9, hS9, hc9, hz9, hi9, hp9⟩ := pool_at hU hin
  refine dh T [0, 1, 2, 3, 4, 6, 7, 5, 8, 9] fun w2 h2 => ?_
  have hJ2 := hJ1.bl h2.bl
  refine ld ((hx.kp hJ2.kp hb1S) 1 _ rfl) ?_
  rw [e9]
  refine ix (hij := hi9) ?_
  refine ld (hJ2.kp _ _ _ hS9 hc9) ?_
  refine ld ((h2.box h1.box).cell rfl) ?_
  refine cl (u_Path (nm u r.at') w2 hz9 (hG.kp hJ2.kp hGg)) ?_
  rintro _ w3 ⟨rfl, hB3⟩
  have hJ3 := hJ2.bl hB3
  refine br (t := decide (¬ (path (nm u r.at') : Int) = r.parts)) (fun h3 => ?_) (fun h3 => ?_)
  · have hf : frmB u r = true := by unfold frmB; rw [hok, decide_eq_true hin.1, h3]; rfl
    refine st hJ3.frm (fun w4 h4 y4 => ?_)
    refine en (vs := []) ⟨h4.os.trans hJ3.os, h4.tape.trans hJ3.tape, h4.output.trans hJ3.output, by rw [h4.size]; exact hJ3.size, fun i g1 g2 g3 => (h4.block i g3).trans (hJ3.block i g1 g2 g3), by rw [e1, hb, Bool.or_false]; exact h4.box hJ3.bey hne, by rw [e1, hf, Bool.or_true]; exact y4⟩
  · have hf : frmB u r = false := by unfold frmB; rw [h3, Bool.and_false]
    exact en (vs := []) (stay hb hf hJ3)
end Go.Proofs.YtopjmiklpnejmaaGreatDoor
/- Walks: the program's Check of a unit is the document's. -/
namespace Go.Proofs.YtopjmiklpnejmaaGreatDoor
open Eng Go.RowKit
theorem Gl.lt {w : World} (h : Gl w) : 0 < w.heap.size := let ⟨_, hm⟩ := h; cell_lt hm
theorem u_Check2 (s : ByteArray) (w : World) (hs : s.size ≤ 1048576) (hG : Gl w) : Ret Tryz.prog 51 #[.string s] w fun v w' => v = .bool (decide ((path s : Int) = 0)) ∧ Bl w w' := by
  refine entr (vs := [.string s]) [0, 2] tabok Tryz.func51 (by kernel_rfl) ?_
  refine cl (u_Path s w hs hG) ?_
  rintro _ w1 ⟨rfl, hB⟩
  exact rt1 ⟨rfl, hB⟩
set_option maxHeartbeats 1000000 in
theorem u_Check (u : Unt) (a : UA) (w : World) (hU : UnR T w u a) (hG : Gl w) : Ret Tryz.prog 21 #[.agg (ucells u a).toArray] w fun v w' => v = I (checkE u) ∧ Bl w w' := by
  have hgl := hG.lt
  refine entr (vs := [.agg (ucells u a).toArray]) [0, 1, 2, 3, 4, 5, 7, 8, 10, 12, 21, 24, 30, 32, 35, 36, 37, 38, 45, 49, 50, 51, 52, 63] tabok Tryz.func21 (by kernel_rfl) ?_
  refine bx (cs := ucells u a) fun b1 w1 h1 => ?_
  refine al fun bb w2 h2 => ?_
  refine al fun bf w3 h3 => ?_
  have q1 := h1.blk
  have q2 := h2.blk
  have q3 := h3.blk
  have z1 := h1.size
  have z2 := h2.size
  have z3 := h3.size
  refine st (Bl.box h3.bl h2.box) (fun w4 h4 y4 => ?_)
  have hf4 := h4.box h3.box (by omega)
  refine st hf4 (fun w5 h5 y5 => ?_)
  have yb5 := h5.box y4 (by omega)
  have z4 := h4.size
  have z5 := h5.size
  have hB5 : Bl w w5 := Below.trans (Below.trans ((h1.bl.trans h2.bl).trans h3.bl) (h4.below (by omega))) (h5.below (by omega))
  have x5 : Box w5 b1 _ (ucells u a) := h5.box (h4.box (Bl.box (h2.bl.trans h3.bl) h1.box) (by omega)) (by omega)
  refine cl (u_long u a b1 w5 x5.at (hU.bl hB5)) ?_
  rintro _ w6 ⟨rfl, hB6⟩
  have hB06 := hB5.trans hB6
  refine br (t := !limits u) (fun h => ?_) (fun h => ?_)
  · exact rt1 ⟨vi (by unfold checkE; rw [if_pos (by simpa using h)]), hB06⟩
  have hl1 : limits u = true := by simpa using h
  have hL := lim_of hl1
  have x6 := Bl.box hB6 x5
  refine ld (x6.cell rfl) ?_
  refine cl (u_Simple u.name w6 hU.nm) ?_
  rintro _ w6 ⟨rfl, rfl⟩
  refine ldg (fun _ => x6.cell rfl) ?_
  refine sp (.bool false) (fun q => ?_) (fun q => ?_)
  rotate_left
  · have hs0 : simple u.name = false := by simpa using q
    refine brt ?_ (hp := by rw [hs0]; rfl)
    exact rt1 ⟨vi (by unfold checkE; rw [if_neg (by rw [hl1]; simp), if_pos hs0]), hB06⟩
  have hs1 : simple u.name = true := by simpa using q
  refine cl (ContainsFunc_str u.pool a.a1 a.c1 51 [] (fun s => decide ((path s : Int) = 0)) T w6 (hU.bl hB06).pool (fun s cs hs w' hB' hr => ?_)) ?_
  · obtain rfl : cs = [.string s] := hr
    exact u_Check2 s w' (hU.ps s hs) (hG.bl (hB06.trans hB'))
  rintro _ w7 ⟨rfl, hB7⟩
  have hB07 := hB06.trans hB7
  have eP : pathsOk u = !(u.pool.any fun s => decide ((path s : Int) = 0)) := by
    unfold pathsOk
    rw [← Bool.not_not (u.pool.all _), List.not_all_eq_any_not]
    congr 1
    exact congrArg (fun f => u.pool.any f) (funext fun s => by by_cases h : (path s : Int) = 0 <;> simp [h])
  refine br (t := false || u.pool.any fun s => decide ((path s : Int) = 0)) (fun h => ?_) (fun h => ?_)
  · have h' : (u.pool.any fun s => decide ((path s : Int) = 0)) = true := by simpa using h
    exact rt1 ⟨vi (by unfold checkE; rw [if_neg (by rw [hl1]; simp), if_neg (by rw [hs1]; simp), if_pos (by rw [eP, h']; rfl)]), hB07⟩
  have h' : (u.pool.any fun s => decide ((path s : Int) = 0)) = false := by simpa using h
  have hp1 : pathsOk u = true := by rw [eP, h']; rfl
  have hE1 : checkE u = if (kinds u && places u) = false then 1 else if refsOk u = false then 8 else if doubled u = true then 9 else if mErr u.methods ≠ 0 then mErr u.methods else if codesOk u = false then 8 else 0 := by
    unfold checkE; rw [if_neg (by rw [hl1]; simp), if_neg (by rw [hs1]; simp), if_neg (by rw [hp1]; simp)]
  have z6 := hB6.size
  have z7 := hB7.size
  have x7 := Bl.box hB7 x6
  have U7 : UnR (seeS bb bf w7) w7 u a := ((hU.lt).bl hB07).sub fun i hi => ⟨by omega, by omega, by omega⟩
  have hE := v_see u a b1 bb bf (by omega) (by omega) (by omega) w7 x7.lt (by omega) (by omega) U7 x7.at (hG.bl hB07) ⟨by omega, by omega, by omega⟩
  have hJ7 : SeeJ u bb bf w7 [] w7 := ⟨rfl, rfl, rfl, Nat.le_refl _, fun _ _ _ _ => rfl, Bl.box (hB6.trans hB7) yb5, Bl.box (hB6.trans hB7) y5⟩
  have hbS : seeS bb bf w7 b1 := ⟨x7.lt, by omega, by omega⟩
  have jb : ∀ {pre w'}, SeeJ u bb bf w7 pre w' → Bl w w' := fun h => h.below hB07 (by omega) (by omega) hB07.size
  refine cl (h_heads hE u (fun _ _ => trivial) a U7 b1 0 hbS x7.at [] w7 hJ7) ?_
  intro v8 w8 hJ8
  rw [List.nil_append] at hJ8
  have hB08 := jb hJ8
  have z8 := hJ8.size
  have X8 := x7.at.kp hJ8.kp hbS
  refine ld (hJ8.bey.cell rfl) ?_
  have U8' : UnR (· < w8.heap.size) w8 u a := ((hU.lt).bl hB08).sub fun i hi => by omega
  have hbey : ∀ {c : Bool}, classless u = c → c = true → (headsU u).any (beyB u) = !(refs u).all (refOk u.pool.length) := fun h1 h2 => heads_bey (by rw [h1, h2])
  refine sp (.bool false) (fun q => ?_) (fun q => ?_)
  rotate_left
  · -- something is beyond
    have q' : (headsU u).any (beyB u) = true := by simpa using q
    refine brt ?_ (hp := by rw [q']; rfl)
    refine rt1 ⟨vi ?_, hB08⟩
    rw [hE1, if_pos]
    cases hc : classless u with
    | false => unfold places; rw [hc]; simp
    | true =>
      rw [heads_bey hc] at q'
      unfold places
      have : (refs u).all (refOk u.pool.length) = false := by simpa using q'
      rw [this]; simp
  have hb8 : (headsU u).any (beyB u) = false := by simpa using q
  refine cl (u_kinds u a b1 w8 U8' (by omega) X8 hL) ?_
  rintro _ w9 ⟨rfl, hB9⟩
  have hJ9 := hJ8.bl hB9
  have hB09 := hB08.trans hB9
  refine br (t := false || !kgood u) (fun h => ?_) (fun h => ?_)
  · have h1 : kgood u = false := by simpa using h
    refine rt1 ⟨vi ?_, hB09⟩
    rw [hE1, if_pos]
    rw [kgood_eq] at h1
    unfold places
    cases hk : kinds u
    · rfl
    · rw [hk] at h1
      have : classless u = false := by simpa using h1
      rw [this]; simp
  have h1 : kgood u = true := by simpa using h
  rw [kgood_eq, Bool.and_eq_true] at h1
  obtain ⟨hk1, hc1⟩ := h1
  have hr1 : (refs u).all (refOk u.pool.length) = true := by rw [heads_bey hc1] at hb8; simpa using hb8
  have hpl : places u = true := by unfold places; rw [hr1, hc1]; rfl
  have hP : Plc u := plc_of hr1
  have hE2 : checkE u = if refsOk u = false then 8 else if doubled u = true then 9 else if mErr u.methods ≠ 0 then mErr u.methods else if codesOk u = false then 8 else 0 := by rw [hE1, if_neg (by rw [hk1, hpl]; simp)]
  have hf8 := heads_frm hc1 hr1
  refine ld (hJ9.frm.cell rfl) ?_
  refine br (t := (headsU u).any (frmB u)) (fun h => ?_) (fun h => ?_)
  · refine rt1 ⟨vi ?_, hB09⟩
    rw [hE2, if_pos]
    rw [hf8] at h; simpa using h
  have hrf : refsOk u = true := by rw [hf8] at h; simpa using h
  have hE3 : checkE u = if doubled u = true then 9 else if mErr u.methods ≠ 0 then mErr u.methods else if codesOk u = false then 8 else 0 := by rw [hE2, if_neg (by rw [hrf]; simp)]
  have X : ∀ {pre w'}, SeeJ u bb bf w7 pre w' → At w' b1 0 (ucells u a) := fun h => x7.at.kp h.kp hbS
  refine cl (u_doubled u a b1 w9 (hU.bl hB09) (X hJ9) hL hP) ?_
  rintro _ w10 ⟨rfl, hB10⟩
  have hJ10 := hJ9.bl hB10
  have hB010 := hB09.trans hB10
  refine br (t := doubled u) (fun h => ?_) (fun h => ?_)
  · exact rt1 ⟨vi (by rw [hE3, if_pos h]), hB010⟩
  have hE4 : checkE u = if mErr u.methods ≠ 0 then mErr u.methods else if codesOk u = false then 8 else 0 := by rw [hE3, if_neg (by rw [h]; simp)]
  have nm3 := hL.mth
  refine ld (X hJ10 4 _ rfl) ?_
  refine lpk u.methods.length 37 [] [(1, .pointer (some ⟨b1, 0, none⟩)), (3, .pointer (some ⟨bb, 0, none⟩)), (4, .pointer (some ⟨bf, 0, none⟩)), (5, .func (.func 49) #[] #[.pointer (some ⟨b1, 0, none⟩), .pointer (some ⟨bb, 0, none⟩), .pointer (some ⟨bf, 0, none⟩)]), (35, .slice a.a4 u.methods.length a.c4), (36, I u.methods.length)]
    (fun k vals w' => vals = [] ∧ (∀ m ∈ u.methods.take k, codeE m.code true = 0) ∧ SeeJ u bb bf w7 (headsU u) w') ⟨rfl, by simp, hJ10⟩ ?_
  rintro k vals w11 hk ⟨rfl, ha11, hJ11⟩ ih
  have hB11 := jb hJ11
  by_cases hlt : k < u.methods.length
  · refine brT ?_
    obtain ⟨m, b2, o2, cs, hm, e2, _, hAt, a1, c1, a2, c2, a3, c3, rfl, f1, f2, f3⟩ := at_some (hU.bl hB11).mth hlt
    rw [e2]
    refine ix ?_
    refine lda hAt ?_
    refine al fun b12 w12 h12 => ?_
    refine sta h12.box (fun w13 h13 y13 => ?_)
    have hB13 := Eng.New.wr h12 h13
    refine ld (y13.cell rfl) ?_
    refine cl (u_codeCheck m.code a3 c3 true T w13 (f3.bl hB13)) ?_
    rintro _ w14 ⟨rfl, hB14⟩
    have hJ14 := hJ11.bl (hB13.trans hB14)
    refine br (t := decide (¬ codeE m.code true = 0)) (fun h => ?_) (fun h => ?_)
    · have h4 := of_decide_eq_true h
      refine rt1 ⟨vi ?_, jb hJ14⟩
      have := mErr_hit hm ha11 h4
      rw [hE4, if_pos (by rw [this]; exact h4), this]
    · have h4 := Classical.not_not.1 (of_decide_eq_false h)
      refine ih hlt ⟨rfl, fun y hy => ?_, hJ14⟩ (hsub := by simp only [e2]; repeat (first | exact True.intro | (refine ⟨rfl, ?_⟩)))
      rw [take_succ_some hm, List.mem_append] at hy
      rcases hy with hy | hy
      · exact ha11 y hy
      · simp at hy; subst hy; exact h4
  refine brF ?_
  obtain rfl : k = u.methods.length := by omega
  rw [List.take_length] at ha11
  have hE5 : checkE u = if codesOk u = false then 8 else 0 := by rw [hE4, if_neg (by rw [mErr_none ha11]; simp)]
  refine ld (X hJ11 4 _ rfl) ?_
  refine lpk u.methods.length 51 [] [(3, .pointer (some ⟨bb, 0, none⟩)), (4, .pointer (some ⟨bf, 0, none⟩)), (5, .func (.func 49) #[] #[.pointer (some ⟨b1, 0, none⟩), .pointer (some ⟨bb, 0, none⟩), .pointer (some ⟨bf, 0, none⟩)]), (49, .slice a.a4 u.methods.length a.c4), (50, I u.methods.length)]
    (fun k vals w' => vals = [] ∧ SeeJ u bb bf w7 (headsU u ++ (u.methods.take k).flatMap fun m => m.code.flatMap opU) w') ⟨rfl, by simpa using hJ11⟩ ?_
  rintro k vals w15 hk ⟨rfl, hJ15⟩ ih
  by_cases hlt : k < u.methods.length
  · refine brT ?_
    obtain ⟨m, b2, o2, cs, hm, e2, hSb, hAt0, a1, c1, a2, c2, a3, c3, rfl, f1, f2, f3⟩ := at_some U7.mth hlt
    rw [e2]
    refine ix ?_
    refine lda (hAt0.kp hJ15.kp hSb) ?_
    refine al fun b16 w16 h16 => ?_
    refine sta h16.box (fun w17 h17 y17 => ?_)
    have hJ17 := hJ15.bl (Eng.New.wr h16 h17)
    refine ld (y17.cell rfl) ?_
    refine cl (h_operands hE m.code (fun _ _ _ _ => trivial) a3 c3 f3 _ w17 hJ17) ?_
    intro v18 w18 hJ18
    refine ih hlt ⟨rfl, ?_⟩ (hsub := by simp only [e2]; repeat (first | exact True.intro | (refine ⟨rfl, ?_⟩)))
    rw [flatMap_snoc hm, ← List.append_assoc]; exact hJ18
  refine brF ?_
  obtain rfl : k = u.methods.length := by omega
  rw [List.take_length] at hJ15
  refine ld (hJ15.bey.cell rfl) ?_
  refine ldg (fun _ => hJ15.frm.cell rfl) ?_
  have hfin : (((headsU u ++ u.methods.flatMap fun m => m.code.flatMap opU).any (beyB u)) || (headsU u ++ u.methods.flatMap fun m => m.code.flatMap opU).any (frmB u)) = !codesOk u := by
    have hf0 : (headsU u).any (frmB u) = false := by rw [hf8, hrf]; rfl
    rw [List.any_append, List.any_append, hb8, hf0, Bool.false_or, Bool.false_or]
    have hval : ∀ m ∈ u.methods, ∀ i ∈ m.code, validI i true = true := fun m hm i hi => by
      have := ha11 m hm
      unfold codeE at this
      split at this
      · cases this
      · split at this
        · rename_i hv
          exact List.all_eq_true.1 hv i hi
        · cases this
    have orflat : ∀ {α : Type} (f : α → List Rf) (l : List α), ((l.flatMap f).any (beyB u) || (l.flatMap f).any (frmB u)) = l.any fun x => (f x).any (beyB u) || (f x).any (frmB u) := fun f l => by
      induction l with
      | nil => rfl
      | cons x l ih =>
        rw [List.flatMap_cons, List.any_append, List.any_append, List.any_cons, ← ih]
        cases (f x).any (beyB u) <;> cases (f x).any (frmB u) <;> cases (l.flatMap f).any (beyB u) <;> cases (l.flatMap f).any (frmB u) <;> rfl
    rw [orflat]
    unfold codesOk
    rw [List.not_all_eq_any_not]
    refine any_congr fun m hm => ?_
    rw [orflat, List.not_all_eq_any_not]
    exact any_congr fun i hi => op_any (hval m hm i hi)
  refine br (t := ((headsU u ++ u.methods.flatMap fun m => m.code.flatMap opU).any (beyB u)) || (headsU u ++ u.methods.flatMap fun m => m.code.flatMap opU).any (frmB u)) (fun h => ?_) (fun h => ?_)
  · rw [hfin] at h
    exact rt1 ⟨vi (by rw [hE5, if_pos (by simpa using h)]), jb hJ15⟩
  · rw [hfin] at h
    exact rt1 ⟨vi (by rw [hE5, if_neg (by simpa using h)]), jb hJ15⟩
end Go.Proofs.YtopjmiklpnejmaaGreatDoor
