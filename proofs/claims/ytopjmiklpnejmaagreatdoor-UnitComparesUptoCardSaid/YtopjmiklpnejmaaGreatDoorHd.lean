/- Walks: the program's ways through a unit, handing each index to a function. -/
import Derived.Test.YtopjmiklpnejmaaGreatDoorSh
namespace Go.Proofs.YtopjmiklpnejmaaGreatDoor
open Eng Go.RowKit
def tyU (t : Ty) : List Rf := if tcls t = true then [⟨t.cls, 2, false⟩] else []
def fldU (f : Fld) : List Rf := ⟨f.name, 1, false⟩ :: tyU f.ty
def clsU (c : Cls) : List Rf := ⟨c.name, 1, false⟩ :: ⟨c.super, 2, true⟩ :: c.fields.flatMap fldU
def mthU (m : Mth) : List Rf := ⟨m.name, 1, false⟩ :: ⟨m.cls, 2, true⟩ :: ([m.params, m.locals].flatMap (·.flatMap tyU) ++ tyU m.result)
def headsU (u : Unt) : List Rf := u.classes.flatMap clsU ++ u.statics.flatMap fldU ++ u.methods.flatMap mthU
def opU (i : Ins) : List Rf :=
  if i.op = 17 ∨ i.op = 18 then [⟨i.a, 3, false⟩] else if i.op = 14 ∨ i.op = 24 ∨ i.op = 22 ∨ i.op = 23 ∨ i.op = 25 then [⟨i.a, 2, false⟩] else if i.op = 16 then [⟨i.b, 2, false⟩] else if i.op = 12 then (if i.a = 3 then [] else [⟨i.b, 2, false⟩]) else if i.op = 26 then [⟨i.a, 1, false⟩] else []
/-- a function that is handed indexes, one after the other: what it keeps, and what it does -/
structure EachC (S : Nat → Prop) (w0 : World) (g : FuncId) (caps : List Value) (J : List Rf → World → Prop) (Pok : Rf → Prop) : Prop where
  kp : ∀ pre w, J pre w → Kp S w0 w
  bl : ∀ pre w w', Bl w w' → J pre w → J pre w'
  run : ∀ pre u b o w, Pok u → J pre w → w.cell? ⟨b, o, none⟩ = some (I u.at') → Ret Tryz.prog g ([Value.agg #[.pointer (some ⟨b, o, none⟩), I u.parts, .bool u.opt]] ++ caps).toArray w fun _ w' => J (pre ++ [u]) w'
section
variable {S : Nat → Prop} {w0 : World} {g : FuncId} {caps : List Value} {J : List Rf → World → Prop} {Pok : Rf → Prop}
theorem h_types (hE : EachC S w0 g caps J Pok) (t : Ty) (ht : ∀ u ∈ tyU t, Pok u) (b o : Nat) (hb : S b) (hAt : At w0 b o [I t.kind, I t.cls]) (pre : List Rf) (w : World) (hJ : J pre w) :
    Ret Tryz.prog 123 #[.pointer (some ⟨b, o, none⟩), .func (.func g) #[] caps.toArray] w fun _ w' => J (pre ++ tyU t) w' := by
  have hA := hAt.kp (hE.kp pre w hJ) hb
  refine entr (vs := [.pointer (some ⟨b, o, none⟩), .func (.func g) #[] caps.toArray]) [0, 1, 15] tabok Tryz.func123 (by kernel_rfl) ?_
  refine ld (hA.two.1) ?_
  refine ldg (fun _ => hA.two.1) ?_
  refine br (t := tcls t) (fun h => ?_) (fun h => ?_)
  · have e : tyU t = [⟨t.cls, 2, false⟩] := by unfold tyU; rw [if_pos h]
    refine bd ?_
    refine cl (hE.run pre ⟨t.cls, 2, false⟩ b (o + 1) w (ht _ (by rw [e]; simp)) hJ hA.two.2) ?_
    intro v w' hJ'
    exact en (vs := []) (by rw [e]; exact hJ')
  · have e : tyU t = [] := by unfold tyU; rw [if_neg (by rw [h]; simp)]
    exact en (vs := []) (by rw [e, List.append_nil]; exact hJ)
theorem fldAt {f : Fld} {b o : Nat} {w : World} (h : At w b o (encFld f)) : At w b (o + 1) [I f.ty.kind, I f.ty.cls] := h.tail
theorem h_fields (hE : EachC S w0 g caps J Pok) (l : List Fld) (hl : ∀ f ∈ l, ∀ u ∈ fldU f, Pok u) (a : Option Addr) (cap : Nat) (hS : Sl eFld S w0 a l) (pre : List Rf) (w : World) (hJ : J pre w) :
    Ret Tryz.prog 122 #[.slice a l.length cap, .func (.func g) #[] caps.toArray] w fun _ w' => J (pre ++ l.flatMap fldU) w' := by
  have hbig := hS.big
  refine entr (vs := [.slice a l.length cap, .func (.func g) #[] caps.toArray]) [0, 1, 4, 6, 7, 8] tabok Tryz.func122 (by kernel_rfl) ?_
  refine lpk l.length 7 [] [(0, .slice a l.length cap), (1, .func (.func g) #[] caps.toArray), (6, I l.length)] (fun k vals w' => vals = [] ∧ J (pre ++ (l.take k).flatMap fldU) w') ⟨rfl, by simpa using hJ⟩ ?_
  rintro k vals w1 hk ⟨rfl, hJ1⟩ ih
  by_cases hlt : k < l.length
  · refine brT ?_
    obtain ⟨f, b, o, cs, hf, rfl, hSb, hAt0, rfl⟩ := at_some hS hlt
    have hm := List.mem_of_getElem? hf
    have hAt := hAt0.kp (hE.kp _ _ hJ1) hSb
    refine ix ?_
    refine bd ?_
    refine cl (hE.run _ ⟨f.name, 1, false⟩ _ _ w1 (hl f hm _ (by simp [fldU])) hJ1 (hAt.three.1)) ?_
    intro v w2 hJ2
    refine ix ?_
    refine cl (h_types hE f.ty (fun u hu => hl f hm u (by simp [fldU, hu])) b _ hSb (fldAt hAt0) _ w2 hJ2) ?_
    intro v3 w3 hJ3
    refine ih hlt ⟨rfl, ?_⟩
    rw [flatMap_snoc hf]
    simpa [fldU] using hJ3
  · refine brF ?_
    obtain rfl : k = l.length := by omega
    exact en (vs := []) (by rw [List.take_length] at hJ1; exact hJ1)
theorem h_heads (hE : EachC S w0 g caps J Pok) (u : Unt) (hP : ∀ r ∈ headsU u, Pok r) (a : UA) (hU : UnR S w0 u a) (b0 o0 : Nat) (hb0 : S b0) (hx : At w0 b0 o0 (ucells u a)) (pre : List Rf) (w : World) (hJ : J pre w) :
    Ret Tryz.prog 52 #[.pointer (some ⟨b0, o0, none⟩), .func (.func g) #[] caps.toArray] w fun _ w' => J (pre ++ headsU u) w' := by
  have n1 := hU.cls.big
  have n2 := hU.sta.big
  have n3 := hU.mth.big
  have X : ∀ {pre w}, J pre w → At w b0 o0 (ucells u a) := fun h => hx.kp (hE.kp _ _ h) hb0
  refine entr (vs := [.pointer (some ⟨b0, o0, none⟩), .func (.func g) #[] caps.toArray]) [0, 1, 4, 5, 6, 7, 9, 10, 15, 16, 17, 54, 55, 56, 84, 85, 86, 89, 90, 91] tabok Tryz.func52 (by kernel_rfl) ?_
  refine ld (X hJ 2 _ rfl) ?_
  refine lpk u.classes.length 16 [] [(0, .pointer (some ⟨b0, o0, none⟩)), (1, .func (.func g) #[] caps.toArray), (15, I u.classes.length)] (fun k vals w' => vals = [] ∧ J (pre ++ (u.classes.take k).flatMap clsU) w') ⟨rfl, by simpa using hJ⟩ ?_
  rintro k vals w1 hk ⟨rfl, hJ1⟩ ih
  by_cases hlt : k < u.classes.length
  · refine brT ?_
    refine ld (X hJ1 2 _ rfl) ?_
    obtain ⟨c, b, o, cs, hc, e2, hSb, hAt0, af, cf, rfl, hF⟩ := at_some hU.cls hlt
    rw [e2]
    have hm := List.mem_of_getElem? hc
    have hAt := hAt0.kp (hE.kp _ _ hJ1) hSb
    have hPc : ∀ r ∈ clsU c, Pok r := fun r hr => hP r (by simp only [headsU, List.mem_append, List.mem_flatMap]; exact .inl (.inl ⟨c, hm, hr⟩))
    refine ix ?_
    refine bd ?_
    refine cl (hE.run _ ⟨c.name, 1, false⟩ _ _ w1 (hPc _ (by simp [clsU])) hJ1 (hAt 0 _ rfl)) ?_
    intro v2 w2 hJ2
    have hAt2 := hAt0.kp (hE.kp _ _ hJ2) hSb
    refine bd ?_
    refine cl (hE.run _ ⟨c.super, 2, true⟩ _ _ w2 (hPc _ (by simp [clsU])) hJ2 (hAt2 1 _ rfl)) ?_
    intro v3 w3 hJ3
    have hAt3 := hAt0.kp (hE.kp _ _ hJ3) hSb
    refine ld (hAt3 2 _ rfl) ?_
    refine cl (h_fields hE c.fields (fun f hf r hr => hPc r (by simp only [clsU, List.mem_cons, List.mem_flatMap]; exact .inr (.inr ⟨f, hf, hr⟩))) af cf hF _ w3 hJ3) ?_
    intro v4 w4 hJ4
    refine ih hlt ⟨rfl, ?_⟩
    rw [flatMap_snoc hc]
    simpa [clsU] using hJ4
  refine brF ?_
  obtain rfl : k = u.classes.length := by omega
  rw [List.take_length] at hJ1
  refine ld (X hJ1 3 _ rfl) ?_
  refine cl (h_fields hE u.statics (fun f hf r hr => hP r (by simp only [headsU, List.mem_append, List.mem_flatMap]; exact .inl (.inr ⟨f, hf, hr⟩))) a.a3 a.c3 hU.sta _ w1 hJ1) ?_
  intro v5 w5 hJ5
  refine ld (X hJ5 4 _ rfl) ?_
  refine lpk u.methods.length 55 [] [(0, .pointer (some ⟨b0, o0, none⟩)), (1, .func (.func g) #[] caps.toArray), (54, I u.methods.length)] (fun k vals w' => vals = [] ∧ J (pre ++ u.classes.flatMap clsU ++ u.statics.flatMap fldU ++ (u.methods.take k).flatMap mthU) w') ⟨rfl, by simpa using hJ5⟩ ?_
  rintro k vals w6 hk ⟨rfl, hJ6⟩ ih
  by_cases hlt : k < u.methods.length
  · refine brT ?_
    refine ld (X hJ6 4 _ rfl) ?_
    obtain ⟨m, b, o, cs, hm', e2, hSb, hAt0, a1, c1, a2, c2, a3, c3, rfl, hF1, hF2, hF3⟩ := at_some hU.mth hlt
    rw [e2]
    have hm := List.mem_of_getElem? hm'
    have hAt := hAt0.kp (hE.kp _ _ hJ6) hSb
    have hPm : ∀ r ∈ mthU m, Pok r := fun r hr => hP r (by simp only [headsU, List.mem_append, List.mem_flatMap]; exact .inr ⟨m, hm, hr⟩)
    refine ix ?_
    refine bd ?_
    refine cl (hE.run _ ⟨m.name, 1, false⟩ _ _ w6 (hPm _ (by simp [mthU])) hJ6 (hAt 0 _ rfl)) ?_
    intro v7 w7 hJ7
    have hAt7 := hAt0.kp (hE.kp _ _ hJ7) hSb
    refine bd ?_
    refine cl (hE.run _ ⟨m.cls, 2, true⟩ _ _ w7 (hPm _ (by simp [mthU])) hJ7 (hAt7 1 _ rfl)) ?_
    intro v8 w8 hJ8
    have hAt8 := hAt0.kp (hE.kp _ _ hJ8) hSb
    refine ds fun w9 h9 => ?_
    have hJ9 := hE.bl _ _ _ h9.bl hJ8
    have hAt9 := hAt0.kp (hE.kp _ _ hJ9) hSb
    refine ld (hAt9 2 _ rfl) ?_
    refine ld (hAt9 3 _ rfl) ?_
    refine bda ?_
    have hL : ∀ j, j < 2 → ∃ aL cL L, [Value.slice a1 m.params.length c1, .slice a2 m.locals.length c2][j * 1]? = some (.slice aL L.length cL) ∧ Sl eTy S w0 aL L ∧ [m.params, m.locals][j]? = some L := fun j hj => by
      rcases j with _ | _ | j
      · exact ⟨a1, c1, m.params, rfl, hF1, rfl⟩
      · exact ⟨a2, c2, m.locals, rfl, hF2, rfl⟩
      · omega
    refine lpk 2 85 [] [(0, .pointer (some ⟨b0, o0, none⟩)), (1, .func (.func g) #[] caps.toArray), (54, I u.methods.length), (55, I k), (7, .pointer (some ⟨b, o + k * 7, none⟩)), (84, .agg #[.slice a1 m.params.length c1, .slice a2 m.locals.length c2])]
      (fun j vals w' => vals = [] ∧ J (pre ++ u.classes.flatMap clsU ++ u.statics.flatMap fldU ++ (u.methods.take k).flatMap mthU ++ [⟨m.name, 1, false⟩] ++ [⟨m.cls, 2, true⟩] ++ ([m.params, m.locals].take j).flatMap (·.flatMap tyU)) w') ⟨rfl, by simpa using hJ9⟩ ?_
    rintro j vals w10 hj ⟨rfl, hJ10⟩ ih2
    by_cases hlt2 : j < 2
    · refine brT ?_
      obtain ⟨aL, cL, L, hv, hSL, hLj⟩ := hL j hlt2
      have hbL := hSL.big
      refine ixv (cs := [Value.slice a1 m.params.length c1, .slice a2 m.locals.length c2]) hv ?_
      refine lpk L.length 90 [] [(0, .pointer (some ⟨b0, o0, none⟩)), (1, .func (.func g) #[] caps.toArray), (54, I u.methods.length), (55, I k), (7, .pointer (some ⟨b, o + k * 7, none⟩)), (84, .agg #[.slice a1 m.params.length c1, .slice a2 m.locals.length c2]), (85, I j), (9, .slice aL L.length cL), (89, I L.length)]
        (fun i vals w' => vals = [] ∧ J (pre ++ u.classes.flatMap clsU ++ u.statics.flatMap fldU ++ (u.methods.take k).flatMap mthU ++ [⟨m.name, 1, false⟩] ++ [⟨m.cls, 2, true⟩] ++ ([m.params, m.locals].take j).flatMap (·.flatMap tyU) ++ (L.take i).flatMap tyU) w') ⟨rfl, by simpa using hJ10⟩ ?_
      rintro i vals w11 hi ⟨rfl, hJ11⟩ ih3
      by_cases hlt3 : i < L.length
      · refine brT ?_
        obtain ⟨t, bt, ot, cst, ht, rfl, hSt, hAt, rfl⟩ := at_some hSL hlt3
        refine ix ?_
        refine cl (h_types hE t (fun r hr => hPm r ?_) bt _ hSt hAt _ w11 hJ11) ?_
        · exact List.mem_cons_of_mem _ (List.mem_cons_of_mem _ (List.mem_append_left _ (List.mem_flatMap.2 ⟨L, List.mem_of_getElem? hLj, List.mem_flatMap.2 ⟨t, List.mem_of_getElem? ht, hr⟩⟩)))
        intro v12 w12 hJ12
        refine ih3 hlt3 ⟨rfl, ?_⟩
        rw [flatMap_snoc ht]
        simpa using hJ12
      · refine brF ?_
        obtain rfl : i = L.length := by omega
        rw [List.take_length] at hJ11
        refine ih2 hlt2 ⟨rfl, ?_⟩
        rw [flatMap_snoc hLj]
        simpa using hJ11
    refine brF ?_
    obtain rfl : j = 2 := by omega
    refine cl (h_types hE m.result (fun r hr => hPm r (by simp [mthU, hr])) b (o + k * 7 + 4) hSb (by
      intro j v hj
      rcases j with _ | _ | j
      · exact hAt0 4 v hj
      · exact hAt0 5 v hj
      · simp at hj) _ w10 hJ10) ?_
    intro v13 w13 hJ13
    refine ih hlt ⟨rfl, ?_⟩
    rw [flatMap_snoc hm']
    simpa [mthU] using hJ13
  · refine brF ?_
    obtain rfl : k = u.methods.length := by omega
    rw [List.take_length] at hJ6
    exact en (vs := []) (by unfold headsU; simpa using hJ6)
theorem h_operands (hE : EachC S w0 g caps J Pok) (l : List Ins) (hl : ∀ i ∈ l, ∀ r ∈ opU i, Pok r) (a : Option Addr) (cap : Nat) (hS : Sl eIns S w0 a l) (pre : List Rf) (w : World) (hJ : J pre w) :
    Ret Tryz.prog 56 #[.slice a l.length cap, .func (.func g) #[] caps.toArray] w fun _ w' => J (pre ++ l.flatMap opU) w' := by
  have hbig := hS.big
  refine entr (vs := [.slice a l.length cap, .func (.func g) #[] caps.toArray]) [0, 1, 4, 5, 7, 8, 9, 17, 18, 27, 39, 47, 53, 60] tabok Tryz.func56 (by kernel_rfl) ?_
  refine lpk l.length 8 [] [(0, .slice a l.length cap), (1, .func (.func g) #[] caps.toArray), (7, I l.length)] (fun k vals w' => vals = [] ∧ J (pre ++ (l.take k).flatMap opU) w') ⟨rfl, by simpa using hJ⟩ ?_
  rintro k vals w1 hk ⟨rfl, hJ1⟩ ih
  by_cases hlt : k < l.length
  · refine brT ?_
    obtain ⟨x, b, o, cs, hx, rfl, hSb, hAt0, rfl⟩ := at_some hS hlt
    have hm := List.mem_of_getElem? hx
    have hAt := hAt0.kp (hE.kp _ _ hJ1) hSb
    have next : ∀ {w2}, J (pre ++ (l.take k).flatMap opU ++ opU x) w2 → J (pre ++ (l.take (k + 1)).flatMap opU) w2 := fun h => by rw [flatMap_snoc hx, ← List.append_assoc]; exact h
    refine ix ?_
    refine ld (hAt.three.1) ?_
    obtain ⟨op, A, B⟩ := x
    by_cases e17 : op = 17
    · subst e17
      refine brT ?_ (hp := rfl)
      refine brT ?_ (hp := rfl)
      refine bd ?_
      refine cl (hE.run _ ⟨A, 3, false⟩ _ _ w1 (hl _ hm _ (by simp [opU])) hJ1 (hAt 1 _ rfl)) ?_
      intro v2 w2 hJ2
      exact ih hlt ⟨rfl, next (by simpa [opU] using hJ2)⟩
    by_cases e18 : op = 18
    · subst e18
      refine brF ?_ (hp := by show ¬ ((18 : Int) = 17); decide)
      refine brT ?_ (hp := rfl)
      refine bd ?_
      refine cl (hE.run _ ⟨A, 3, false⟩ _ _ w1 (hl _ hm _ (by simp [opU])) hJ1 (hAt 1 _ rfl)) ?_
      intro v2 w2 hJ2
      exact ih hlt ⟨rfl, next (by simpa [opU] using hJ2)⟩
    by_cases e14 : op = 14
    · subst e14
      refine brF ?_ (hp := by show ¬ ((14 : Int) = 17); decide)
      refine brF ?_ (hp := by show ¬ ((14 : Int) = 18); decide)
      refine brT ?_ (hp := rfl)
      refine brT ?_ (hp := rfl)
      refine bd ?_
      refine cl (hE.run _ ⟨A, 2, false⟩ _ _ w1 (hl _ hm _ (by simp [opU])) hJ1 (hAt 1 _ rfl)) ?_
      intro v2 w2 hJ2
      exact ih hlt ⟨rfl, next (by simpa [opU] using hJ2)⟩
    by_cases e24 : op = 24
    · subst e24
      refine brF ?_ (hp := by show ¬ ((24 : Int) = 17); decide)
      refine brF ?_ (hp := by show ¬ ((24 : Int) = 18); decide)
      refine brF ?_ (hp := by show ¬ ((24 : Int) = 14); decide)
      refine brT ?_ (hp := rfl)
      refine brT ?_ (hp := rfl)
      refine bd ?_
      refine cl (hE.run _ ⟨A, 2, false⟩ _ _ w1 (hl _ hm _ (by simp [opU])) hJ1 (hAt 1 _ rfl)) ?_
      intro v2 w2 hJ2
      exact ih hlt ⟨rfl, next (by simpa [opU] using hJ2)⟩
    by_cases e22 : op = 22
    · subst e22
      refine brF ?_ (hp := by show ¬ ((22 : Int) = 17); decide)
      refine brF ?_ (hp := by show ¬ ((22 : Int) = 18); decide)
      refine brF ?_ (hp := by show ¬ ((22 : Int) = 14); decide)
      refine brF ?_ (hp := by show ¬ ((22 : Int) = 24); decide)
      refine brT ?_ (hp := rfl)
      refine brT ?_ (hp := rfl)
      refine bd ?_
      refine cl (hE.run _ ⟨A, 2, false⟩ _ _ w1 (hl _ hm _ (by simp [opU])) hJ1 (hAt 1 _ rfl)) ?_
      intro v2 w2 hJ2
      exact ih hlt ⟨rfl, next (by simpa [opU] using hJ2)⟩
    by_cases e23 : op = 23
    · subst e23
      refine brF ?_ (hp := by show ¬ ((23 : Int) = 17); decide)
      refine brF ?_ (hp := by show ¬ ((23 : Int) = 18); decide)
      refine brF ?_ (hp := by show ¬ ((23 : Int) = 14); decide)
      refine brF ?_ (hp := by show ¬ ((23 : Int) = 24); decide)
      refine brF ?_ (hp := by show ¬ ((23 : Int) = 22); decide)
      refine brT ?_ (hp := rfl)
      refine brT ?_ (hp := rfl)
      refine bd ?_
      refine cl (hE.run _ ⟨A, 2, false⟩ _ _ w1 (hl _ hm _ (by simp [opU])) hJ1 (hAt 1 _ rfl)) ?_
      intro v2 w2 hJ2
      exact ih hlt ⟨rfl, next (by simpa [opU] using hJ2)⟩
    by_cases e25 : op = 25
    · subst e25
      refine brF ?_ (hp := by show ¬ ((25 : Int) = 17); decide)
      refine brF ?_ (hp := by show ¬ ((25 : Int) = 18); decide)
      refine brF ?_ (hp := by show ¬ ((25 : Int) = 14); decide)
      refine brF ?_ (hp := by show ¬ ((25 : Int) = 24); decide)
      refine brF ?_ (hp := by show ¬ ((25 : Int) = 22); decide)
      refine brF ?_ (hp := by show ¬ ((25 : Int) = 23); decide)
      refine brT ?_ (hp := rfl)
      refine bd ?_
      refine cl (hE.run _ ⟨A, 2, false⟩ _ _ w1 (hl _ hm _ (by simp [opU])) hJ1 (hAt 1 _ rfl)) ?_
      intro v2 w2 hJ2
      exact ih hlt ⟨rfl, next (by simpa [opU] using hJ2)⟩
    by_cases e16 : op = 16
    · subst e16
      refine brF ?_ (hp := by show ¬ ((16 : Int) = 17); decide)
      refine brF ?_ (hp := by show ¬ ((16 : Int) = 18); decide)
      refine brF ?_ (hp := by show ¬ ((16 : Int) = 14); decide)
      refine brF ?_ (hp := by show ¬ ((16 : Int) = 24); decide)
      refine brF ?_ (hp := by show ¬ ((16 : Int) = 22); decide)
      refine brF ?_ (hp := by show ¬ ((16 : Int) = 23); decide)
      refine brF ?_ (hp := by show ¬ ((16 : Int) = 25); decide)
      refine brT ?_ (hp := rfl)
      refine bd ?_
      refine cl (hE.run _ ⟨B, 2, false⟩ _ _ w1 (hl _ hm _ (by simp [opU])) hJ1 (hAt 2 _ rfl)) ?_
      intro v2 w2 hJ2
      exact ih hlt ⟨rfl, next (by simpa [opU] using hJ2)⟩
    by_cases e26 : op = 26
    · subst e26
      refine brF ?_ (hp := by show ¬ ((26 : Int) = 17); decide)
      refine brF ?_ (hp := by show ¬ ((26 : Int) = 18); decide)
      refine brF ?_ (hp := by show ¬ ((26 : Int) = 14); decide)
      refine brF ?_ (hp := by show ¬ ((26 : Int) = 24); decide)
      refine brF ?_ (hp := by show ¬ ((26 : Int) = 22); decide)
      refine brF ?_ (hp := by show ¬ ((26 : Int) = 23); decide)
      refine brF ?_ (hp := by show ¬ ((26 : Int) = 25); decide)
      refine brF ?_ (hp := by show ¬ ((26 : Int) = 16); decide)
      refine brF ?_ (hp := by show ¬ ((26 : Int) = 12); decide)
      refine brT ?_ (hp := rfl)
      refine bd ?_
      refine cl (hE.run _ ⟨A, 1, false⟩ _ _ w1 (hl _ hm _ (by simp [opU])) hJ1 (hAt 1 _ rfl)) ?_
      intro v2 w2 hJ2
      exact ih hlt ⟨rfl, next (by simpa [opU] using hJ2)⟩
    by_cases e12 : op = 12
    · subst e12
      refine brF ?_ (hp := by show ¬ ((12 : Int) = 17); decide)
      refine brF ?_ (hp := by show ¬ ((12 : Int) = 18); decide)
      refine brF ?_ (hp := by show ¬ ((12 : Int) = 14); decide)
      refine brF ?_ (hp := by show ¬ ((12 : Int) = 24); decide)
      refine brF ?_ (hp := by show ¬ ((12 : Int) = 22); decide)
      refine brF ?_ (hp := by show ¬ ((12 : Int) = 23); decide)
      refine brF ?_ (hp := by show ¬ ((12 : Int) = 25); decide)
      refine brF ?_ (hp := by show ¬ ((12 : Int) = 16); decide)
      refine brT ?_ (hp := rfl)
      refine ld (hAt 1 _ rfl) ?_
      by_cases h3 : A = 3
      · refine brF ?_ (hp := by exact fun h => h h3)
        exact ih hlt ⟨rfl, next (by simpa [opU, h3] using hJ1)⟩
      · refine brT ?_ (hp := by exact h3)
        refine bd ?_
        refine cl (hE.run _ ⟨B, 2, false⟩ _ _ w1 (hl _ hm _ (by simp [opU, h3])) hJ1 (hAt 2 _ rfl)) ?_
        intro v2 w2 hJ2
        exact ih hlt ⟨rfl, next (by simpa [opU, h3] using hJ2)⟩
    refine brF ?_ (hp := e17)
    refine brF ?_ (hp := e18)
    refine brF ?_ (hp := e14)
    refine brF ?_ (hp := e24)
    refine brF ?_ (hp := e22)
    refine brF ?_ (hp := e23)
    refine brF ?_ (hp := e25)
    refine brF ?_ (hp := e16)
    refine brF ?_ (hp := e12)
    refine brF ?_ (hp := e26)
    exact ih hlt ⟨rfl, next (by simpa [opU, e17, e18, e14, e24, e22, e23, e25, e16, e12, e26] using hJ1)⟩
  · refine brF ?_
    obtain rfl : k = l.length := by omega
    exact en (vs := []) (by rw [List.take_length] at hJ1; exact hJ1)
end
end Go.Proofs.YtopjmiklpnejmaaGreatDoor
