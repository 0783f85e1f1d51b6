import Derived.Test.YtkmdfjpafkcleaaGreatDoorM3
import Derived.Test.YtkmdfjpafkcleaaGreatDoorM2
import Derived.Test.YtkmdfjpafkcleaaGreatDoorM4
import Derived.Test.YtkmdfjpafkcleaaGreatDoorM1
/- Walks: the program's ways through a unit, handing each index to a function. -/
namespace Go.Proofs.YtkmdfjpafkcleaaGreatDoor
open Eng Go.RowKit
def tyU (t : Ty) : List Rf := if tcls t = true then [⟨t.cls, 2, false⟩] else []
def fldU (f : Fld) : List Rf := ⟨f.name, 1, false⟩ :: tyU f.ty
def clsU (c : Cls) : List Rf := ⟨c.name, 1, false⟩ :: ⟨c.super, 2, true⟩ :: c.fields.flatMap fldU
def mthU (m : Mth) : List Rf := ⟨m.name, 1, false⟩ :: ⟨m.cls, 2, true⟩ :: ([m.params, m.locals].flatMap (·.flatMap tyU) ++ tyU m.result)
def headsU (u : Unt) : List Rf := u.classes.flatMap clsU ++ u.statics.flatMap fldU ++ u.methods.flatMap mthU
def opU (i : Ins) : List Rf :=
  if i.op = 17 ∨ i.op = 18 then [⟨i.a, 3, false⟩] else if i.op = 14 ∨ i.op = 24 ∨ i.op = 22 ∨ i.op = 23 ∨ i.op = 25 then [⟨i.a, 2, false⟩] else if i.op = 16 then [⟨i.b, 2, false⟩] else if i.op = 12 then (if i.a = 3 then [] else [⟨i.b, 2, false⟩]) else if i.op = 26 then [⟨i.a, 1, false⟩] else []
/-- a function that is handed indexes, one after the other, at most N: what it keeps, and what it does -/
structure EachC (S : Nat → Prop) (w0 : World) (g : FuncId) (caps : List Value) (J : List Rf → World → Prop) (Pok : Rf → Prop) (N : Nat) : Prop where
  kp : ∀ pre w, J pre w → Kp S w0 w
  bl : ∀ pre w w', Bl w w' → J pre w → J pre w'
  run : ∀ pre u b o w, pre.length < N → Pok u → S b → J pre w → w.cell? ⟨b, o, none⟩ = some (I u.at') → Ret Tryz.prog g ([Value.agg #[.pointer (some ⟨b, o, none⟩), I u.parts, .bool u.opt]] ++ caps).toArray w fun _ w' => J (pre ++ [u]) w'
theorem fm_take_le {α β : Type} (f : α → List β) {l : List α} {k : Nat} {x : α} (h : l[k]? = some x) : ((l.take k).flatMap f).length + (f x).length ≤ (l.flatMap f).length := by
  obtain ⟨hk, rfl⟩ := List.getElem?_eq_some_iff.1 h
  conv => rhs; rw [← List.take_append_drop k l, List.drop_eq_getElem_cons hk, List.flatMap_append, List.flatMap_cons, List.length_append, List.length_append]
  omega
section
variable {S : Nat → Prop} {w0 : World} {g : FuncId} {caps : List Value} {J : List Rf → World → Prop} {Pok : Rf → Prop} {N : Nat}
theorem h_types (hE : EachC S w0 g caps J Pok N) (t : Ty) (ht : ∀ u ∈ tyU t, Pok u) (b o : Nat) (hb : S b) (hAt : At w0 b o [I t.kind, I t.cls]) (pre : List Rf) (w : World) (hJ : J pre w) (hN : pre.length + (tyU t).length ≤ N) :
    Ret Tryz.prog 205 #[.pointer (some ⟨b, o, none⟩), .func (.func g) #[] caps.toArray] w fun _ w' => J (pre ++ tyU t) w' := by
  have hA := hAt.kp (hE.kp pre w hJ) hb
  refine entr (vs := [.pointer (some ⟨b, o, none⟩), .func (.func g) #[] caps.toArray]) [0, 1, 15] tabok Tryz.func205 (by kernel_rfl) ?_
  refine ld (hA.two.1) ?_
  refine ldg (fun _ => hA.two.1) ?_
  refine br (t := tcls t) (fun h => ?_) (fun h => ?_)
  · have e : tyU t = [⟨t.cls, 2, false⟩] := by unfold tyU; rw [if_pos h]
    refine bd ?_
    refine cl (hE.run pre ⟨t.cls, 2, false⟩ b (o + 1) w (by rw [e] at hN; exact hN) (ht _ (by rw [e]; simp)) hb hJ hA.two.2) ?_
    intro v w' hJ'
    exact en (vs := []) (by rw [e]; exact hJ')
  · have e : tyU t = [] := by unfold tyU; rw [if_neg (by rw [h]; simp)]
    exact en (vs := []) (by rw [e, List.append_nil]; exact hJ)
theorem fldAt {f : Fld} {b o : Nat} {w : World} (h : At w b o (encFld f)) : At w b (o + 1) [I f.ty.kind, I f.ty.cls] := h.tail
theorem h_fields (hE : EachC S w0 g caps J Pok N) (l : List Fld) (hl : ∀ f ∈ l, ∀ u ∈ fldU f, Pok u) (a : Option Addr) (cap : Nat) (hS : Sl eFld S w0 a l) (pre : List Rf) (w : World) (hJ : J pre w) (hN : pre.length + (l.flatMap fldU).length ≤ N) :
    Ret Tryz.prog 204 #[.slice a l.length cap, .func (.func g) #[] caps.toArray] w fun _ w' => J (pre ++ l.flatMap fldU) w' := by
  have hbig := hS.big
  refine entr (vs := [.slice a l.length cap, .func (.func g) #[] caps.toArray]) [0, 1, 4, 6, 7, 8] tabok Tryz.func204 (by kernel_rfl) ?_
  refine lpk l.length 7 [] [(0, .slice a l.length cap), (1, .func (.func g) #[] caps.toArray), (6, I l.length)] (fun k vals w' => vals = [] ∧ J (pre ++ (l.take k).flatMap fldU) w') ⟨rfl, by simpa using hJ⟩ ?_
  rintro k vals w1 hk ⟨rfl, hJ1⟩ ih
  by_cases hlt : k < l.length
  · refine brT ?_
    obtain ⟨f, b, o, cs, hf, rfl, hSb, hAt0, rfl⟩ := at_some hS hlt
    have hm := List.mem_of_getElem? hf
    have hq := fm_take_le fldU hf
    have hq2 : (fldU f).length = (tyU f.ty).length + 1 := rfl
    have hAt := hAt0.kp (hE.kp _ _ hJ1) hSb
    refine ix ?_
    refine bd ?_
    refine cl (hE.run _ ⟨f.name, 1, false⟩ _ _ w1 (by simp only [List.length_append]; omega) (hl f hm _ (by simp [fldU])) hSb hJ1 (hAt.three.1)) ?_
    intro v w2 hJ2
    refine ix ?_
    refine cl (h_types hE f.ty (fun u hu => hl f hm u (by simp [fldU, hu])) b _ hSb (fldAt hAt0) _ w2 hJ2 (by simp only [List.length_append, List.length_cons, List.length_nil]; omega)) ?_
    intro v3 w3 hJ3
    refine ih hlt ⟨rfl, ?_⟩
    rw [flatMap_snoc hf]
    simpa [fldU] using hJ3
  · refine brF ?_
    obtain rfl : k = l.length := by omega
    exact en (vs := []) (by rw [List.take_length] at hJ1; exact hJ1)
theorem h_heads (hE : EachC S w0 g caps J Pok N) (u : Unt) (hP : ∀ r ∈ headsU u, Pok r) (a : UA) (hU : UnR S w0 u a) (b0 o0 : Nat) (hb0 : S b0) (hx : At w0 b0 o0 (ucells u a)) (pre : List Rf) (w : World) (hJ : J pre w) (hN : pre.length + (headsU u).length ≤ N) :
    Ret Tryz.prog 146 #[.pointer (some ⟨b0, o0, none⟩), .func (.func g) #[] caps.toArray] w fun _ w' => J (pre ++ headsU u) w' := by
  have n1 := hU.cls.big
  have n2 := hU.sta.big
  have n3 := hU.mth.big
  have hh : (headsU u).length = (u.classes.flatMap clsU).length + (u.statics.flatMap fldU).length + (u.methods.flatMap mthU).length := by unfold headsU; rw [List.length_append, List.length_append]
  have X : ∀ {pre w}, J pre w → At w b0 o0 (ucells u a) := fun h => hx.kp (hE.kp _ _ h) hb0
  refine entr (vs := [.pointer (some ⟨b0, o0, none⟩), .func (.func g) #[] caps.toArray]) [0, 1, 4, 5, 6, 7, 9, 10, 15, 16, 17, 54, 55, 56, 84, 85, 86, 89, 90, 91] tabok Tryz.func146 (by kernel_rfl) ?_
  refine ld (X hJ 2 _ rfl) ?_
  refine lpk u.classes.length 16 [] [(0, .pointer (some ⟨b0, o0, none⟩)), (1, .func (.func g) #[] caps.toArray), (15, I u.classes.length)] (fun k vals w' => vals = [] ∧ J (pre ++ (u.classes.take k).flatMap clsU) w') ⟨rfl, by simpa using hJ⟩ ?_
  rintro k vals w1 hk ⟨rfl, hJ1⟩ ih
  by_cases hlt : k < u.classes.length
  · refine brT ?_
    refine ld (X hJ1 2 _ rfl) ?_
    obtain ⟨c, b, o, cs, hc, e2, hSb, hAt0, af, cf, rfl, hF⟩ := at_some hU.cls hlt
    rw [e2]
    have hm := List.mem_of_getElem? hc
    have hAt := hAt0.kp (hE.kp _ _ hJ1) hSb
    have hq := fm_take_le clsU hc
    have hq2 : (clsU c).length = (c.fields.flatMap fldU).length + 2 := rfl
    have hPc : ∀ r ∈ clsU c, Pok r := fun r hr => hP r (by simp only [headsU, List.mem_append, List.mem_flatMap]; exact .inl (.inl ⟨c, hm, hr⟩))
    refine ix ?_
    refine bd ?_
    refine cl (hE.run _ ⟨c.name, 1, false⟩ _ _ w1 (by simp only [List.length_append]; omega) (hPc _ (by simp [clsU])) hSb hJ1 (hAt 0 _ rfl)) ?_
    intro v2 w2 hJ2
    have hAt2 := hAt0.kp (hE.kp _ _ hJ2) hSb
    refine bd ?_
    refine cl (hE.run _ ⟨c.super, 2, true⟩ _ _ w2 (by simp only [List.length_append, List.length_cons, List.length_nil]; omega) (hPc _ (by simp [clsU])) hSb hJ2 (hAt2 1 _ rfl)) ?_
    intro v3 w3 hJ3
    have hAt3 := hAt0.kp (hE.kp _ _ hJ3) hSb
    refine ld (hAt3 2 _ rfl) ?_
    refine cl (h_fields hE c.fields (fun f hf r hr => hPc r (by simp only [clsU, List.mem_cons, List.mem_flatMap]; exact .inr (.inr ⟨f, hf, hr⟩))) af cf hF _ w3 hJ3 (by simp only [List.length_append, List.length_cons, List.length_nil]; omega)) ?_
    intro v4 w4 hJ4
    refine ih hlt ⟨rfl, ?_⟩
    rw [flatMap_snoc hc]
    simpa [clsU] using hJ4
  refine brF ?_
  obtain rfl : k = u.classes.length := by omega
  rw [List.take_length] at hJ1
  refine ld (X hJ1 3 _ rfl) ?_
  refine cl (h_fields hE u.statics (fun f hf r hr => hP r (by simp only [headsU, List.mem_append, List.mem_flatMap]; exact .inl (.inr ⟨f, hf, hr⟩))) a.a3 a.c3 hU.sta _ w1 hJ1 (by simp only [List.length_append]; omega)) ?_
  intro v5 w5 hJ5
  refine ld (X hJ5 4 _ rfl) ?_
  refine lpk u.methods.length 55 [] [(0, .pointer (some ⟨b0, o0, none⟩)), (1, .func (.func g) #[] caps.toArray), (54, I u.methods.length)] (fun k vals w' => vals = [] ∧ J (pre ++ u.classes.flatMap clsU ++ u.statics.flatMap fldU ++ (u.methods.take k).flatMap mthU) w') ⟨rfl, by simpa using hJ5⟩ ?_
  rintro k vals w6 hk ⟨rfl, hJ6⟩ ih
  by_cases hlt : k < u.methods.length
  · refine brT ?_
    refine ld (X hJ6 4 _ rfl) ?_
    obtain ⟨m, b, o, cs, hm', e2, hSb, hAt0, a1, c1, a2, c2, a3, c3, rfl, hF1, hF2, hF3⟩ := at_some hU.mth hlt
    rw [e2]
    have hm := List.mem_of_getElem? hm'
    have hAt := hAt0.kp (hE.kp _ _ hJ6) hSb
    have hq := fm_take_le mthU hm'
    have hq2 : (mthU m).length = ([m.params, m.locals].flatMap (·.flatMap tyU)).length + (tyU m.result).length + 2 := by simp only [mthU, List.length_cons, List.length_append]
    have hPm : ∀ r ∈ mthU m, Pok r := fun r hr => hP r (by simp only [headsU, List.mem_append, List.mem_flatMap]; exact .inr ⟨m, hm, hr⟩)
    refine ix ?_
    refine bd ?_
    refine cl (hE.run _ ⟨m.name, 1, false⟩ _ _ w6 (by simp only [List.length_append]; omega) (hPm _ (by simp [mthU])) hSb hJ6 (hAt 0 _ rfl)) ?_
    intro v7 w7 hJ7
    have hAt7 := hAt0.kp (hE.kp _ _ hJ7) hSb
    refine bd ?_
    refine cl (hE.run _ ⟨m.cls, 2, true⟩ _ _ w7 (by simp only [List.length_append, List.length_cons, List.length_nil]; omega) (hPm _ (by simp [mthU])) hSb hJ7 (hAt7 1 _ rfl)) ?_
    intro v8 w8 hJ8
    have hAt8 := hAt0.kp (hE.kp _ _ hJ8) hSb
    refine ds fun w9 h9 => ?_
    have hJ9 := hE.bl _ _ _ h9.bl hJ8
    have hAt9 := hAt0.kp (hE.kp _ _ hJ9) hSb
    refine ld (hAt9 2 _ rfl) ?_
    refine ld (hAt9 3 _ rfl) ?_
    refine bda ?_
    have hL : ∀ j, j < 2 → ∃ aL cL L, [Value.slice a1 m.params.length c1, .slice a2 m.locals.length c2][j * 1]? = some (.slice aL L.length cL) ∧ Sl eTy S w0 aL L ∧ [m.params, m.locals][j]? = some L := fun j hj => by
      rcases j with _ | _ | j
      · exact ⟨a1, c1, m.params, rfl, hF1, rfl⟩
      · exact ⟨a2, c2, m.locals, rfl, hF2, rfl⟩
      · omega
    refine lpk 2 85 [] [(0, .pointer (some ⟨b0, o0, none⟩)), (1, .func (.func g) #[] caps.toArray), (54, I u.methods.length), (55, I k), (7, .pointer (some ⟨b, o + k * 7, none⟩)), (84, .agg #[.slice a1 m.params.length c1, .slice a2 m.locals.length c2])]
      (fun j vals w' => vals = [] ∧ J (pre ++ u.classes.flatMap clsU ++ u.statics.flatMap fldU ++ (u.methods.take k).flatMap mthU ++ [⟨m.name, 1, false⟩] ++ [⟨m.cls, 2, true⟩] ++ ([m.params, m.locals].take j).flatMap (·.flatMap tyU)) w') ⟨rfl, by simpa using hJ9⟩ ?_
    rintro j vals w10 hj ⟨rfl, hJ10⟩ ih2
    by_cases hlt2 : j < 2
    · refine brT ?_
      obtain ⟨aL, cL, L, hv, hSL, hLj⟩ := hL j hlt2
      have hbL := hSL.big
      have hqL := fm_take_le (fun x : List Ty => x.flatMap tyU) hLj
      refine ixv (cs := [Value.slice a1 m.params.length c1, .slice a2 m.locals.length c2]) hv ?_
      refine lpk L.length 90 [] [(0, .pointer (some ⟨b0, o0, none⟩)), (1, .func (.func g) #[] caps.toArray), (54, I u.methods.length), (55, I k), (7, .pointer (some ⟨b, o + k * 7, none⟩)), (84, .agg #[.slice a1 m.params.length c1, .slice a2 m.locals.length c2]), (85, I j), (9, .slice aL L.length cL), (89, I L.length)]
        (fun i vals w' => vals = [] ∧ J (pre ++ u.classes.flatMap clsU ++ u.statics.flatMap fldU ++ (u.methods.take k).flatMap mthU ++ [⟨m.name, 1, false⟩] ++ [⟨m.cls, 2, true⟩] ++ ([m.params, m.locals].take j).flatMap (·.flatMap tyU) ++ (L.take i).flatMap tyU) w') ⟨rfl, by simpa using hJ10⟩ ?_
      rintro i vals w11 hi ⟨rfl, hJ11⟩ ih3
      by_cases hlt3 : i < L.length
      · refine brT ?_
        obtain ⟨t, bt, ot, cst, ht, rfl, hSt, hAt, rfl⟩ := at_some hSL hlt3
        have hqt := fm_take_le tyU ht
        refine ix ?_
        refine cl (h_types hE t (fun r hr => hPm r ?_) bt _ hSt hAt _ w11 hJ11 (by simp only [List.length_append, List.length_cons, List.length_nil]; omega)) ?_
        · exact List.mem_cons_of_mem _ (List.mem_cons_of_mem _ (List.mem_append_left _ (List.mem_flatMap.2 ⟨L, List.mem_of_getElem? hLj, List.mem_flatMap.2 ⟨t, List.mem_of_getElem? ht, hr⟩⟩)))
        intro v12 w12 hJ12
        refine ih3 hlt3 ⟨rfl, ?_⟩
        rw [flatMap_snoc ht]
        simpa using hJ12
      · refine brF ?_
        obtain rfl : i = L.length := by omega
        rw [List.take_length] at hJ11
        refine ih2 hlt2 ⟨rfl, ?_⟩
        rw [flatMap_snoc hLj]
        simpa using hJ11
    refine brF ?_
    obtain rfl : j = 2 := by omega
    refine cl (h_types hE m.result (fun r hr => hPm r (by simp [mthU, hr])) b (o + k * 7 + 4) hSb (by
      intro j v hj
      rcases j with _ | _ | j
      · exact hAt0 4 v hj
      · exact hAt0 5 v hj
      · simp at hj) _ w10 hJ10 (by rw [show [m.params, m.locals].take 2 = [m.params, m.locals] from rfl]; simp only [List.length_append, List.length_cons, List.length_nil]; omega)) ?_
    intro v13 w13 hJ13
    refine ih hlt ⟨rfl, ?_⟩
    rw [flatMap_snoc hm']
    simpa [mthU] using hJ13
  · refine brF ?_
    obtain rfl : k = u.methods.length := by omega
    rw [List.take_length] at hJ6
    exact en (vs := []) (by unfold headsU; simpa using hJ6)
theorem h_operands (hE : EachC S w0 g caps J Pok N) (l : List Ins) (hl : ∀ i ∈ l, ∀ r ∈ opU i, Pok r) (a : Option Addr) (cap : Nat) (hS : Sl eIns S w0 a l) (pre : List Rf) (w : World) (hJ : J pre w) (hN : pre.length + (l.flatMap opU).length ≤ N) :
    Ret Tryz.prog 150 #[.slice a l.length cap, .func (.func g) #[] caps.toArray] w fun _ w' => J (pre ++ l.flatMap opU) w' := by
  have hbig := hS.big
  refine entr (vs := [.slice a l.length cap, .func (.func g) #[] caps.toArray]) [0, 1, 4, 5, 7, 8, 9, 17, 18, 27, 39, 47, 53, 60] tabok Tryz.func150 (by kernel_rfl) ?_
  refine lpk l.length 8 [] [(0, .slice a l.length cap), (1, .func (.func g) #[] caps.toArray), (7, I l.length)] (fun k vals w' => vals = [] ∧ J (pre ++ (l.take k).flatMap opU) w') ⟨rfl, by simpa using hJ⟩ ?_
  rintro k vals w1 hk ⟨rfl, hJ1⟩ ih
  by_cases hlt : k < l.length
  · refine brT ?_
    obtain ⟨x, b, o, cs, hx, rfl, hSb, hAt0, rfl⟩ := at_some hS hlt
    have hm := List.mem_of_getElem? hx
    have hAt := hAt0.kp (hE.kp _ _ hJ1) hSb
    have hq := fm_take_le opU hx
    have hlen : ∀ {r : Rf}, opU x = [r] → (pre ++ (l.take k).flatMap opU).length < N := fun e => by
      rw [e, List.length_singleton] at hq
      rw [List.length_append]; omega
    have next : ∀ {w2}, J (pre ++ (l.take k).flatMap opU ++ opU x) w2 → J (pre ++ (l.take (k + 1)).flatMap opU) w2 := fun h => by rw [flatMap_snoc hx, ← List.append_assoc]; exact h
    refine ix ?_
    refine ld (hAt.three.1) ?_
    obtain ⟨op, A, B⟩ := x
    by_cases e17 : op = 17
    · subst e17
      refine brT ?_ (hp := rfl)
      refine brT ?_ (hp := rfl)
      refine bd ?_
      refine cl (hE.run _ ⟨A, 3, false⟩ _ _ w1 (hlen (r := ⟨A, 3, false⟩) (by simp [opU])) (hl _ hm _ (by simp [opU])) hSb hJ1 (hAt 1 _ rfl)) ?_
      intro v2 w2 hJ2
      exact ih hlt ⟨rfl, next (by simpa [opU] using hJ2)⟩
    by_cases e18 : op = 18
    · subst e18
      refine brF ?_ (hp := by show ¬ ((18 : Int) = 17); decide)
      refine brT ?_ (hp := rfl)
      refine bd ?_
      refine cl (hE.run _ ⟨A, 3, false⟩ _ _ w1 (hlen (r := ⟨A, 3, false⟩) (by simp [opU])) (hl _ hm _ (by simp [opU])) hSb hJ1 (hAt 1 _ rfl)) ?_
      intro v2 w2 hJ2
      exact ih hlt ⟨rfl, next (by simpa [opU] using hJ2)⟩
    by_cases e14 : op = 14
    · subst e14
      refine brF ?_ (hp := by show ¬ ((14 : Int) = 17); decide)
      refine brF ?_ (hp := by show ¬ ((14 : Int) = 18); decide)
      refine brT ?_ (hp := rfl)
      refine brT ?_ (hp := rfl)
      refine bd ?_
      refine cl (hE.run _ ⟨A, 2, false⟩ _ _ w1 (hlen (r := ⟨A, 2, false⟩) (by simp [opU])) (hl _ hm _ (by simp [opU])) hSb hJ1 (hAt 1 _ rfl)) ?_
      intro v2 w2 hJ2
      exact ih hlt ⟨rfl, next (by simpa [opU] using hJ2)⟩
    by_cases e24 : op = 24
    · subst e24
      refine brF ?_ (hp := by show ¬ ((24 : Int) = 17); decide)
      refine brF ?_ (hp := by show ¬ ((24 : Int) = 18); decide)
      refine brF ?_ (hp := by show ¬ ((24 : Int) = 14); decide)
      refine brT ?_ (hp := rfl)
      refine brT ?_ (hp := rfl)
      refine bd ?_
      refine cl (hE.run _ ⟨A, 2, false⟩ _ _ w1 (hlen (r := ⟨A, 2, false⟩) (by simp [opU])) (hl _ hm _ (by simp [opU])) hSb hJ1 (hAt 1 _ rfl)) ?_
      intro v2 w2 hJ2
      exact ih hlt ⟨rfl, next (by simpa [opU] using hJ2)⟩
    by_cases e22 : op = 22
    · subst e22
      refine brF ?_ (hp := by show ¬ ((22 : Int) = 17); decide)
      refine brF ?_ (hp := by show ¬ ((22 : Int) = 18); decide)
      refine brF ?_ (hp := by show ¬ ((22 : Int) = 14); decide)
      refine brF ?_ (hp := by show ¬ ((22 : Int) = 24); decide)
      refine brT ?_ (hp := rfl)
      refine brT ?_ (hp := rfl)
      refine bd ?_
      refine cl (hE.run _ ⟨A, 2, false⟩ _ _ w1 (hlen (r := ⟨A, 2, false⟩) (by simp [opU])) (hl _ hm _ (by simp [opU])) hSb hJ1 (hAt 1 _ rfl)) ?_
      intro v2 w2 hJ2
      exact ih hlt ⟨rfl, next (by simpa [opU] using hJ2)⟩
    by_cases e23 : op = 23
    · subst e23
      refine brF ?_ (hp := by show ¬ ((23 : Int) = 17); decide)
      refine brF ?_ (hp := by show ¬ ((23 : Int) = 18); decide)
      refine brF ?_ (hp := by show ¬ ((23 : Int) = 14); decide)
      refine brF ?_ (hp := by show ¬ ((23 : Int) = 24); decide)
      refine brF ?_ (hp := by show ¬ ((23 : Int) = 22); decide)
      refine brT ?_ (hp := rfl)
      refine brT ?_ (hp := rfl)
      refine bd ?_
      refine cl (hE.run _ ⟨A, 2, false⟩ _ _ w1 (hlen (r := ⟨A, 2, false⟩) (by simp [opU])) (hl _ hm _ (by simp [opU])) hSb hJ1 (hAt 1 _ rfl)) ?_
      intro v2 w2 hJ2
      exact ih hlt ⟨rfl, next (by simpa [opU] using hJ2)⟩
    by_cases e25 : op = 25
    · subst e25
      refine brF ?_ (hp := by show ¬ ((25 : Int) = 17); decide)
      refine brF ?_ (hp := by show ¬ ((25 : Int) = 18); decide)
      refine brF ?_ (hp := by show ¬ ((25 : Int) = 14); decide)
      refine brF ?_ (hp := by show ¬ ((25 : Int) = 24); decide)
      refine brF ?_ (hp := by show ¬ ((25 : Int) = 22); decide)
      refine brF ?_ (hp := by show ¬ ((25 : Int) = 23); decide)
      refine brT ?_ (hp := rfl)
      refine bd ?_
      refine cl (hE.run _ ⟨A, 2, false⟩ _ _ w1 (hlen (r := ⟨A, 2, false⟩) (by simp [opU])) (hl _ hm _ (by simp [opU])) hSb hJ1 (hAt 1 _ rfl)) ?_
      intro v2 w2 hJ2
      exact ih hlt ⟨rfl, next (by simpa [opU] using hJ2)⟩
    by_cases e16 : op = 16
    · subst e16
      refine brF ?_ (hp := by show ¬ ((16 : Int) = 17); decide)
      refine brF ?_ (hp := by show ¬ ((16 : Int) = 18); decide)
      refine brF ?_ (hp := by show ¬ ((16 : Int) = 14); decide)
      refine brF ?_ (hp := by show ¬ ((16 : Int) = 24); decide)
      refine brF ?_ (hp := by show ¬ ((16 : Int) = 22); decide)
      refine brF ?_ (hp := by show ¬ ((16 : Int) = 23); decide)
      refine brF ?_ (hp := by show ¬ ((16 : Int) = 25); decide)
      refine brT ?_ (hp := rfl)
      refine bd ?_
      refine cl (hE.run _ ⟨B, 2, false⟩ _ _ w1 (hlen (r := ⟨B, 2, false⟩) (by simp [opU])) (hl _ hm _ (by simp [opU])) hSb hJ1 (hAt 2 _ rfl)) ?_
      intro v2 w2 hJ2
      exact ih hlt ⟨rfl, next (by simpa [opU] using hJ2)⟩
    by_cases e26 : op = 26
    · subst e26
      refine brF ?_ (hp := by show ¬ ((26 : Int) = 17); decide)
      refine brF ?_ (hp := by show ¬ ((26 : Int) = 18); decide)
      refine brF ?_ (hp := by show ¬ ((26 : Int) = 14); decide)
      refine brF ?_ (hp := by show ¬ ((26 : Int) = 24); decide)
      refine brF ?_ (hp := by show ¬ ((26 : Int) = 22); decide)
      refine brF ?_ (hp := by show ¬ ((26 : Int) = 23); decide)
      refine brF ?_ (hp := by show ¬ ((26 : Int) = 25); decide)
      refine brF ?_ (hp := by show ¬ ((26 : Int) = 16); decide)
      refine brF ?_ (hp := by show ¬ ((26 : Int) = 12); decide)
      refine brT ?_ (hp := rfl)
      refine bd ?_
      refine cl (hE.run _ ⟨A, 1, false⟩ _ _ w1 (hlen (r := ⟨A, 1, false⟩) (by simp [opU])) (hl _ hm _ (by simp [opU])) hSb hJ1 (hAt 1 _ rfl)) ?_
      intro v2 w2 hJ2
      exact ih hlt ⟨rfl, next (by simpa [opU] using hJ2)⟩
    by_cases e12 : op = 12
    · subst e12
      refine brF ?_ (hp := by show ¬ ((12 : Int) = 17); decide)
      refine brF ?_ (hp := by show ¬ ((12 : Int) = 18); decide)
      refine brF ?_ (hp := by show ¬ ((12 : Int) = 14); decide)
      refine brF ?_ (hp := by show ¬ ((12 : Int) = 24); decide)
      refine brF ?_ (hp := by show ¬ ((12 : Int) = 22); decide)
      refine brF ?_ (hp := by show ¬ ((12 : Int) = 23); decide)
      refine brF ?_ (hp := by show ¬ ((12 : Int) = 25); decide)
      refine brF ?_ (hp := by show ¬ ((12 : Int) = 16); decide)
      refine brT ?_ (hp := rfl)
      refine ld (hAt 1 _ rfl) ?_
      by_cases h3 : A = 3
      · refine brF ?_ (hp := by exact fun h => h h3)
        exact ih hlt ⟨rfl, next (by simpa [opU, h3] using hJ1)⟩
      · refine brT ?_ (hp := by exact h3)
        refine bd ?_
        refine cl (hE.run _ ⟨B, 2, false⟩ _ _ w1 (hlen (r := ⟨B, 2, false⟩) (by simp [opU, h3])) (hl _ hm _ (by simp [opU, h3])) hSb hJ1 (hAt 2 _ rfl)) ?_
        intro v2 w2 hJ2
        exact ih hlt ⟨rfl, next (by simpa [opU, h3] using hJ2)⟩
    refine brF ?_ (hp := e17)
    refine brF ?_ (hp := e18)
    refine brF ?_ (hp := e14)
    refine brF ?_ (hp := e24)
    refine brF ?_ (hp := e22)
    refine brF ?_ (hp := e23)
    refine brF ?_ (hp := e25)
    refine brF ?_ (hp := e16)
    refine brF ?_ (hp := e12)
    refine brF ?_ (hp := e26)
    exact ih hlt ⟨rfl, next (by simpa [opU, e17, e18, e14, e24, e22, e23, e25, e16, e12, e26] using hJ1)⟩
  · refine brF ?_
    obtain rfl : k = l.length := by omega
    exact en (vs := []) (by rw [List.take_length] at hJ1; exact hJ1)
end
end Go.Proofs.YtkmdfjpafkcleaaGreatDoor

/- Walks: the program's word on kinds; slices.Concat and slices.Grow at types. -/
namespace Go.Proofs.YtkmdfjpafkcleaaGreatDoor
open Eng Go.RowKit
theorem c_Grow (n : Nat) (hn : n ≤ 8388608) (w : World) : Ret Tryz.prog 253 #[.slice none 0 0, I n] w fun v w' => ∃ a cap, v = .slice a 0 cap ∧ Ow w' w.heap.size 77 2 a 0 cap [] ∧ Bl w w' := by
  refine entr (vs := [.slice none 0 0, I n]) [0, 1, 4, 6, 16] tabok Tryz.func253 (by kernel_rfl) ?_
  refine brF ?_
  refine cp ?_
  by_cases h0 : n = 0
  · subst h0
    refine brF ?_ (hp := by decide)
    exact rt1 ⟨none, 0, rfl, Ow.nil _ _ _ _, Bl.refl _⟩
  have hw : IntKind.i64.wrap ((n : Int) - IntKind.i64.wrap (((0 : Nat) : Int) - ((0 : Nat) : Int))) = n := by
    rw [show IntKind.i64.wrap (((0 : Nat) : Int) - ((0 : Nat) : Int)) = 0 from rfl, wrap_fit (by omega) (by omega)]; omega
  refine brT ?_ (hp := by rw [hw]; omega)
  refine cp ?_
  refine sl 0 0 ?_
  refine apz (n := n) (kd := .i64) (by omega) hn (fun cap w' hO hc hB => ?_) (hy := by exact congrArg (fun z => some (Value.int .i64 z)) hw)
  refine sl 0 0 ?_
  refine rt1 ⟨some ⟨w.heap.size, 0, none⟩, cap, ?_, hO, hB⟩
  rw [if_neg (by omega)]; rfl
theorem c_Concat (l1 l2 : List Ty) (a1 a2 : Option Addr) (c1 c2 : Nat) (b : Nat) (w : World) (h1 : Sl eTy T w a1 l1) (h2 : Sl eTy T w a2 l2) (hb : At w b 0 [.slice a1 l1.length c1, .slice a2 l2.length c2]) (hs : l1.length + l2.length ≤ 4194304) :
    Ret Tryz.prog 208 #[.slice (some ⟨b, 0, none⟩) 2 2] w fun v w' => ∃ a cap, v = .slice a (l1 ++ l2).length cap ∧ Sl eTy (fun i => w.heap.size ≤ i ∧ i < w'.heap.size) w' a (l1 ++ l2) ∧ Bl w w' := by
  have g1 := h1.big
  have g2 := h2.big
  have hL : ∀ j, j < 2 → ∃ aL cL L, [Value.slice a1 l1.length c1, .slice a2 l2.length c2][j]? = some (.slice aL L.length cL) ∧ Sl eTy T w aL L ∧ [l1, l2][j]? = some L := fun j hj => by
    rcases j with _ | _ | j
    · exact ⟨a1, c1, l1, rfl, h1, rfl⟩
    · exact ⟨a2, c2, l2, rfl, h2, rfl⟩
    · omega
  refine entr (vs := [.slice (some ⟨b, 0, none⟩) 2 2]) [0, 2, 3, 5, 6, 8, 9, 10, 11, 12, 20, 25, 26, 27, 28] tabok Tryz.func208 (by kernel_rfl) ?_
  refine lpk 2 11 [3] [(0, .slice (some ⟨b, 0, none⟩) 2 2), (9, .slice (some ⟨b, 0, none⟩) 2 2), (10, I 2)] (fun j vals w' => vals = [I ((([l1, l2].take j).flatMap id).length : Nat)] ∧ w = w') ⟨rfl, rfl⟩ ?_
  rintro j vals _ hj ⟨rfl, rfl⟩ ih
  by_cases hlt : j < 2
  · refine brT ?_
    obtain ⟨aL, cL, L, hv, hSL, hLj⟩ := hL j hlt
    have hbL := hSL.big
    refine ix ?_
    refine ld (o := 0 + j * 1) (v := .slice aL L.length cL) (by have := hb j _ hv; simpa using this) ?_
    have hlj : (([l1, l2].take j).flatMap id).length + L.length = (([l1, l2].take (j + 1)).flatMap id).length := by rw [flatMap_snoc hLj]; simp
    have hle : (([l1, l2].take (j + 1)).flatMap id).length ≤ l1.length + l2.length := by
      rcases j with _ | _ | j
      · simp
      · simp
      · omega
    have hw : IntKind.i64.wrap (((([l1, l2].take j).flatMap id).length : Nat) + (L.length : Int)) = ((([l1, l2].take (j + 1)).flatMap id).length : Nat) := by rw [wrap_fit (by omega) (by omega)]; omega
    refine brF ?_ (hp := by rw [hw]; omega)
    exact ih hlt ⟨lst1 (vi hw), rfl⟩
  refine brF ?_
  obtain rfl : j = 2 := by omega
  have e2 : (([l1, l2].take 2).flatMap id) = l1 ++ l2 := by simp
  refine cl (c_Grow (([l1, l2].take 2).flatMap id).length (by rw [e2, List.length_append]; omega) w) ?_
  rintro _ w1 ⟨a, cap, rfl, hO, hB1⟩
  refine lpk 2 27 [6] [(25, .slice (some ⟨b, 0, none⟩) 2 2), (26, I 2)] (fun j vals w' => ∃ a cap, vals = [.slice a (([l1, l2].take j).flatMap id).length cap] ∧ OwP 2 encTy w' w.heap.size 77 a cap (([l1, l2].take j).flatMap id) ∧ Bl w w') ⟨a, cap, rfl, hO, hB1⟩ ?_
  rintro j vals w2 hj ⟨a, cap, rfl, hO2, hB2⟩ ih
  by_cases hlt : j < 2
  · refine brT ?_
    obtain ⟨aL, cL, L, hv, hSL, hLj⟩ := hL j hlt
    have hbL := hSL.big
    refine ix ?_
    refine ld (o := 0 + j * 1) (v := .slice aL L.length cL) (by have := (hb.bl hB2) j _ hv; simpa using this) ?_
    have hle : (([l1, l2].take j).flatMap id).length ≤ l1.length + l2.length := by
      rcases j with _ | _ | j
      · simp
      · simp
      · omega
    refine apl hO2 (src_of (hSL.bl hB2)) hB2.size (fun a' cap' w3 hO3 hA _ => ?_)
    refine ih hlt ⟨a', cap', ?_, ?_, Eng.Ow.below hO2 hA hB2 hB2.size⟩
    · rw [flatMap_snoc hLj]; rfl
    · rw [flatMap_snoc hLj]; exact hO3
  refine brF ?_
  obtain rfl : j = 2 := by omega
  rw [e2] at hO2 ⊢
  exact rt1 ⟨a, cap, rfl, owp_sl hO2 (by rw [List.length_append]; omega) (fun _ hg => hO2.lt hg), hB2⟩
end Go.Proofs.YtkmdfjpafkcleaaGreatDoor

/- Walks: the program's word on kinds. -/
namespace Go.Proofs.YtkmdfjpafkcleaaGreatDoor
open Eng Go.RowKit
theorem Eng.Ap.trans {a b c : World} {x : Option Addr} (h : Ap a x b) (k : Ap b x c) : Ap a x c :=
  ⟨k.os.trans h.os, k.tape.trans h.tape, k.output.trans h.output, Nat.le_trans h.size k.size, fun i hi hx => (k.block i (Nat.lt_of_lt_of_le hi h.size) hx).trans (h.block i hi hx)⟩
theorem Eng.Ap.bl {w w' : World} (h : Bl w w') (x : Option Addr) : Ap w x w' := ⟨h.os, h.tape, h.output, h.size, fun i hi _ => h.block i hi⟩
theorem Eng.Ap.wr {w w' : World} {g : Nat} (h : Wr w g w') : Ap w (some ⟨g, 0, none⟩) w' := ⟨h.os, h.tape, h.output, by rw [h.size]; exact Nat.le_refl _, fun i _ hx => h.block i fun e => hx (by rw [e])⟩
theorem ap_ne {g b : Nat} (h : b ≠ g) : some (⟨g, 0, none⟩ : Addr) ≠ some ⟨b, 0, none⟩ := fun e => by cases e; exact h rfl
/-- a type is of a kind that may stand there, with a class just where one belongs -/
def sOk (t : Ty) (least : Int) : Bool := decide (least ≤ t.kind) && decide (t.kind ≤ 4) && (tcls t || decide (t.cls = -1))
theorem k_see (t : Ty) (least : Int) (g : Nat) (b : Bool) (w : World) (hg : Box w g 4 [.bool b]) :
    Ret Tryz.prog 206 #[.agg #[I t.kind, I t.cls], I least, .pointer (some ⟨g, 0, none⟩)] w fun _ w' => Box w' g 4 [.bool (b && sOk t least)] ∧ Ap w (some ⟨g, 0, none⟩) w' := by
  refine entr (vs := [.agg #[I t.kind, I t.cls], I least, .pointer (some ⟨g, 0, none⟩)]) [0, 1, 2, 3, 5] tabok Tryz.func206 (by kernel_rfl) ?_
  refine bx (cs := [I t.kind, I t.cls]) fun b1 w1 h1 => ?_
  refine ld (h1.box.cell rfl) ?_
  refine ldg (fun _ => h1.box.cell rfl) ?_
  have hg1 := Bl.box h1.bl hg
  refine ld (hg1.cell rfl) ?_
  refine ldg (fun _ => h1.box.cell rfl) ?_
  refine ldg (fun _ => h1.box.cell rfl) ?_
  refine ldg2 (fun _ _ => h1.box.cell rfl) ?_
  refine st hg1 (fun w2 h2 hg2 => ?_)
  refine en (vs := []) ⟨?_, (Eng.Ap.bl h1.bl _).trans (Eng.Ap.wr h2)⟩
  have e : (b && sOk t least) = (((b && decide (least ≤ t.kind)) && decide (t.kind ≤ 4)) && (tcls t || decide (t.cls = -1))) := by unfold sOk; cases b <;> simp [Bool.and_assoc]
  rw [e]; exact hg2
abbrev seeF (g : Nat) : Value := .func (.func 206) #[] #[.pointer (some ⟨g, 0, none⟩)]
def fOk (l : List Fld) : Bool := l.all fun f => sOk f.ty 1
theorem all_take_succ {α : Type} {p : α → Bool} {l : List α} {k : Nat} {x : α} (hx : l[k]? = some x) : (l.take (k + 1)).all p = ((l.take k).all p && p x) := by rw [take_succ_some hx, List.all_append]; simp
theorem k_all (l : List Fld) (a : Option Addr) (cap g g2 : Nat) (b : Bool) (S : Nat → Prop) (hgS : ¬ S g) (hne : g2 ≠ g) (w : World) (hS : Sl eFld S w a l) (hg : Box w g 4 [.bool b]) (hg2 : Box w g2 241 [seeF g]) :
    Ret Tryz.prog 207 #[.slice a l.length cap, .pointer (some ⟨g2, 0, none⟩)] w fun _ w' => Box w' g 4 [.bool (b && fOk l)] ∧ Ap w (some ⟨g, 0, none⟩) w' := by
  have hbig := hS.big
  have kS : ∀ {w'}, Ap w (some ⟨g, 0, none⟩) w' → Kp S w w' := fun h => Kp.sub h.kp fun i hi e => by cases e; exact hgS hi
  refine entr (vs := [.slice a l.length cap, .pointer (some ⟨g2, 0, none⟩)]) [0, 1, 4, 5, 6, 7, 8] tabok Tryz.func207 (by kernel_rfl) ?_
  refine lpk l.length 7 [] [(0, .slice a l.length cap), (1, .pointer (some ⟨g2, 0, none⟩)), (5, .slice a l.length cap), (6, I l.length)] (fun k vals w' => vals = [] ∧ Box w' g 4 [.bool (b && fOk (l.take k))] ∧ Ap w (some ⟨g, 0, none⟩) w') ⟨rfl, by simpa [fOk] using hg, Eng.Ap.bl (Bl.refl _) _⟩ ?_
  rintro k vals w1 hk ⟨rfl, hg1, hA1⟩ ih
  by_cases hlt : k < l.length
  · refine brT ?_
    obtain ⟨f, b4, o4, cs, hf, rfl, _, hAt, rfl⟩ := at_some (hS.kp (kS hA1)) hlt
    refine ix ?_
    refine lda hAt ?_
    refine al fun b5 w2 h2 => ?_
    refine sta h2.box (fun w3 h3 y3 => ?_)
    have hB3 : Bl w1 w3 := Eng.New.wr h2 h3
    have hg3 := Bl.box hB3 hg1
    refine ld ((Bl.box hB3 (hA1.box hg2 (ap_ne hne))).cell rfl) ?_
    refine lda (fldAt y3.at) ?_
    refine cl (k_see f.ty 1 g _ w3 hg3) ?_
    rintro v w4 ⟨hg4, hA4⟩
    refine ih hlt ⟨rfl, ?_, (hA1.trans (Eng.Ap.bl hB3 _)).trans hA4⟩
    have e : (b && fOk (l.take (k + 1))) = (b && fOk (l.take k) && sOk f.ty 1) := by unfold fOk; rw [all_take_succ hf, Bool.and_assoc]
    rw [e]; exact hg4
  · refine brF ?_
    obtain rfl : k = l.length := by omega
    rw [List.take_length] at hg1
    exact en (vs := []) ⟨hg1, hA1⟩
def mOk (m : Mth) : Bool := (m.params ++ m.locals).all (sOk · 1) && sOk m.result 0
def kgood (u : Unt) : Bool := (u.classes.all fun c => fOk c.fields) && fOk u.statics && u.methods.all mOk
theorem u_kinds (u : Unt) (a : UA) (b0 : Nat) (w : World) (hU : UnR (· < w.heap.size) w u a) (hb0 : b0 < w.heap.size) (hx : At w b0 0 (ucells u a)) (hL : Lim u) :
    Ret Tryz.prog 147 #[.pointer (some ⟨b0, 0, none⟩)] w fun v w' => v = .bool (kgood u) ∧ Bl w w' := by
  have n1 := hU.cls.big
  have n2 := hU.sta.big
  have n3 := hU.mth.big
  refine entr (vs := [.pointer (some ⟨b0, 0, none⟩)]) [0, 2, 3, 4, 5, 7, 9, 11, 17, 18, 19, 20, 37, 38, 39, 40, 48, 49, 50, 51] tabok Tryz.func147 (by kernel_rfl) ?_
  refine al fun g w1 h1 => ?_
  refine st h1.box (fun w2 h2 y2 => ?_)
  refine al fun g2 w3 h3 => ?_
  refine st h3.box (fun w4 h4 y4 => ?_)
  have q1 := h1.blk
  have q2 : g < w2.heap.size := y2.lt
  have q3 := h3.blk
  have hne : g2 ≠ g := by omega
  have hB4 : Below w.heap.size w w4 := Below.trans (Below.trans (Eng.New.wr h1 h2) (h3.bl.mono (by omega))) (h4.below (by omega))
  have y4g : Box w4 g 4 [.bool true] := h4.box (Bl.box h3.bl y2) (Ne.symm hne)
  have U : ∀ {w'}, Below w.heap.size w w' → UnR (· < w.heap.size) w' u a := fun h => hU.below h
  have X : ∀ {w'}, Below w.heap.size w w' → At w' b0 0 (ucells u a) := fun h => hx.kp (Below.kp h) hb0
  have apB : ∀ {x y}, Below w.heap.size w x → Ap x (some ⟨g, 0, none⟩) y → Below w.heap.size w y := fun h k => h.trans (k.below h.size (fun g' e => by cases e; omega))
  have gS : ¬ (g < w.heap.size) := by omega
  refine ld (X hB4 2 _ rfl) ?_
  refine lpk u.classes.length 19 [] [(0, .pointer (some ⟨b0, 0, none⟩)), (3, .pointer (some ⟨g, 0, none⟩)), (4, .pointer (some ⟨g2, 0, none⟩)), (5, .func (.func 207) #[] #[.pointer (some ⟨g2, 0, none⟩)]), (17, .slice a.a2 u.classes.length a.c2), (18, I u.classes.length)]
    (fun k vals w' => vals = [] ∧ Box w' g 4 [.bool ((u.classes.take k).all fun c => fOk c.fields)] ∧ Box w' g2 241 [seeF g] ∧ Below w.heap.size w w') ⟨rfl, y4g, y4, hB4⟩ ?_
  rintro k vals w5 hk ⟨rfl, g5, s5, hB5⟩ ih
  by_cases hlt : k < u.classes.length
  · refine brT ?_
    obtain ⟨c, b, o, cs, hc, e2, hSb, hAt, af, cf, rfl, hF⟩ := at_some (U hB5).cls hlt
    rw [e2]
    refine ix ?_
    refine lda hAt ?_
    refine al fun b6 w6 h6 => ?_
    refine sta h6.box (fun w7 h7 y7 => ?_)
    have hB7 : Bl w5 w7 := Eng.New.wr h6 h7
    refine ld (y7.cell rfl) ?_
    refine cl (k_all c.fields af cf g g2 _ (· < w.heap.size) gS hne w7 (hF.bl hB7) (Bl.box hB7 g5) (Bl.box hB7 s5)) ?_
    rintro v w8 ⟨g8, hA8⟩
    refine ih hlt ⟨rfl, ?_, hA8.box (Bl.box hB7 s5) (ap_ne hne), apB (hB5.trans (hB7.mono hB5.size)) hA8⟩ (hsub := by simp only [e2]; repeat (first | exact True.intro | (refine ⟨rfl, ?_⟩)))
    rw [all_take_succ hc]; exact g8
  refine brF ?_
  obtain rfl : k = u.classes.length := by omega
  rw [List.take_length] at g5
  refine ld (X hB5 3 _ rfl) ?_
  refine cl (k_all u.statics a.a3 a.c3 g g2 _ (· < w.heap.size) gS hne w5 (U hB5).sta g5 s5) ?_
  rintro v8 w8 ⟨g8, hA8⟩
  have s8 := hA8.box s5 (ap_ne hne)
  have hB8 := apB hB5 hA8
  refine ld (X hB8 4 _ rfl) ?_
  refine lpk u.methods.length 39 [] [(0, .pointer (some ⟨b0, 0, none⟩)), (3, .pointer (some ⟨g, 0, none⟩)), (4, .pointer (some ⟨g2, 0, none⟩)), (37, .slice a.a4 u.methods.length a.c4), (38, I u.methods.length)]
    (fun k vals w' => vals = [] ∧ Box w' g 4 [.bool (((u.classes.all fun c => fOk c.fields) && fOk u.statics) && (u.methods.take k).all mOk)] ∧ Box w' g2 241 [seeF g] ∧ Below w.heap.size w w') ⟨rfl, by simpa using g8, s8, hB8⟩ ?_
  rintro k vals w9 hk ⟨rfl, g9, s9, hB9⟩ ih
  by_cases hlt : k < u.methods.length
  · refine brT ?_
    obtain ⟨m, b, o, cs, hm, e2, hSb, hAt, a1, c1, a2, c2, a3, c3, rfl, f1, f2, f3⟩ := at_some (U hB9).mth hlt
    rw [e2]
    have hm' := List.mem_of_getElem? hm
    have l1 := hL.locs m hm'
    refine ix ?_
    refine lda hAt ?_
    refine al fun b10 w10 h10 => ?_
    refine sta h10.box (fun w11 h11 y11 => ?_)
    have hB11 : Bl w9 w11 := Eng.New.wr h10 h11
    refine ld (y11.cell rfl) ?_
    refine ld (y11.cell rfl) ?_
    refine bs fun b12 w12 h12 => ?_
    have hB12 := hB11.trans h12.bl
    refine cl (c_Concat m.params m.locals a1 a2 c1 c2 b12 w12 ((f1.bl hB12).sub fun _ _ => trivial) ((f2.bl hB12).sub fun _ _ => trivial) h12.box.at (by omega)) ?_
    rintro _ w13 ⟨ac, cc, rfl, hSc, hB13⟩
    have hB913 := hB12.trans hB13
    have hn : (m.params ++ m.locals).length ≤ 10 := by rw [List.length_append]; exact l1
    have hB13' : Below w.heap.size w w13 := hB9.trans (hB913.mono hB9.size)
    have y13 := Bl.box (h12.bl.trans hB13) y11
    have ng : b10 ≠ g := by have := h10.blk; have := g9.lt; omega
    have ng2 : b10 ≠ g2 := by have := h10.blk; have := s9.lt; omega
    refine lpk (m.params ++ m.locals).length 50 [] [(0, .pointer (some ⟨b0, 0, none⟩)), (3, .pointer (some ⟨g, 0, none⟩)), (4, .pointer (some ⟨g2, 0, none⟩)), (37, .slice a.a4 u.methods.length a.c4), (38, I u.methods.length), (39, I k), (9, .pointer (some ⟨b10, 0, none⟩)), (48, .slice ac (m.params ++ m.locals).length cc), (49, I (m.params ++ m.locals).length)]
      (fun i vals w' => vals = [] ∧ Box w' g 4 [.bool ((((u.classes.all fun c => fOk c.fields) && fOk u.statics) && (u.methods.take k).all mOk) && ((m.params ++ m.locals).take i).all (sOk · 1))] ∧ Box w' g2 241 [seeF g] ∧ Box w' b10 79 (mcells m a1 c1 a2 c2 a3 c3) ∧ Below w.heap.size w w' ∧ Ap w13 (some ⟨g, 0, none⟩) w') ⟨rfl, by simpa using Bl.box hB913 g9, Bl.box hB913 s9, y13, hB13', Eng.Ap.bl (Bl.refl _) _⟩ ?_ (hkeep := by simp only [e2]; repeat (first | exact True.intro | (refine ⟨rfl, ?_⟩)))
    rintro i vals w14 hi ⟨rfl, g14, s14, y14, hB14, hA14⟩ ih2
    by_cases hlt2 : i < (m.params ++ m.locals).length
    · refine brT ?_
      obtain ⟨t, bt, ot, cst, ht, rfl, hSt, hAtt, rfl⟩ := at_some hSc hlt2
      have hAt14 := hAtt.kp (S := fun j => j < w13.heap.size ∧ j ≠ g) (fun b' o' v hs hc => by rw [World.cell?_of_block (w := w13) (hA14.block b' hs.1 fun e => by cases e; exact hs.2 rfl)]; exact hc) ⟨hSt.2, by have := hSt.1; have := h12.size; have := h10.size; have := h11.size; have := g9.lt; omega⟩
      refine ix ?_
      refine lda hAt14 ?_
      refine al fun b15 w15 h15 => ?_
      refine sta h15.box (fun w16 h16 y16 => ?_)
      have hB16 : Bl w14 w16 := Eng.New.wr h15 h16
      refine ld ((Bl.box hB16 s14).cell rfl) ?_
      refine lda y16.at ?_
      refine cl (k_see t 1 g _ w16 (Bl.box hB16 g14)) ?_
      rintro v w17 ⟨g17, hA17⟩
      refine ih2 hlt2 ⟨rfl, ?_, hA17.box (Bl.box hB16 s14) (ap_ne hne), hA17.box (Bl.box hB16 y14) (ap_ne ng), apB (hB14.trans (hB16.mono hB14.size)) hA17, (hA14.trans (Eng.Ap.bl hB16 _)).trans hA17⟩
      rw [all_take_succ ht, ← Bool.and_assoc]; exact g17
    refine brF ?_
    obtain rfl : i = (m.params ++ m.locals).length := by omega
    rw [List.take_length] at g14
    refine ld (s14.cell rfl) ?_
    refine lda (cs := [I m.result.kind, I m.result.cls]) (b := b10) (o := 4) (fun j v hj => ?_) ?_
    · rcases j with _ | _ | j
      · exact y14.at 4 v hj
      · exact y14.at 5 v hj
      · simp at hj
    refine cl (k_see m.result 0 g _ w14 g14) ?_
    rintro v w18 ⟨g18, hA18⟩
    refine ih hlt ⟨rfl, ?_, hA18.box s14 (ap_ne hne), apB hB14 hA18⟩ (hsub := by simp only [e2]; repeat (first | exact True.intro | (refine ⟨rfl, ?_⟩)))
    have e : (((u.classes.all fun c => fOk c.fields) && fOk u.statics) && (u.methods.take (k + 1)).all mOk) = ((((u.classes.all fun c => fOk c.fields) && fOk u.statics) && (u.methods.take k).all mOk) && (m.params ++ m.locals).all (sOk · 1) && sOk m.result 0) := by rw [all_take_succ hm]; unfold mOk; simp [Bool.and_assoc]
    rw [e]; exact g18
  · refine brF ?_
    obtain rfl : k = u.methods.length := by omega
    rw [List.take_length] at g9
    refine ld (g9.cell rfl) ?_
    exact rt1 ⟨rfl, hB9⟩
theorem kgood_eq (u : Unt) : kgood u = (kinds u && classless u) := by
  have h1 : ∀ t, sOk t 1 = (kin t && bare t) := fun t => rfl
  have h0 : ∀ t, sOk t 0 = (kout t && bare t) := fun t => rfl
  have hf : ∀ l : List Fld, fOk l = ((l.all fun f => kin f.ty) && l.all fun f => bare f.ty) := fun l => by
    induction l with
    | nil => rfl
    | cons f l ih =>
      have : fOk (f :: l) = (sOk f.ty 1 && fOk l) := rfl
      rw [this, ih, h1, List.all_cons, List.all_cons]
      cases kin f.ty <;> cases bare f.ty <;> simp
  rw [Bool.eq_iff_iff]
  simp only [kgood, kinds, classless, kcls, kmth, bcls, bmth, mOk, hf, h1, h0, Bool.and_eq_true, List.all_eq_true, List.mem_append]
  constructor
  · rintro ⟨⟨a1, a2⟩, a3⟩
    exact ⟨⟨⟨fun c hc => (a1 c hc).1, a2.1⟩, fun m hm => ⟨⟨fun t ht => ((a3 m hm).1 t (.inl ht)).1, fun t ht => ((a3 m hm).1 t (.inr ht)).1⟩, (a3 m hm).2.1⟩⟩,
      ⟨fun c hc => (a1 c hc).2, a2.2⟩, fun m hm => ⟨⟨(a3 m hm).2.2, fun t ht => ((a3 m hm).1 t (.inl ht)).2⟩, fun t ht => ((a3 m hm).1 t (.inr ht)).2⟩⟩
  · rintro ⟨⟨⟨a1, a2⟩, a3⟩, ⟨b1, b2⟩, b3⟩
    refine ⟨⟨fun c hc => ⟨a1 c hc, b1 c hc⟩, a2, b2⟩, fun m hm => ⟨fun t ht => ?_, (a3 m hm).2, (b3 m hm).1.1⟩⟩
    rcases ht with ht | ht
    · exact ⟨(a3 m hm).1.1 t ht, (b3 m hm).1.2 t ht⟩
    · exact ⟨(a3 m hm).1.2 t ht, (b3 m hm).2 t ht⟩
end Go.Proofs.YtkmdfjpafkcleaaGreatDoor

/- Walks: names out of the pool; names that are there twice. -/
namespace Go.Proofs.YtkmdfjpafkcleaaGreatDoor
open Eng Go.RowKit
def joinB (xs : List ByteArray) : ByteArray := ⟨(Lib.join (xs.map toL) [46]).toArray⟩
def picked (u : Unt) (l : List Int) : List ByteArray := (l.filter fun i => decide (0 ≤ i)).map (nm u)
theorem joinB_one (x : ByteArray) : joinB [x] = x := by cases x; simp [joinB, Lib.join]
theorem joinB_two (x y : ByteArray) : joinB [x, y] = dots x y := by
  apply ba_ext
  simp [joinB, Lib.join, dots]
theorem join_len : ∀ xs : List ByteArray, (∀ x ∈ xs, x.size ≤ 1048576) → (Lib.join (xs.map toL) [46]).length ≤ xs.length * 1048577
  | [], _ => by simp [Lib.join]
  | [x], h => by
    have := h x (by simp)
    show (Lib.join [toL x] [46]).length ≤ _
    rw [Lib.join_one, ba_len]; simp; omega
  | x :: y :: r, h => by
    have := join_len (y :: r) fun z hz => h z (List.mem_cons_of_mem _ hz)
    have h1 := h x (by simp)
    have e : Lib.join ((x :: y :: r).map toL) [46] = toL x ++ ([46] ++ Lib.join ((y :: r).map toL) [46]) := by simp [Lib.join, List.intercalate]
    rw [e, List.length_append, List.length_append, ba_len]
    simp only [List.length_cons, List.length_nil] at this ⊢
    omega
theorem u_named (u : Unt) (a : UA) (b0 : Nat) (l : List Int) (aL : Option Addr) (cL : Nat) (S : Nat → Prop) (w : World) (hU : UnR S w u a) (hx : At w b0 0 (ucells u a)) (hl : Sl eInt T w aL l) (hn : l.length ≤ 16) (hin : ∀ i ∈ l, 0 ≤ i → inP u i) :
    Ret Tryz.prog 209 #[.pointer (some ⟨b0, 0, none⟩), .slice aL l.length cL] w fun v w' => v = .string (joinB (picked u l)) ∧ Bl w w' := by
  refine entr (vs := [.pointer (some ⟨b0, 0, none⟩), .slice aL l.length cL]) [0, 1, 4, 5, 7, 8, 9, 10, 11, 15] tabok Tryz.func209 (by kernel_rfl) ?_
  refine lpk l.length 10 [5] [(0, .pointer (some ⟨b0, 0, none⟩)), (8, .slice aL l.length cL), (9, I l.length)] (fun k vals w' => ∃ a5 c5, vals = [.slice a5 (picked u (l.take k)).length c5] ∧ OwP 1 encStr w' w.heap.size 9 a5 c5 (picked u (l.take k)) ∧ Bl w w') ⟨none, 0, rfl, Ow.nil _ _ _ _, Bl.refl _⟩ ?_
  rintro k vals w1 hk ⟨a5, c5, rfl, hO, hB⟩ ih
  have hpl : (picked u (l.take k)).length ≤ 16 := by
    unfold picked
    rw [List.length_map]
    exact Nat.le_trans (List.length_filter_le _ _) (Nat.le_trans (List.length_take_le' _ _) hn)
  by_cases hlt : k < l.length
  · refine brT ?_
    obtain ⟨i, bi, oi, cs, hi, rfl, _, hAt, rfl⟩ := at_some (hl.bl hB) hlt
    refine ix ?_
    refine ld (hAt 0 _ rfl) ?_
    refine br (fun h => ?_) (fun h => ?_)
    · have h0 : 0 ≤ i := of_decide_eq_true h
      have hP := hin i (List.mem_of_getElem? hi) h0
      have e1 : picked u (l.take (k + 1)) = picked u (l.take k) ++ [nm u i] := by unfold picked; rw [take_succ_some hi, List.filter_append, List.map_append]; simp [h0]
      refine ld ((hx.bl hB) 1 _ rfl) ?_
      obtain ⟨b9, o9, e9, _, hc9, hz9, hi9, hp9⟩ := pool_at (hU.bl hB) hP
      rw [e9]
      refine ix (hij := hi9) ?_
      refine ld hc9 ?_
      refine bs fun b2 w2 h2 => ?_
      refine apl (l1 := [nm u i]) (hO.bl h2.bl) (.inr ⟨b2, 0, rfl, h2.box.at⟩) (hB.trans h2.bl).size (fun a' cap' w3 hO3 hA _ => ?_)
      refine ih hlt ⟨a', cap', ?_, ?_, Eng.Ow.below (hO.bl h2.bl) hA (hB.trans h2.bl) (hB.trans h2.bl).size⟩
      · rw [e1]
      · rw [e1]; exact hO3
    · have h0 : ¬ 0 ≤ i := of_decide_eq_false h
      have e1 : picked u (l.take (k + 1)) = picked u (l.take k) := by unfold picked; rw [take_succ_some hi, List.filter_append, List.map_append]; simp [h0]
      exact ih hlt ⟨a5, c5, by rw [e1], by rw [e1]; exact hO, hB⟩
  refine brF ?_
  obtain rfl : k = l.length := by omega
  rw [List.take_length] at hO hpl ⊢
  have hsz : ∀ x ∈ picked u l, x.size ≤ 1048576 := fun x hx => by
    unfold picked at hx
    obtain ⟨i, hi, rfl⟩ := List.mem_map.1 hx
    rw [List.mem_filter] at hi
    obtain ⟨b9, o9, e9, _, hc9, hz9, hi9, hp9⟩ := pool_at hU (hin i hi.1 (of_decide_eq_true hi.2))
    exact hz9
  refine cl (R := fun v w' => v = .string (joinB (picked u l)) ∧ Bl w1 w') ?_ ?_
  · refine ⟨by kernel_rfl, ?_⟩
    rcases hO.shape with ⟨rfl, h0, rfl, _⟩ | ⟨g, cur, rfl, hg, hgb, hn2, hcs, htk⟩
    · have : picked u l = [] := List.eq_nil_of_length_eq_zero h0
      rw [this]
      refine (Tryz.strings_Join_none none 0 ⟨#[46]⟩ w1).mono ?_
      rintro e w3 ⟨rfl, rfl⟩
      exact ⟨rfl, Bl.refl _⟩
    · have hjl := join_len (picked u l) hsz
      refine (Tryz.strings_Join g 0 c5 (picked u l) ⟨#[46]⟩ w1 (fun j x hx => ?_) (Array.getElem?_eq_some_iff.1 hgb).1 (by omega) hn2 ?_).mono ?_
      · have h2 := hO.at rfl (j * 1 + 0) (.string x) (by rw [flat_get (sz := 1) (enc := encStr) (fun _ => rfl) hx 0 (by decide)]; rfl)
        simpa using h2
      · exact Nat.le_trans hjl (by omega)
      rintro e w3 ⟨rfl, hb⟩
      exact ⟨rfl, hb⟩
  rintro _ w2 ⟨rfl, hB2⟩
  exact rt1 ⟨rfl, hB.trans hB2⟩
end Go.Proofs.YtkmdfjpafkcleaaGreatDoor

/- Walks: the program's word on names that must differ. -/
namespace Go.Proofs.YtkmdfjpafkcleaaGreatDoor
open Eng Go.RowKit
theorem Eng.Ow.oth {w w' : World} {base e esz n cap : Nat} {a a2 : Option Addr} {xs : List Value} (h : Ow w base e esz a n cap xs) (k : Ap w a2 w') (hne : ∀ g, a = some ⟨g, 0, none⟩ → a2 ≠ some ⟨g, 0, none⟩) : Ow w' base e esz a n cap xs := h.same fun g hg => k.block g (h.lt hg).2 (hne g hg)
theorem named1 (u : Unt) (a : UA) (b0 : Nat) (i : Int) (S : Nat → Prop) {w0 w : World} {b : Nat} (hn : New w0 b 3 [I i] w) (hU : UnR S w u a) (hx : At w b0 0 (ucells u a)) (hi : inP u i) :
    Ret Tryz.prog 209 #[.pointer (some ⟨b0, 0, none⟩), .slice (some ⟨b, 0, none⟩) 1 1] w fun v w' => v = .string (nm u i) ∧ Bl w w' := by
  have hO : OwP 1 encInt w b 3 (some ⟨b, 0, none⟩) 1 [i] := Ow.made (n := 1) hn rfl (by omega)
  refine (u_named u a b0 [i] _ 1 S w hU hx (owp_sl hO (by simp) (fun _ _ => trivial)) (by simp) (fun j hj _ => ?_)).mono ?_
  · simp at hj; subst hj; exact hi
  rintro v w' ⟨rfl, hB⟩
  refine ⟨?_, hB⟩
  have : picked u [i] = [nm u i] := by simp [picked, hi.1]
  rw [this, joinB_one]
theorem named2 (u : Unt) (a : UA) (b0 : Nat) (i j : Int) (S : Nat → Prop) {w0 w : World} {b : Nat} (hn : New w0 b 3 [I i, I j] w) (hU : UnR S w u a) (hx : At w b0 0 (ucells u a)) (hi : inP u i) (hj : inP u j) :
    Ret Tryz.prog 209 #[.pointer (some ⟨b0, 0, none⟩), .slice (some ⟨b, 0, none⟩) 2 2] w fun v w' => v = .string (dots (nm u i) (nm u j)) ∧ Bl w w' := by
  have hO : OwP 1 encInt w b 3 (some ⟨b, 0, none⟩) 2 [i, j] := Ow.made (n := 2) hn rfl (by omega)
  refine (u_named u a b0 [i, j] _ 2 S w hU hx (owp_sl hO (by simp) (fun _ _ => trivial)) (by simp) (fun k hk _ => ?_)).mono ?_
  · simp at hk; rcases hk with rfl | rfl
    · exact hi
    · exact hj
  rintro v w' ⟨rfl, hB⟩
  refine ⟨?_, hB⟩
  have : picked u [i, j] = [nm u i, nm u j] := by simp [picked, hi.1, hj.1]
  rw [this, joinB_two]
theorem app1 {n m : Nat} (h : n ≤ 100) (hm : m = 1) : (n + m) * 16 ≤ 140737488355328 := by omega
theorem u_doubled (u : Unt) (a : UA) (b0 : Nat) (w : World) (hU : UnR T w u a) (hx : At w b0 0 (ucells u a)) (hL : Lim u) (hP : Plc u) : Ret Tryz.prog 148 #[.pointer (some ⟨b0, 0, none⟩)] w fun v w' => v = .bool (doubled u) ∧ Bl w w' := by
  have n1 := hL.cls
  have n2 := hL.sta
  have n3 := hL.mth
  refine entr (vs := [.pointer (some ⟨b0, 0, none⟩)]) [0, 2, 3, 4, 6, 7, 9, 11, 13, 17, 18, 19, 20, 32, 33, 34, 35, 48, 53, 54, 55, 56, 71, 72, 73, 74, 79] tabok Tryz.func148 (by kernel_rfl) ?_
  refine ld (hx 2 _ rfl) ?_
  refine lpk u.classes.length 19 [3] [(0, .pointer (some ⟨b0, 0, none⟩)), (2, .bool false), (4, .slice none 0 0), (17, .slice a.a2 u.classes.length a.c2), (18, I u.classes.length)]
    (fun k vals w' => ∃ a3 c3, vals = [.slice a3 ((u.classes.take k).map fun c => nm u c.name).length c3] ∧ OwP 1 encStr w' w.heap.size 9 a3 c3 ((u.classes.take k).map fun c => nm u c.name) ∧ (u.classes.take k).any (cdup u) = false ∧ Bl w w') ⟨none, 0, rfl, Ow.nil _ _ _ _, rfl, Bl.refl _⟩ ?_
  rintro k vals w1 hk ⟨a3, c3, rfl, hO, hany, hB⟩ ih
  have ht1 : ((u.classes.take k).map fun c => nm u c.name).length ≤ 10 := by rw [List.length_map, List.length_take]; omega
  by_cases hlt : k < u.classes.length
  · refine brT ?_
    obtain ⟨c, b, o, cs, hc, e2, hSb, hAt, af, cf, rfl, hF⟩ := at_some hU.cls hlt
    have hcm := List.mem_of_getElem? hc
    have nf := hL.flds c hcm
    rw [e2]
    refine ix ?_
    refine lda (hAt.bl hB) ?_
    refine al fun b2 w2 h2 => ?_
    refine sta h2.box (fun w3 h3 y3 => ?_)
    have hB3 : Bl w w3 := hB.trans (Eng.New.wr h2 h3)
    refine ld (y3.cell rfl) ?_
    refine bs fun b4 w4 h4 => ?_
    have hB4 := hB3.trans h4.bl
    refine cl (named1 u a b0 c.name T h4 (hU.bl hB4) (hx.bl hB4) (hP.cn c hcm)) ?_
    rintro _ w5 ⟨rfl, hB5⟩
    refine bs fun b6 w6 h6 => ?_
    have hB6 := (hB4.trans hB5).trans h6.bl
    have hO6 := ((hO.bl (Eng.New.wr h2 h3)).bl h4.bl).bl (hB5.trans h6.bl)
    refine apl (l1 := [nm u c.name]) hO6 (.inr ⟨b6, 0, rfl, h6.box.at⟩) hB6.size (fun a7 c7 w7 hO7 hA7 _ => ?_) (hb := by simp only [List.length_cons, List.length_nil]; omega) (hn := by simp only [List.length_cons, List.length_nil]; omega)
    have hB7 : Bl w w7 := Eng.Ow.below hO6 hA7 hB6 hB6.size
    have y7 := hA7.box (Bl.box ((h4.bl.trans hB5).trans h6.bl) y3) (fun e => by have := (hO.lt e).2; have := h2.blk; omega)
    have e1 : (u.classes.take (k + 1)).map (fun c => nm u c.name) = (u.classes.take k).map (fun c => nm u c.name) ++ [nm u c.name] := map_snoc hc
    refine ld (y7.cell rfl) ?_
    refine lpk c.fields.length 34 [7] [(0, .pointer (some ⟨b0, 0, none⟩)), (2, .bool false), (4, .slice none 0 0), (17, .slice (some ⟨b, o, none⟩) u.classes.length a.c2), (18, I u.classes.length), (19, I k), (3, .slice a7 ((u.classes.take k).map (fun c => nm u c.name) ++ [nm u c.name]).length c7), (32, .slice af c.fields.length cf), (33, I c.fields.length)]
      (fun i vals w' => ∃ a8 c8, vals = [.slice a8 ((c.fields.take i).map fun f => nm u f.name).length c8] ∧ OwP 1 encStr w' w7.heap.size 9 a8 c8 ((c.fields.take i).map fun f => nm u f.name) ∧ Bl w7 w') ⟨none, 0, rfl, Ow.nil _ _ _ _, Bl.refl _⟩ ?_
    rintro i vals w8 hi ⟨a8, c8, rfl, hO8, hB8⟩ ih2
    have ht2 : ((c.fields.take i).map fun f => nm u f.name).length ≤ 7 := by rw [List.length_map, List.length_take]; omega
    have hB08 := hB7.trans hB8
    by_cases hlt2 : i < c.fields.length
    · refine brT ?_
      obtain ⟨f, bf, off, cs, hf, rfl, _, hAtf, rfl⟩ := at_some hF hlt2
      refine ix ?_
      refine lda (hAtf.bl hB08) ?_
      refine al fun b9 w9 h9 => ?_
      refine sta h9.box (fun w10 h10 y10 => ?_)
      have hB10 := Eng.New.wr h9 h10
      refine ld (y10.cell rfl) ?_
      refine bs fun b11 w11 h11 => ?_
      have hB11 := hB10.trans h11.bl
      refine cl (named1 u a b0 f.name T h11 (hU.bl (hB08.trans hB11)) (hx.bl (hB08.trans hB11)) (hP.fn c hcm f (List.mem_of_getElem? hf))) ?_
      rintro _ w12 ⟨rfl, hB12⟩
      refine bs fun b13 w13 h13 => ?_
      have hB13 := (hB11.trans hB12).trans h13.bl
      have hO13 := hO8.bl hB13
      refine apl (l1 := [nm u f.name]) hO13 (.inr ⟨b13, 0, rfl, h13.box.at⟩) (hB8.trans hB13).size (fun a14 c14 w14 hO14 hA14 _ => ?_) (hb := by simp only [List.length_cons, List.length_nil]; omega) (hn := by simp only [List.length_cons, List.length_nil]; omega)
      have e3 : (c.fields.take (i + 1)).map (fun f => nm u f.name) = (c.fields.take i).map (fun f => nm u f.name) ++ [nm u f.name] := map_snoc hf
      exact ih2 hlt2 ⟨a14, c14, by rw [e3], by rw [e3]; exact hO14, Eng.Ow.below hO13 hA14 (hB8.trans hB13) (hB8.trans hB13).size⟩
    refine brF ?_
    obtain rfl : i = c.fields.length := by omega
    rw [List.take_length] at hO8 ⊢
    refine cl (u_twice (c.fields.map fun f : Fld => nm u f.name) a8 c8 T w8 (owp_sl hO8 (by rw [List.length_map]; omega) (fun _ _ => trivial))) ?_
    rintro _ w9 ⟨rfl, hB9⟩
    refine br (t := cdup u c) (fun h => ?_) (fun h => ?_)
    · refine rt1 ⟨vb ?_, hB08.trans hB9⟩
      have : u.classes.any (cdup u) = true := List.any_eq_true.2 ⟨c, hcm, h⟩
      unfold doubled; rw [this]; simp
    · refine ih hlt ⟨a7, c7, by rw [e1], by rw [e1]; exact (hO7.bl hB8).bl hB9, any_snoc hc hany h, hB08.trans hB9⟩ (hsub := by simp only [e2]; repeat (first | exact True.intro | (refine ⟨rfl, ?_⟩)))
  refine brF ?_
  obtain rfl : k = u.classes.length := by omega
  have hany' := any_end hany
  rw [List.take_length] at hO ht1 ⊢
  refine ld ((hx.bl hB) 3 _ rfl) ?_
  refine lpk (vals := [.slice a3 (u.classes.map fun c => nm u c.name).length c3]) u.statics.length 55 [3] [(0, .pointer (some ⟨b0, 0, none⟩)), (4, .slice none 0 0), (53, .slice a.a3 u.statics.length a.c3), (54, I u.statics.length)]
    (fun k vals w' => ∃ a3 c3, vals = [.slice a3 ((u.classes.map fun c => nm u c.name) ++ (u.statics.take k).map fun f => nm u f.name).length c3] ∧ OwP 1 encStr w' w.heap.size 9 a3 c3 ((u.classes.map fun c => nm u c.name) ++ (u.statics.take k).map fun f => nm u f.name) ∧ Bl w w') ⟨a3, c3, by simp, by simpa using hO, hB⟩ ?_
  rintro k vals w2 hk ⟨a4, c4, rfl, hO2, hB2⟩ ih
  have ht2 : ((u.classes.map fun c => nm u c.name) ++ (u.statics.take k).map fun f => nm u f.name).length ≤ 20 := by rw [List.length_append, List.length_map, List.length_map, List.length_take]; omega
  by_cases hlt : k < u.statics.length
  · refine brT ?_
    obtain ⟨f, b, o, cs, hf, e2, hSb, hAt, rfl⟩ := at_some hU.sta hlt
    have hfm := List.mem_of_getElem? hf
    rw [e2]
    refine ix ?_
    refine lda (hAt.bl hB2) ?_
    refine al fun b3 w3 h3 => ?_
    refine sta h3.box (fun w4 h4 y4 => ?_)
    have hB4 := Eng.New.wr h3 h4
    refine ld (y4.cell rfl) ?_
    refine bs fun b5 w5 h5 => ?_
    have hB5 := hB4.trans h5.bl
    refine cl (named1 u a b0 f.name T h5 (hU.bl (hB2.trans hB5)) (hx.bl (hB2.trans hB5)) (hP.sn f hfm)) ?_
    rintro _ w6 ⟨rfl, hB6⟩
    refine bs fun b7 w7 h7 => ?_
    have hB7 := (hB5.trans hB6).trans h7.bl
    have hO7 := hO2.bl hB7
    refine apl (l1 := [nm u f.name]) hO7 (.inr ⟨b7, 0, rfl, h7.box.at⟩) (hB2.trans hB7).size (fun a8 c8 w8 hO8 hA8 _ => ?_) (hb := by simp only [List.length_cons, List.length_nil]; omega) (hn := by simp only [List.length_cons, List.length_nil]; omega)
    have e3 : (u.classes.map fun c => nm u c.name) ++ (u.statics.take (k + 1)).map (fun f => nm u f.name) = ((u.classes.map fun c => nm u c.name) ++ (u.statics.take k).map (fun f => nm u f.name)) ++ [nm u f.name] := by rw [map_snoc hf, List.append_assoc]
    exact ih hlt ⟨a8, c8, by rw [e3], by rw [e3]; exact hO8, Eng.Ow.below hO7 hA8 (hB2.trans hB7) (hB2.trans hB7).size⟩ (hsub := by simp only [e2]; repeat (first | exact True.intro | (refine ⟨rfl, ?_⟩)))
  refine brF ?_
  obtain rfl : k = u.statics.length := by omega
  rw [List.take_length] at hO2 ht2 ⊢
  refine ld ((hx.bl hB2) 4 _ rfl) ?_
  refine lpk (vals := [.slice a4 ((u.classes.map fun c => nm u c.name) ++ u.statics.map fun f => nm u f.name).length c4, .slice none 0 0]) u.methods.length 73 [3, 4] [(0, .pointer (some ⟨b0, 0, none⟩)), (71, .slice a.a4 u.methods.length a.c4), (72, I u.methods.length)]
    (fun k vals w' => ∃ a3 c3 a4 c4, vals = [.slice a3 (((u.classes.map fun c => nm u c.name) ++ u.statics.map fun f => nm u f.name) ++ ((u.methods.take k).filter fun m => decide (m.cls = -1)).map fun m => nm u m.name).length c3, .slice a4 (((u.methods.take k).filter fun m => !decide (m.cls = -1)).map fun m => dots (nm u m.cls) (nm u m.name)).length c4] ∧
      OwP 1 encStr w' w.heap.size 9 a3 c3 (((u.classes.map fun c => nm u c.name) ++ u.statics.map fun f => nm u f.name) ++ ((u.methods.take k).filter fun m => decide (m.cls = -1)).map fun m => nm u m.name) ∧
      OwP 1 encStr w' w.heap.size 9 a4 c4 (((u.methods.take k).filter fun m => !decide (m.cls = -1)).map fun m => dots (nm u m.cls) (nm u m.name)) ∧ (∀ g, a3 = some ⟨g, 0, none⟩ → a4 ≠ some ⟨g, 0, none⟩) ∧ Bl w w') ⟨a4, c4, none, 0, by simp, by simpa using hO2, by simp only [List.take_zero, List.filter_nil, List.map_nil]; exact Ow.nil _ _ _ _, (fun _ _ e => by cases e), hB2⟩ ?_
  rintro k vals w3 hk ⟨a5, c5, a6, c6, rfl, hO3, hO4, hne, hB3⟩ ih
  have fl : ∀ p : Mth → Bool, ((u.methods.take k).filter p).length ≤ 16 := fun p => Nat.le_trans (List.length_filter_le _ _) (by rw [List.length_take]; omega)
  have ht3 : (((u.classes.map fun c => nm u c.name) ++ u.statics.map fun f => nm u f.name) ++ ((u.methods.take k).filter fun m => decide (m.cls = -1)).map fun m => nm u m.name).length ≤ 36 := by
    have := fl fun m => decide (m.cls = -1)
    rw [List.length_append, List.length_map]; omega
  have ht4 : (((u.methods.take k).filter fun m => !decide (m.cls = -1)).map fun m => dots (nm u m.cls) (nm u m.name)).length ≤ 16 := by rw [List.length_map]; exact fl _
  by_cases hlt : k < u.methods.length
  · refine brT ?_
    obtain ⟨m, b, o, cs, hm, e2, hSb, hAt, a1, c1, a2, c2, a3, c3, rfl, f1, f2, f3⟩ := at_some hU.mth hlt
    have hmm := List.mem_of_getElem? hm
    rw [e2]
    refine ix ?_
    refine lda (hAt.bl hB3) ?_
    refine al fun b4 w4 h4 => ?_
    refine sta h4.box (fun w5 h5 y5 => ?_)
    have hB5 := Eng.New.wr h4 h5
    refine ld (y5.cell rfl) ?_
    rcases hP.mc m hmm with hc | hc
    · refine brT ?_ (hp := by show m.cls < 0; omega)
      have e5 : ((u.methods.take (k + 1)).filter fun m => decide (m.cls = -1)) = ((u.methods.take k).filter fun m => decide (m.cls = -1)) ++ [m] := by rw [take_succ_some hm, List.filter_append]; simp [hc]
      have e6 : ((u.methods.take (k + 1)).filter fun m => !decide (m.cls = -1)) = ((u.methods.take k).filter fun m => !decide (m.cls = -1)) := by rw [take_succ_some hm, List.filter_append]; simp [hc]
      refine ld (y5.cell rfl) ?_
      refine bs fun b6 w6 h6 => ?_
      have hB6 := hB5.trans h6.bl
      refine cl (named1 u a b0 m.name T h6 (hU.bl (hB3.trans hB6)) (hx.bl (hB3.trans hB6)) (hP.mn m hmm)) ?_
      rintro _ w7 ⟨rfl, hB7⟩
      refine bs fun b8 w8 h8 => ?_
      have hB8 := (hB6.trans hB7).trans h8.bl
      have hO8 := hO3.bl hB8
      refine apl (l1 := [nm u m.name]) hO8 (.inr ⟨b8, 0, rfl, h8.box.at⟩) (hB3.trans hB8).size (fun a9 c9 w9 hO9 hA9 hfr => ?_) (hb := by simp only [List.length_cons, List.length_nil]; omega) (hn := by simp only [List.length_cons, List.length_nil]; omega)
      refine ih hlt ⟨a9, c9, a6, c6, ?_, ?_, ?_, ?_, Eng.Ow.below hO8 hA9 (hB3.trans hB8) (hB3.trans hB8).size⟩ (hsub := by simp only [e2]; repeat (first | exact True.intro | (refine ⟨rfl, ?_⟩)))
      · rw [e5, e6, List.map_append, ← List.append_assoc]; rfl
      · rw [e5, List.map_append, ← List.append_assoc]; exact hO9
      · rw [e6]; exact (hO4.bl hB8).oth hA9 (fun g hg e => hne g e hg)
      · intro g hg e
        rcases hfr g hg with h | h
        · exact hne g h e
        · have := (hO4.lt e).2; have := hB8.size; omega
    · refine brF ?_ (hp := by show ¬ m.cls < 0; have := hc.1; omega)
      have hcn : ¬ m.cls = -1 := by have := hc.1; omega
      have e5 : ((u.methods.take (k + 1)).filter fun m => decide (m.cls = -1)) = ((u.methods.take k).filter fun m => decide (m.cls = -1)) := by rw [take_succ_some hm, List.filter_append]; simp [hcn]
      have e6 : ((u.methods.take (k + 1)).filter fun m => !decide (m.cls = -1)) = ((u.methods.take k).filter fun m => !decide (m.cls = -1)) ++ [m] := by rw [take_succ_some hm, List.filter_append]; simp [hcn]
      refine ld (y5.cell rfl) ?_
      refine ld (y5.cell rfl) ?_
      refine bs fun b6 w6 h6 => ?_
      have hB6 := hB5.trans h6.bl
      refine cl (named2 u a b0 m.cls m.name T h6 (hU.bl (hB3.trans hB6)) (hx.bl (hB3.trans hB6)) hc (hP.mn m hmm)) ?_
      rintro _ w7 ⟨rfl, hB7⟩
      refine bs fun b8 w8 h8 => ?_
      have hB8 := (hB6.trans hB7).trans h8.bl
      have hO8 := hO4.bl hB8
      refine apl (l1 := [dots (nm u m.cls) (nm u m.name)]) hO8 (.inr ⟨b8, 0, rfl, h8.box.at⟩) (hB3.trans hB8).size (fun a9 c9 w9 hO9 hA9 hfr => ?_) (hb := by simp only [List.length_cons, List.length_nil]; omega) (hn := by simp only [List.length_cons, List.length_nil]; omega)
      refine ih hlt ⟨a5, c5, a9, c9, ?_, ?_, ?_, ?_, Eng.Ow.below hO8 hA9 (hB3.trans hB8) (hB3.trans hB8).size⟩ (hsub := by simp only [e2]; repeat (first | exact True.intro | (refine ⟨rfl, ?_⟩)))
      · rw [e5, e6, List.map_append]; rfl
      · rw [e5]; exact (hO3.bl hB8).oth hA9 (fun g hg e => hne g hg e)
      · rw [e6, List.map_append]; exact hO9
      · intro g hg e
        rcases hfr g e with h | h
        · exact hne g hg h
        · have := (hO3.lt hg).2; have := hB8.size; omega
  refine brF ?_
  obtain rfl : k = u.methods.length := by omega
  rw [List.take_length] at hO3 hO4 ht3 ht4 ⊢
  have eD : doubled u = (dup u.pool || dup (heads u) || dup (fulls u)) := by unfold doubled; rw [hany']; simp
  refine ld ((hx.bl hB3) 1 _ rfl) ?_
  refine cl (u_twice u.pool a.a1 a.c1 T w3 (hU.bl hB3).pool) ?_
  rintro _ w4 ⟨rfl, hB4⟩
  refine sp (.bool false) (fun q => ?_) (fun q => ?_)
  · refine cl (u_twice (heads u) a5 c5 T w4 (owp_sl (hO3.bl hB4) (by omega) (fun _ _ => trivial))) ?_
    rintro _ w5 ⟨rfl, hB5⟩
    refine sp (.bool false) (fun q2 => ?_) (fun q2 => ?_)
    · refine cl (u_twice (fulls u) a6 c6 T w5 (owp_sl ((hO4.bl hB4).bl hB5) (by omega) (fun _ _ => trivial))) ?_
      rintro _ w6 ⟨rfl, hB6⟩
      refine rt1 ⟨vb ?_, ((hB3.trans hB4).trans hB5).trans hB6⟩
      rw [eD, q, show dup (heads u) = false from by simpa using q2]; rfl
    · have q2' : dup (heads u) = true := by simpa using q2
      refine rt1 ⟨vb ?_, (hB3.trans hB4).trans hB5⟩
      rw [eD, q, q2']; rfl
  · have q' : dup u.pool = true := by simpa using q
    refine sp (.bool false) (fun q2 => ?_) (fun q2 => ?_)
    · rw [q'] at q2; cases q2
    refine rt1 ⟨vb ?_, hB3.trans hB4⟩
    rw [eD, q']; rfl
end Go.Proofs.YtkmdfjpafkcleaaGreatDoor

/- What the program's Check sees is what the document's Check sees. No program stands here. -/
namespace Go.Proofs.YtkmdfjpafkcleaaGreatDoor
open Eng Go.RowKit
def beyB (u : Unt) (r : Rf) : Bool := !refOk u.pool.length r
def frmB (u : Unt) (r : Rf) : Bool := refOk u.pool.length r && decide (0 ≤ r.at') && decide (¬ (path (nm u r.at') : Int) = r.parts)
theorem any_congr {α : Type} {q r : α → Bool} : ∀ {l : List α}, (∀ x ∈ l, q x = r x) → l.any q = l.any r
  | [], _ => rfl
  | x :: l, h => by rw [List.any_cons, List.any_cons, h x (List.mem_cons_self ..), any_congr fun y hy => h y (List.mem_cons_of_mem _ hy)]
section
variable {p : Rf → Bool} (hp : ∀ r : Rf, r.at' = -1 → r.opt = true → p r = false)
include hp
theorem ty_any {t : Ty} (hb : bare t = true) : (tyU t).any p = p (typed t) := by
  unfold tyU
  cases ht : tcls t with
  | true => simp [typed, ht]
  | false =>
    have : t.cls = -1 := by simpa [bare, ht] using hb
    simp [hp (typed t) this (by simp [typed, ht])]
theorem fld_any {f : Fld} (hb : bare f.ty = true) : (fldU f).any p = (fref f).any p := by simp [fldU, fref, ty_any hp hb]
theorem heads_any {u : Unt} (hc : classless u = true) : (headsU u).any p = (refs u).any p := by
  unfold classless at hc
  simp only [Bool.and_eq_true, List.all_eq_true] at hc
  obtain ⟨⟨h1, h2⟩, h3⟩ := hc
  unfold headsU refs
  rw [List.any_append, List.any_append, List.any_append, List.any_append, List.any_flatMap, List.any_flatMap, List.any_flatMap, List.any_flatMap, List.any_flatMap, List.any_flatMap]
  congr 1
  · congr 1
    · refine any_congr fun c hcm => ?_
      have hb := h1 c hcm
      simp only [bcls, List.all_eq_true] at hb
      simp only [clsU, cref, List.any_cons, List.any_append, List.any_nil, Bool.or_false, Bool.or_assoc]
      congr 2
      rw [List.any_flatMap, List.any_flatMap]
      exact any_congr fun f hf => fld_any hp (hb f hf)
    · exact any_congr fun f hf => fld_any hp (h2 f hf)
  · refine any_congr fun m hm => ?_
    have hb := h3 m hm
    simp only [bmth, Bool.and_eq_true, List.all_eq_true] at hb
    obtain ⟨⟨g1, g2⟩, g3⟩ := hb
    have e : ∀ l : List Ty, (∀ t ∈ l, bare t = true) → (l.flatMap tyU).any p = (l.map typed).any p := fun l hl => by
      rw [List.any_flatMap, List.any_map]
      exact any_congr fun t ht => ty_any hp (hl t ht)
    simp only [mthU, mref, List.any_cons, List.any_append, List.any_nil, Bool.or_false, Bool.or_assoc, List.flatMap_cons, List.flatMap_nil, List.append_nil]
    rw [e _ g2, e _ g3, ty_any hp g1]
end
theorem bey_none (u : Unt) : ∀ r : Rf, r.at' = -1 → r.opt = true → beyB u r = false := fun r h1 h2 => by simp [beyB, refOk, h1, h2]
theorem frm_none (u : Unt) : ∀ r : Rf, r.at' = -1 → r.opt = true → frmB u r = false := fun r h1 h2 => by simp [frmB, h1]
theorem heads_bey {u : Unt} (hc : classless u = true) : (headsU u).any (beyB u) = !(refs u).all (refOk u.pool.length) := by
  rw [heads_any (bey_none u) hc, List.not_all_eq_any_not]; rfl
theorem heads_frm {u : Unt} (hc : classless u = true) (hr : (refs u).all (refOk u.pool.length) = true) : (headsU u).any (frmB u) = !refsOk u := by
  rw [heads_any (frm_none u) hc]
  unfold refsOk
  rw [List.not_all_eq_any_not]
  rw [List.all_eq_true] at hr
  have : ∀ l : List Rf, (∀ r ∈ l, refOk u.pool.length r = true) → l.any (frmB u) = l.any fun r => !!(decide (0 ≤ r.at') && decide (¬ (path (nm u r.at') : Int) = r.parts)) := by
    intro l hl
    induction l with
    | nil => rfl
    | cons r l ih =>
      rw [List.any_cons, List.any_cons, ih fun x hx => hl x (List.mem_cons_of_mem _ hx)]
      congr 1
      unfold frmB
      rw [hl r (List.mem_cons_self ..)]; simp
  exact this _ hr
/-- the words of one instruction -/
theorem op_any {u : Unt} {i : Ins} (hv : validI i true = true) : ((opU i).any (beyB u) || (opU i).any (frmB u)) = !insOk u i := by
  have hge := operand_ge i hv
  have h12 : i.op = 12 → i.a = 2 ∨ i.a = 3 ∨ i.a = 4 := fun h => by
    obtain ⟨op, a, b⟩ := i
    subst h
    simp [validI, inR, rngs, isPool] at hv
    simp only
    omega
  have key : opU i = if 0 < (operand i).2 then [⟨(operand i).1, (operand i).2, false⟩] else [] := by
    unfold opU operand named
    by_cases e1 : i.op = 17 ∨ i.op = 18
    · simp [e1]
    by_cases e2 : i.op = 14 ∨ i.op = 24 ∨ i.op = 22 ∨ i.op = 23 ∨ i.op = 25
    · simp [e1, e2]
    by_cases e3 : i.op = 16
    · simp [e3]
    by_cases e4 : i.op = 12
    · have := h12 e4
      by_cases e5 : i.a = 3
      · simp [e4, e5]
      · have e6 : i.a = 2 ∨ i.a = 4 := by omega
        simp [e4, e5, e6]
    by_cases e7 : i.op = 26
    · simp [e7]
    simp [e1, e2, e3, e4, e7]
  rw [key]
  unfold insOk
  by_cases h0 : 0 < (operand i).2
  · have h1 := hge h0
    simp only [if_pos h0, List.any_cons, List.any_nil, Bool.or_false, decide_eq_true h0, Bool.true_and, Bool.not_not]
    unfold beyB frmB refOk
    simp only [Bool.and_false, Bool.false_or]
    by_cases h2 : (operand i).1 ≥ u.pool.length
    · simp [h2]
    · have h3 : ¬ (operand i).1 < 0 := by omega
      simp [h2, h3, h1]
  · simp [h0]
end Go.Proofs.YtkmdfjpafkcleaaGreatDoor
/- Walks: the program's Check of a unit. -/
namespace Go.Proofs.YtkmdfjpafkcleaaGreatDoor
open Eng Go.RowKit
/-- what Check's visitor keeps: all but two cells stay; these tell what it has seen -/
structure SeeJ (u : Unt) (bb bf : Nat) (w0 : World) (pre : List Rf) (w : World) : Prop where
  os : w.os = w0.os
  tape : w.tape = w0.tape
  output : w.output = w0.output
  size : w0.heap.size ≤ w.heap.size
  block : ∀ k, k < w0.heap.size → k ≠ bb → k ≠ bf → w.heap[k]? = w0.heap[k]?
  bey : Box w bb 4 [.bool (pre.any (beyB u))]
  frm : Box w bf 4 [.bool (pre.any (frmB u))]
abbrev seeS (bb bf : Nat) (w0 : World) : Nat → Prop := fun i => i < w0.heap.size ∧ i ≠ bb ∧ i ≠ bf
theorem SeeJ.bl {u : Unt} {bb bf : Nat} {w0 : World} {pre : List Rf} {w w' : World} (h : SeeJ u bb bf w0 pre w) (k : Bl w w') : SeeJ u bb bf w0 pre w' :=
  ⟨k.os.trans h.os, k.tape.trans h.tape, k.output.trans h.output, Nat.le_trans h.size k.size, fun i h1 h2 h3 => (k.block i (Nat.lt_of_lt_of_le h1 h.size)).trans (h.block i h1 h2 h3), Bl.box k h.bey, Bl.box k h.frm⟩
theorem SeeJ.kp {u : Unt} {bb bf : Nat} {w0 : World} {pre : List Rf} {w : World} (h : SeeJ u bb bf w0 pre w) : Kp (seeS bb bf w0) w0 w := fun b o v s x => by
  rw [World.cell?_of_block (w := w0) (h.block b s.1 s.2.1 s.2.2)]; exact x
theorem SeeJ.below {u : Unt} {bb bf B : Nat} {w00 w0 : World} {pre : List Rf} {w : World} (h : SeeJ u bb bf w0 pre w) (k : Below B w00 w0) (h1 : B ≤ bb) (h2 : B ≤ bf) (h3 : B ≤ w0.heap.size) : Below B w00 w :=
  ⟨h.os.trans k.os, h.tape.trans k.tape, h.output.trans k.output, Nat.le_trans k.size h.size, fun i hi => (h.block i (by omega) (by omega) (by omega)).trans (k.block i hi)⟩
theorem v_see (u : Unt) (a : UA) (b1 bb bf : Nat) (hne : bb ≠ bf) (n1 : b1 ≠ bb) (n2 : b1 ≠ bf) (w0 : World) (hb1 : b1 < w0.heap.size) (_hbb : bb < w0.heap.size) (_hbf : bf < w0.heap.size) (hU : UnR (seeS bb bf w0) w0 u a) (hx : At w0 b1 0 (ucells u a)) (hG : Gl w0) (hGg : seeS bb bf w0 0) (N : Nat) :
    EachC (seeS bb bf w0) w0 140 [.pointer (some ⟨b1, 0, none⟩), .pointer (some ⟨bb, 0, none⟩), .pointer (some ⟨bf, 0, none⟩)] (SeeJ u bb bf w0) (fun _ => True) N := by
  refine ⟨fun pre w h => h.kp, fun pre w w' k h => h.bl k, fun pre r b o w _ _ _ hJ hc => ?_⟩
  have hb1S : seeS bb bf w0 b1 := ⟨hb1, n1, n2⟩
  show Ret Tryz.prog 140 #[.agg #[.pointer (some ⟨b, o, none⟩), I r.parts, .bool r.opt], .pointer (some ⟨b1, 0, none⟩), .pointer (some ⟨bb, 0, none⟩), .pointer (some ⟨bf, 0, none⟩)] w _
  refine entr (vs := [.agg #[.pointer (some ⟨b, o, none⟩), I r.parts, .bool r.opt], .pointer (some ⟨b1, 0, none⟩), .pointer (some ⟨bb, 0, none⟩), .pointer (some ⟨bf, 0, none⟩)]) [0, 1, 2, 3, 4, 5, 10, 17, 27] tabok Tryz.func140 (by kernel_rfl) ?_
  refine bx (cs := [.pointer (some ⟨b, o, none⟩), I r.parts, .bool r.opt]) fun b4 w1 h1 => ?_
  have hJ1 := hJ.bl h1.bl
  have X1 := hx.kp hJ1.kp hb1S
  refine ld (h1.box.cell rfl) ?_
  refine ld (h1.bl.kp T _ _ _ trivial hc) ?_
  refine ld (h1.box.cell rfl) ?_
  have e1 : ∀ p : Rf → Bool, (pre ++ [r]).any p = (pre.any p || p r) := fun p => by rw [List.any_append]; simp
  have stay : beyB u r = false → frmB u r = false → ∀ {w'}, SeeJ u bb bf w0 pre w' → SeeJ u bb bf w0 (pre ++ [r]) w' := fun h1 h2 w' h => ⟨h.os, h.tape, h.output, h.size, h.block, by rw [e1, h1, Bool.or_false]; exact h.bey, by rw [e1, h2, Bool.or_false]; exact h.frm⟩
  refine br (t := r.opt && decide (r.at' = -1)) (fun h => ?_) (fun h => ?_)
  · simp only [Bool.and_eq_true, decide_eq_true_eq] at h
    exact en (vs := []) (stay (bey_none u r h.2 h.1) (frm_none u r h.2 h.1) hJ1)
  refine ldg (fun _ => X1 1 _ rfl) ?_
  refine br (t := decide (r.at' < 0) || decide ((u.pool.length : Int) ≤ r.at')) (fun h2 => ?_) (fun h2 => ?_)
  · have hb : beyB u r = true := by
      unfold beyB refOk
      have e3 : (decide (r.at' = -1) && r.opt) = false := by rw [Bool.and_comm]; exact h
      rw [e3]; simpa using h2
    have hf : frmB u r = false := by unfold frmB; unfold beyB at hb; simp at hb; simp [hb]
    refine st hJ1.bey (fun w2 h3 y3 => ?_)
    refine en (vs := []) ⟨h3.os.trans hJ1.os, h3.tape.trans hJ1.tape, h3.output.trans hJ1.output, by rw [h3.size]; exact hJ1.size, fun i g1 g2 g3 => (h3.block i g2).trans (hJ1.block i g1 g2 g3), by rw [e1, hb, Bool.or_true]; exact y3, by rw [e1, hf, Bool.or_false]; exact h3.box hJ1.frm (Ne.symm hne)⟩
  have hin : inP u r.at' := by
    simp only [Bool.or_eq_false_iff, decide_eq_false_iff_not] at h2
    exact ⟨by omega, by omega⟩
  have hok : refOk u.pool.length r = true := by unfold refOk; obtain ⟨g1, g2⟩ := hin; simp; right; omega
  have hb : beyB u r = false := by unfold beyB; rw [hok]; rfl
  obtain ⟨b9, o9, e9, hS9, hc9, hz9, hi9, hp9⟩ := pool_at hU hin
  refine dh T [0, 1, 2, 3, 4, 6, 7, 5, 8, 9] fun w2 h2 => ?_
  have hJ2 := hJ1.bl h2.bl
  refine ld ((hx.kp hJ2.kp hb1S) 1 _ rfl) ?_
  rw [e9]
  refine ix (hij := hi9) ?_
  refine ld (hJ2.kp _ _ _ hS9 hc9) ?_
  refine ld ((h2.box h1.box).cell rfl) ?_
  refine cl (u_Path (nm u r.at') w2 hz9 (hG.kp hJ2.kp hGg)) ?_
  rintro _ w3 ⟨rfl, hB3⟩
  have hJ3 := hJ2.bl hB3
  refine br (t := decide (¬ (path (nm u r.at') : Int) = r.parts)) (fun h3 => ?_) (fun h3 => ?_)
  · have hf : frmB u r = true := by unfold frmB; rw [hok, decide_eq_true hin.1, h3]; rfl
    refine st hJ3.frm (fun w4 h4 y4 => ?_)
    refine en (vs := []) ⟨h4.os.trans hJ3.os, h4.tape.trans hJ3.tape, h4.output.trans hJ3.output, by rw [h4.size]; exact hJ3.size, fun i g1 g2 g3 => (h4.block i g3).trans (hJ3.block i g1 g2 g3), by rw [e1, hb, Bool.or_false]; exact h4.box hJ3.bey hne, by rw [e1, hf, Bool.or_true]; exact y4⟩
  · have hf : frmB u r = false := by unfold frmB; rw [h3, Bool.and_false]
    exact en (vs := []) (stay hb hf hJ3)
end Go.Proofs.YtkmdfjpafkcleaaGreatDoor
/- Walks: the program's Check of a unit is the document's. -/
namespace Go.Proofs.YtkmdfjpafkcleaaGreatDoor
open Eng Go.RowKit
theorem Gl.lt {w : World} (h : Gl w) : 0 < w.heap.size := let ⟨_, hm⟩ := h; cell_lt hm
theorem u_Check2 (s : ByteArray) (w : World) (hs : s.size ≤ 1048576) (hG : Gl w) : Ret Tryz.prog 145 #[.string s] w fun v w' => v = .bool (decide ((path s : Int) = 0)) ∧ Bl w w' := by
  refine entr (vs := [.string s]) [0, 2] tabok Tryz.func145 (by kernel_rfl) ?_
  refine cl (u_Path s w hs hG) ?_
  rintro _ w1 ⟨rfl, hB⟩
  exact rt1 ⟨rfl, hB⟩
set_option maxHeartbeats 1000000 in
theorem u_Check (u : Unt) (a : UA) (w : World) (hU : UnR T w u a) (hG : Gl w) : Ret Tryz.prog 89 #[.agg (ucells u a).toArray] w fun v w' => v = I (checkE u) ∧ Bl w w' := by
  have hgl := hG.lt
  refine entr (vs := [.agg (ucells u a).toArray]) [0, 1, 2, 3, 4, 5, 7, 8, 10, 12, 21, 24, 30, 32, 35, 36, 37, 38, 45, 49, 50, 51, 52, 63] tabok Tryz.func89 (by kernel_rfl) ?_
  refine bx (cs := ucells u a) fun b1 w1 h1 => ?_
  refine al fun bb w2 h2 => ?_
  refine al fun bf w3 h3 => ?_
  have q1 := h1.blk
  have q2 := h2.blk
  have q3 := h3.blk
  have z1 := h1.size
  have z2 := h2.size
  have z3 := h3.size
  refine st (Bl.box h3.bl h2.box) (fun w4 h4 y4 => ?_)
  have hf4 := h4.box h3.box (by omega)
  refine st hf4 (fun w5 h5 y5 => ?_)
  have yb5 := h5.box y4 (by omega)
  have z4 := h4.size
  have z5 := h5.size
  have hB5 : Bl w w5 := Below.trans (Below.trans ((h1.bl.trans h2.bl).trans h3.bl) (h4.below (by omega))) (h5.below (by omega))
  have x5 : Box w5 b1 _ (ucells u a) := h5.box (h4.box (Bl.box (h2.bl.trans h3.bl) h1.box) (by omega)) (by omega)
  refine cl (u_long u a b1 w5 x5.at (hU.bl hB5)) ?_
  rintro _ w6 ⟨rfl, hB6⟩
  have hB06 := hB5.trans hB6
  refine br (t := !limits u) (fun h => ?_) (fun h => ?_)
  · exact rt1 ⟨vi (by unfold checkE; rw [if_pos (by simpa using h)]), hB06⟩
  have hl1 : limits u = true := by simpa using h
  have hL := lim_of hl1
  have x6 := Bl.box hB6 x5
  refine ld (x6.cell rfl) ?_
  refine cl (u_Simple u.name w6 hU.nm) ?_
  rintro _ w6 ⟨rfl, rfl⟩
  refine ldg (fun _ => x6.cell rfl) ?_
  refine sp (.bool false) (fun q => ?_) (fun q => ?_)
  rotate_left
  · have hs0 : simple u.name = false := by simpa using q
    refine brt ?_ (hp := by rw [hs0]; rfl)
    exact rt1 ⟨vi (by unfold checkE; rw [if_neg (by rw [hl1]; simp), if_pos hs0]), hB06⟩
  have hs1 : simple u.name = true := by simpa using q
  refine cl (ContainsFunc_str u.pool a.a1 a.c1 145 [] (fun s => decide ((path s : Int) = 0)) T w6 (hU.bl hB06).pool (fun s cs hs w' hB' hr => ?_)) ?_
  · obtain rfl : cs = [.string s] := hr
    exact u_Check2 s w' (hU.ps s hs) (hG.bl (hB06.trans hB'))
  rintro _ w7 ⟨rfl, hB7⟩
  have hB07 := hB06.trans hB7
  have eP : pathsOk u = !(u.pool.any fun s => decide ((path s : Int) = 0)) := by
    unfold pathsOk
    rw [← Bool.not_not (u.pool.all _), List.not_all_eq_any_not]
    congr 1
    exact congrArg (fun f => u.pool.any f) (funext fun s => by by_cases h : (path s : Int) = 0 <;> simp [h])
  refine br (t := false || u.pool.any fun s => decide ((path s : Int) = 0)) (fun h => ?_) (fun h => ?_)
  · have h' : (u.pool.any fun s => decide ((path s : Int) = 0)) = true := by simpa using h
    exact rt1 ⟨vi (by unfold checkE; rw [if_neg (by rw [hl1]; simp), if_neg (by rw [hs1]; simp), if_pos (by rw [eP, h']; rfl)]), hB07⟩
  have h' : (u.pool.any fun s => decide ((path s : Int) = 0)) = false := by simpa using h
  have hp1 : pathsOk u = true := by rw [eP, h']; rfl
  have hE1 : checkE u = if (kinds u && places u) = false then 1 else if refsOk u = false then 8 else if doubled u = true then 9 else if mErr u.methods ≠ 0 then mErr u.methods else if codesOk u = false then 8 else 0 := by
    unfold checkE; rw [if_neg (by rw [hl1]; simp), if_neg (by rw [hs1]; simp), if_neg (by rw [hp1]; simp)]
  have z6 := hB6.size
  have z7 := hB7.size
  have x7 := Bl.box hB7 x6
  have U7 : UnR (seeS bb bf w7) w7 u a := ((hU.lt).bl hB07).sub fun i hi => ⟨by omega, by omega, by omega⟩
  have hE := v_see u a b1 bb bf (by omega) (by omega) (by omega) w7 x7.lt (by omega) (by omega) U7 x7.at (hG.bl hB07) ⟨by omega, by omega, by omega⟩
  have hJ7 : SeeJ u bb bf w7 [] w7 := ⟨rfl, rfl, rfl, Nat.le_refl _, fun _ _ _ _ => rfl, Bl.box (hB6.trans hB7) yb5, Bl.box (hB6.trans hB7) y5⟩
  have hbS : seeS bb bf w7 b1 := ⟨x7.lt, by omega, by omega⟩
  have jb : ∀ {pre w'}, SeeJ u bb bf w7 pre w' → Bl w w' := fun h => h.below hB07 (by omega) (by omega) hB07.size
  refine cl (h_heads (hE _) u (fun _ _ => trivial) a U7 b1 0 hbS x7.at [] w7 hJ7 (Nat.le_refl _)) ?_
  intro v8 w8 hJ8
  rw [List.nil_append] at hJ8
  have hB08 := jb hJ8
  have z8 := hJ8.size
  have X8 := x7.at.kp hJ8.kp hbS
  refine ld (hJ8.bey.cell rfl) ?_
  have U8' : UnR (· < w8.heap.size) w8 u a := ((hU.lt).bl hB08).sub fun i hi => by omega
  have hbey : ∀ {c : Bool}, classless u = c → c = true → (headsU u).any (beyB u) = !(refs u).all (refOk u.pool.length) := fun h1 h2 => heads_bey (by rw [h1, h2])
  refine sp (.bool false) (fun q => ?_) (fun q => ?_)
  rotate_left
  · -- something is beyond
    have q' : (headsU u).any (beyB u) = true := by simpa using q
    refine brt ?_ (hp := by rw [q']; rfl)
    refine rt1 ⟨vi ?_, hB08⟩
    rw [hE1, if_pos]
    cases hc : classless u with
    | false => unfold places; rw [hc]; simp
    | true =>
      rw [heads_bey hc] at q'
      unfold places
      have : (refs u).all (refOk u.pool.length) = false := by simpa using q'
      rw [this]; simp
  have hb8 : (headsU u).any (beyB u) = false := by simpa using q
  refine cl (u_kinds u a b1 w8 U8' (by omega) X8 hL) ?_
  rintro _ w9 ⟨rfl, hB9⟩
  have hJ9 := hJ8.bl hB9
  have hB09 := hB08.trans hB9
  refine br (t := false || !kgood u) (fun h => ?_) (fun h => ?_)
  · have h1 : kgood u = false := by simpa using h
    refine rt1 ⟨vi ?_, hB09⟩
    rw [hE1, if_pos]
    rw [kgood_eq] at h1
    unfold places
    cases hk : kinds u
    · rfl
    · rw [hk] at h1
      have : classless u = false := by simpa using h1
      rw [this]; simp
  have h1 : kgood u = true := by simpa using h
  rw [kgood_eq, Bool.and_eq_true] at h1
  obtain ⟨hk1, hc1⟩ := h1
  have hr1 : (refs u).all (refOk u.pool.length) = true := by rw [heads_bey hc1] at hb8; simpa using hb8
  have hpl : places u = true := by unfold places; rw [hr1, hc1]; rfl
  have hP : Plc u := plc_of hr1
  have hE2 : checkE u = if refsOk u = false then 8 else if doubled u = true then 9 else if mErr u.methods ≠ 0 then mErr u.methods else if codesOk u = false then 8 else 0 := by rw [hE1, if_neg (by rw [hk1, hpl]; simp)]
  have hf8 := heads_frm hc1 hr1
  refine ld (hJ9.frm.cell rfl) ?_
  refine br (t := (headsU u).any (frmB u)) (fun h => ?_) (fun h => ?_)
  · refine rt1 ⟨vi ?_, hB09⟩
    rw [hE2, if_pos]
    rw [hf8] at h; simpa using h
  have hrf : refsOk u = true := by rw [hf8] at h; simpa using h
  have hE3 : checkE u = if doubled u = true then 9 else if mErr u.methods ≠ 0 then mErr u.methods else if codesOk u = false then 8 else 0 := by rw [hE2, if_neg (by rw [hrf]; simp)]
  have X : ∀ {pre w'}, SeeJ u bb bf w7 pre w' → At w' b1 0 (ucells u a) := fun h => x7.at.kp h.kp hbS
  refine cl (u_doubled u a b1 w9 (hU.bl hB09) (X hJ9) hL hP) ?_
  rintro _ w10 ⟨rfl, hB10⟩
  have hJ10 := hJ9.bl hB10
  have hB010 := hB09.trans hB10
  refine br (t := doubled u) (fun h => ?_) (fun h => ?_)
  · exact rt1 ⟨vi (by rw [hE3, if_pos h]), hB010⟩
  have hE4 : checkE u = if mErr u.methods ≠ 0 then mErr u.methods else if codesOk u = false then 8 else 0 := by rw [hE3, if_neg (by rw [h]; simp)]
  have nm3 := hL.mth
  refine ld (X hJ10 4 _ rfl) ?_
  refine lpk u.methods.length 37 [] [(1, .pointer (some ⟨b1, 0, none⟩)), (3, .pointer (some ⟨bb, 0, none⟩)), (4, .pointer (some ⟨bf, 0, none⟩)), (5, .func (.func 140) #[] #[.pointer (some ⟨b1, 0, none⟩), .pointer (some ⟨bb, 0, none⟩), .pointer (some ⟨bf, 0, none⟩)]), (35, .slice a.a4 u.methods.length a.c4), (36, I u.methods.length)]
    (fun k vals w' => vals = [] ∧ (∀ m ∈ u.methods.take k, codeE m.code true = 0) ∧ SeeJ u bb bf w7 (headsU u) w') ⟨rfl, by simp, hJ10⟩ ?_
  rintro k vals w11 hk ⟨rfl, ha11, hJ11⟩ ih
  have hB11 := jb hJ11
  by_cases hlt : k < u.methods.length
  · refine brT ?_
    obtain ⟨m, b2, o2, cs, hm, e2, _, hAt, a1, c1, a2, c2, a3, c3, rfl, f1, f2, f3⟩ := at_some (hU.bl hB11).mth hlt
    rw [e2]
    refine ix ?_
    refine lda hAt ?_
    refine al fun b12 w12 h12 => ?_
    refine sta h12.box (fun w13 h13 y13 => ?_)
    have hB13 := Eng.New.wr h12 h13
    refine ld (y13.cell rfl) ?_
    refine cl (u_codeCheck m.code a3 c3 true T w13 (f3.bl hB13)) ?_
    rintro _ w14 ⟨rfl, hB14⟩
    have hJ14 := hJ11.bl (hB13.trans hB14)
    refine br (t := decide (¬ codeE m.code true = 0)) (fun h => ?_) (fun h => ?_)
    · have h4 := of_decide_eq_true h
      refine rt1 ⟨vi ?_, jb hJ14⟩
      have := mErr_hit hm ha11 h4
      rw [hE4, if_pos (by rw [this]; exact h4), this]
    · have h4 := Classical.not_not.1 (of_decide_eq_false h)
      refine ih hlt ⟨rfl, fun y hy => ?_, hJ14⟩ (hsub := by simp only [e2]; repeat (first | exact True.intro | (refine ⟨rfl, ?_⟩)))
      rw [take_succ_some hm, List.mem_append] at hy
      rcases hy with hy | hy
      · exact ha11 y hy
      · simp at hy; subst hy; exact h4
  refine brF ?_
  obtain rfl : k = u.methods.length := by omega
  rw [List.take_length] at ha11
  have hE5 : checkE u = if codesOk u = false then 8 else 0 := by rw [hE4, if_neg (by rw [mErr_none ha11]; simp)]
  refine ld (X hJ11 4 _ rfl) ?_
  refine lpk u.methods.length 51 [] [(3, .pointer (some ⟨bb, 0, none⟩)), (4, .pointer (some ⟨bf, 0, none⟩)), (5, .func (.func 140) #[] #[.pointer (some ⟨b1, 0, none⟩), .pointer (some ⟨bb, 0, none⟩), .pointer (some ⟨bf, 0, none⟩)]), (49, .slice a.a4 u.methods.length a.c4), (50, I u.methods.length)]
    (fun k vals w' => vals = [] ∧ SeeJ u bb bf w7 (headsU u ++ (u.methods.take k).flatMap fun m => m.code.flatMap opU) w') ⟨rfl, by simpa using hJ11⟩ ?_
  rintro k vals w15 hk ⟨rfl, hJ15⟩ ih
  by_cases hlt : k < u.methods.length
  · refine brT ?_
    obtain ⟨m, b2, o2, cs, hm, e2, hSb, hAt0, a1, c1, a2, c2, a3, c3, rfl, f1, f2, f3⟩ := at_some U7.mth hlt
    rw [e2]
    refine ix ?_
    refine lda (hAt0.kp hJ15.kp hSb) ?_
    refine al fun b16 w16 h16 => ?_
    refine sta h16.box (fun w17 h17 y17 => ?_)
    have hJ17 := hJ15.bl (Eng.New.wr h16 h17)
    refine ld (y17.cell rfl) ?_
    refine cl (h_operands (hE _) m.code (fun _ _ _ _ => trivial) a3 c3 f3 _ w17 hJ17 (Nat.le_refl _)) ?_
    intro v18 w18 hJ18
    refine ih hlt ⟨rfl, ?_⟩ (hsub := by simp only [e2]; repeat (first | exact True.intro | (refine ⟨rfl, ?_⟩)))
    rw [flatMap_snoc hm, ← List.append_assoc]; exact hJ18
  refine brF ?_
  obtain rfl : k = u.methods.length := by omega
  rw [List.take_length] at hJ15
  refine ld (hJ15.bey.cell rfl) ?_
  refine ldg (fun _ => hJ15.frm.cell rfl) ?_
  have hfin : (((headsU u ++ u.methods.flatMap fun m => m.code.flatMap opU).any (beyB u)) || (headsU u ++ u.methods.flatMap fun m => m.code.flatMap opU).any (frmB u)) = !codesOk u := by
    have hf0 : (headsU u).any (frmB u) = false := by rw [hf8, hrf]; rfl
    rw [List.any_append, List.any_append, hb8, hf0, Bool.false_or, Bool.false_or]
    have hval : ∀ m ∈ u.methods, ∀ i ∈ m.code, validI i true = true := fun m hm i hi => by
      have := ha11 m hm
      unfold codeE at this
      split at this
      · cases this
      · split at this
        · rename_i hv
          exact List.all_eq_true.1 hv i hi
        · cases this
    have orflat : ∀ {α : Type} (f : α → List Rf) (l : List α), ((l.flatMap f).any (beyB u) || (l.flatMap f).any (frmB u)) = l.any fun x => (f x).any (beyB u) || (f x).any (frmB u) := fun f l => by
      induction l with
      | nil => rfl
      | cons x l ih =>
        rw [List.flatMap_cons, List.any_append, List.any_append, List.any_cons, ← ih]
        cases (f x).any (beyB u) <;> cases (f x).any (frmB u) <;> cases (l.flatMap f).any (beyB u) <;> cases (l.flatMap f).any (frmB u) <;> rfl
    rw [orflat]
    unfold codesOk
    rw [List.not_all_eq_any_not]
    refine any_congr fun m hm => ?_
    rw [orflat, List.not_all_eq_any_not]
    exact any_congr fun i hi => op_any (hval m hm i hi)
  refine br (t := ((headsU u ++ u.methods.flatMap fun m => m.code.flatMap opU).any (beyB u)) || (headsU u ++ u.methods.flatMap fun m => m.code.flatMap opU).any (frmB u)) (fun h => ?_) (fun h => ?_)
  · rw [hfin] at h
    exact rt1 ⟨vi (by rw [hE5, if_pos (by simpa using h)]), jb hJ15⟩
  · rw [hfin] at h
    exact rt1 ⟨vi (by rw [hE5, if_neg (by simpa using h)]), jb hJ15⟩
end Go.Proofs.YtkmdfjpafkcleaaGreatDoor

/- Walks: a method, and the methods of a selector, in the program's checker. -/
namespace Go.Proofs.YtkmdfjpafkcleaaGreatDoor
open Eng Go.RowKit
theorem k_method1 (m : Mod) (a : MA) (k : Nat) (i : Ins) (b b2 : Nat) (w : World) (hx : At w b 0 (modcells m a)) (hx2 : w.cell? ⟨b2, 0, none⟩ = some (I k)) (hv : validI i false = true) (hk : k ≤ m.methods.length) (hC : ∀ y ∈ m.methods, -1 ≤ y.cls) (hT : ∀ c ∈ m.classes, (c.table.length : Int) = m.sels) (hM : MdR T w m a) :
    Ret Tryz.prog 174 #[.agg (encIns i).toArray, .pointer (some ⟨b, 0, none⟩), .pointer (some ⟨b2, 0, none⟩)] w fun v w' => v = .bool (!oprB m k i) ∧ Bl w w' := by
  refine entr (vs := [.agg (encIns i).toArray, .pointer (some ⟨b, 0, none⟩), .pointer (some ⟨b2, 0, none⟩)]) [0, 1, 2, 3, 4] tabok Tryz.func174 (by kernel_rfl) ?_
  refine bx (cs := encIns i) fun b3 w3 k3 => ?_
  refine lda (hx.bl k3.bl) ?_
  refine ld (Bl.cl k3.bl hx2) ?_
  refine lda k3.box.at ?_
  refine cl (k_operandM m a k i hv hk hC hT w3 (hM.bl k3.bl)) ?_
  rintro _ w4 ⟨rfl, B4⟩
  exact rt1 ⟨rfl, k3.bl.trans B4⟩
def room (x : MM) : Int := 10 - x.params.length - (if 0 ≤ x.cls then 1 else 0)
set_option maxHeartbeats 4000000 in
theorem k_method (m : Mod) (a : MA) (k : Nat) (x : MM) (w : World) (hM : MdR T w m a) (hx : m.methods[k]? = some x) (hc10 : m.classes.length ≤ 10) (_hm16 : m.methods.length ≤ 16) (hC : ∀ y ∈ m.methods, -1 ≤ y.cls) (hT : ∀ c ∈ m.classes, (c.table.length : Int) = m.sels) :
    Ret Tryz.prog 113 #[.agg (modcells m a).toArray, I k] w fun v w' => (∃ b, v = .bool b ∧ (b = true ↔ MthP m k x)) ∧ Bl w w' := by
  have hlt : k < m.methods.length := (List.getElem?_eq_some_iff.1 hx).1
  obtain ⟨x', b, o, cs, hx', e2, _, hAt, a3, c3, a4, c4, a5, c5, rfl, f1, f2, f3, _⟩ := at_some hM.mth hlt
  obtain rfl : x = x' := by rw [hx] at hx'; exact Option.some.inj hx'
  have q1 := f1.big
  have q2 := f2.big
  have q3 := f3.big
  have no : (MthP m k x → False) → (false = true ↔ MthP m k x) := fun h => ⟨(fun q => (by cases q)), fun q => (h q).elim⟩
  refine entr (vs := [.agg (modcells m a).toArray, I k]) [0, 1, 2, 3, 4, 5, 6, 19] tabok Tryz.func113 (by kernel_rfl) ?_
  refine bx (cs := modcells m a) fun b1 w1 k1 => ?_
  refine bx (cs := [I k]) fun b2 w2 k2 => ?_
  have B2 := k1.bl.trans k2.bl
  have x1 := Bl.box k2.bl k1.box
  have x2 := k2.box
  refine ld (x1.cell rfl) ?_
  refine ld (x2.cell rfl) ?_
  rw [e2]
  refine ix ?_
  refine lda (hAt.bl B2) ?_
  refine al fun b5 w3 h3 => ?_
  refine sta (cs' := mmcells x a3 c3 a4 c4 a5 c5) h3.box fun w4 k4 x4 => ?_
  have B24 := h3.wr k4
  have B4 := B2.trans B24
  have y4 := Bl.box B24 x1
  have z4 := Bl.box B24 x2
  refine ld (x4.cell rfl) ?_
  refine ld (x4.cell rfl) ?_
  rw [show IntKind.wrap .i64 (10 - (x.params.length : Int)) = 10 - (x.params.length : Int) from wrap_fit (by omega) (by omega)]
  refine jn [6] [(2, .pointer (some ⟨b1, 0, none⟩)), (3, .pointer (some ⟨b2, 0, none⟩)), (5, .pointer (some ⟨b5, 0, none⟩))] (fun vals w' => vals = [I (room x)] ∧ w4 = w') (fun h jo => ?_) (fun h jo => ?_) ?_
  · have h' : 0 ≤ x.cls := of_decide_eq_true h
    refine jo ⟨?_, rfl⟩
    rw [wrap_fit (by omega) (by omega)]
    unfold room; rw [if_pos h']
  · have h' : ¬ 0 ≤ x.cls := of_decide_eq_false h
    refine jo ⟨?_, rfl⟩
    unfold room; rw [if_neg h', Int.sub_zero]
  rintro vals _ ⟨rfl, rfl⟩
  refine ld (x4.cell rfl) ?_
  refine ldg (fun _ => x4.cell rfl) ?_
  refine ldg (fun _ => y4.cell rfl) ?_
  by_cases hA : -1 ≤ x.cls ∧ x.cls < m.classes.length
  rotate_left
  · refine spn (.agg (modcells m a).toArray) ?_ (hb := by first | rfl | (simp; done) | (simp; omega))
    refine ldg (fun _ => x4.cell rfl) ?_
    refine spn (.bool false) ?_ (hb := by first | rfl | (simp; done) | (simp; omega))
    refine spn (.agg (modcells m a).toArray) ?_ (hb := by first | rfl | (simp; done) | (simp; omega))
    refine ldg (fun _ => x4.cell rfl) ?_
    refine spn (.bool false) ?_ (hb := by first | rfl | (simp; done) | (simp; omega))
    refine spn (.agg (modcells m a).toArray) ?_ (hb := by first | rfl | (simp; done) | (simp; omega))
    refine spn (.agg (encTy x.result).toArray) ?_ (hb := by first | rfl | (simp; done) | (simp; omega))
    refine spn (.bool false) ?_ (hb := by first | rfl | (simp; done) | (simp; omega))
    refine ldg (fun _ => x4.cell rfl) ?_
    refine spn (I 0) ?_ (hb := by first | rfl | (simp; done) | (simp; omega))
    refine ldg (fun _ => x4.cell rfl) ?_
    refine spn (.bool false) ?_ (hb := by first | rfl | (simp; done) | (simp; omega))
    refine rt1 ⟨⟨false, congrArg Value.bool ?_, no fun q => by have := q.c1; have := q.c2; omega⟩, B4⟩
    first | rfl | (simp; done) | (simp; omega)
  have hrl : ∀ q : MthP m k x, (x.locals.length : Int) ≤ room x := fun q => by have := q.ll; unfold room; omega
  refine spt (.agg (modcells m a).toArray) ?_ (hb := by first | rfl | (simp; done) | (simp; omega))
  refine lda y4.at ?_
  refine ldg (fun _ => x4.cell rfl) ?_
  refine spt (.bool false) ?_ (hb := by first | rfl | (simp; done) | (simp; omega))
  refine cl (k_areTypes m a x.params a3 c3 4 w4 (f1.bl B4) (by omega)) ?_
  rintro _ w5 ⟨rfl, B45⟩
  have B5 := B4.trans B45
  have x5 := Bl.box B45 x4
  have y5 := Bl.box B45 y4
  have z5 := Bl.box B45 z4
  obtain ⟨t1, et1⟩ : ∃ t, (decide ((x.params.length : Int) ≤ 4) && x.params.all fun t => ityp m t 1) = t := ⟨_, rfl⟩
  rw [et1]
  cases t1 with
  | false =>
    refine spn (.agg (modcells m a).toArray) ?_ (hb := by first | rfl | (simp; done) | (simp; omega))
    refine ldg (fun _ => x5.cell rfl) ?_
    refine spn (.bool false) ?_ (hb := by first | rfl | (simp; done) | (simp; omega))
    refine spn (.agg (modcells m a).toArray) ?_ (hb := by first | rfl | (simp; done) | (simp; omega))
    refine spn (.agg (encTy x.result).toArray) ?_ (hb := by first | rfl | (simp; done) | (simp; omega))
    refine spn (.bool false) ?_ (hb := by first | rfl | (simp; done) | (simp; omega))
    refine ldg (fun _ => x5.cell rfl) ?_
    refine spn (I 0) ?_ (hb := by first | rfl | (simp; done) | (simp; omega))
    refine ldg (fun _ => x5.cell rfl) ?_
    refine spn (.bool false) ?_ (hb := by first | rfl | (simp; done) | (simp; omega))
    refine rt1 ⟨⟨false, congrArg Value.bool ?_, no fun q => by rw [List.all_eq_true.2 q.pt, decide_eq_true (show (x.params.length : Int) ≤ 4 by have := q.pl; omega)] at et1; cases et1⟩, B5⟩
    first | rfl | (simp; done) | (simp; omega)
  | true =>
  refine spt (.agg (modcells m a).toArray) ?_ (hb := by first | rfl | (simp; done) | (simp; omega))
  refine lda y5.at ?_
  refine ldg (fun _ => x5.cell rfl) ?_
  refine spt (.bool false) ?_ (hb := by first | rfl | (simp; done) | (simp; omega))
  refine cl (k_areTypes m a x.locals a4 c4 (room x) w5 (f2.bl B5) (by omega)) ?_
  rintro _ w6 ⟨rfl, B56⟩
  have B6 := B5.trans B56
  have x6 := Bl.box B56 x5
  have y6 := Bl.box B56 y5
  have z6 := Bl.box B56 z5
  obtain ⟨t2, et2⟩ : ∃ t, (decide ((x.locals.length : Int) ≤ room x) && x.locals.all fun t => ityp m t 1) = t := ⟨_, rfl⟩
  rw [et2]
  cases t2 with
  | false =>
    refine spn (.agg (modcells m a).toArray) ?_ (hb := by first | rfl | (simp; done) | (simp; omega))
    refine spn (.agg (encTy x.result).toArray) ?_ (hb := by first | rfl | (simp; done) | (simp; omega))
    refine spn (.bool false) ?_ (hb := by first | rfl | (simp; done) | (simp; omega))
    refine ldg (fun _ => x6.cell rfl) ?_
    refine spn (I 0) ?_ (hb := by first | rfl | (simp; done) | (simp; omega))
    refine ldg (fun _ => x6.cell rfl) ?_
    refine spn (.bool false) ?_ (hb := by first | rfl | (simp; done) | (simp; omega))
    refine rt1 ⟨⟨false, congrArg Value.bool ?_, no fun q => by rw [List.all_eq_true.2 q.lt, decide_eq_true (hrl q)] at et2; cases et2⟩, B6⟩
    first | rfl | (simp; done) | (simp; omega)
  | true =>
  refine spt (.agg (modcells m a).toArray) ?_ (hb := by first | rfl | (simp; done) | (simp; omega))
  refine lda y6.at ?_
  refine spt (.agg (encTy x.result).toArray) ?_ (hb := by first | rfl | (simp; done) | (simp; omega))
  refine lda (At.left (cs := encTy x.result) x6.at.tail.tail.tail.tail) ?_
  refine spt (.bool false) ?_ (hb := by first | rfl | (simp; done) | (simp; omega))
  refine cl (k_isTypeM m a x.result 0 (.inl rfl) w6 (by omega)) ?_
  rintro _ w7 ⟨rfl, B67⟩
  have B7 := B6.trans B67
  have x7 := Bl.box B67 x6
  have y7 := Bl.box B67 y6
  have z7 := Bl.box B67 z6
  cases hr : ityp m x.result 0 with
  | false =>
    refine ldg (fun _ => x7.cell rfl) ?_
    refine spn (I 0) ?_ (hb := by first | rfl | (simp; done) | (simp; omega))
    refine ldg (fun _ => x7.cell rfl) ?_
    refine spn (.bool false) ?_ (hb := by first | rfl | (simp; done) | (simp; omega))
    refine rt1 ⟨⟨false, congrArg Value.bool ?_, no fun q => by rw [q.rt] at hr; cases hr⟩, B7⟩
    first | rfl | (simp; done) | (simp; omega)
  | true =>
  refine ldg (fun _ => x7.cell rfl) ?_
  refine spt (I 0) ?_ (hb := by first | rfl | (simp; done) | (simp; omega))
  refine cl (u_codeCheck x.code a5 c5 false T w7 (f3.bl B7)) ?_
  rintro _ w8 ⟨rfl, B78⟩
  have B8 := B7.trans B78
  have x8 := Bl.box B78 x7
  have y8 := Bl.box B78 y7
  have z8 := Bl.box B78 z7
  by_cases hcd : codeE x.code false = 0
  rotate_left
  · refine ldg (fun _ => x8.cell rfl) ?_
    refine spn (.bool false) ?_ (hb := by first | (simp; done) | (simp; exact hcd))
    refine rt1 ⟨⟨false, congrArg Value.bool ?_, no fun q => hcd q.cd⟩, B8⟩
    first | (simp; done) | (simp; exact hcd)
  have hval := code_all hcd
  refine ldg (fun _ => x8.cell rfl) ?_
  refine spt (.bool false) ?_ (hb := by first | (simp; done) | (simp; exact hcd))
  refine cl (ContainsFunc_ins x.code a5 c5 174 [.pointer (some ⟨b1, 0, none⟩), .pointer (some ⟨b2, 0, none⟩)] (fun i => !oprB m k i) T w8 (f3.bl B8) fun i cs hi w' kk hr => ?_) ?_
  · obtain rfl : cs = encIns i := hr
    exact k_method1 m a k i b1 b2 w' (Bl.box kk y8).at ((Bl.box kk z8).cell rfl) (hval i hi) (by omega) hC hT (hM.bl (B8.trans kk))
  rintro _ w9 ⟨rfl, B9⟩
  simp only [Bool.and_eq_true, decide_eq_true_eq] at et1 et2
  refine rt1 ⟨⟨x.code.all (oprB m k), congrArg Value.bool ?_, ?_⟩, B8.trans B9⟩
  · rw [List.all_eq_not_any_not]; simp
  · rw [List.all_eq_true]
    exact ⟨fun h => ⟨hA.1, hA.2, by omega, by have := et2.1; unfold room at this; omega, List.all_eq_true.1 et1.2, List.all_eq_true.1 et2.2, hr, hcd, h⟩, fun q => q.op⟩
end Go.Proofs.YtkmdfjpafkcleaaGreatDoor

/- Walks: the document's Check of modules. -/
namespace Go.Proofs.YtkmdfjpafkcleaaGreatDoor
open Eng Go.RowKit
theorem chkE_no {m : Mod} (h : ¬ ModP m) : mchkE m = 1 := by unfold mchkE; rw [if_neg h]
theorem chkE_yes {m : Mod} (h : ModP m) : mchkE m = 0 := by unfold mchkE; rw [if_pos h]
/-- all targets are as the first one -/
theorem alk_of {m : Mod} {s : Nat} {t0 : Int} {x0 : MM} (_h0 : (trgM m s)[0]? = some t0) (_hx0 : m.methods[t0.toNat]? = some x0) (h : ∀ (i : Nat) t x, (trgM m s)[i]? = some t → m.methods[t.toNat]? = some x → x.params = x0.params ∧ x.result = x0.result) : AlkP m s := fun t ht u hu x y hx hy => by
  obtain ⟨i, hi⟩ := List.mem_iff_getElem?.1 ht
  obtain ⟨j, hj⟩ := List.mem_iff_getElem?.1 hu
  obtain ⟨p1, p2⟩ := h i t x hi hx
  obtain ⟨q1, q2⟩ := h j u y hj hy
  exact ⟨p1.trans q1.symm, p2.trans q2.symm⟩
set_option maxHeartbeats 2000000 in
theorem r5_Check (m : Mod) (a : MA) (w : World) (hM : MdR T w m a) : Ret Tryz.prog 19 #[.agg (modcells m a).toArray] w fun v w' => v = I (mchkE m) ∧ Bl w w' := by
  have q1 := hM.cls.big
  have q2 := hM.sta.big
  have q3 := hM.mth.big
  refine entr (vs := [.agg (modcells m a).toArray]) [0, 1, 2, 3, 4, 5, 6, 7, 8, 34, 44, 49, 55, 59, 68, 98] tabok Tryz.func19 (by kernel_rfl) ?_
  refine bx (cs := modcells m a) fun b1 w1 k1 => ?_
  have x1 := k1.box
  refine ld (x1.cell rfl) ?_
  refine ldg (fun _ => x1.cell rfl) ?_
  refine ldg (fun _ => x1.cell rfl) ?_
  refine ldg (fun _ => x1.cell rfl) ?_
  refine ldg (fun _ => x1.cell rfl) ?_
  by_cases hA : 10 < (m.classes.length : Int) ∨ 10 < (m.statics.length : Int) ∨ 16 < (m.methods.length : Int) ∨ m.sels < 0 ∨ 16 < m.sels
  · refine brt ?_ (hp := by first | rfl | (simp; done) | (simp; omega))
    rw [chkE_no fun q => by have := q.cl; have := q.sl; have := q.ml; have := q.z0; have := q.z1; omega]
    exact rt1 ⟨rfl, k1.bl⟩
  refine brf ?_ (hp := by first | rfl | (simp; done) | (simp; omega))
  refine lda x1.at ?_
  refine cl (r5_classes m a w1 (hM.bl k1.bl) (by omega) (by omega) (by omega) (by omega)) ?_ (hm := fun _ _ r => mdW_bl r.2)
  rintro _ w2 ⟨⟨bc, rfl, hbc⟩, B12⟩
  have B2 := k1.bl.trans B12
  have x2 := Bl.box B12 x1
  cases bc with
  | false =>
    refine spn (.agg (modcells m a).toArray) ?_
    refine spn (.slice none 0 0) ?_
    refine spn (.bool false) ?_
    refine brt ?_
    rw [chkE_no fun q => by have := hbc.2 q.cls; cases this]
    exact rt1 ⟨rfl, B2⟩
  | true =>
  have hP := hbc.1 rfl
  have hT : ∀ c ∈ m.classes, (c.table.length : Int) = m.sels := fun c hc => by
    obtain ⟨i, hi⟩ := List.mem_iff_getElem?.1 hc
    exact (hP i c hi).tl
  refine spt (.agg (modcells m a).toArray) ?_
  refine lda x2.at ?_
  refine ldg (fun _ => x2.cell rfl) ?_
  refine spt (.bool false) ?_
  refine cl (r5_types m a m.statics a.a2 a.c2 w2 (hM.bl B2).sta) ?_
  rintro _ w3 ⟨rfl, B23⟩
  have B3 := B2.trans B23
  have x3 := Bl.box B23 x2
  cases hst : m.statics.all fun t => ityp m t 1 with
  | false =>
    refine brt ?_
    rw [chkE_no fun q => by rw [List.all_eq_true.2 q.sta] at hst; cases hst]
    exact rt1 ⟨rfl, B3⟩
  | true =>
  refine brf ?_
  refine lpk m.methods.length 3 [] [(1, .pointer (some ⟨b1, 0, none⟩))] (fun k vals w' => vals = [] ∧ (∀ (i : Nat) x, i < k → m.methods[i]? = some x → MthP m i x) ∧ Bl w3 w') ⟨rfl, fun i x h => by omega, Bl.refl _⟩ ?_
  rintro k vals w4 hk ⟨rfl, hMt, B34⟩ ih
  have x4 := Bl.box B34 x3
  have B4 := B3.trans B34
  refine ld (x4.cell rfl) ?_
  by_cases hlt : k < m.methods.length
  · refine brT ?_
    obtain ⟨x, hx⟩ := some_of_lt hlt
    refine lda x4.at ?_
    refine cl (r5_isMethod m a k x w4 (hM.bl B4) hx (by omega) (by omega) hT) ?_ (hm := fun _ _ r => mdW_bl r.2)
    rintro _ w5 ⟨⟨b, rfl, hb⟩, B45⟩
    cases b with
    | false =>
      refine brt ?_
      rw [chkE_no fun q => by have := hb.2 (q.mth k x hx); cases this]
      exact rt1 ⟨rfl, B4.trans B45⟩
    | true =>
      refine brf ?_
      refine ih hlt ⟨rfl, fun i y hi hy => ?_, B34.trans B45⟩
      rcases Nat.lt_or_ge i k with q | q
      · exact hMt i y q hy
      · obtain rfl : i = k := by omega
        rw [hx] at hy; obtain rfl := Option.some.inj hy; exact hb.1 rfl
  refine brF ?_
  clear ih
  have hMt' : ∀ (k : Nat) x, m.methods[k]? = some x → MthP m k x := fun i x hx => hMt i x (by have := (List.getElem?_eq_some_iff.1 hx).1; omega) hx
  clear hMt
  obtain ⟨n, hn⟩ := Int.eq_ofNat_of_zero_le (show 0 ≤ m.sels by omega)
  refine lpk (vals := []) n 4 [] [(1, .pointer (some ⟨b1, 0, none⟩))] (fun s vals w' => vals = [] ∧ (∀ i : Nat, i < s → AlkP m i) ∧ Bl w4 w') ⟨rfl, fun i h => by omega, Bl.refl _⟩ ?_
  rintro s vals w5 hs ⟨rfl, hAl, B45⟩ ih
  have x5 := Bl.box B45 x4
  have B5 := B4.trans B45
  refine ld (x5.cell rfl) ?_
  by_cases hsl : s < n
  rotate_left
  · refine brF ?_ (hp := by omega)
    rw [chkE_yes ⟨by omega, by omega, by omega, by omega, by omega, hP, List.all_eq_true.1 hst, hMt', fun s' h => hAl s' (by omega)⟩]
    exact rt1 ⟨rfl, B5⟩
  refine brT ?_ (hp := by omega)
  refine lda x5.at ?_
  refine cl (r5_targets m a s (fun c hc => by have := hT c hc; omega) w5 (hM.bl B5)) ?_ (hm := fun _ _ r => by obtain ⟨_, _, _, _, hB⟩ := r; exact mdW_bl hB)
  rintro _ w6 ⟨a6, c6, rfl, hS, B56⟩
  have x6 := Bl.box B56 x5
  have B6 := B5.trans B56
  have hlen := trg_len (m := m) s
  have htr : ∀ t ∈ trgM m s, 0 ≤ t ∧ t < m.methods.length := fun t ht => by
    obtain ⟨h0, c, hc, e⟩ := mem_trg.1 ht
    obtain ⟨k, hk⟩ := List.mem_iff_getElem?.1 hc
    cases hs : c.table[s]? with
    | none => rw [List.getD_eq_getElem?_getD, hs] at e; simp at e; omega
    | some n =>
      rw [List.getD_eq_getElem?_getD, hs] at e
      simp only [Option.getD_some] at e
      subst e
      exact ⟨h0, ((hP k c hk).tb s n hs).hi⟩
  obtain ⟨tr, etr⟩ : ∃ tr, trgM m s = tr := ⟨_, rfl⟩
  rw [etr] at hS hlen htr ⊢
  refine lp (vals := [I 1]) [6] [(1, .pointer (some ⟨b1, 0, none⟩)), (4, I s), (5, .slice a6 tr.length c6)] (fun mm vals w' => ∃ i : Nat, mm = tr.length - i ∧ vals = [I i] ∧ 1 ≤ i ∧ (∀ (j : Nat) t x t0 x0, j < i → tr[j]? = some t → m.methods[t.toNat]? = some x → tr[0]? = some t0 → m.methods[t0.toNat]? = some x0 → x.params = x0.params ∧ x.result = x0.result) ∧ Bl w6 w') ⟨rfl, rfl, rfl, trivial⟩ (m := tr.length - 1)
    ⟨1, rfl, rfl, Nat.le_refl _, fun j t x t0 x0 hj ht hx h0 hx0 => by
      obtain rfl : j = 0 := by omega
      rw [ht] at h0; obtain rfl := Option.some.inj h0; rw [hx] at hx0; obtain rfl := Option.some.inj hx0; exact ⟨rfl, rfl⟩, Bl.refl _⟩ ?_
  rintro mm vals w7 ⟨i, rfl, rfl, hi1, hAi, B67⟩ ih2
  have x7 := Bl.box B67 x6
  have B7 := B6.trans B67
  by_cases hil : i < tr.length
  rotate_left
  · refine brF ?_
    refine ih hsl ⟨rfl, fun j hj => ?_, (B45.trans B56).trans B67⟩
    rcases Nat.lt_or_ge j s with q | q
    · exact hAl j q
    · obtain rfl : j = s := by omega
      intro t ht u hu x y hx hy
      rw [etr] at ht hu
      obtain ⟨i1, h1⟩ := List.mem_iff_getElem?.1 ht
      obtain ⟨i2, h2⟩ := List.mem_iff_getElem?.1 hu
      obtain ⟨t0, h0⟩ := some_of_lt (l := tr) (k := 0) (by have := (List.getElem?_eq_some_iff.1 h1).1; omega)
      have r0 := htr t0 (List.mem_of_getElem? h0)
      obtain ⟨x0, hx0⟩ := some_of_lt (l := m.methods) (k := t0.toNat) (by omega)
      obtain ⟨p1, p2⟩ := hAi i1 t x t0 x0 (by have := (List.getElem?_eq_some_iff.1 h1).1; omega) h1 hx h0 hx0
      obtain ⟨p3, p4⟩ := hAi i2 u y t0 x0 (by have := (List.getElem?_eq_some_iff.1 h2).1; omega) h2 hy h0 hx0
      exact ⟨p1.trans p3.symm, p2.trans p4.symm⟩
  refine brT ?_
  have l7 := x7.lt
  obtain ⟨t0, b8, o8, cs8, h0, e8, s8, hA8, rfl⟩ := at_some (hS.bl B67) (i := 0) (by omega)
  obtain ⟨t, b8', o8', cs8', ht, e8', s8', hA8', rfl⟩ := at_some (hS.bl B67) (i := i) hil
  obtain ⟨rfl, rfl⟩ : b8 = b8' ∧ o8 = o8' := by rw [e8] at e8'; simpa using e8'
  have r0 := htr t0 (List.mem_of_getElem? h0)
  have r1 := htr t (List.mem_of_getElem? ht)
  obtain ⟨j0, hj0⟩ := Int.eq_ofNat_of_zero_le r0.1
  obtain ⟨j1, hj1⟩ := Int.eq_ofNat_of_zero_le r1.1
  obtain ⟨x0, b9, o9, cs9, hx0, e9, s9, hA9, a10, c10, a11, c11, a12, c12, rfl, f1, f2, f3, _⟩ := at_some ((hM.bl B7).mth) (i := j0) (by omega)
  obtain ⟨y0, b9', o9', cs9', hy0, e9', s9', hA9', a10', c10', a11', c11', a12', c12', rfl, g1, g2, g3, _⟩ := at_some ((hM.bl B7).mth) (i := j1) (by omega)
  obtain ⟨rfl, rfl⟩ : b9 = b9' ∧ o9 = o9' := by rw [e9] at e9'; simpa using e9'
  have lb8 := cell_lt (hA8 0 _ rfl)
  have lb8' := cell_lt (hA8' 0 _ rfl)
  have lb9 := cell_lt (hA9 0 _ rfl)
  have lb9' := cell_lt (hA9' 0 _ rfl)
  refine cut [7, 8] [(1, .pointer (some ⟨b1, 0, none⟩)), (4, I s), (5, .slice a6 tr.length c6), (6, I i)] (fun vals w' => ∃ b13 b14, vals = [.pointer (some ⟨b13, 0, none⟩), .pointer (some ⟨b14, 0, none⟩)] ∧ Bl w7 w' ∧ Box w' b13 54 (mmcells x0 a10 c10 a11 c11 a12 c12) ∧ Box w' b14 54 (mmcells y0 a10' c10' a11' c11' a12' c12')) (fun jo => ?_) ?_
  · refine dhb (· < w7.heap.size) (.row [0, 1, 2, 3, 4, 5, 6, 7, 8, 9, 10, 11, 12, 13, 14] (.two 15 (.row [16, 17, 18] .done) 16 (.row [15, 17, 18] .done))) fun w8 k8 => ?_
    have B8 := k8.bl
    refine ld ((k8.box x7).cell rfl) ?_ (hm := l7)
    rw [e8]
    refine ix (j := 0) ?_ (hb := by omega)
    refine ld (hA8.bl B8 0 _ rfl) ?_ (hm := lb8)
    rw [e9]
    refine ix (j := j0) ?_ (hij := hj0) (hb := by omega)
    refine lda (hA9.bl B8) ?_ (hm := lb9)
    refine ld ((k8.box x7).cell rfl) ?_ (hm := l7)
    refine ix (j := i) ?_ (hb := by omega)
    refine ld (hA8'.bl B8 0 _ rfl) ?_ (hm := lb8')
    rw [e9]
    refine ix (j := j1) ?_ (hij := hj1) (hb := by omega)
    refine lda (hA9'.bl B8) ?_ (hm := lb9')
    refine bt ?_ ?_
    · refine al fun b13 w9 k9 => ?_
      refine al fun b14 w10 k10 => ?_
      have y9 := k9.blk
      have y10 := k10.blk
      have z9 := k9.size
      have z10 := k10.size
      have z8 := B8.size
      have v13 := Bl.box k10.bl k9.box
      have v14 := k10.box
      refine sta (cs' := mmcells x0 a10 c10 a11 c11 a12 c12) v13 (fun w11 k11 x11 => ?_) (hm := wrB (by show ¬ b13 < _; omega))
      refine sta (cs' := mmcells y0 a10' c10' a11' c11' a12' c12') (k11.box v14 (by omega)) (fun w12 k12 x12 => ?_) (hm := wrB (by show ¬ b14 < _; omega))
      refine jo ⟨b13, b14, rfl, ?_, k12.box x11 (by omega), x12⟩ (hsub := ⟨rfl, rfl, by rw [e8]; rfl, rfl, trivial⟩)
      exact Below.trans (Below.trans (B8.trans (k9.bl.trans k10.bl)) (k11.below (by omega))) (k12.below (by omega))
    · refine al fun b14 w9 k9 => ?_
      refine al fun b13 w10 k10 => ?_
      have y9 := k9.blk
      have y10 := k10.blk
      have z9 := k9.size
      have z10 := k10.size
      have z8 := B8.size
      have v14 := Bl.box k10.bl k9.box
      have v13 := k10.box
      refine sta (cs' := mmcells x0 a10 c10 a11 c11 a12 c12) v13 (fun w11 k11 x11 => ?_) (hm := wrB (by show ¬ b13 < _; omega))
      refine sta (cs' := mmcells y0 a10' c10' a11' c11' a12' c12') (k11.box v14 (by omega)) (fun w12 k12 x12 => ?_) (hm := wrB (by show ¬ b14 < _; omega))
      refine jo ⟨b13, b14, rfl, ?_, k12.box x11 (by omega), x12⟩ (hsub := ⟨rfl, rfl, by rw [e8]; rfl, rfl, trivial⟩)
      exact Below.trans (Below.trans (B8.trans (k9.bl.trans k10.bl)) (k11.below (by omega))) (k12.below (by omega))
  rintro vals w13 ⟨b13, b14, rfl, B713, x13, x14⟩
  have B13 := B7.trans B713
  refine ld (x13.cell rfl) ?_
  refine ld (x14.cell rfl) ?_
  refine cl (r_SameTypes x0.params y0.params a10 a10' c10 c10' w13 (f1.bl B713) (g1.bl B713)) ?_
  rintro _ w14 ⟨rfl, B14⟩
  have v13 := Bl.box B14 x13
  have v14 := Bl.box B14 x14
  have B014 := B13.trans B14
  have hx0' : m.methods[t0.toNat]? = some x0 := by rw [hj0, Int.toNat_natCast]; exact hx0
  have hy0' : m.methods[t.toNat]? = some y0 := by rw [hj1, Int.toNat_natCast]; exact hy0
  have bad : ¬ (y0.params = x0.params ∧ y0.result = x0.result) → ¬ ModP m := fun hne q => hne (q.alk s (by omega) t (by rw [etr]; exact List.mem_of_getElem? ht) t0 (by rw [etr]; exact List.mem_of_getElem? h0) y0 x0 hy0' hx0')
  by_cases hpp : x0.params = y0.params
  · rw [decide_eq_true hpp]
    refine spt (.agg (encTy x0.result).toArray) ?_
    refine lda (At.left (cs := encTy x0.result) v13.at.tail.tail.tail.tail) ?_
    refine spt (.agg (encTy x0.result).toArray) ?_
    refine lda (At.left (cs := encTy y0.result) v14.at.tail.tail.tail.tail) ?_
    refine spt (.bool false) ?_
    refine neA (fun w => eq_ty x0.result y0.result) ?_
    by_cases hrr : x0.result = y0.result
    · rw [decide_eq_true hrr]
      refine brf ?_
      refine again (ih2 _ _ _ _ (by omega) ⟨rfl, rfl, rfl, trivial⟩ rfl ⟨i + 1, rfl, lst1 (inc hil), by omega, fun j t' x' t0' x0' hj ht' hx' h0' hx0'' => ?_, (B67.trans B713).trans B14⟩)
      rw [h0] at h0'; obtain rfl := Option.some.inj h0'
      rw [hx0'] at hx0''; obtain rfl := Option.some.inj hx0''
      rcases Nat.lt_or_ge j i with q | q
      · exact hAi j t' x' t0 x0 q ht' hx' h0 hx0'
      · obtain rfl : j = i := by omega
        rw [ht] at ht'; obtain rfl := Option.some.inj ht'
        rw [hy0'] at hx'; obtain rfl := Option.some.inj hx'
        exact ⟨hpp.symm, hrr.symm⟩
    · rw [decide_eq_false hrr]
      refine brt ?_
      rw [chkE_no (bad fun q => hrr q.2.symm)]
      exact rt1 ⟨rfl, B014⟩
  · rw [decide_eq_false hpp]
    refine spn (.agg (encTy x0.result).toArray) ?_
    refine spn (.agg (encTy x0.result).toArray) ?_
    refine spn (.bool false) ?_
    refine brt ?_
    rw [chkE_no (bad fun q => hpp q.1.symm)]
    exact rt1 ⟨rfl, B014⟩
end Go.Proofs.YtkmdfjpafkcleaaGreatDoor

/- Walks: the targets of a selector; what a valid module is; Check, in the program. -/
namespace Go.Proofs.YtkmdfjpafkcleaaGreatDoor
open Eng Go.RowKit
def mmD (m : Mod) (t : Int) : MM := (m.methods[t.toNat]?).getD ⟨⟨#[]⟩, 0, [], [], ⟨0, 0⟩, []⟩
def alkB (m : Mod) (t t0 : Int) : Bool := decide ((mmD m t).result = (mmD m t0).result) && decide ((mmD m t).params = (mmD m t0).params)
theorem mmD_at {m : Mod} {j : Nat} {x : MM} (h : m.methods[j]? = some x) : mmD m (j : Int) = x := by unfold mmD; rw [Int.toNat_natCast, h]; rfl
set_option maxHeartbeats 1000000 in
theorem k_alike1 (m : Mod) (a : MA) (j j0 b b5 : Nat) (tr : List Int) (at' : Option Addr) (ct : Nat) (w : World) (hx : Box w b 94 (modcells m a)) (hx5 : w.cell? ⟨b5, 0, none⟩ = some (.slice at' tr.length ct)) (hS : Sl eInt T w at' tr) (h0 : tr[0]? = some (j0 : Int)) (hj : j < m.methods.length) (hj0 : j0 < m.methods.length) (hM : MdR T w m a) :
    Ret Tryz.prog 176 #[I j, .pointer (some ⟨b, 0, none⟩), .pointer (some ⟨b5, 0, none⟩)] w fun v w' => v = .bool (!alkB m j j0) ∧ Bl w w' := by
  have lb := hx.lt
  have lb5 := cell_lt hx5
  have hbig := hM.mth.big
  have htl : 0 < tr.length := (List.getElem?_eq_some_iff.1 h0).1
  obtain ⟨t0, b8, o8, cs8, h0', e8, s8, hA8, rfl⟩ := at_some hS (i := 0) htl
  obtain rfl : t0 = (j0 : Int) := by rw [h0] at h0'; exact (Option.some.inj h0').symm
  obtain ⟨x0, b9, o9, cs9, hx0, e9, s9, hA9, a10, c10, a11, c11, a12, c12, rfl, f1, f2, f3, _⟩ := at_some hM.mth (i := j) hj
  obtain ⟨y0, b9', o9', cs9', hy0, e9', s9', hA9', a10', c10', a11', c11', a12', c12', rfl, g1, g2, g3, _⟩ := at_some hM.mth (i := j0) hj0
  obtain ⟨rfl, rfl⟩ : b9 = b9' ∧ o9 = o9' := by rw [e9] at e9'; simpa using e9'
  have lb8 := cell_lt (hA8 0 _ rfl)
  have lb9 := cell_lt (hA9 0 _ rfl)
  have lb9' := cell_lt (hA9' 0 _ rfl)
  refine entr (vs := [I j, .pointer (some ⟨b, 0, none⟩), .pointer (some ⟨b5, 0, none⟩)]) [0, 1, 2, 4, 5, 6] tabok Tryz.func176 (by kernel_rfl) ?_
  refine cut [5, 6] [] (fun vals w' => ∃ b13 b14, vals = [.pointer (some ⟨b13, 0, none⟩), .pointer (some ⟨b14, 0, none⟩)] ∧ Bl w w' ∧ Box w' b13 54 (mmcells x0 a10 c10 a11 c11 a12 c12) ∧ Box w' b14 54 (mmcells y0 a10' c10' a11' c11' a12' c12')) (fun jo => ?_) ?_
  · refine dhb (· < w.heap.size) (.row [0, 1, 2, 3, 4, 5, 6, 7, 8, 9, 10, 11, 12, 13] (.two 14 (.row [15, 16, 17] .done) 15 (.row [14, 16, 17] .done))) fun w8 k8 => ?_
    have B8 := k8.bl
    refine ld ((k8.box hx).cell rfl) ?_ (hm := lb)
    rw [e9]
    refine ix (j := j) ?_
    refine lda (hA9.bl B8) ?_ (hm := lb9)
    refine ld ((k8.box hx).cell rfl) ?_ (hm := lb)
    refine ld (Bl.cl B8 hx5) ?_ (hm := lb5)
    rw [e8]
    refine ix (j := 0) ?_ (hb := by omega)
    refine ld (hA8.bl B8 0 _ rfl) ?_ (hm := lb8)
    rw [e9]
    refine ix (j := j0) ?_
    refine lda (hA9'.bl B8) ?_ (hm := lb9')
    refine bt ?_ ?_
    · refine al fun b13 w9 k9 => ?_
      refine al fun b14 w10 k10 => ?_
      have y9 := k9.blk
      have y10 := k10.blk
      have z9 := k9.size
      have z10 := k10.size
      have z8 := B8.size
      have v13 := Bl.box k10.bl k9.box
      have v14 := k10.box
      refine sta (cs' := mmcells x0 a10 c10 a11 c11 a12 c12) v13 (fun w11 k11 x11 => ?_) (hm := wrB (by show ¬ b13 < _; omega))
      refine sta (cs' := mmcells y0 a10' c10' a11' c11' a12' c12') (k11.box v14 (by omega)) (fun w12 k12 x12 => ?_) (hm := wrB (by show ¬ b14 < _; omega))
      refine jo ⟨b13, b14, rfl, ?_, k12.box x11 (by omega), x12⟩
      exact Below.trans (Below.trans (B8.trans (k9.bl.trans k10.bl)) (k11.below (by omega))) (k12.below (by omega))
    · refine al fun b14 w9 k9 => ?_
      refine al fun b13 w10 k10 => ?_
      have y9 := k9.blk
      have y10 := k10.blk
      have z9 := k9.size
      have z10 := k10.size
      have z8 := B8.size
      have v14 := Bl.box k10.bl k9.box
      have v13 := k10.box
      refine sta (cs' := mmcells x0 a10 c10 a11 c11 a12 c12) v13 (fun w11 k11 x11 => ?_) (hm := wrB (by show ¬ b13 < _; omega))
      refine sta (cs' := mmcells y0 a10' c10' a11' c11' a12' c12') (k11.box v14 (by omega)) (fun w12 k12 x12 => ?_) (hm := wrB (by show ¬ b14 < _; omega))
      refine jo ⟨b13, b14, rfl, ?_, k12.box x11 (by omega), x12⟩
      exact Below.trans (Below.trans (B8.trans (k9.bl.trans k10.bl)) (k11.below (by omega))) (k12.below (by omega))
  rintro vals w13 ⟨b13, b14, rfl, B13, x13, x14⟩
  refine lda (At.left (cs := encTy x0.result) x13.at.tail.tail.tail.tail) ?_
  refine lda (At.left (cs := encTy y0.result) x14.at.tail.tail.tail.tail) ?_
  refine neA (fun w => eq_ty x0.result y0.result) ?_
  have ea : alkB m j j0 = (decide (x0.result = y0.result) && decide (x0.params = y0.params)) := by unfold alkB; rw [mmD_at hx0, mmD_at hy0]
  rw [ea]
  by_cases hrr : x0.result = y0.result
  · rw [decide_eq_true hrr]
    refine ldg (fun _ => x13.cell rfl) ?_
    refine ldg (fun _ => x14.cell rfl) ?_
    refine spt (.bool false) ?_ (hb := by first | rfl | (simp; done) | (simp; omega))
    refine cl (l_EqualT x0.params y0.params a10 a10' c10 c10' w13 (f1.bl B13) (g1.bl B13)) ?_
    rintro _ w14 ⟨rfl, B14⟩
    exact rt1 ⟨rfl, B13.trans B14⟩
  · rw [decide_eq_false hrr]
    refine ldg (fun _ => x13.cell rfl) ?_
    refine ldg (fun _ => x14.cell rfl) ?_
    refine spn (.bool false) ?_ (hb := by first | rfl | (simp; done) | (simp; omega))
    exact rt1 ⟨rfl, B13⟩
theorem alk_any {m : Mod} {s : Nat} (htr : ∀ t ∈ trgM m s, 0 ≤ t ∧ t < m.methods.length) : ((trgM m s).all fun t => alkB m t ((trgM m s).getD 0 0)) = true ↔ AlkP m s := by
  have key : ∀ t ∈ trgM m s, ∀ x, m.methods[t.toNat]? = some x → mmD m t = x := fun t ht x hx => by unfold mmD; rw [hx]; rfl
  rw [List.all_eq_true]
  constructor
  · intro h t ht u hu x y hx hy
    have h1 := h t ht
    have h2 := h u hu
    unfold alkB at h1 h2
    simp only [Bool.and_eq_true, decide_eq_true_eq] at h1 h2
    rw [key t ht x hx] at h1
    rw [key u hu y hy] at h2
    exact ⟨h1.2.trans h2.2.symm, h1.1.trans h2.1.symm⟩
  · intro h t ht
    have h0 : (trgM m s).getD 0 0 ∈ trgM m s := by
      cases hl : trgM m s with
      | nil => rw [hl] at ht; cases ht
      | cons z l => exact List.mem_cons_self ..
    obtain ⟨x, hx⟩ := some_of_lt (l := m.methods) (k := t.toNat) (by have := htr t ht; omega)
    obtain ⟨y, hy⟩ := some_of_lt (l := m.methods) (k := ((trgM m s).getD 0 0).toNat) (by have := htr _ h0; omega)
    obtain ⟨e1, e2⟩ := h t ht _ h0 x y hx hy
    unfold alkB
    rw [key t ht x hx, key _ h0 y hy, e1, e2]; simp
theorem k_alike (m : Mod) (a : MA) (s : Nat) (hT : ∀ c ∈ m.classes, s < c.table.length) (htr : ∀ t ∈ trgM m s, 0 ≤ t ∧ t < m.methods.length) (w : World) (hM : MdR T w m a) :
    Ret Tryz.prog 114 #[.agg (modcells m a).toArray, I s] w fun v w' => (∃ b, v = .bool b ∧ (b = true ↔ AlkP m s)) ∧ Bl w w' := by
  have hbig := hM.cls.big
  refine entr (vs := [.agg (modcells m a).toArray, I s]) [0, 1, 2, 4, 5] tabok Tryz.func114 (by kernel_rfl) ?_
  refine bx (cs := modcells m a) fun b1 w1 k1 => ?_
  have x1 := k1.box
  refine lda x1.at ?_
  refine cl (k_targets m a s hT w1 (hM.bl k1.bl)) ?_ (hm := fun _ _ r => by obtain ⟨_, _, _, _, hB⟩ := r; exact mdW_bl hB)
  rintro _ w2 ⟨a2, c2, rfl, O2, B2⟩
  have hlen := trg_len (m := m) s
  refine al fun b5 w3 k3 => ?_
  refine st k3.box fun w4 k4 x4 => ?_
  have B24 := k3.wr k4
  have O4 := O2.bl B24
  have B4 := (k1.bl.trans B2).trans B24
  have y4 := Bl.box (B2.trans B24) x1
  have S4 : Sl eInt T w4 a2 (trgM m s) := owp_sl O4 (by omega) fun _ _ => trivial
  refine ld (x4.cell rfl) ?_
  refine cl (ContainsFunc_int (trgM m s) a2 c2 176 [.pointer (some ⟨b1, 0, none⟩), .pointer (some ⟨b5, 0, none⟩)] (fun t => !alkB m t ((trgM m s).getD 0 0)) T w4 S4 fun t cs ht w' kk hr => ?_) ?_
  · obtain rfl : cs = encInt t := hr
    have h0 : (trgM m s)[0]? = some ((trgM m s).getD 0 0) := by
      cases hl : trgM m s with
      | nil => rw [hl] at ht; cases ht
      | cons z l => rfl
    have h0m := List.mem_of_getElem? h0
    obtain ⟨j, hj⟩ := Int.eq_ofNat_of_zero_le (htr t ht).1
    obtain ⟨j0, hj0⟩ := Int.eq_ofNat_of_zero_le (htr _ h0m).1
    have r1 := (htr t ht).2
    have r2 := (htr _ h0m).2
    rw [hj0] at h0 r2 ⊢
    subst hj
    exact k_alike1 m a j j0 b1 b5 (trgM m s) a2 c2 w' (Bl.box kk y4) ((Bl.box kk x4).cell rfl) (S4.bl kk) h0 (by omega) (by omega) (hM.bl (B4.trans kk))
  rintro _ w5 ⟨rfl, B5⟩
  refine rt1 ⟨⟨(trgM m s).all fun t => alkB m t ((trgM m s).getD 0 0), congrArg Value.bool ?_, alk_any htr⟩, B4.trans B5⟩
  rw [List.all_eq_not_any_not]
end Go.Proofs.YtkmdfjpafkcleaaGreatDoor

/- Walks: Check of modules, in the program. -/
namespace Go.Proofs.YtkmdfjpafkcleaaGreatDoor
open Eng Go.RowKit
set_option maxHeartbeats 1000000 in
theorem k_valid (m : Mod) (a : MA) (w : World) (hM : MdR T w m a) : Ret Tryz.prog 50 #[.agg (modcells m a).toArray] w fun v w' => (∃ b, v = .bool b ∧ (b = true ↔ ModP m)) ∧ Bl w w' := by
  have q1 := hM.cls.big
  have q2 := hM.sta.big
  have q3 := hM.mth.big
  have no : (ModP m → False) → (false = true ↔ ModP m) := fun h => ⟨(fun q => (by cases q)), fun q => (h q).elim⟩
  refine entr (vs := [.agg (modcells m a).toArray]) [0, 1, 2, 3, 4, 5, 6, 7, 8, 37, 40, 41, 42, 58, 62, 63, 64, 69, 73, 74, 75, 80, 83, 84, 85, 90] tabok Tryz.func50 (by kernel_rfl) ?_
  refine bx (cs := modcells m a) fun b1 w1 k1 => ?_
  refine lda k1.box.at ?_
  refine al fun b3 w2 h2 => ?_
  refine sta (cs' := modcells m a) h2.box fun w3 k3 x3 => ?_
  have B13 := h2.wr k3
  have B3 := k1.bl.trans B13
  have y3 := Bl.box B13 k1.box
  refine ld (x3.cell rfl) ?_
  refine ldg (fun _ => x3.cell rfl) ?_
  refine ldg (fun _ => x3.cell rfl) ?_
  refine ldg (fun _ => x3.cell rfl) ?_
  by_cases hA : 10 < (m.classes.length : Int) ∨ 16 < (m.methods.length : Int) ∨ m.sels < 0 ∨ 16 < m.sels
  · refine spn (.agg (modcells m a).toArray) ?_ (hb := by first | rfl | (simp; done) | (simp; omega))
    refine ldg (fun _ => x3.cell rfl) ?_
    refine spn (.bool false) ?_ (hb := by first | rfl | (simp; done) | (simp; omega))
    refine brt ?_ (hp := by first | rfl | (simp; done) | (simp; omega))
    exact rt1 ⟨⟨false, rfl, no fun q => by have := q.cl; have := q.ml; have := q.z0; have := q.z1; omega⟩, B3⟩
  refine spt (.agg (modcells m a).toArray) ?_ (hb := by first | rfl | (simp; done) | (simp; omega))
  refine lda y3.at ?_
  refine ldg (fun _ => x3.cell rfl) ?_
  refine spt (.bool false) ?_ (hb := by first | rfl | (simp; done) | (simp; omega))
  refine cl (k_areTypes m a m.statics a.a2 a.c2 10 w3 (hM.bl B3).sta (by omega)) ?_
  rintro _ w4 ⟨rfl, B34⟩
  have B4 := B3.trans B34
  have x4 := Bl.box B34 x3
  have y4 := Bl.box B34 y3
  obtain ⟨t1, et1⟩ : ∃ t, (decide ((m.statics.length : Int) ≤ 10) && m.statics.all fun t => ityp m t 1) = t := ⟨_, rfl⟩
  rw [et1]
  cases t1 with
  | false =>
    refine brt ?_ (hp := by first | rfl | (simp; done) | (simp; omega))
    exact rt1 ⟨⟨false, rfl, no fun q => by rw [List.all_eq_true.2 q.sta, decide_eq_true (show (m.statics.length : Int) ≤ 10 by have := q.sl; omega)] at et1; cases et1⟩, B4⟩
  | true =>
  simp only [Bool.and_eq_true, decide_eq_true_eq] at et1
  refine brf ?_ (hp := by first | rfl | (simp; done) | (simp; omega))
  refine ld (x4.cell rfl) ?_
  refine lpk m.methods.length 41 [] [(1, .pointer (some ⟨b1, 0, none⟩)), (3, .pointer (some ⟨b3, 0, none⟩)), (40, I m.methods.length)] (fun k vals w' => vals = [] ∧ (∀ (i : Nat) y, i < k → m.methods[i]? = some y → -1 ≤ y.cls ∧ y.cls < m.classes.length) ∧ w4 = w') ⟨rfl, fun i y h => by omega, rfl⟩ ?_
  rintro k vals _ hk ⟨rfl, hR, rfl⟩ ih
  by_cases hlt : k < m.methods.length
  · refine brT ?_
    obtain ⟨y, b, o, cs, hy, e2, _, hAt, a5, c5, a6, c6, a7, c7, rfl, _⟩ := at_some (hM.bl B4).mth hlt
    refine ld (x4.cell rfl) ?_
    rw [e2]
    refine ix ?_
    refine ld (hAt 1 _ rfl) ?_
    refine ldg (fun _ => x4.cell rfl) ?_
    by_cases hB : y.cls < -1 ∨ (m.classes.length : Int) ≤ y.cls
    · refine brt ?_ (hp := by first | rfl | (simp; done) | (simp; omega))
      exact rt1 ⟨⟨false, rfl, no fun q => by have := (q.mth k y hy).c1; have := (q.mth k y hy).c2; omega⟩, B4⟩
    · refine brf ?_ (hp := by first | rfl | (simp; done) | (simp; omega))
      refine ih hlt ⟨rfl, fun i z hi hz => ?_, rfl⟩
      rcases Nat.lt_or_ge i k with q | q
      · exact hR i z q hz
      · obtain rfl : i = k := by omega
        rw [hy] at hz; obtain rfl := Option.some.inj hz; omega
  refine brF ?_
  clear ih
  have hC : ∀ y ∈ m.methods, -1 ≤ y.cls := fun y hy => by
    obtain ⟨i, hi⟩ := List.mem_iff_getElem?.1 hy
    exact (hR i y (by have := (List.getElem?_eq_some_iff.1 hi).1; omega) hi).1
  refine ld (x4.cell rfl) ?_
  refine lpk (vals := []) m.classes.length 63 [] [(1, .pointer (some ⟨b1, 0, none⟩)), (3, .pointer (some ⟨b3, 0, none⟩)), (62, I m.classes.length)] (fun k vals w' => vals = [] ∧ (∀ (i : Nat) x, i < k → m.classes[i]? = some x → ClsP m i x) ∧ Bl w4 w') ⟨rfl, fun i y h => by omega, Bl.refl _⟩ ?_
  clear hk hR hlt
  rintro k vals w5 hk ⟨rfl, hP, B45⟩ ih
  have x5 := Bl.box B45 x4
  have y5 := Bl.box B45 y4
  have B5 := B4.trans B45
  by_cases hlt : k < m.classes.length
  · refine brT ?_
    obtain ⟨c, hc⟩ := some_of_lt hlt
    refine lda y5.at ?_
    refine cl (k_class m a k c w5 (hM.bl B5) hc hP (by omega) (by omega) (by omega) (by omega)) ?_ (hm := fun _ _ r => mdW_bl r.2)
    rintro _ w6 ⟨⟨b, rfl, hb⟩, B6⟩
    cases b with
    | false =>
      refine brt ?_ (hp := by first | rfl | (simp; done) | (simp; omega))
      exact rt1 ⟨⟨false, rfl, no fun q => by have := hb.2 (q.cls k c hc); cases this⟩, B5.trans B6⟩
    | true =>
      refine brf ?_ (hp := by first | rfl | (simp; done) | (simp; omega))
      refine ih hlt ⟨rfl, fun i z hi hz => ?_, B45.trans B6⟩
      rcases Nat.lt_or_ge i k with q | q
      · exact hP i z q hz
      · obtain rfl : i = k := by omega
        rw [hc] at hz; obtain rfl := Option.some.inj hz; exact hb.1 rfl
  refine brF ?_
  clear ih
  have hP' : ∀ (k : Nat) x, m.classes[k]? = some x → ClsP m k x := fun i x hx => hP i x (by have := (List.getElem?_eq_some_iff.1 hx).1; omega) hx
  have hT : ∀ c ∈ m.classes, (c.table.length : Int) = m.sels := fun c hc => by
    obtain ⟨i, hi⟩ := List.mem_iff_getElem?.1 hc
    exact (hP' i c hi).tl
  refine ld (x5.cell rfl) ?_
  refine lpk (vals := []) m.methods.length 74 [] [(1, .pointer (some ⟨b1, 0, none⟩)), (3, .pointer (some ⟨b3, 0, none⟩)), (73, I m.methods.length)] (fun k vals w' => vals = [] ∧ (∀ (i : Nat) x, i < k → m.methods[i]? = some x → MthP m i x) ∧ Bl w5 w') ⟨rfl, fun i y h => by omega, Bl.refl _⟩ ?_
  clear hk hP hlt
  rintro k vals w6 hk ⟨rfl, hMt, B56⟩ ih
  have x6 := Bl.box B56 x5
  have y6 := Bl.box B56 y5
  have B6 := B5.trans B56
  by_cases hlt : k < m.methods.length
  · refine brT ?_
    obtain ⟨x, hx⟩ := some_of_lt hlt
    refine lda y6.at ?_
    refine cl (k_method m a k x w6 (hM.bl B6) hx (by omega) (by omega) hC hT) ?_ (hm := fun _ _ r => mdW_bl r.2)
    rintro _ w7 ⟨⟨b, rfl, hb⟩, B7⟩
    cases b with
    | false =>
      refine brt ?_ (hp := by first | rfl | (simp; done) | (simp; omega))
      exact rt1 ⟨⟨false, rfl, no fun q => by have := hb.2 (q.mth k x hx); cases this⟩, B6.trans B7⟩
    | true =>
      refine brf ?_ (hp := by first | rfl | (simp; done) | (simp; omega))
      refine ih hlt ⟨rfl, fun i z hi hz => ?_, B56.trans B7⟩
      rcases Nat.lt_or_ge i k with q | q
      · exact hMt i z q hz
      · obtain rfl : i = k := by omega
        rw [hx] at hz; obtain rfl := Option.some.inj hz; exact hb.1 rfl
  refine brF ?_
  clear ih
  have hMt' : ∀ (k : Nat) x, m.methods[k]? = some x → MthP m k x := fun i x hx => hMt i x (by have := (List.getElem?_eq_some_iff.1 hx).1; omega) hx
  clear hMt hk
  obtain ⟨n, hn⟩ := Int.eq_ofNat_of_zero_le (show 0 ≤ m.sels by omega)
  refine ld (x6.cell rfl) ?_
  refine lpk (vals := []) n 84 [] [(1, .pointer (some ⟨b1, 0, none⟩)), (83, I m.sels)] (fun s vals w' => vals = [] ∧ (∀ i : Nat, i < s → AlkP m i) ∧ Bl w6 w') ⟨rfl, fun i h => by omega, Bl.refl _⟩ ?_
  rintro s vals w7 hs ⟨rfl, hAl, B67⟩ ih
  have y7 := Bl.box B67 y6
  have B7 := B6.trans B67
  by_cases hsl : s < n
  rotate_left
  · refine brF ?_ (hp := by omega)
    exact rt1 ⟨⟨true, rfl, ⟨fun _ => ⟨by omega, by omega, by omega, by omega, by omega, hP', List.all_eq_true.1 et1.2, hMt', fun s' h => hAl s' (by omega)⟩, fun _ => rfl⟩⟩, B7⟩
  refine brT ?_ (hp := by omega)
  have htr : ∀ t ∈ trgM m s, 0 ≤ t ∧ t < m.methods.length := fun t ht => by
    obtain ⟨h0, c, hc, e⟩ := mem_trg.1 ht
    obtain ⟨k, hk⟩ := List.mem_iff_getElem?.1 hc
    cases hs : c.table[s]? with
    | none => rw [List.getD_eq_getElem?_getD, hs] at e; simp at e; omega
    | some n =>
      rw [List.getD_eq_getElem?_getD, hs] at e
      simp only [Option.getD_some] at e
      subst e
      exact ⟨h0, ((hP' k c hk).tb s n hs).hi⟩
  refine lda y7.at ?_
  refine cl (k_alike m a s (fun c hc => by have := hT c hc; omega) htr w7 (hM.bl B7)) ?_ (hm := fun _ _ r => mdW_bl r.2)
  rintro _ w8 ⟨⟨b, rfl, hb⟩, B8⟩
  cases b with
  | false =>
    refine brt ?_ (hp := by first | rfl | (simp; done) | (simp; omega))
    exact rt1 ⟨⟨false, rfl, no fun q => by have := hb.2 (q.alk s (by omega)); cases this⟩, B7.trans B8⟩
  | true =>
    refine brf ?_ (hp := by first | rfl | (simp; done) | (simp; omega))
    refine ih hsl ⟨rfl, fun i hi => ?_, B67.trans B8⟩
    rcases Nat.lt_or_ge i s with q | q
    · exact hAl i q
    · obtain rfl : i = s := by omega
      exact hb.1 rfl
theorem k_Check (m : Mod) (a : MA) (w : World) (hM : MdR T w m a) : Ret Tryz.prog 18 #[.agg (modcells m a).toArray] w fun v w' => v = I (mchkE m) ∧ Bl w w' := by
  refine entr (vs := [.agg (modcells m a).toArray]) [0, 1, 2, 6] tabok Tryz.func18 (by kernel_rfl) ?_
  refine bx (cs := modcells m a) fun b1 w1 k1 => ?_
  refine lda k1.box.at ?_
  refine bd (cs := modcells m a) ?_
  refine cl (k_valid m a w1 (hM.bl k1.bl)) ?_ (hm := fun _ _ r => mdW_bl r.2)
  rintro _ w2 ⟨⟨b, rfl, hb⟩, B2⟩
  cases b with
  | false =>
    refine brt ?_ (hp := by first | rfl | (simp; done) | (simp; omega))
    rw [chkE_no fun q => by have := hb.2 q; cases this]
    exact rt1 ⟨rfl, k1.bl.trans B2⟩
  | true =>
    refine brf ?_ (hp := by first | rfl | (simp; done) | (simp; omega))
    rw [chkE_yes (hb.1 rfl)]
    exact rt1 ⟨rfl, k1.bl.trans B2⟩
end Go.Proofs.YtkmdfjpafkcleaaGreatDoor

/- Walks: what is asked of a module; Below and Common, in the program and in the document. -/
namespace Go.Proofs.YtkmdfjpafkcleaaGreatDoor
open Eng Go.RowKit
theorem eqgn_bool {P : Program} (w : World) (b : BinOp) (t : TypeId) (x y : Operand) (n m : Bool) : (eqGuard b t x y (.bool n) (.bool m)).run P w = .ok () w := by cases b <;> rfl
theorem equaln_bool {P : Program} {w : World} {t : TypeId} {a b : Bool} (hu : P.underlying t = some .bool) : (Op.equal t (.bool a) (.bool b)).run P w = .ok (a == b) w := by
  unfold Op.equal Op.equalIn
  split
  · rename_i h; cases h
  · simp [run_underlying hu]
theorem binOp_bne {P : Program} {w : World} {t : TypeId} {a b : Bool} (hu : P.underlying t = some .bool) : (binOp .neq t (.bool a) (.bool b)).run P w = .ok (.bool (!(a == b))) w := by simp [binOp, pure, equaln_bool hu]
/-- != on two truths -/
theorem Eng.bnb {C : Cx} {s : St} {w : World} {md : Option Md} {ops : Array Oper} {T T' : TypeId} {x y : Operand} {d : Nat} {ty : TypeId} {pos : String} {af : Array Edge} {g : Option (Nat × Bool)} {rest : List Oper} {k : List Item} {l : Env} {c : CEnv} {a b : Bool}
    (h : Wk C (.reg md ops rest k ((d, .bool (!(a == b))) :: l) c) w)
    (hs : adv C.tab C.n C.ks 400 s = .opn md ops ⟨some d, .binOp .neq T x y T', ty, pos, af, g⟩ rest k l c [] := by rfl) (hx : evc l c [] x = some (.bool a) := by rfl) (hy : evc l c [] y = some (.bool b) := by rfl) (hu : C.P.underlying T = some .bool := by kernel_rfl) (hf : fresh d l c [] = true := by rfl) : Wk C s w :=
  rd (p := []) (fun _ _ hA hp w' _ => by
    simp only [execOp, evc_ok hA.k hA.kc.c hp hx, evc_ok hA.k hA.kc.c hp hy]
    exact run_bind_ok (run_bind_ok (eqgn_bool ..) |>.trans (binOp_bne hu)) |>.trans rfl) h hs rfl hf (okR_no rfl)
/-- the word on a module and indexes of lists with n elements -/
noncomputable def askE (m : Mod) (n : Int) (ix : List Int) : Int := if mchkE m = 0 ∧ ∀ i ∈ ix, 0 ≤ i ∧ i < n then 0 else 1
theorem chkE_cases (m : Mod) : mchkE m = 0 ∨ mchkE m = 1 := by
  by_cases h : ModP m
  · exact .inl (chkE_yes h)
  · exact .inr (chkE_no h)
theorem modP_of {m : Mod} (h : mchkE m = 0) : ModP m := Classical.byContradiction fun q => by rw [chkE_no q] at h; cases h
theorem ask_yes {m : Mod} {n : Int} {ix : List Int} (h : askE m n ix = 0) : mchkE m = 0 ∧ ∀ i ∈ ix, 0 ≤ i ∧ i < n := by
  unfold askE at h
  split at h
  · rename_i q; exact q
  · cases h
theorem ask_cases (m : Mod) (n : Int) (ix : List Int) : askE m n ix = 0 ∨ askE m n ix = 1 := by
  unfold askE
  split
  · exact .inl rfl
  · exact .inr rfl
theorem ask_two (m : Mod) (n x y : Int) : askE m n [x, y] = if askE m n [x] = 0 then askE m n [y] else 1 := by
  unfold askE
  by_cases h0 : mchkE m = 0 <;> by_cases h1 : 0 ≤ x ∧ x < n <;> by_cases h2 : 0 ≤ y ∧ y < n <;> simp [h0, h1, h2]
theorem k_asked1 (x n : Int) (b : Nat) (w : World) (hx : w.cell? ⟨b, 0, none⟩ = some (I n)) : Ret Tryz.prog 133 #[I x, .pointer (some ⟨b, 0, none⟩)] w fun v w' => v = .bool (decide (x < 0) || decide (n ≤ x)) ∧ Bl w w' := by
  refine entr (vs := [I x, .pointer (some ⟨b, 0, none⟩)]) [0, 1, 3] tabok Tryz.func133 (by kernel_rfl) ?_
  refine ldg (fun _ => hx) ?_
  exact rt1 ⟨rfl, Bl.refl _⟩
theorem k_asked (m : Mod) (a : MA) (n : Int) (ix : List Int) (ai : Option Addr) (ci : Nat) (w : World) (hM : MdR T w m a) (hS : Sl eInt T w ai ix) :
    Ret Tryz.prog 69 #[.agg (modcells m a).toArray, I n, .slice ai ix.length ci] w fun v w' => v = I (askE m n ix) ∧ Bl w w' := by
  refine entr (vs := [.agg (modcells m a).toArray, I n, .slice ai ix.length ci]) [0, 1, 2, 3, 4, 6, 14] tabok Tryz.func69 (by kernel_rfl) ?_
  refine bx (cs := modcells m a) fun b1 w1 k1 => ?_
  refine bx (cs := [I n]) fun b2 w2 k2 => ?_
  have B2 := k1.bl.trans k2.bl
  refine lda (Bl.box k2.bl k1.box).at ?_
  refine cl (k_Check m a w2 (hM.bl B2)) ?_
  rintro _ w3 ⟨rfl, B23⟩
  have B3 := B2.trans B23
  by_cases h0 : mchkE m = 0
  rotate_left
  · refine spn (.bool false) ?_ (hb := by first | (simp; done) | (simp; exact h0))
    refine brt ?_ (hp := by first | (simp; done) | (simp; exact h0))
    have : askE m n ix = 1 := by unfold askE; rw [if_neg fun q => h0 q.1]
    rw [this]
    exact rt1 ⟨rfl, B3⟩
  refine spt (.bool false) ?_ (hb := by first | (simp; done) | (simp; exact h0))
  refine cl (ContainsFunc_int ix ai ci 133 [.pointer (some ⟨b2, 0, none⟩)] (fun x => decide (x < 0) || decide (n ≤ x)) T w3 (hS.bl B3) fun x cs hx w' kk hr => ?_) ?_
  · obtain rfl : cs = encInt x := hr
    exact k_asked1 x n b2 w' ((Bl.box (B23.trans kk) k2.box).cell rfl)
  rintro _ w4 ⟨rfl, B34⟩
  rw [h0]
  cases hb : ix.any fun x => decide (x < 0) || decide (n ≤ x) with
  | true =>
    refine brt ?_
    obtain ⟨x, hx, hx2⟩ := List.any_eq_true.1 hb
    have : askE m n ix = 1 := by
      unfold askE; rw [if_neg fun q => ?_]
      have := q.2 x hx
      simp only [Bool.or_eq_true, decide_eq_true_eq] at hx2
      omega
    rw [this]
    exact rt1 ⟨rfl, B3.trans B34⟩
  | false =>
    refine brf ?_
    have : askE m n ix = 0 := by
      unfold askE
      refine if_pos ⟨h0, fun x hx => ?_⟩
      have := List.any_eq_false.1 hb x hx
      simp only [Bool.or_eq_true, decide_eq_true_eq] at this
      omega
    rw [this]
    exact rt1 ⟨rfl, B3.trans B34⟩
theorem r5_within (m : Mod) (a : MA) (i n : Int) (w : World) (hM : MdR T w m a) : Ret Tryz.prog 70 #[.agg (modcells m a).toArray, I i, I n] w fun v w' => v = I (askE m n [i]) ∧ Bl w w' := by
  refine entr (vs := [.agg (modcells m a).toArray, I i, I n]) [0, 1, 2, 3, 6, 7, 20] tabok Tryz.func70 (by kernel_rfl) ?_
  refine bx (cs := modcells m a) fun b1 w1 k1 => ?_
  refine lda k1.box.at ?_
  refine cl (r5_Check m a w1 (hM.bl k1.bl)) ?_
  rintro _ w2 ⟨rfl, B2⟩
  by_cases h0 : mchkE m = 0
  · rw [h0]
    by_cases hi : 0 ≤ i ∧ i < n
    · refine brf ?_ (hp := by first | rfl | (simp; done) | (simp; omega))
      have : askE m n [i] = 0 := by unfold askE; rw [if_pos ⟨h0, by simpa using hi⟩]
      rw [this]
      exact rt1 ⟨rfl, k1.bl.trans B2⟩
    · refine brt ?_ (hp := by first | rfl | (simp; done) | (simp; omega))
      have : askE m n [i] = 1 := by unfold askE; rw [if_neg fun q => hi (q.2 i (by simp))]
      rw [this]
      exact rt1 ⟨rfl, k1.bl.trans B2⟩
  · refine brf ?_ (hp := by first | (simp; done) | (simp; exact h0) | (rw [decide_eq_false h0]; simp))
    have h1 := (chkE_cases m).resolve_left h0
    have : askE m n [i] = 1 := by unfold askE; rw [if_neg fun q => h0 q.1]
    rw [this, h1]
    exact rt1 ⟨rfl, k1.bl.trans B2⟩
noncomputable def blwB (m : Mod) (x y : Int) : Bool := decide (askE m m.classes.length [x, y] = 0) && decide (y ∈ upM m x)
theorem two_ints {w w' : World} {b : Nat} {x y : Int} (h : New w b 3 [I x, I y] w') : Sl eInt T w' (some ⟨b, 0, none⟩) [x, y] :=
  owp_sl (l := [x, y]) (enc := encInt) (sz := 1) (Ow.made (n := 2) h rfl (by omega)) (by simp) fun _ _ => trivial
theorem one_int {w w' : World} {b : Nat} {x : Int} (h : New w b 3 [I x] w') : Sl eInt T w' (some ⟨b, 0, none⟩) [x] :=
  owp_sl (l := [x]) (enc := encInt) (sz := 1) (Ow.made (n := 1) h rfl (by omega)) (by simp) fun _ _ => trivial
theorem k_Below (m : Mod) (a : MA) (x y : Int) (w : World) (hM : MdR T w m a) : Ret Tryz.prog 29 #[.agg (modcells m a).toArray, I x, I y] w fun v w' => v = .tuple #[.bool (blwB m x y), I (askE m m.classes.length [x, y])] ∧ Bl w w' := by
  have q1 := hM.cls.big
  refine entr (vs := [.agg (modcells m a).toArray, I x, I y]) [0, 1, 2, 3, 6, 7, 8, 18] tabok Tryz.func29 (by kernel_rfl) ?_
  refine bx (cs := modcells m a) fun b1 w1 k1 => ?_
  refine lda k1.box.at ?_
  refine ld (k1.box.cell rfl) ?_
  refine bs (cs := [I x, I y]) fun b2 w2 k2 => ?_
  have B2 := k1.bl.trans k2.bl
  refine cl (k_asked m a m.classes.length [x, y] _ 2 w2 (hM.bl B2) (two_ints k2)) ?_
  rintro _ w3 ⟨rfl, B3⟩
  have B03 := B2.trans B3
  by_cases h0 : askE m m.classes.length [x, y] = 0
  · refine brF ?_ (hp := by exact fun h => h h0)
    obtain ⟨hm, hi⟩ := ask_yes h0
    have P := modP_of hm
    have hx := hi x (by simp)
    have hy := hi y (by simp)
    refine lda (Bl.box (k2.bl.trans B3) k1.box).at ?_
    refine bd (cs := modcells m a) ?_
    refine cl (k_above m a P.desc x y hx.2 (by omega) hy.1 w3 (hM.bl B03)) ?_
    rintro _ w4 ⟨rfl, B4⟩
    have e : blwB m x y = decide (y ∈ upM m x) := by unfold blwB; rw [decide_eq_true h0, Bool.true_and]
    rw [e, h0]
    exact rt2 ⟨rfl, B03.trans B4⟩
  · refine brT ?_ (hp := h0)
    have e : blwB m x y = false := by unfold blwB; rw [decide_eq_false h0, Bool.false_and]
    rw [e]
    exact rt2 ⟨rfl, B03⟩
theorem r5_Below (m : Mod) (a : MA) (x y : Int) (w : World) (hM : MdR T w m a) : Ret Tryz.prog 31 #[.agg (modcells m a).toArray, I x, I y] w fun v w' => v = .tuple #[.bool (blwB m x y), I (askE m m.classes.length [x, y])] ∧ Bl w w' := by
  have q1 := hM.cls.big
  have e2 := ask_two m m.classes.length x y
  refine entr (vs := [.agg (modcells m a).toArray, I x, I y]) [0, 1, 2, 3, 6, 7, 8, 16, 24] tabok Tryz.func31 (by kernel_rfl) ?_
  refine bx (cs := modcells m a) fun b1 w1 k1 => ?_
  refine lda k1.box.at ?_
  refine ld (k1.box.cell rfl) ?_
  refine cl (r5_within m a x m.classes.length w1 (hM.bl k1.bl)) ?_
  rintro _ w2 ⟨rfl, B12⟩
  have B2 := k1.bl.trans B12
  have x2 := Bl.box B12 k1.box
  by_cases h1 : askE m m.classes.length [x] = 0
  rotate_left
  · rw [if_neg h1] at e2
    have h1' := (ask_cases m m.classes.length [x]).resolve_left h1
    refine brF ?_ (hp := h1)
    refine brT ?_ (hp := h1)
    have e : blwB m x y = false := by unfold blwB; rw [e2]; rfl
    rw [e, e2, h1']
    exact rt2 ⟨rfl, B2⟩
  rw [if_pos h1] at e2
  refine brT ?_ (hp := h1)
  refine lda x2.at ?_
  refine ld (x2.cell rfl) ?_
  refine cl (r5_within m a y m.classes.length w2 (hM.bl B2)) ?_
  rintro _ w3 ⟨rfl, B23⟩
  have B3 := B2.trans B23
  have x3 := Bl.box B23 x2
  rw [← e2]
  by_cases h0 : askE m m.classes.length [x, y] = 0
  · refine brF ?_ (hp := by exact fun h => h h0)
    obtain ⟨hm, hi⟩ := ask_yes h0
    have P := modP_of hm
    have hx := hi x (by simp)
    refine lda x3.at ?_
    refine cl (r5_above m a P.desc x y hx.2 (by omega) w3 (hM.bl B3)) ?_
    rintro _ w4 ⟨rfl, B4⟩
    have e : blwB m x y = decide (y ∈ upM m x) := by unfold blwB; rw [decide_eq_true h0, Bool.true_and]
    rw [e, h0]
    exact rt2 ⟨rfl, B3.trans B4⟩
  · refine brT ?_ (hp := h0)
    have e : blwB m x y = false := by unfold blwB; rw [decide_eq_false h0, Bool.false_and]
    rw [e]
    exact rt2 ⟨rfl, B3⟩
/-- the nearest class above both -/
structure IsCom (m : Mod) (x y c : Int) : Prop where
  l : c ∈ upM m x
  r : c ∈ upM m y
  m : ∀ d, d ∈ upM m x → d ∈ upM m y → d ≤ c
theorem isCom_uni {m : Mod} {x y c d : Int} (h : IsCom m x y c) (k : IsCom m x y d) : c = d := by
  have := h.m d k.l k.r
  have := k.m c h.l h.r
  omega
open Classical in
noncomputable def comV (m : Mod) (x y : Int) : Int := if h : askE m m.classes.length [x, y] = 0 ∧ ∃ c, IsCom m x y c then Classical.choose h.2 else 0
open Classical in
noncomputable def comE (m : Mod) (x y : Int) : Int := if askE m m.classes.length [x, y] = 0 then (if ∃ c, IsCom m x y c then 0 else 3) else 1
theorem com_yes {m : Mod} {x y c : Int} (h0 : askE m m.classes.length [x, y] = 0) (h : IsCom m x y c) : comV m x y = c ∧ comE m x y = 0 := by
  unfold comV comE
  rw [if_pos h0, if_pos ⟨c, h⟩, dif_pos ⟨h0, c, h⟩]
  exact ⟨isCom_uni (Classical.choose_spec (⟨c, h⟩ : ∃ c, IsCom m x y c)) h, rfl⟩
theorem com_no {m : Mod} {x y : Int} (h0 : askE m m.classes.length [x, y] = 0) (h : ¬ ∃ c, IsCom m x y c) : comV m x y = 0 ∧ comE m x y = 3 := by
  unfold comV comE
  rw [if_pos h0, if_neg h, dif_neg fun q => h q.2]
  exact ⟨rfl, rfl⟩
theorem com_bad {m : Mod} {x y : Int} (h0 : ¬ askE m m.classes.length [x, y] = 0) : comV m x y = 0 ∧ comE m x y = 1 := by
  unfold comV comE
  rw [if_neg h0, dif_neg fun q => h0 q.1]
  exact ⟨rfl, rfl⟩
theorem k_Common (m : Mod) (a : MA) (x y : Int) (w : World) (hM : MdR T w m a) : Ret Tryz.prog 32 #[.agg (modcells m a).toArray, I x, I y] w fun v w' => v = .tuple #[I (comV m x y), I (comE m x y)] ∧ Bl w w' := by
  have q1 := hM.cls.big
  refine entr (vs := [.agg (modcells m a).toArray, I x, I y]) [0, 1, 2, 3, 6, 7, 8, 18, 30, 33, 52] tabok Tryz.func32 (by kernel_rfl) ?_
  refine bx (cs := modcells m a) fun b1 w1 k1 => ?_
  refine lda k1.box.at ?_
  refine ld (k1.box.cell rfl) ?_
  refine bs (cs := [I x, I y]) fun b2 w2 k2 => ?_
  have B2 := k1.bl.trans k2.bl
  refine cl (k_asked m a m.classes.length [x, y] _ 2 w2 (hM.bl B2) (two_ints k2)) ?_
  rintro _ w3 ⟨rfl, B3⟩
  have B03 := B2.trans B3
  have x3 := Bl.box (k2.bl.trans B3) k1.box
  by_cases h0 : askE m m.classes.length [x, y] = 0
  rotate_left
  · refine brT ?_ (hp := h0)
    obtain ⟨e1, e2⟩ := com_bad h0
    rw [e1, e2, (ask_cases m m.classes.length [x, y]).resolve_left h0]
    exact rt2 ⟨rfl, B03⟩
  refine brF ?_ (hp := by exact fun h => h h0)
  obtain ⟨hm, hi⟩ := ask_yes h0
  have P := modP_of hm
  have D := P.desc
  have hx := hi x (by simp)
  have hy := hi y (by simp)
  refine lp (vals := [I x, I y]) [1, 2] [(3, .pointer (some ⟨b1, 0, none⟩))] (fun n vals w' => (∃ p q : Int, vals = [I p, I q] ∧ n = (p + 1).toNat + (q + 1).toNat ∧ -1 ≤ p ∧ -1 ≤ q ∧ p < m.classes.length ∧ q < m.classes.length ∧ ∀ d, (d ∈ upM m x ∧ d ∈ upM m y) ↔ (d ∈ upM m p ∧ d ∈ upM m q)) ∧ w3 = w') ⟨rfl, trivial⟩ (m := (x + 1).toNat + (y + 1).toNat) ⟨⟨x, y, rfl, rfl, by omega, by omega, hx.2, hy.2, fun _ => Iff.rfl⟩, rfl⟩ ?_
  rintro n vals _ ⟨⟨p, q, rfl, rfl, hp0, hq0, hp1, hq1, hpq⟩, rfl⟩ ih
  by_cases hc : ¬ p = q ∧ 0 ≤ p ∧ 0 ≤ q
  · refine brt ?_ (hp := by first | rfl | (simp; done) | (simp; omega))
    by_cases hgt : q < p
    · refine brT ?_
      obtain ⟨j, rfl⟩ := Int.eq_ofNat_of_zero_le hc.2.1
      obtain ⟨c, b, o, cs, hcc, e2, _, hAt, a1, c1, a2, c2, rfl, _⟩ := at_some (hM.bl B03).cls (i := j) (by omega)
      refine ld (x3.cell rfl) ?_
      rw [e2]
      refine ix ?_
      refine ld (hAt 1 _ rfl) ?_
      have hs := sup_lt D (a := (j : Int)) (by omega) hp1
      rw [supM_at hcc] at hs
      refine again (ih _ _ _ _ (by omega) ⟨rfl, trivial⟩ rfl ⟨⟨c.super, q, rfl, rfl, hs.1, hq0, by omega, hq1, fun d => ?_⟩, rfl⟩)
      rw [hpq d]
      constructor
      · rintro ⟨h1, h2⟩
        have := upM_mem_le D hq1 h2
        rw [mem_step D (by omega) hp1 (show ¬ (j : Int) = d by omega), supM_at hcc] at h1
        exact ⟨h1, h2⟩
      · rintro ⟨h1, h2⟩
        have := upM_mem_le D hq1 h2
        rw [mem_step D (by omega) hp1 (show ¬ (j : Int) = d by omega), supM_at hcc]
        exact ⟨h1, h2⟩
    · refine brF ?_
      obtain ⟨j, rfl⟩ := Int.eq_ofNat_of_zero_le hc.2.2
      obtain ⟨c, b, o, cs, hcc, e2, _, hAt, a1, c1, a2, c2, rfl, _⟩ := at_some (hM.bl B03).cls (i := j) (by omega)
      refine ld (x3.cell rfl) ?_
      rw [e2]
      refine ix ?_
      refine ld (hAt 1 _ rfl) ?_
      have hs := sup_lt D (a := (j : Int)) (by omega) hq1
      rw [supM_at hcc] at hs
      refine again (ih _ _ _ _ (by omega) ⟨rfl, trivial⟩ rfl ⟨⟨p, c.super, rfl, rfl, hp0, hs.1, hp1, by omega, fun d => ?_⟩, rfl⟩)
      rw [hpq d]
      constructor
      · rintro ⟨h1, h2⟩
        have := upM_mem_le D hp1 h1
        rw [mem_step D (by omega) hq1 (show ¬ (j : Int) = d by omega), supM_at hcc] at h2
        exact ⟨h1, h2⟩
      · rintro ⟨h1, h2⟩
        have := upM_mem_le D hp1 h1
        rw [mem_step D (by omega) hq1 (show ¬ (j : Int) = d by omega), supM_at hcc]
        exact ⟨h1, h2⟩
  · refine brf ?_ (hp := by first | rfl | (simp; done) | (simp; omega))
    by_cases hpe : p = q ∧ 0 ≤ p
    · refine brf ?_ (hp := by first | rfl | (simp; done) | (simp; omega))
      have hI : IsCom m x y p := by
        have := (hpq p).2 ⟨upM_self hpe.2, by rw [← hpe.1]; exact upM_self hpe.2⟩
        exact ⟨this.1, this.2, fun d h1 h2 => (upM_mem_le D hp1 ((hpq d).1 ⟨h1, h2⟩).1).2⟩
      obtain ⟨e1, e2⟩ := com_yes h0 hI
      rw [e1, e2]
      exact rt2 ⟨rfl, B03⟩
    · refine brt ?_ (hp := by first | rfl | (simp; done) | (simp; omega))
      have hI : ¬ ∃ c, IsCom m x y c := fun ⟨c, h⟩ => by
        obtain ⟨h1, h2⟩ := (hpq c).1 ⟨h.l, h.r⟩
        have := upM_mem_le D hp1 h1
        have := upM_mem_le D hq1 h2
        rcases Classical.em (p < 0) with q' | q'
        · rw [upM_neg q'] at h1; cases h1
        · rcases Classical.em (q < 0) with q'' | q''
          · rw [upM_neg q''] at h2; cases h2
          · omega
      obtain ⟨e1, e2⟩ := com_no h0 hI
      rw [e1, e2]
      exact rt2 ⟨rfl, B03⟩
end Go.Proofs.YtkmdfjpafkcleaaGreatDoor

/- Walks: the law's weight of modules. -/
namespace Go.Proofs.YtkmdfjpafkcleaaGreatDoor
open Eng Go.RowKit
theorem cond_lt {k n : Nat} {b : Bool} (h : (if decide ((k : Int) < n) = true then b else false) = true) : k < n := by
  by_cases q : (k : Int) < n
  · omega
  · rw [decide_eq_false q] at h; cases h
theorem l_heavyM (m : Mod) (a : MA) (w : World) (hM : MdR T w m a) : Ret Tryz.prog 16 #[.agg (modcells m a).toArray] w fun v w' => ∃ b, v = .bool b ∧ Bl w w' := by
  have q1 := hM.cls.big
  have q2 := hM.mth.big
  refine entr (vs := [.agg (modcells m a).toArray]) [0, 1, 2, 3, 4, 5, 25, 53] tabok Tryz.func16 (by kernel_rfl) ?_
  refine bx (cs := modcells m a) fun b1 w1 k1 => ?_
  have x1 := k1.box
  refine ld (x1.cell rfl) ?_
  refine ld (x1.cell rfl) ?_
  refine ld (x1.cell rfl) ?_
  refine lpk m.classes.length 4 [3] [(1, .pointer (some ⟨b1, 0, none⟩))] (fun k vals w' => (∃ n, vals = [I n]) ∧ Bl w1 w') ⟨⟨_, rfl⟩, Bl.refl _⟩ ?_
  rintro k vals w2 hk ⟨⟨n, rfl⟩, B2⟩ ih
  have x2 := Bl.box B2 x1
  refine ld (x2.cell rfl) ?_
  refine br (fun h => ?_) (fun h => ?_)
  · have hlt : k < m.classes.length := by
      rcases Nat.lt_or_ge k m.classes.length with q | q
      · exact q
      · rw [decide_eq_false (show ¬ ((k : Int) < m.classes.length) by omega)] at h
        simp at h
    obtain ⟨c, b, o, cs, hc, e2, _, hAt, a3, c3, a4, c4, rfl, _⟩ := at_some (hM.bl (k1.bl.trans B2)).cls hlt
    refine dh T (List.range 18) fun w3 h3 => ?_
    have x3 := h3.box x2
    have hA := hAt.bl h3.bl
    refine ld (x3.cell rfl) ?_ (hm := trivial)
    rw [e2]
    refine ix ?_
    refine ld (hA 2 _ rfl) ?_ (hm := trivial)
    refine ld (x3.cell rfl) ?_ (hm := trivial)
    rw [e2]
    refine ix ?_
    refine ld (hA 3 _ rfl) ?_ (hm := trivial)
    exact ih hlt ⟨⟨_, rfl⟩, B2.trans h3.bl⟩
  clear ih h
  refine lpk m.methods.length 5 [3] [(1, .pointer (some ⟨b1, 0, none⟩))] (fun k vals w' => (∃ n, vals = [I n]) ∧ Bl w1 w') ⟨⟨_, rfl⟩, B2⟩ ?_
  clear x2 B2
  rintro k vals w2 hk ⟨⟨n, rfl⟩, B2⟩ ih
  have x2 := Bl.box B2 x1
  refine ld (x2.cell rfl) ?_
  refine br (fun h => ?_) (fun h => ?_)
  · have hlt : k < m.methods.length := by
      rcases Nat.lt_or_ge k m.methods.length with q | q
      · exact q
      · rw [decide_eq_false (show ¬ ((k : Int) < m.methods.length) by omega)] at h
        simp at h
    obtain ⟨c, b, o, cs, hc, e2, _, hAt, a3, c3, a4, c4, a5, c5, rfl, _⟩ := at_some (hM.bl (k1.bl.trans B2)).mth hlt
    refine dh T (List.range 26) fun w3 h3 => ?_
    have x3 := h3.box x2
    have hA := hAt.bl h3.bl
    refine ld (x3.cell rfl) ?_ (hm := trivial)
    rw [e2]
    refine ix ?_
    refine ld (hA 6 _ rfl) ?_ (hm := trivial)
    refine ld (x3.cell rfl) ?_ (hm := trivial)
    rw [e2]
    refine ix ?_
    refine ld (hA 2 _ rfl) ?_ (hm := trivial)
    refine ld (x3.cell rfl) ?_ (hm := trivial)
    rw [e2]
    refine ix ?_
    refine ld (hA 3 _ rfl) ?_ (hm := trivial)
    exact ih hlt ⟨⟨_, rfl⟩, B2.trans h3.bl⟩
  exact rt1 ⟨_, rfl, k1.bl.trans B2⟩
end Go.Proofs.YtkmdfjpafkcleaaGreatDoor

/- Walks: what all units declare. -/
namespace Go.Proofs.YtkmdfjpafkcleaaGreatDoor
open Eng Go.RowKit
/-- nothing but block b and new blocks has turned -/
structure Nc (b : Nat) (w w' : World) : Prop where
  os : w'.os = w.os
  tape : w'.tape = w.tape
  output : w'.output = w.output
  size : w.heap.size ≤ w'.heap.size
  blk : ∀ i, i < w.heap.size → i ≠ b → w'.heap[i]? = w.heap[i]?
theorem Nc.nb {b : Nat} {w w' : World} (h : Nc b w w') : Nb b w w' := ⟨h.size, h.blk⟩
theorem Nc.of_bl {b : Nat} {w w' : World} (h : Bl w w') : Nc b w w' := ⟨h.os, h.tape, h.output, h.size, fun i hi _ => h.block i hi⟩
theorem Nc.trans {b : Nat} {w w1 w2 : World} (h : Nc b w w1) (k : Nc b w1 w2) : Nc b w w2 := ⟨k.os.trans h.os, k.tape.trans h.tape, k.output.trans h.output, Nat.le_trans h.size k.size, fun i hi hne => (k.blk i (Nat.lt_of_lt_of_le hi h.size) hne).trans (h.blk i hi hne)⟩
theorem Nc.bl {b : Nat} {w w1 w2 : World} (h : Nc b w w1) (k : Bl w1 w2) : Nc b w w2 := h.trans (Nc.of_bl k)
theorem Nc.wr {b c : Nat} {w w1 w2 : World} (h : Nc b w w1) (k : Wr w1 c w2) (hc : c = b ∨ w.heap.size ≤ c) : Nc b w w2 :=
  ⟨k.os.trans h.os, k.tape.trans h.tape, k.output.trans h.output, by rw [k.size]; exact h.size, fun i hi hne => (k.block i (by rcases hc with rfl | hc <;> omega)).trans (h.blk i hi hne)⟩
theorem Nc.ap {b : Nat} {w w1 w2 : World} {a : Option Addr} (h : Nc b w w1) (k : Ap w1 a w2) (ha : ∀ g, a = some ⟨g, 0, none⟩ → w.heap.size ≤ g) : Nc b w w2 :=
  ⟨k.os.trans h.os, k.tape.trans h.tape, k.output.trans h.output, Nat.le_trans h.size k.size, fun i hi hne => (k.block i (Nat.lt_of_lt_of_le hi h.size) fun e => by have := ha i e; omega).trans (h.blk i hi hne)⟩
theorem Nc.below {b B : Nat} {w0 w w' : World} (h : Below B w0 w) (k : Nc b w w') (hb : B ≤ b) (hB : B ≤ w.heap.size) : Below B w0 w' := h.trans ⟨k.os, k.tape, k.output, k.size, fun i hi => k.blk i (by omega) (by omega)⟩
/-- the twelve cells of a linker -/
abbrev lcells (u m1 m2 m3 m4 m5 m6 o1 o2 o3 o4 ly : Value) : List Value := [u, m1, m2, m3, m4, m5, m6, o1, o2, o3, o4, ly]
abbrev nilS : Value := .slice none 0 0
abbrev mpv (m : Nat) : Value := .map (some m)
/-- rows of texts, each of its own -/
structure RowsD (w : World) (base : Nat) (M : Mp Rs) : Prop where
  ow : ∀ k r, getM M k = some r → OwP 1 encStr w base 9 r.a r.c r.l
  ne : ∀ k k' r r', getM M k = some r → getM M k' = some r' → k ≠ k' → ∀ g, r.a = some ⟨g, 0, none⟩ → r'.a ≠ some ⟨g, 0, none⟩
theorem RowsD.nil (w : World) (base : Nat) : RowsD w base [] := ⟨fun _ _ h => (by cases h), fun _ _ _ _ h => (by cases h)⟩
theorem RowsD.bl {w w' : World} {base : Nat} {M : Mp Rs} (h : RowsD w base M) (k : Bl w w') : RowsD w' base M := ⟨fun x r hr => (h.ow x r hr).bl k, h.ne⟩
theorem RowsD.wr {w w' : World} {base m : Nat} {M : Mp Rs} (h : RowsD w base M) (k : Wr w m w') {α : Type} {enc : α → Value} {X : Mp α} (hm : MapIs enc w m X) : RowsD w' base M :=
  ⟨fun x r hr => (h.ow x r hr).wr k fun g hg e => hm.ow (h.ow x r hr) (by rw [hg, e]), h.ne⟩
theorem RowsD.at0 {w : World} {base : Nat} {M : Mp Rs} (h : RowsD w base M) (k : ByteArray) : OwP 1 encStr w base 9 ((getM M k).getD rs0).a ((getM M k).getD rs0).c ((getM M k).getD rs0).l := by
  cases hg : getM M k with
  | none => exact Ow.nil ..
  | some r => exact h.ow k r hg
/-- one more text in one of the rows -/
theorem RowsD.app {w w' : World} {base : Nat} {M : Mp Rs} (h : RowsD w base M) (k : ByteArray) {x : ByteArray} {a' : Option Addr} {c' : Nat} (hA : Ap w ((getM M k).getD rs0).a w') (hO : OwP 1 encStr w' base 9 a' c' (((getM M k).getD rs0).l ++ [x]))
    (hf : ∀ g, a' = some ⟨g, 0, none⟩ → ((getM M k).getD rs0).a = some ⟨g, 0, none⟩ ∨ w.heap.size ≤ g) : RowsD w' base (putM M k ⟨a', c', ((getM M k).getD rs0).l ++ [x]⟩) := by
  have hne : ∀ k' r', k' ≠ k → getM M k' = some r' → ∀ g, r'.a = some ⟨g, 0, none⟩ → ((getM M k).getD rs0).a ≠ some ⟨g, 0, none⟩ := fun k' r' hk hr g hg => by
    cases hq : getM M k with
    | none => intro e; cases e
    | some r => exact fun e => h.ne k k' r r' hq hr (fun q => hk q.symm) g e hg
  have hnew : ∀ k' r', k' ≠ k → getM M k' = some r' → ∀ g, r'.a = some ⟨g, 0, none⟩ → a' ≠ some ⟨g, 0, none⟩ := fun k' r' hk hr g hg e => by
    rcases hf g e with q | q
    · exact hne k' r' hk hr g hg q
    · have := ((h.ow k' r' hr).lt hg).2; omega
  refine ⟨fun k' r hr => ?_, fun k1 k2 r1 r2 h1 h2 hk g hg => ?_⟩
  · rw [putM_get] at hr
    split at hr
    · obtain rfl := Option.some.inj hr; exact hO
    · rename_i hk
      exact (h.ow k' r hr).apart hA (hne k' r (fun e => hk e.symm) hr)
  · rw [putM_get] at h1 h2
    split at h1
    · rename_i e1
      obtain rfl := Option.some.inj h1
      split at h2
      · rename_i e2; exact absurd (e1.symm.trans e2) hk
      · rename_i e2; exact fun e => hnew k2 r2 (fun q => e2 q.symm) h2 g e hg
    · rename_i e1
      split at h2
      · obtain rfl := Option.some.inj h2
        exact hnew k1 r1 (fun q => e1 q.symm) h1 g hg
      · exact h.ne k1 k2 r1 r2 h1 h2 hk g hg
/-- a linker that declares -/
structure DcW (w0 : World) (b : Nat) (u : Value) (m1 m2 m3 m4 m5 m6 : Nat) (D : Dcl) (M : Mp Rs) (N : Nat) (w : World) : Prop where
  box : Box w b 88 (lcells u (mpv m1) (mpv m2) (mpv m3) (mpv m4) (mpv m5) (mpv m6) nilS nilS nilS nilS (.map none))
  cl : MapIs encD w m1 D.classes
  st : MapIs encD w m2 D.statics
  ca : MapIs encD w m3 D.calls
  se : MapIs encD w m4 D.sends
  na : MapIs encR w m5 M
  nm : mapV Rs.l M = D.named
  fi : MapIs Value.bool w m6 D.fields
  rw : RowsD w w0.heap.size M
  nd : m1 ≠ m2 ∧ m1 ≠ m3 ∧ m1 ≠ m4 ∧ m1 ≠ m5 ∧ m1 ≠ m6 ∧ m2 ≠ m3 ∧ m2 ≠ m4 ∧ m2 ≠ m5 ∧ m2 ≠ m6 ∧ m3 ≠ m4 ∧ m3 ≠ m5 ∧ m3 ≠ m6 ∧ m4 ≠ m5 ∧ m4 ≠ m6 ∧ m5 ≠ m6
  ge : w0.heap.size ≤ m1 ∧ w0.heap.size ≤ m2 ∧ w0.heap.size ≤ m3 ∧ w0.heap.size ≤ m4 ∧ w0.heap.size ≤ m5 ∧ w0.heap.size ≤ m6
  nc : Nc b w0 w
  ln : ∀ p ∈ D.named, p.2.length ≤ N
variable {w0 w w' : World} {b : Nat} {u : Value} {m1 m2 m3 m4 m5 m6 : Nat} {D : Dcl} {M : Mp Rs} {N : Nat}
theorem DcW.bl (h : DcW w0 b u m1 m2 m3 m4 m5 m6 D M N w) (k : Bl w w') : DcW w0 b u m1 m2 m3 m4 m5 m6 D M N w' :=
  ⟨Bl.box k h.box, h.cl.bl k, h.st.bl k, h.ca.bl k, h.se.bl k, h.na.bl k, h.nm, h.fi.bl k, h.rw.bl k, h.nd, h.ge, h.nc.bl k, h.ln⟩
theorem DcW.cls (h : DcW w0 b u m1 m2 m3 m4 m5 m6 D M N w) (k : Wr w m1 w') {X : Mp (Nat × Nat)} (hX : MapIs encD w' m1 X) : DcW w0 b u m1 m2 m3 m4 m5 m6 { D with classes := X } M N w' := by
  obtain ⟨n1, n2, n3, n4, n5, n6, n7, n8, n9, n10, n11, n12, n13, n14, n15⟩ := h.nd
  exact ⟨k.box h.box (h.cl.ne h.box).symm, hX, h.st.wr k n1.symm, h.ca.wr k n2.symm, h.se.wr k n3.symm, h.na.wr k n4.symm, h.nm, h.fi.wr k n5.symm, h.rw.wr k h.cl, h.nd, h.ge, h.nc.wr k (.inr h.ge.1), h.ln⟩
theorem DcW.sta (h : DcW w0 b u m1 m2 m3 m4 m5 m6 D M N w) (k : Wr w m2 w') {X : Mp (Nat × Nat)} (hX : MapIs encD w' m2 X) : DcW w0 b u m1 m2 m3 m4 m5 m6 { D with statics := X } M N w' := by
  obtain ⟨n1, n2, n3, n4, n5, n6, n7, n8, n9, n10, n11, n12, n13, n14, n15⟩ := h.nd
  exact ⟨k.box h.box (h.st.ne h.box).symm, h.cl.wr k n1, hX, h.ca.wr k n6.symm, h.se.wr k n7.symm, h.na.wr k n8.symm, h.nm, h.fi.wr k n9.symm, h.rw.wr k h.st, h.nd, h.ge, h.nc.wr k (.inr h.ge.2.1), h.ln⟩
theorem DcW.cal (h : DcW w0 b u m1 m2 m3 m4 m5 m6 D M N w) (k : Wr w m3 w') {X : Mp (Nat × Nat)} (hX : MapIs encD w' m3 X) : DcW w0 b u m1 m2 m3 m4 m5 m6 { D with calls := X } M N w' := by
  obtain ⟨n1, n2, n3, n4, n5, n6, n7, n8, n9, n10, n11, n12, n13, n14, n15⟩ := h.nd
  exact ⟨k.box h.box (h.ca.ne h.box).symm, h.cl.wr k n2, h.st.wr k n6, hX, h.se.wr k n10.symm, h.na.wr k n11.symm, h.nm, h.fi.wr k n12.symm, h.rw.wr k h.ca, h.nd, h.ge, h.nc.wr k (.inr h.ge.2.2.1), h.ln⟩
theorem DcW.sen (h : DcW w0 b u m1 m2 m3 m4 m5 m6 D M N w) (k : Wr w m4 w') {X : Mp (Nat × Nat)} (hX : MapIs encD w' m4 X) : DcW w0 b u m1 m2 m3 m4 m5 m6 { D with sends := X } M N w' := by
  obtain ⟨n1, n2, n3, n4, n5, n6, n7, n8, n9, n10, n11, n12, n13, n14, n15⟩ := h.nd
  exact ⟨k.box h.box (h.se.ne h.box).symm, h.cl.wr k n3, h.st.wr k n7, h.ca.wr k n10, hX, h.na.wr k n13.symm, h.nm, h.fi.wr k n14.symm, h.rw.wr k h.se, h.nd, h.ge, h.nc.wr k (.inr h.ge.2.2.2.1), h.ln⟩
theorem DcW.fld (h : DcW w0 b u m1 m2 m3 m4 m5 m6 D M N w) (k : Wr w m6 w') {X : Mp Bool} (hX : MapIs Value.bool w' m6 X) : DcW w0 b u m1 m2 m3 m4 m5 m6 { D with fields := X } M N w' := by
  obtain ⟨n1, n2, n3, n4, n5, n6, n7, n8, n9, n10, n11, n12, n13, n14, n15⟩ := h.nd
  exact ⟨k.box h.box (h.fi.ne h.box).symm, h.cl.wr k n5, h.st.wr k n9, h.ca.wr k n12, h.se.wr k n14, h.na.wr k n15, h.nm, hX, h.rw.wr k h.fi, h.nd, h.ge, h.nc.wr k (.inr h.ge.2.2.2.2.2), h.ln⟩
theorem putM_mem {α : Type} : ∀ {m : Mp α} {k : ByteArray} {v : α} {p : ByteArray × α}, p ∈ putM m k v → p = (k, v) ∨ p ∈ m
  | [], _, _, _, h => .inl (by simpa [putM] using h)
  | (k0, v0) :: m, k, v, p, h => by
    simp only [putM] at h
    split at h
    · rcases List.mem_cons.1 h with e | h
      · exact .inl e
      · exact .inr (List.mem_cons_of_mem _ h)
    · rcases List.mem_cons.1 h with e | h
      · exact .inr (by rw [e]; exact List.mem_cons_self ..)
      · rcases putM_mem h with e | e
        · exact .inl e
        · exact .inr (List.mem_cons_of_mem _ e)
/-- behind the append, and behind the store of what it gave -/
theorem DcW.nam {w1 : World} (h : DcW w0 b u m1 m2 m3 m4 m5 m6 D M N w) (key : ByteArray) {x : ByteArray} {a' : Option Addr} {c' : Nat} (hA : Ap w ((getM M key).getD rs0).a w1) (hO : OwP 1 encStr w1 w0.heap.size 9 a' c' (((getM M key).getD rs0).l ++ [x]))
    (hf : ∀ g, a' = some ⟨g, 0, none⟩ → ((getM M key).getD rs0).a = some ⟨g, 0, none⟩ ∨ w.heap.size ≤ g) (k : Wr w1 m5 w') (hX : MapIs encR w' m5 (putM M key ⟨a', c', ((getM M key).getD rs0).l ++ [x]⟩)) :
    DcW w0 b u m1 m2 m3 m4 m5 m6 { D with named := putM D.named key ((getM D.named key).getD [] ++ [x]) } (putM M key ⟨a', c', ((getM M key).getD rs0).l ++ [x]⟩) (N + 1) w' := by
  obtain ⟨n1, n2, n3, n4, n5, n6, n7, n8, n9, n10, n11, n12, n13, n14, n15⟩ := h.nd
  have o := h.rw.at0 key
  have hl := named_at h.nm key
  have na1 := h.na.ap hA (h.na.ow o)
  have box1 := hA.box h.box (o.nbox h.box (by decide))
  refine ⟨k.box box1 (na1.ne box1).symm, (h.cl.ap hA (h.cl.ow o)).wr k n4, (h.st.ap hA (h.st.ow o)).wr k n8, (h.ca.ap hA (h.ca.ow o)).wr k n11, (h.se.ap hA (h.se.ow o)).wr k n13, hX, ?_, (h.fi.ap hA (h.fi.ow o)).wr k n15.symm,
    (h.rw.app key hA hO hf).wr k na1, h.nd, h.ge, (h.nc.ap hA fun g hg => (o.lt hg).1).wr k (.inr h.ge.2.2.2.2.1), fun p hp => ?_⟩
  · rw [← putM_mapV, h.nm, hl]
  · rcases putM_mem hp with rfl | hp
    · have : ((getM D.named key).getD []).length ≤ N := by
        cases hg : getM D.named key with
        | none => exact Nat.zero_le _
        | some l => exact h.ln _ (getM_mem hg)
      simp only [List.length_append, List.length_cons, List.length_nil]; omega
    · have := h.ln p hp; omega
end Go.Proofs.YtkmdfjpafkcleaaGreatDoor

/- Walks: what all units declare, the program. -/
namespace Go.Proofs.YtkmdfjpafkcleaaGreatDoor
open Eng Go.RowKit
abbrev tLn : TypeId := 88
theorem poolAt {S : Nat → Prop} {w : World} {u : Unt} {ua : UA} (h : UnR S w u ua) {i : Int} (hi : inP u i) : ∃ (k : Nat) (b o : Nat), i = k ∧ k < u.pool.length ∧ ua.a1 = some ⟨b, o, none⟩ ∧ S b ∧ w.cell? ⟨b, o + k * 1, none⟩ = some (.string (nm u i)) := by
  obtain ⟨k, rfl, hk⟩ := inP_at hi
  obtain ⟨b, o, cs, e, hs, hAt, rfl⟩ := h.pool.el k _ hk
  exact ⟨k, b, o, rfl, (List.getElem?_eq_some_iff.1 hk).1, e, hs, hAt 0 _ rfl⟩
theorem nm_size {S : Nat → Prop} {w : World} {u : Unt} {ua : UA} (h : UnR S w u ua) {i : Int} (hi : inP u i) : (nm u i).size ≤ 1048576 := h.ps _ (nm_mem hi)
theorem dots_size (x y : ByteArray) : (dots x y).size = x.size + 1 + y.size := by
  unfold dots
  rw [ByteArray.size_append, ByteArray.size_append]; rfl
set_option maxHeartbeats 4000000 in
theorem k_declare {w0 : World} {b : Nat} {us : List Unt} {au : Option Addr} {cu : Nat} (hx : Box w0 b tLn (lcells (.slice au us.length cu) (.map none) (.map none) (.map none) (.map none) (.map none) (.map none) nilS nilS nilS nilS (.map none)))
    (hS : Sl eUnt (· ≠ b) w0 au us) (hC : ∀ u ∈ us, CkU u) (h5 : us.length ≤ 5) :
    Ret Tryz.prog 91 #[.pointer (some ⟨b, 0, none⟩)] w0 fun _ w' => ∃ m1 m2 m3 m4 m5 m6 M, DcW w0 b (.slice au us.length cu) m1 m2 m3 m4 m5 m6 (decl us) M 1000 w' := by
  have hb0 := hx.lt
  refine entr (vs := [.pointer (some ⟨b, 0, none⟩)]) [0, 2, 3, 4, 5, 6, 8, 9, 10, 11, 12, 13, 14, 42, 43, 44, 45, 50, 51, 52, 53, 76, 77, 78, 79, 98, 99, 100, 101, 124, 125, 126, 127, 139] tabok Tryz.func91 (by kernel_rfl) ?_
  refine mm fun m1 w1 k1 => ?_
  refine mm fun m2 w2 k2 => ?_
  refine mm fun m3 w3 k3 => ?_
  have B13 := k2.bl.trans k3.bl
  refine st (Bl.box (k1.bl.trans B13) hx) fun w4 k4 x4 => ?_
  refine st x4 fun w5 k5 x5 => ?_
  refine st x5 fun w6 k6 x6 => ?_
  refine mm fun m4 w7 k7 => ?_
  refine mm fun m5 w8 k8 => ?_
  refine mm fun m6 w9 k9 => ?_
  have B79 := k8.bl.trans k9.bl
  refine st (Bl.box (k7.bl.trans B79) x6) fun w10 k10 x10 => ?_
  refine st x10 fun w11 k11 x11 => ?_
  refine st x11 fun w12 k12 x12 => ?_
  have z1 := k1.size; have z2 := k2.size; have z3 := k3.size; have z4 := k4.size; have z5 := k5.size; have z6 := k6.size; have z7 := k7.size; have z8 := k8.size; have z9 := k9.size; have z10 := k10.size; have z11 := k11.size; have z12 := k12.size
  have y1 := k1.blk; have y2 := k2.blk; have y3 := k3.blk; have y7 := k7.blk; have y8 := k8.blk; have y9 := k9.blk
  have n912 : Nc b w9 w12 := ((Nc.of_bl (Bl.refl w9)).wr k10 (.inl rfl)).wr k11 (.inl rfl) |>.wr k12 (.inl rfl)
  have n812 := (Nc.of_bl (b := b) k9.bl).trans n912
  have n712 := (Nc.of_bl (b := b) B79).trans n912
  have n612 := (Nc.of_bl (b := b) k7.bl).trans n712
  have n312 : Nc b w3 w12 := (((Nc.of_bl (Bl.refl w3)).wr k4 (.inl rfl)).wr k5 (.inl rfl) |>.wr k6 (.inl rfl)).trans n612
  have n212 := (Nc.of_bl (b := b) k3.bl).trans n312
  have n112 := (Nc.of_bl (b := b) B13).trans n312
  have n012 := (Nc.of_bl (b := b) k1.bl).trans n112
  have D12 : DcW w0 b (.slice au us.length cu) m1 m2 m3 m4 m5 m6 dcl0 [] 0 w12 :=
    ⟨x12, (k1.is encD).nb n112.nb (by omega), (k2.is encD).nb n212.nb (by omega), (k3.is encD).nb n312.nb (by omega), (k7.is encD).nb n712.nb (by omega), (k8.is encR).nb n812.nb (by omega), rfl, (k9.is Value.bool).nb n912.nb (by omega), RowsD.nil .., by omega, by omega, n012, fun p hp => by cases hp⟩
  clear n912 n812 n712 n612 n312 n212 n112 n012
  refine ld (x12.cell rfl) ?_
  refine lpk us.length 44 [] [(0, .pointer (some ⟨b, 0, none⟩)), (42, .slice au us.length cu), (43, I us.length)] (fun n vals w' => vals = [] ∧ ∃ M, DcW w0 b (.slice au us.length cu) m1 m2 m3 m4 m5 m6 (foldI dUnt (us.take n) dcl0) M (16 * n) w') ⟨rfl, [], D12⟩ ?_
  rintro n vals v1 hn ⟨rfl, M, D1⟩ ih
  by_cases hlt : n < us.length
  rotate_left
  · refine brF ?_
    obtain rfl : n = us.length := by omega
    rw [foldI_end] at D1
    exact en (vs := []) ⟨m1, m2, m3, m4, m5, m6, M, { D1 with ln := fun p hp => by have := D1.ln p hp; omega }⟩
  refine brT ?_
  obtain ⟨u, bu, ou, cs, hu, rfl, hbu, hAtu, ua, rfl, hU⟩ := at_some hS hlt
  have hum := List.mem_of_getElem? hu
  have hCu := hC u hum
  have hI := ixs_of hCu
  have hLm := lim_of hCu.lim
  refine ix ?_
  refine lda (hAtu.kp D1.nc.nb.kp hbu) ?_
  refine al fun b3 v2 k2 => ?_
  refine sta (cs' := ucells u ua) k2.box fun v3 k3 x3 => ?_
  have D3 := D1.bl (k2.wr k3)
  -- the classes
  refine ld (x3.cell rfl) ?_
  refine lpk (vals := []) u.classes.length 52 [] [(0, .pointer (some ⟨b, 0, none⟩)), (42, .slice (some ⟨bu, ou, none⟩) us.length cu), (43, I us.length), (44, I n), (2, I n), (3, .pointer (some ⟨b3, 0, none⟩)), (50, .slice ua.a2 u.classes.length ua.c2), (51, I u.classes.length)]
    (fun k vals w' => vals = [] ∧ Box w' b3 38 (ucells u ua) ∧ ∃ M, DcW w0 b (.slice (some ⟨bu, ou, none⟩) us.length cu) m1 m2 m3 m4 m5 m6 (foldI (dCls u n) (u.classes.take k) (foldI dUnt (us.take n) dcl0)) M (16 * n) w') ⟨rfl, x3, M, D3⟩ ?_ (hn := by have := hLm.cls; omega)
  rintro k vals v4 hk ⟨rfl, x4, M, D4⟩ ih2
  by_cases hkl : k < u.classes.length
  · refine brT ?_
    obtain ⟨c, bc, oc, cs, hc, e2, hbc, hAtc, af, cf, rfl, hF⟩ := at_some hU.cls hkl
    have hcm := List.mem_of_getElem? hc
    rw [e2]
    refine ix ?_
    refine lda (hAtc.kp D4.nc.nb.kp hbc) ?_
    refine al fun b5 v5 k5 => ?_
    refine sta (cs' := ccells c af cf) k5.box fun v6 k6 x6 => ?_
    have D6 := D4.bl (k5.wr k6)
    have x46 := Bl.box (k5.wr k6) x4
    refine ds fun v7 k7 => ?_
    have D7 := D6.bl k7.bl
    have x47 := k7.box x46
    have x67 := k7.box x6
    obtain ⟨ip, bp, op, ei, hip, ep, hbp, hcp⟩ := poolAt hU (hI.plc.cn c hcm)
    refine ld (x47.cell rfl) ?_
    refine cat ?_ (hab := by have := hU.nm; show _ + 1 ≤ _; omega)
    refine ld (x47.cell rfl) ?_
    refine ld (x67.cell rfl) ?_
    rw [ep]
    refine ix (j := ip) ?_ (hij := ei)
    refine ld (D7.nc.nb.kp _ _ _ hbp hcp) ?_
    refine cat ?_ (hab := by have := hU.nm; have := nm_size hU (hI.plc.cn c hcm); rw [ByteArray.size_append]; show _ + 1 + _ ≤ _; omega)
    obtain ⟨p, hp⟩ : ∃ p, u.name ++ ⟨#[46]⟩ ++ nm u c.name = p := ⟨_, rfl⟩
    have hpd : dots u.name (nm u c.name) = p := hp
    have hps : p.size ≤ 2097153 := by have := hU.nm; have := nm_size hU (hI.plc.cn c hcm); rw [← hpd, dots_size]; omega
    rw [hp]
    refine ld (D7.box.cell rfl) ?_
    refine bd ?_
    refine mu (n, k) tD D7.cl fun v8 k8 hM8 => ?_
    have D8 := D7.cls k8 hM8
    have x48 := k8.box x47 (D7.cl.ne x47).symm
    have x68 := k8.box x67 (D7.cl.ne x67).symm
    refine ld (x68.cell rfl) ?_
    refine lpk (vals := []) c.fields.length 78 [] [(0, .pointer (some ⟨b, 0, none⟩)), (42, .slice (some ⟨bu, ou, none⟩) us.length cu), (43, I us.length), (44, I n), (2, I n), (3, .pointer (some ⟨b3, 0, none⟩)), (50, .slice (some ⟨bc, oc, none⟩) u.classes.length ua.c2), (51, I u.classes.length), (52, I k), (6, .string p), (76, .slice af c.fields.length cf), (77, I c.fields.length)]
      (fun j vals w' => vals = [] ∧ Box w' b3 38 (ucells u ua) ∧ ∃ M, DcW w0 b (.slice (some ⟨bu, ou, none⟩) us.length cu) m1 m2 m3 m4 m5 m6 ((c.fields.take j).foldl (dFld u p) { (foldI (dCls u n) (u.classes.take k) (foldI dUnt (us.take n) dcl0)) with classes := putM (foldI (dCls u n) (u.classes.take k) (foldI dUnt (us.take n) dcl0)).classes p (n, k) }) M (16 * n) w') ⟨rfl, x48, M, D8⟩ ?_ (hn := by have := hLm.flds c hcm; omega)
    rintro j vals v9 hj ⟨rfl, x9, M, D9⟩ ih3
    by_cases hjl : j < c.fields.length
    · refine brT ?_
      obtain ⟨f, bf, off, cs, hf, rfl, hbf, hAtf, rfl⟩ := at_some hF hjl
      have hfi := hI.plc.fn c hcm f (List.mem_of_getElem? hf)
      refine ix ?_
      refine lda (hAtf.kp D9.nc.nb.kp hbf) ?_
      refine al fun b8 v10 k10 => ?_
      refine sta (cs' := encFld f) k10.box fun v11 k11 x11 => ?_
      have D11 := D9.bl (k10.wr k11)
      have x911 := Bl.box (k10.wr k11) x9
      refine dt 1 fun v12 k12 => ?_
      have D12 := D11.bl k12.bl
      have x912 := k12.box x911
      have x1112 := k12.box x11
      obtain ⟨ip, bp, op, ei, hip, ep, hbp, hcp⟩ := poolAt hU hfi
      have hnf := nm_size hU hfi
      refine ld (D12.box.cell rfl) ?_
      refine cat ?_ (hab := by show _ + 1 ≤ _; omega)
      refine ld (x912.cell rfl) ?_
      refine ld (x1112.cell rfl) ?_
      rw [ep]
      refine ix (j := ip) ?_ (hij := ei)
      refine ld (D12.nc.nb.kp _ _ _ hbp hcp) ?_
      refine cat ?_ (hab := by rw [ByteArray.size_append]; show _ + 1 + _ ≤ _; omega)
      refine mu true tB D12.fi fun v13 k13 hM13 => ?_
      have D13 := D12.fld k13 hM13
      exact ih3 hjl ⟨rfl, k13.box x912 (D12.fi.ne x912).symm, M, by rw [take_succ_some hf, List.foldl_append]; exact D13⟩
    · refine brF ?_
      obtain rfl : j = c.fields.length := by omega
      rw [List.take_length] at D9
      refine ih2 hkl ⟨rfl, x9, M, ?_⟩ (hsub := by simp only [e2]; repeat (first | exact True.intro | (refine ⟨rfl, ?_⟩)))
      rw [foldI_snoc hc]
      unfold dCls
      rw [hpd]; exact D9
  · refine brF ?_
    obtain rfl : k = u.classes.length := by omega
    clear ih2
    rw [foldI_end] at D4
    -- the statics
    refine ld (x4.cell rfl) ?_
    refine lpk (vals := []) u.statics.length 100 [] [(0, .pointer (some ⟨b, 0, none⟩)), (42, .slice (some ⟨bu, ou, none⟩) us.length cu), (43, I us.length), (44, I n), (2, I n), (3, .pointer (some ⟨b3, 0, none⟩)), (98, .slice ua.a3 u.statics.length ua.c3), (99, I u.statics.length)]
      (fun k vals w' => vals = [] ∧ Box w' b3 38 (ucells u ua) ∧ ∃ M, DcW w0 b (.slice (some ⟨bu, ou, none⟩) us.length cu) m1 m2 m3 m4 m5 m6 (foldI (dSta u n) (u.statics.take k) (foldI (dCls u n) u.classes (foldI dUnt (us.take n) dcl0))) M (16 * n) w') ⟨rfl, x4, M, D4⟩ ?_ (hn := by have := hLm.sta; omega)
    clear D4 x4
    rintro k vals v4 hk ⟨rfl, x4, M, D4⟩ ih2
    by_cases hkl : k < u.statics.length
    · refine brT ?_
      obtain ⟨f, bc, oc, cs, hc, e2, hbc, hAtc, rfl⟩ := at_some hU.sta hkl
      have hfi := hI.plc.sn f (List.mem_of_getElem? hc)
      rw [e2]
      refine ix ?_
      refine lda (hAtc.kp D4.nc.nb.kp hbc) ?_
      refine al fun b5 v5 k5 => ?_
      refine sta (cs' := encFld f) k5.box fun v6 k6 x6 => ?_
      have D6 := D4.bl (k5.wr k6)
      have x46 := Bl.box (k5.wr k6) x4
      refine dt 1 fun v7 k7 => ?_
      have D7 := D6.bl k7.bl
      have x47 := k7.box x46
      have x67 := k7.box x6
      obtain ⟨ip, bp, op, ei, hip, ep, hbp, hcp⟩ := poolAt hU hfi
      have hnf := nm_size hU hfi
      have hnu := hU.nm
      refine ld (D7.box.cell rfl) ?_
      refine ld (x47.cell rfl) ?_
      refine cat ?_ (hab := by show _ + 1 ≤ _; omega)
      refine ld (x47.cell rfl) ?_
      refine ld (x67.cell rfl) ?_
      rw [ep]
      refine ix (j := ip) ?_ (hij := ei)
      refine ld (D7.nc.nb.kp _ _ _ hbp hcp) ?_
      refine cat ?_ (hab := by rw [ByteArray.size_append]; show _ + 1 + _ ≤ _; omega)
      refine bd ?_
      refine mu (n, k) tD D7.st fun v8 k8 hM8 => ?_
      have D8 := D7.sta k8 hM8
      refine ih2 hkl ⟨rfl, k8.box x47 (D7.st.ne x47).symm, M, ?_⟩ (hsub := by simp only [e2]; repeat (first | exact True.intro | (refine ⟨rfl, ?_⟩)))
      rw [foldI_snoc hc]; exact D8
    · refine brF ?_
      obtain rfl : k = u.statics.length := by omega
      clear ih2
      rw [foldI_end] at D4
      -- the methods
      refine ld (x4.cell rfl) ?_
      refine lpk (vals := []) u.methods.length 126 [] [(0, .pointer (some ⟨b, 0, none⟩)), (42, .slice (some ⟨bu, ou, none⟩) us.length cu), (43, I us.length), (44, I n), (2, I n), (3, .pointer (some ⟨b3, 0, none⟩)), (124, .slice ua.a4 u.methods.length ua.c4), (125, I u.methods.length)]
        (fun k vals w' => vals = [] ∧ Box w' b3 38 (ucells u ua) ∧ ∃ M, DcW w0 b (.slice (some ⟨bu, ou, none⟩) us.length cu) m1 m2 m3 m4 m5 m6 (foldI (dMth u n) (u.methods.take k) (foldI (dSta u n) u.statics (foldI (dCls u n) u.classes (foldI dUnt (us.take n) dcl0)))) M (16 * n + k) w') ⟨rfl, x4, M, D4⟩ ?_ (hn := by have := hLm.mth; omega)
      clear D4 x4
      rintro k vals v4 hk ⟨rfl, x4, M, D4⟩ ih2
      by_cases hkl : k < u.methods.length
      · refine brT ?_
        obtain ⟨m, bc, oc, cs, hc, e2, hbc, hAtc, a1, c1, a2, c2, a3, c3, rfl, _⟩ := at_some hU.mth hkl
        have hmm := List.mem_of_getElem? hc
        have hni := hI.plc.mn m hmm
        have hnm := nm_size hU hni
        have hnu := hU.nm
        have hkn : 16 * n + k ≤ 1000 := by have := hLm.mth; omega
        rw [e2]
        refine ix ?_
        refine lda (hAtc.kp D4.nc.nb.kp hbc) ?_
        refine al fun b5 v5 k5 => ?_
        refine sta (cs' := mcells m a1 c1 a2 c2 a3 c3) k5.box fun v6 k6 x6 => ?_
        have D6 := D4.bl (k5.wr k6)
        have x46 := Bl.box (k5.wr k6) x4
        obtain ⟨ip, bp, op, ei, hip, ep, hbp, hcp⟩ := poolAt hU hni
        refine ld (x46.cell rfl) ?_
        refine ld (x6.cell rfl) ?_
        rw [ep]
        refine ix (j := ip) ?_ (hij := ei)
        refine ld (D6.nc.nb.kp _ _ _ hbp hcp) ?_
        refine ld (x6.cell rfl) ?_
        by_cases hcl : m.cls < 0
        · refine brT ?_ (hp := hcl)
          refine dt 1 fun v7 k7 => ?_
          have D7 := D6.bl k7.bl
          have x47 := k7.box x46
          refine ld (D7.box.cell rfl) ?_
          refine ld (x47.cell rfl) ?_
          refine cat ?_ (hab := by show _ + 1 ≤ _; omega)
          refine cat ?_ (hab := by rw [ByteArray.size_append]; show _ + 1 + _ ≤ _; omega)
          refine bd ?_
          refine mu (n, k) tD D7.ca fun v8 k8 hM8 => ?_
          have D8 := D7.cal k8 hM8
          refine ih2 hkl ⟨rfl, k8.box x47 (D7.ca.ne x47).symm, M, ?_⟩ (hsub := by simp only [e2]; repeat (first | exact True.intro | (refine ⟨rfl, ?_⟩)))
          rw [foldI_snoc hc]
          unfold dMth
          rw [if_pos hcl]
          exact { D8 with ln := fun p hp => by have := D8.ln p hp; omega }
        · refine brF ?_ (hp := hcl)
          have hci : inP u m.cls := (hI.plc.mc m hmm).resolve_left fun e => hcl (by omega)
          have hnc := nm_size hU hci
          obtain ⟨iq, bq, oq, eq, hiq, epq, hbq, hcq⟩ := poolAt hU hci
          refine ld (x46.cell rfl) ?_
          refine ld (x6.cell rfl) ?_
          rw [epq]
          refine ix (j := iq) ?_ (hij := eq)
          refine ld (D6.nc.nb.kp _ _ _ hbq hcq) ?_
          refine cat ?_ (hab := by show _ + 1 ≤ _; omega)
          refine cat ?_ (hab := by rw [ByteArray.size_append]; show _ + 1 + _ ≤ _; omega)
          refine ld (D6.box.cell rfl) ?_
          refine bd ?_
          refine mu (n, k) tD D6.se fun v8 k8 hM8 => ?_
          have D8 := D6.sen k8 hM8
          have x48 := k8.box x46 (D6.se.ne x46).symm
          refine dht 1 (fun i => i = b ∨ i = m5) (List.range 14) fun v9 k9 => ?_
          have D9 := D8.bl k9.bl
          have x49 := k9.box x48
          refine ld (D9.box.cell rfl) ?_ (hm := by exact .inl rfl)
          refine ld (D9.box.cell rfl) ?_ (hm := by exact .inl rfl)
          refine lk tN D9.na ?_ (hm := by exact .inr rfl)
          rw [getD_enc]
          refine bs fun b10 v10 k10 => ?_
          have D10 := D9.bl k10.bl
          have x410 := Bl.box k10.bl x49
          have o10 := D10.rw.at0 (nm u m.name)
          have hl10 : ((getM M (nm u m.name)).getD rs0).l.length ≤ 1000 := by
            rw [named_at D10.nm]
            cases hg : getM (_ : Mp (List ByteArray)) (nm u m.name) with
            | none => exact Nat.zero_le _
            | some l => exact Nat.le_trans (D10.ln _ (getM_mem hg)) hkn
          refine apl (l1 := [nm u m.cls ++ (⟨#[46]⟩ : ByteArray) ++ nm u m.name]) o10 (.inr ⟨b10, 0, rfl, k10.box.at⟩) D10.nc.size (fun a11 c11 v11 o11 A11 f11 => ?_) (hb := by simp only [List.length_cons, List.length_nil]; omega) (hn := by simp only [List.length_cons, List.length_nil]; omega)
            (hm := apS fun g hg e => by
              rcases e with rfl | rfl
              · exact o10.nbox D10.box (by decide) hg
              · exact D10.na.ow o10 hg)
          have na11 := D10.na.ap A11 (D10.na.ow o10)
          refine mu (⟨a11, c11, ((getM M (nm u m.name)).getD rs0).l ++ [nm u m.cls ++ (⟨#[46]⟩ : ByteArray) ++ nm u m.name]⟩ : Rs) tN na11 fun v12 k12 hM12 => ?_
          have D12 := D10.nam (nm u m.name) A11 o11 f11 k12 hM12
          have x411 := A11.box x410 (o10.nbox x410 (by decide))
          refine ih2 hkl ⟨rfl, k12.box x411 (na11.ne x411).symm, putM M (nm u m.name) ⟨a11, c11, ((getM M (nm u m.name)).getD rs0).l ++ [nm u m.cls ++ (⟨#[46]⟩ : ByteArray) ++ nm u m.name]⟩, ?_⟩ (hsub := by simp only [e2]; repeat (first | exact True.intro | (refine ⟨rfl, ?_⟩)))
          rw [foldI_snoc hc]
          unfold dMth
          rw [if_neg hcl]
          exact D12
      · refine brF ?_
        obtain rfl : k = u.methods.length := by omega
        rw [foldI_end] at D4
        refine ih hlt ⟨rfl, M, ?_⟩
        rw [foldI_snoc hu]
        unfold dUnt
        exact { D4 with ln := fun p hp => by have := D4.ln p hp; have := hLm.mth; omega }
end Go.Proofs.YtkmdfjpafkcleaaGreatDoor

/- Walks: whether all that units name is declared. -/
namespace Go.Proofs.YtkmdfjpafkcleaaGreatDoor
open Eng Go.RowKit
theorem getM_of_mem {α : Type} : ∀ {M : Mp α} {k : ByteArray} {r : α}, (keysM M).Nodup → (k, r) ∈ M → getM M k = some r
  | [], _, _, _, h => by cases h
  | (k0, r0) :: M, k, r, hn, h => by
    simp only [keysM, List.map_cons, List.nodup_cons] at hn
    simp only [getM]
    rcases List.mem_cons.1 h with e | h
    · obtain ⟨rfl, rfl⟩ := Prod.mk.inj e
      rw [if_pos rfl]
    · rw [if_neg fun (e : k0 = k) => hn.1 (by rw [e]; exact List.mem_map.2 ⟨_, h, rfl⟩)]
      exact getM_of_mem hn.2 h
theorem DcW.lnk {w0 w : World} {b : Nat} {us : List Unt} {au : Option Addr} {cu : Nat} {m1 m2 m3 m4 m5 m6 : Nat} {D : Dcl} {M : Mp Rs} {N : Nat} (h : DcW w0 b (.slice au us.length cu) m1 m2 m3 m4 m5 m6 D M N w) (hN : N ≤ 4194304) (hS : Sl eUnt (· ≠ b) w0 au us) : Lnk w b us D := by
  refine ⟨⟨au, cu, h.box.cell rfl, hS.kp h.nc.nb.kp⟩, ⟨m1, h.box.cell rfl, h.cl⟩, ⟨m2, h.box.cell rfl, h.st⟩, ⟨m3, h.box.cell rfl, h.ca⟩, ⟨m4, h.box.cell rfl, h.se⟩, ⟨m5, M, h.box.cell rfl, h.na, h.nm, fun p hp => ?_⟩, ⟨m6, h.box.cell rfl, h.fi⟩⟩
  have hg := getM_of_mem (keys_nodup h.na) (show (p.1, p.2) ∈ M from hp)
  have o := h.rw.ow p.1 p.2 hg
  have hl : p.2.l.length ≤ N := h.ln (p.1, p.2.l) (by rw [← h.nm]; exact List.mem_map.2 ⟨p, hp, rfl⟩)
  exact owp_sl o (by omega) fun g hg (e : g = b) => o.nbox h.box (by decide) (by rw [hg, e])
theorem hasPre (n p : ByteArray) : Lib.hasPrefix p.data.toList (n ++ ⟨#[46]⟩).data.toList = preL n p := by
  unfold Lib.hasPrefix preL
  rw [Joins.data_append]
theorem l_HasPrefix (s p : ByteArray) (w : World) : Ret Tryz.prog 155 #[.string s, .string p] w fun v w' => v = .bool (Lib.hasPrefix s.data.toList p.data.toList) ∧ w' = w :=
  ⟨by kernel_rfl, (Tryz.strings_HasPrefix s p w).mono fun e w' r => by obtain ⟨rfl, rfl⟩ := r; exact ⟨rfl, rfl⟩⟩
variable {w : World} {b : Nat} {us : List Unt} {D : Dcl}
set_option maxHeartbeats 4000000 in
theorem k_defined (hL : Lnk w b us D) (hC : ∀ u ∈ us, CkU u) (h5 : us.length ≤ 5) : Ret Tryz.prog 92 #[.pointer (some ⟨b, 0, none⟩)] w fun v w' => v = .bool (definedL us D) ∧ Bl w w' := by
  obtain ⟨au, cu, h0, hS⟩ := hL.us
  refine entr (vs := [.pointer (some ⟨b, 0, none⟩)]) [0, 2, 3, 4, 6, 8, 10, 12, 13, 15, 17, 21, 22, 23, 24, 29, 30, 31, 32, 50, 52, 53, 54, 55, 63, 67, 68, 69, 70, 78, 81, 82, 83, 84, 89, 109, 111, 112, 113, 114, 121, 124, 125, 126, 127, 134] tabok Tryz.func92 (by kernel_rfl) ?_
  refine ld h0 ?_
  refine lpk us.length 23 [] [(0, .pointer (some ⟨b, 0, none⟩)), (21, .slice au us.length cu), (22, I us.length)] (fun n vals w' => vals = [] ∧ Bl w w' ∧ (us.take n).all (defU D) = true) ⟨rfl, Bl.refl _, rfl⟩ ?_
  rintro n vals v1 hn ⟨rfl, B1, ha1⟩ ih
  by_cases hlt : n < us.length
  rotate_left
  · refine brF ?_
    obtain rfl : n = us.length := by omega
    exact rt1 ⟨vb (all_end ha1).symm, B1⟩
  refine brT ?_
  obtain ⟨u, bu, ou, cs, hu, rfl, _, hAtu, ua, rfl, hU⟩ := at_some hS hlt
  have hum := List.mem_of_getElem? hu
  have hCu := hC u hum
  have hI := ixs_of hCu
  have hLm := lim_of hCu.lim
  have miss : defU D u = false → definedL us D = false := fun h => all_miss hu h
  refine ix ?_
  refine lda (hAtu.bl B1) ?_
  refine al fun b3 v2 k2 => ?_
  refine sta (cs' := ucells u ua) k2.box fun v3 k3 x3 => ?_
  have B13 := k2.wr k3
  have B3 := B1.trans B13
  refine ld (x3.cell rfl) ?_
  refine lpk (vals := []) u.classes.length 31 [] [(0, .pointer (some ⟨b, 0, none⟩)), (21, .slice (some ⟨bu, ou, none⟩) us.length cu), (22, I us.length), (23, I n), (3, I n), (4, .pointer (some ⟨b3, 0, none⟩)), (29, .slice ua.a2 u.classes.length ua.c2), (30, I u.classes.length)]
    (fun k vals w' => vals = [] ∧ Bl v3 w' ∧ (u.classes.take k).all (defC D u) = true) ⟨rfl, Bl.refl _, rfl⟩ ?_ (hn := by have := hLm.cls; omega)
  rintro k vals v4 hk ⟨rfl, B34, ha2⟩ ih2
  have B4 := B3.trans B34
  by_cases hkl : k < u.classes.length
  · refine brT ?_
    obtain ⟨c, bc, oc, cs, hc, e2, _, hAtc, af, cf, rfl, hF⟩ := at_some hU.cls hkl
    have hcm := List.mem_of_getElem? hc
    have missC : defC D u c = false → defU D u = false := fun h => by unfold defU; rw [all_miss hc h]; rfl
    rw [e2]
    refine ix ?_
    refine lda (hAtc.bl B4) ?_
    refine al fun b5 v5 k5 => ?_
    refine sta (cs' := ccells c af cf) k5.box fun v6 k6 x6 => ?_
    have B46 := k5.wr k6
    have B6 := B4.trans B46
    have hs := hI.sup c hcm
    have KP : Eng.Env := []
    refine cut [50] [(0, .pointer (some ⟨b, 0, none⟩)), (21, .slice (some ⟨bu, ou, none⟩) us.length cu), (22, I us.length), (23, I n), (3, I n), (4, .pointer (some ⟨b3, 0, none⟩)), (29, .slice (some ⟨bc, oc, none⟩) u.classes.length ua.c2), (30, I u.classes.length), (31, I k), (6, .pointer (some ⟨b5, 0, none⟩))]
      (fun vals w' => vals = [.bool (!(decide (c.super < 0) || hasM D.classes (nm u c.super)))] ∧ Bl v6 w') (fun jo => ?_) ?_
    · refine dh T (List.range 16) fun v7 k7 => ?_
      have B67 : Bl v6 v7 := k7.bl
      have B7 := B6.trans B67
      have L7 := hL.bl B7
      have x67 := k7.box x6
      obtain ⟨m, h1, hm⟩ := L7.cl
      refine ld (x67.cell rfl) ?_ (hm := trivial)
      by_cases h0 : c.super < 0
      · refine spn (.map none) ?_ (hb := by rw [decide_eq_false (by omega)]; rfl)
        refine spn (I 0) ?_ (hb := by rw [decide_eq_false (by omega)]; rfl)
        refine spn (.string nost) ?_ (hb := by rw [decide_eq_false (by omega)]; rfl)
        refine spn (.bool false) ?_ (hb := by rw [decide_eq_false (by omega)]; rfl)
        refine jo ⟨lst1 (vb ?_), B67⟩
        simp [h0]
      · refine spt (.map none) ?_ (hb := decide_eq_true (by omega))
        refine ld h1 ?_ (hm := trivial)
        refine spt (I 0) ?_
        refine ld (x67.cell rfl) ?_ (hm := trivial)
        refine spt (.string nost) ?_
        refine cl (k_path L7 hu (hs.inP h0)) ?_
        rintro _ _ ⟨rfl, rfl⟩
        refine spt (.bool false) ?_
        refine cl (k_has hm _) ?_
        rintro _ v8 ⟨rfl, B78⟩
        refine jo ⟨lst1 (vb ?_), B67.trans B78⟩
        simp [h0]
    rintro _ v8 ⟨rfl, B68⟩
    have B8 := B6.trans B68
    cases hsup : decide (c.super < 0) || hasM D.classes (nm u c.super) with
    | false =>
      refine brt ?_
      refine rt1 ⟨vb ?_, B8⟩
      rw [miss (missC (by unfold defC; rw [hsup]; rfl))]
    | true =>
      refine brf ?_
      refine ld ((Bl.box B68 x6).cell rfl) ?_
      refine lpk (vals := []) c.fields.length 54 [] [(0, .pointer (some ⟨b, 0, none⟩)), (21, .slice (some ⟨bu, ou, none⟩) us.length cu), (22, I us.length), (23, I n), (3, I n), (4, .pointer (some ⟨b3, 0, none⟩)), (29, .slice (some ⟨bc, oc, none⟩) u.classes.length ua.c2), (30, I u.classes.length), (31, I k), (52, .slice af c.fields.length cf), (53, I c.fields.length)]
        (fun j vals w' => vals = [] ∧ Bl v8 w' ∧ (c.fields.take j).all (fun f => isTypeL D u f.ty) = true) ⟨rfl, Bl.refl _, rfl⟩ ?_ (hn := by have := hLm.flds c hcm; omega)
      rintro j vals v9 hj ⟨rfl, B89, ha3⟩ ih3
      have B9 := B8.trans B89
      by_cases hjl : j < c.fields.length
      · refine brT ?_
        obtain ⟨f, bf, off, cs, hf, rfl, _, hAtf, rfl⟩ := at_some (hF.bl B9) hjl
        refine ix ?_
        refine lda hAtf ?_
        refine al fun b8 v10 k10 => ?_
        refine sta (cs' := encFld f) k10.box fun v11 k11 x11 => ?_
        have B11 := B9.trans (k10.wr k11)
        refine lda (x11.at.sub 1 2) ?_
        refine cl (k_isType (hL.bl B11) hu (hI.fty c hcm f (List.mem_of_getElem? hf))) ?_
        rintro _ v12 ⟨rfl, B12⟩
        cases ht : isTypeL D u f.ty with
        | false =>
          refine brt ?_
          refine rt1 ⟨vb ?_, B11.trans B12⟩
          rw [miss (missC (by unfold defC; rw [all_miss hf ht, Bool.and_false]))]
        | true =>
          refine brf ?_
          exact ih3 hjl ⟨rfl, (B89.trans (k10.wr k11)).trans B12, all_snoc' hf ha3 ht⟩
      · refine brF ?_
        obtain rfl : j = c.fields.length := by omega
        exact ih2 hkl ⟨rfl, ((B34.trans B46).trans B68).trans B89, all_snoc' hc ha2 (by unfold defC; rw [hsup, all_end ha3]; rfl)⟩ (hsub := by simp only [e2]; repeat (first | exact True.intro | (refine ⟨rfl, ?_⟩)))
  refine brF ?_
  obtain rfl : k = u.classes.length := by omega
  clear ih2
  have hcls := all_end ha2
  refine ld ((Bl.box B34 x3).cell rfl) ?_
  refine lpk (vals := []) u.statics.length 69 [] [(0, .pointer (some ⟨b, 0, none⟩)), (21, .slice (some ⟨bu, ou, none⟩) us.length cu), (22, I us.length), (23, I n), (3, I n), (4, .pointer (some ⟨b3, 0, none⟩)), (67, .slice ua.a3 u.statics.length ua.c3), (68, I u.statics.length)]
    (fun k vals w' => vals = [] ∧ Bl v3 w' ∧ (u.statics.take k).all (fun f => isTypeL D u f.ty) = true) ⟨rfl, B34, rfl⟩ ?_ (hn := by have := hLm.sta; omega)
  rintro k vals v5 hk ⟨rfl, B35, ha4⟩ ih2
  have B5 := B3.trans B35
  by_cases hkl : k < u.statics.length
  · refine brT ?_
    obtain ⟨f, bf, off, cs, hf, e2, _, hAtf, rfl⟩ := at_some (hU.sta.bl B5) hkl
    rw [e2]
    refine ix ?_
    refine lda hAtf ?_
    refine al fun b8 v10 k10 => ?_
    refine sta (cs' := encFld f) k10.box fun v11 k11 x11 => ?_
    have B11 := B5.trans (k10.wr k11)
    refine lda (x11.at.sub 1 2) ?_
    refine cl (k_isType (hL.bl B11) hu (hI.sty f (List.mem_of_getElem? hf))) ?_
    rintro _ v12 ⟨rfl, B12⟩
    cases ht : isTypeL D u f.ty with
    | false =>
      refine brt ?_
      refine rt1 ⟨vb ?_, B11.trans B12⟩
      rw [miss (by unfold defU; rw [all_miss (p := fun f => isTypeL D u f.ty) hf ht, Bool.false_and, Bool.and_false])]
    | true =>
      refine brf ?_
      exact ih2 hkl ⟨rfl, (B35.trans (k10.wr k11)).trans B12, all_snoc' hf ha4 ht⟩ (hsub := by simp only [e2]; repeat (first | exact True.intro | (refine ⟨rfl, ?_⟩)))
  refine brF ?_
  obtain rfl : k = u.statics.length := by omega
  clear ih2
  have hsta := all_end ha4
  refine ld ((Bl.box B35 x3).cell rfl) ?_
  refine lpk (vals := []) u.methods.length 83 [] [(0, .pointer (some ⟨b, 0, none⟩)), (21, .slice (some ⟨bu, ou, none⟩) us.length cu), (22, I us.length), (23, I n), (3, I n), (4, .pointer (some ⟨b3, 0, none⟩)), (81, .slice ua.a4 u.methods.length ua.c4), (82, I u.methods.length)]
    (fun k vals w' => vals = [] ∧ Bl v3 w' ∧ (u.methods.take k).all (defM D u) = true) ⟨rfl, B35, rfl⟩ ?_ (hn := by have := hLm.mth; omega)
  rintro k vals v6 hk ⟨rfl, B36, ha5⟩ ih2
  have B6 := B3.trans B36
  by_cases hkl : k < u.methods.length
  rotate_left
  · refine brF ?_
    obtain rfl : k = u.methods.length := by omega
    exact ih hlt ⟨rfl, B13.trans B36 |> fun q => B1.trans q, all_snoc' hu ha1 (by unfold defU; rw [hcls, hsta, all_end ha5]; rfl)⟩
  refine brT ?_
  obtain ⟨m, bm, om, cs, hm, e2, _, hAtm, a1, c1, a2, c2, a3, c3, rfl, hF1, hF2, hF3⟩ := at_some hU.mth hkl
  have hmm := List.mem_of_getElem? hm
  have missM : defM D u m = false → defU D u = false := fun h => by unfold defU; rw [all_miss hm h, Bool.and_false, Bool.and_false]
  rw [e2]
  refine ix ?_
  refine lda (hAtm.bl B6) ?_
  refine al fun b5 v7 k7 => ?_
  refine sta (cs' := mcells m a1 c1 a2 c2 a3 c3) k7.box fun v8 k8 x8 => ?_
  have B68 := k7.wr k8
  have B8 := B6.trans B68
  have x38 := Bl.box (B36.trans B68) x3
  refine ld (x8.cell rfl) ?_
  have hmc : ¬ m.cls < 0 → inP u m.cls := fun h => (hI.plc.mc m hmm).resolve_left fun e => h (by omega)
  refine jn [] [(0, .pointer (some ⟨b, 0, none⟩)), (21, .slice (some ⟨bu, ou, none⟩) us.length cu), (22, I us.length), (23, I n), (3, I n), (4, .pointer (some ⟨b3, 0, none⟩)), (81, .slice (some ⟨bm, om, none⟩) u.methods.length ua.c4), (82, I u.methods.length), (83, I k), (12, .pointer (some ⟨b5, 0, none⟩))] (fun vals w' => vals = [] ∧ Bl v8 w' ∧ (decide (m.cls < 0) || (hasM D.classes (nm u m.cls) && preL u.name (nm u m.cls))) = true) (fun h jo => ?_) (fun h jo => ?_) ?_
  · have h0 : 0 ≤ m.cls := of_decide_eq_true h
    have hi := hmc (by omega)
    refine ld (x8.cell rfl) ?_
    refine cl (k_path (hL.bl B8) hu hi) ?_
    rintro _ _ ⟨rfl, rfl⟩
    obtain ⟨mb, h1, hmb⟩ := (hL.bl B8).cl
    refine ld h1 ?_
    refine cl (k_has hmb _) ?_
    rintro _ v9 ⟨rfl, B89⟩
    have B9 := B8.trans B89
    cases hh : hasM D.classes (nm u m.cls) with
    | false =>
      refine spn (.string nost) ?_
      refine spn (.string nost) ?_
      refine spn (.bool false) ?_
      refine brt ?_
      refine rt1 ⟨vb ?_, B9⟩
      rw [miss (missM (by unfold defM; rw [hh, decide_eq_false (by omega)]; rfl))]
    | true =>
      refine spt (.string nost) ?_
      refine ld ((Bl.box B89 x38).cell rfl) ?_
      refine spt (.string nost) ?_
      refine cat ?_ (hab := by have := hU.nm; show _ + 1 ≤ _; omega)
      refine spt (.bool false) ?_
      refine cl (l_HasPrefix _ _ v9) ?_
      rintro _ _ ⟨rfl, rfl⟩
      rw [hasPre]
      cases hp : preL u.name (nm u m.cls) with
      | false =>
        refine brt ?_
        refine rt1 ⟨vb ?_, B9⟩
        rw [miss (missM (by unfold defM; rw [hh, hp, decide_eq_false (by omega)]; rfl))]
      | true =>
        refine brf ?_
        exact jo ⟨rfl, B89, by simp [hh, hp]⟩
  · have h0 : ¬ 0 ≤ m.cls := of_decide_eq_false h
    exact jo ⟨rfl, Bl.refl _, by rw [decide_eq_true (by omega)]; rfl⟩
  rintro _ v9 ⟨rfl, B89, hcl⟩
  have B9 := B8.trans B89
  have x9 := Bl.box B89 x8
  have hp4 := hLm.pars m hmm
  have hl10 := hLm.locs m hmm
  refine lda x9.at ?_
  refine cl (k_types m a1 c1 a2 c2 a3 c3 ((hF1.bl B9).sub fun _ _ => trivial) ((hF2.bl B9).sub fun _ _ => trivial) (by omega) (by omega)) ?_
  rintro _ v10 ⟨at', ct, rfl, O10, B910⟩
  have B10 := B9.trans B910
  have htl : (m.params ++ m.locals ++ [m.result]).length ≤ 11 := by simp only [List.length_append, List.length_cons, List.length_nil]; omega
  have S10 : Sl eTy T v10 at' (m.params ++ m.locals ++ [m.result]) := owp_sl O10 (by omega) fun _ _ => trivial
  refine lpk (vals := []) (m.params ++ m.locals ++ [m.result]).length 113 [] [(0, .pointer (some ⟨b, 0, none⟩)), (21, .slice (some ⟨bu, ou, none⟩) us.length cu), (22, I us.length), (23, I n), (3, I n), (4, .pointer (some ⟨b3, 0, none⟩)), (81, .slice (some ⟨bm, om, none⟩) u.methods.length ua.c4), (82, I u.methods.length), (83, I k), (12, .pointer (some ⟨b5, 0, none⟩)), (111, .slice at' (m.params ++ m.locals ++ [m.result]).length ct), (112, I (m.params ++ m.locals ++ [m.result]).length)]
    (fun j vals w' => vals = [] ∧ Bl v10 w' ∧ ((m.params ++ m.locals ++ [m.result]).take j).all (isTypeL D u) = true) ⟨rfl, Bl.refl _, rfl⟩ ?_
  rintro j vals v11 hj ⟨rfl, B1011, ha6⟩ ih3
  have B11 := B10.trans B1011
  by_cases hjl : j < (m.params ++ m.locals ++ [m.result]).length
  · refine brT ?_
    obtain ⟨t, bf, off, cs, ht, rfl, _, hAtf, rfl⟩ := at_some (S10.bl B1011) hjl
    refine ix ?_
    refine lda hAtf ?_
    refine al fun b8 v12 k12 => ?_
    refine sta (cs' := encTy t) k12.box fun v13 k13 x13 => ?_
    have B13' := B11.trans (k12.wr k13)
    refine lda x13.at ?_
    refine cl (k_isType (hL.bl B13') hu (hI.mty m hmm t (List.mem_of_getElem? ht))) ?_
    rintro _ v14 ⟨rfl, B14⟩
    cases hti : isTypeL D u t with
    | false =>
      refine brt ?_
      refine rt1 ⟨vb ?_, B13'.trans B14⟩
      rw [miss (missM (by unfold defM; rw [all_miss ht hti, Bool.false_and, Bool.and_false]))]
    | true =>
      refine brf ?_
      exact ih3 hjl ⟨rfl, (B1011.trans (k12.wr k13)).trans B14, all_snoc' ht ha6 hti⟩
  refine brF ?_
  obtain rfl : j = (m.params ++ m.locals ++ [m.result]).length := by omega
  clear ih3
  have htys := all_end ha6
  refine ld ((Bl.box (B910.trans B1011) x9).cell rfl) ?_
  refine lpk (vals := []) m.code.length 126 [] [(0, .pointer (some ⟨b, 0, none⟩)), (21, .slice (some ⟨bu, ou, none⟩) us.length cu), (22, I us.length), (23, I n), (3, I n), (4, .pointer (some ⟨b3, 0, none⟩)), (81, .slice (some ⟨bm, om, none⟩) u.methods.length ua.c4), (82, I u.methods.length), (83, I k), (12, .pointer (some ⟨b5, 0, none⟩)), (124, .slice a3 m.code.length c3), (125, I m.code.length)]
    (fun j vals w' => vals = [] ∧ Bl v11 w' ∧ (m.code.take j).all (operL D u) = true) ⟨rfl, Bl.refl _, rfl⟩ ?_ (hn := by have := hF3.big; omega)
  rintro j vals v12 hj ⟨rfl, B1112, ha7⟩ ih3
  have B12 := B11.trans B1112
  by_cases hjl : j < m.code.length
  · refine brT ?_
    obtain ⟨i, bf, off, cs, hi, rfl, _, hAtf, rfl⟩ := at_some (hF3.bl B12) hjl
    have him := List.mem_of_getElem? hi
    refine ix ?_
    refine lda hAtf ?_
    refine al fun b8 v13 k13 => ?_
    refine sta (cs' := encIns i) k13.box fun v14 k14 x14 => ?_
    have B14 := B12.trans (k13.wr k14)
    refine lda x14.at ?_
    refine cl (k_operand (hL.bl B14) hu (hI.opa m hmm i him) (hI.opb m hmm i him)) ?_
    rintro _ v15 ⟨rfl, B15⟩
    cases hop : operL D u i with
    | false =>
      refine brt ?_
      refine rt1 ⟨vb ?_, B14.trans B15⟩
      rw [miss (missM (by unfold defM; rw [all_miss hi hop, Bool.and_false, Bool.and_false]))]
    | true =>
      refine brf ?_
      exact ih3 hjl ⟨rfl, (B1112.trans (k13.wr k14)).trans B15, all_snoc' hi ha7 hop⟩
  · refine brF ?_
    obtain rfl : j = m.code.length := by omega
    exact ih2 hkl ⟨rfl, (((((B36.trans B68).trans B89).trans B910).trans B1011).trans B1112), all_snoc' hm ha5 (by unfold defM; rw [hcl, htys, all_end ha7]; rfl)⟩ (hsub := by simp only [e2]; repeat (first | exact True.intro | (refine ⟨rfl, ?_⟩)))
end Go.Proofs.YtkmdfjpafkcleaaGreatDoor

/- Walks: the linker runs. -/
namespace Go.Proofs.YtkmdfjpafkcleaaGreatDoor
open Eng Go.RowKit
theorem Eng.Box.get {w : World} {b : Nat} {t : TypeId} {cs : List Value} (h : Box w b t cs) (o : Nat) : w.cell? ⟨b, o, none⟩ = cs[o]? := by
  unfold Box at h
  simp [World.cell?, h]
abbrev tPl : TypeId := 82
/-- a linker that has declared, while it runs -/
structure RnW (w0 : World) (b b1 : Nat) (us : List Unt) (U : Value) (m1 m2 m3 m4 m5 m6 : Nat) (o1 o2 o3 o4 ly : Value) (w : World) : Prop where
  box : Box w b tLn (lcells U (mpv m1) (mpv m2) (mpv m3) (mpv m4) (mpv m5) (mpv m6) o1 o2 o3 o4 ly)
  x1 : Box w b1 tPl [.pointer (some ⟨b, 0, none⟩)]
  lnk : Lnk w b us (decl us)
  nc : Nc b w0 w
variable {w0 w w' : World} {b b1 : Nat} {us : List Unt} {U : Value} {m1 m2 m3 m4 m5 m6 : Nat} {o1 o2 o3 o4 ly : Value}
theorem RnW.bl (h : RnW w0 b b1 us U m1 m2 m3 m4 m5 m6 o1 o2 o3 o4 ly w) (k : Bl w w') : RnW w0 b b1 us U m1 m2 m3 m4 m5 m6 o1 o2 o3 o4 ly w' := ⟨Bl.box k h.box, Bl.box k h.x1, h.lnk.bl k, h.nc.bl k⟩
theorem lnk_wr {D : Dcl} (h : Lnk w b us D) (k : Wr w b w') {u q1 q2 q3 q4 q5 q6 : Value} {r r' : List Value} (hb : Box w b tLn (u :: q1 :: q2 :: q3 :: q4 :: q5 :: q6 :: r)) (hb' : Box w' b tLn (u :: q1 :: q2 :: q3 :: q4 :: q5 :: q6 :: r')) : Lnk w' b us D :=
  h.nb ⟨by rw [k.size]; exact Nat.le_refl _, fun i _ hne => k.block i hne⟩ fun o ho => by
    rw [hb.get, hb'.get]
    match o, ho with
    | 0, _ => rfl
    | 1, _ => rfl
    | 2, _ => rfl
    | 3, _ => rfl
    | 4, _ => rfl
    | 5, _ => rfl
    | 6, _ => rfl
theorem box_ne {w : World} {b c : Nat} {t t' : TypeId} {cs cs' : List Value} (h : Box w b t cs) (h' : Box w c t' cs') (hne : t ≠ t') : b ≠ c := by
  rintro rfl
  unfold Box at h h'
  rw [h] at h'
  simp only [Option.some.injEq, Obj.cells.injEq] at h'
  exact hne h'.2.1
theorem RnW.to (h : RnW w0 b b1 us U m1 m2 m3 m4 m5 m6 o1 o2 o3 o4 ly w) (k : Wr w b w') {o1' o2' o3' o4' ly' : Value} (hb : Box w' b tLn (lcells U (mpv m1) (mpv m2) (mpv m3) (mpv m4) (mpv m5) (mpv m6) o1' o2' o3' o4' ly')) : RnW w0 b b1 us U m1 m2 m3 m4 m5 m6 o1' o2' o3' o4' ly' w' :=
  ⟨hb, k.box h.x1 (box_ne h.x1 h.box (by decide)), lnk_wr h.lnk k h.box hb, h.nc.wr k (.inl rfl)⟩
theorem chk_take {us : List Unt} {n : Nat} {u : Unt} (h : ∀ x ∈ us.take n, checkE x = 0) (hu : us[n]? = some u) (he : checkE u ≠ 0) : chkE us = checkE u := by
  induction us generalizing n with
  | nil => simp at hu
  | cons x us ih =>
    cases n with
    | zero => simp at hu; subst hu; unfold chkE; rw [if_neg he]
    | succ n =>
      unfold chkE
      rw [if_pos (h x (by simp)), ih (n := n) (fun y hy => h y (by simp [hy])) (by simpa using hu)]
theorem chk_zero {us : List Unt} (h : ∀ x ∈ us, checkE x = 0) : chkE us = 0 := by
  induction us with
  | nil => rfl
  | cons x us ih => unfold chkE; rw [if_pos (h x (by simp)), ih fun y hy => h y (by simp [hy])]
theorem chk_all {us : List Unt} (h : chkE us = 0) : ∀ x ∈ us, checkE x = 0 := by
  induction us with
  | nil => intro x hx; cases hx
  | cons y us ih =>
    unfold chkE at h
    split at h
    · rename_i h1
      intro x hx
      rcases List.mem_cons.1 hx with rfl | hx
      · exact h1
      · exact ih h x hx
    · rename_i h1; exact absurd h h1
/-- the layouts, by classes -/
structure LayW (b : Nat) (us : List Unt) (l : List ByteArray) (ly : Nat) (Y : Mp Rs) (w : World) : Prop where
  is : MapIs encR w ly Y
  at' : ∀ p ∈ l, ∃ r, getM Y p = some r ∧ r.l = lay us p ∧ Sl eStr (· ≠ b) w r.a r.l
  only : ∀ q r, getM Y q = some r → q ∈ l
/-- what a run that succeeds leaves -/
structure RunW (b : Nat) (us : List Unt) (w : World) : Prop where
  lnk : Lnk w b us (decl us)
  oc : ∃ l a c, ordC us = some l ∧ w.cell? ⟨b, 7, none⟩ = some (.slice a l.length c) ∧ Sl eStr (· ≠ b) w a l
  os : ∃ a c, w.cell? ⟨b, 8, none⟩ = some (.slice a (sortL (keysM (decl us).statics)).length c) ∧ Sl eStr (· ≠ b) w a (sortL (keysM (decl us).statics))
  om : ∃ l a c, ordM us = some l ∧ w.cell? ⟨b, 9, none⟩ = some (.slice a l.length c) ∧ Sl eStr (· ≠ b) w a l
  oz : ∃ a c, w.cell? ⟨b, 10, none⟩ = some (.slice a (sortL (keysM (decl us).named)).length c) ∧ Sl eStr (· ≠ b) w a (sortL (keysM (decl us).named))
  ly : ∃ l m Y, ordC us = some l ∧ w.cell? ⟨b, 11, none⟩ = some (.map (some m)) ∧ LayW b us l m Y w
theorem k_needC (hL : Lnk w b us (decl us)) (hC : ∀ u ∈ us, CkU u) {b1 : Nat} (hx : w.cell? ⟨b1, 0, none⟩ = some (.pointer (some ⟨b, 0, none⟩))) {p : ByteArray} (hp : p ∈ keysM (decl us).classes) :
    Ret Tryz.prog 95 #[.string p, .pointer (some ⟨b1, 0, none⟩)] w fun v w' => ∃ a c, v = .slice a (neeC us (decl us) p).length c ∧ Sl eStr T w' a (neeC us (decl us) p) ∧ Bl w w' := by
  obtain ⟨n, k, u, x, hc⟩ := clsI_of (dok_decl hC) hp
  refine entr (vs := [.string p, .pointer (some ⟨b1, 0, none⟩)]) [0, 1, 3, 4, 9] tabok Tryz.func95 (by kernel_rfl) ?_
  refine ld hx ?_
  refine cl (k_super hL (fun u hu => ixs_of (hC u hu)) hc) ?_
  rintro _ w1 ⟨rfl, B1⟩
  unfold neeC
  by_cases hs : supL us (decl us) p = nost
  · refine brF ?_ (hp := by exact fun h => h hs)
    rw [if_pos hs]
    exact rt1 ⟨none, 0, rfl, Sl.nil .., B1⟩
  · refine brT ?_ (hp := hs)
    rw [if_neg hs]
    refine bs fun b2 w2 k2 => ?_
    refine rt1 ⟨some ⟨b2, 0, none⟩, 1, rfl, ?_, B1.trans k2.bl⟩
    have hO : OwP 1 encStr w2 b2 9 (some ⟨b2, 0, none⟩) 1 [supL us (decl us) p] := Ow.made (n := 1) k2 rfl (by omega)
    exact owp_sl hO (by simp) fun _ _ => trivial
end Go.Proofs.YtkmdfjpafkcleaaGreatDoor

/- Walks: the linker runs, the program. -/
namespace Go.Proofs.YtkmdfjpafkcleaaGreatDoor
open Eng Go.RowKit
/-- a store into a map leaves all cells -/
theorem Eng.Wr.kpm {w w' : World} {m : Nat} (k : Wr w m w') {α : Type} {enc : α → Value} {X : Mp α} (hM : MapIs enc w m X) : Kp T w w' := fun i o v _ x => by
  have hne : i ≠ m := fun e => cell_map_ne hM x e.symm
  rw [World.cell?_of_block (w := w) (k.block i hne)]; exact x
variable {w0 w w' : World} {b b1 : Nat} {us : List Unt} {U : Value} {m1 m2 m3 m4 m5 m6 : Nat} {o1 o2 o3 o4 ly : Value}
theorem RnW.go (h : RnW w0 b b1 us U m1 m2 m3 m4 m5 m6 o1 o2 o3 o4 ly w) (k : Nc b w w') {o1' o2' o3' o4' ly' : Value} (hb : Box w' b tLn (lcells U (mpv m1) (mpv m2) (mpv m3) (mpv m4) (mpv m5) (mpv m6) o1' o2' o3' o4' ly')) : RnW w0 b b1 us U m1 m2 m3 m4 m5 m6 o1' o2' o3' o4' ly' w' := by
  refine ⟨hb, ?_, h.lnk.nb k.nb fun o ho => ?_, h.nc.trans k⟩
  · unfold Box
    rw [k.blk b1 h.x1.lt (box_ne h.x1 h.box (by decide))]; exact h.x1
  · rw [h.box.get, hb.get]
    match o, ho with
    | 0, _ => rfl
    | 1, _ => rfl
    | 2, _ => rfl
    | 3, _ => rfl
    | 4, _ => rfl
    | 5, _ => rfl
    | 6, _ => rfl
set_option maxHeartbeats 8000000 in
theorem k_run {w0 : World} {b : Nat} {us : List Unt} {au : Option Addr} {cu : Nat} (hx : Box w0 b tLn (lcells (.slice au us.length cu) (.map none) (.map none) (.map none) (.map none) (.map none) (.map none) nilS nilS nilS nilS (.map none)))
    (hS : Sl eUnt (· ≠ b) w0 au us) (hG : Gl w0) :
    Ret Tryz.prog 46 #[.pointer (some ⟨b, 0, none⟩)] w0 fun v w' => v = I (runE us) ∧ Nc b w0 w' ∧ (runE us = 0 → RunW b us w') := by
  have fail : ∀ {e : Int} {w' : World}, runE us = e → e ≠ 0 → Nc b w0 w' → (I e = I (runE us) ∧ Nc b w0 w' ∧ (runE us = 0 → RunW b us w')) := fun he hne hn => ⟨by rw [he], hn, fun h => absurd (he.symm.trans h) hne⟩
  have hbig := hS.big
  refine entr (vs := [.pointer (some ⟨b, 0, none⟩)]) [0, 1, 2, 3, 5, 6, 7, 9, 11, 17, 21, 22, 23, 24, 30, 39, 44, 60, 88, 97, 98, 99, 100, 118, 124, 125, 126, 127, 136, 139, 182] tabok Tryz.func46 (by kernel_rfl) ?_
  refine bx (cs := [.pointer (some ⟨b, 0, none⟩)]) fun b1 w1 k1 => ?_
  refine ld (k1.box.cell rfl) ?_
  refine ld (k1.bl.cl (hx.cell rfl)) ?_
  by_cases h5 : 5 < us.length
  · refine brT ?_
    exact rt1 (fail (by unfold runE; rw [if_pos h5]) (by decide) (Nc.of_bl k1.bl))
  refine brF ?_
  refine ld (k1.box.cell rfl) ?_
  refine ld (k1.bl.cl (hx.cell rfl)) ?_
  refine lpk (vals := [nilS]) us.length 23 [3] [(1, .pointer (some ⟨b1, 0, none⟩)), (21, .slice au us.length cu), (22, I us.length)]
    (fun n vals w' => ∃ a c, vals = [.slice a ((us.take n).map fun u : Unt => u.name).length c] ∧ OwP 1 encStr w' w1.heap.size 9 a c ((us.take n).map fun u : Unt => u.name) ∧ Bl w1 w' ∧ ∀ x ∈ us.take n, checkE x = 0) ⟨none, 0, rfl, Ow.nil .., Bl.refl _, by simp⟩ ?_
  rintro n vals w2 hn ⟨a, c, rfl, O2, B12, hck⟩ ih
  have B02 := k1.bl.trans B12
  by_cases hlt : n < us.length
  · refine brT ?_
    obtain ⟨u, bu, ou, cs, hu, rfl, hbu, hAt, ua, rfl, hU⟩ := at_some hS hlt
    refine ix ?_
    refine lda (hAt.bl B02) ?_
    refine al fun b5 w3 k3 => ?_
    refine sta (cs' := ucells u ua) k3.box fun w4 k4 x4 => ?_
    have B24 := k3.wr k4
    have B04 := B02.trans B24
    refine lda x4.at ?_
    refine cl (u_Check u ua w4 ((hU.bl B04).sub fun _ _ => trivial) (hG.bl B04)) ?_
    rintro _ w5 ⟨rfl, B45⟩
    have B25 := B24.trans B45
    by_cases hE : checkE u = 0
    · refine brF ?_ (hp := by exact fun h => h hE)
      refine ld ((Bl.box B45 x4).cell rfl) ?_
      refine bs fun b6 w6 k6 => ?_
      have O6 := (O2.bl B25).bl k6.bl
      have B16 := (B12.trans B25).trans k6.bl
      have e1 : (us.take (n + 1)).map (fun u : Unt => u.name) = (us.take n).map (fun u : Unt => u.name) ++ [u.name] := map_snoc hu
      have hl : ((us.take n).map fun u : Unt => u.name).length ≤ 5 := by rw [List.length_map, List.length_take]; omega
      refine apl (l1 := [u.name]) O6 (.inr ⟨b6, 0, rfl, k6.box.at⟩) B16.size (fun a7 c7 w7 O7 A7 _ => ?_) (hb := by simp only [List.length_cons, List.length_nil]; omega) (hn := by simp only [List.length_cons, List.length_nil]; omega)
      refine ih hlt ⟨a7, c7, by rw [e1], by rw [e1]; exact O7, Eng.Ow.below O6 A7 B16 B16.size, fun x hx => ?_⟩
      rw [take_succ_some hu] at hx
      rcases List.mem_append.1 hx with hx | hx
      · exact hck x hx
      · rw [List.mem_singleton.1 hx]; exact hE
    · refine brT ?_ (hp := hE)
      have := chk_take hck hu hE
      exact rt1 (fail (by unfold runE; rw [if_neg h5, if_pos (by rw [this]; exact hE), this]) hE (Nc.of_bl (B02.trans B25)))
  refine brF ?_
  obtain rfl : n = us.length := by omega
  clear ih
  rw [List.take_length] at O2 hck ⊢
  have hC : ∀ u ∈ us, CkU u := fun u hu => (ckU_iff u).1 (hck u hu)
  have hc0 := chk_zero hck
  have hlm : (us.map fun u : Unt => u.name).length ≤ 5 := by rw [List.length_map]; omega
  refine cl (k_doubled (us.map fun u : Unt => u.name) a c T w2 (owp_sl O2 (by omega) fun _ _ => trivial)) ?_
  rintro _ w3 ⟨rfl, B23⟩
  have B03 := B02.trans B23
  cases hdu : dup (us.map fun u : Unt => u.name) with
  | true =>
    refine brt ?_
    exact rt1 (fail (by unfold runE; rw [if_neg h5, if_neg (by rw [hc0]; exact fun h => h rfl), if_pos hdu]) (by decide) (Nc.of_bl B03))
  | false =>
  refine brf ?_
  have x13 := Bl.box (B12.trans B23) k1.box
  refine ld (x13.cell rfl) ?_
  refine cl (k_declare (Bl.box B03 hx) (hS.bl B03) hC (by omega)) ?_
  rintro _ w4 ⟨m1, m2, m3, m4, m5, m6, M, D4⟩
  have L4 := D4.lnk (by omega) (hS.bl B03)
  have hN := D4.ln
  have R4 : RnW w0 b b1 us (.slice au us.length cu) m1 m2 m3 m4 m5 m6 nilS nilS nilS nilS (.map none) w4 :=
    ⟨D4.box, by unfold Box; rw [D4.nc.blk b1 x13.lt (box_ne x13 (Bl.box B03 hx) (by decide))]; exact x13, L4, (Nc.of_bl B03).trans D4.nc⟩
  have hm1 := D4.cl
  clear D4
  refine ld (R4.x1.cell rfl) ?_
  refine cl (k_defined R4.lnk hC (by omega)) ?_
  rintro _ w5 ⟨rfl, B45⟩
  have R5 := R4.bl B45
  have runA : ∀ {e : Int}, runE us = (if definedL us (decl us) = false then 8 else match ordC us with
    | none => 10
    | some oc =>
      if bigD (decl us) = true then 2
      else if (oc.any fun p => decide (7 < (lay us p).length)) = true then 2
      else if (oc.any fun p => dup (lay us p)) = true then 9
      else if unlikeL us (decl us) = true then 11
      else match ordM us with
        | none => 10
        | some _ => 0) := by
    intro e
    unfold runE
    rw [if_neg h5, if_neg (by rw [hc0]; exact fun h => h rfl), hdu, if_neg (by decide)]
    rfl
  have runA := @runA 0
  cases hdf : definedL us (decl us) with
  | false =>
    refine brt ?_
    exact rt1 (fail (by rw [runA, if_pos hdf]) (by decide) R5.nc)
  | true =>
  rw [hdf, if_neg (by decide)] at runA
  refine brf ?_
  have dok := dok_decl hC
  have hlc : (keysM (decl us).classes).length ≤ 50 := by have := dok.lc; unfold keysM; rw [List.length_map]; omega
  have hzc : ∀ p ∈ (decl us).classes, p.1.size ≤ maxLen := fun p hp => by have := dok.zc p hp; unfold maxLen; omega
  refine dht 5 T [0, 1, 2, 3, 4, 6, 5, 7, 8, 9, 10] fun w6 k6 => ?_
  have R6 := R5.bl k6.bl
  refine ld (R6.x1.cell rfl) ?_ (hm := trivial)
  refine ld (R6.x1.cell rfl) ?_ (hm := trivial)
  refine ld (R6.box.cell rfl) ?_ (hm := trivial)
  refine cl (k_keys (hm1.bl (B45.trans k6.bl)) (by have := dok.lc; omega) hzc) ?_ (hm := fun _ _ r => by obtain ⟨_, _, _, _, _, _, hB⟩ := r; exact mdW_bl hB)
  rintro _ w7 ⟨a7, c7, l7, rfl, O7, hp7, B67⟩
  have R7 := R6.bl B67
  have hl7 : l7.length ≤ 50 := by have := hp7.length_eq; simp only [List.length_map] at this; omega
  have e7 : orderL (neeC us (decl us)) l7 = ordC us := by unfold ordC; exact orderL_names hp7
  have hin7 : ∀ p ∈ l7, p ∈ keysM (decl us).classes := fun p hp => by
    have := hp7.mem_iff.1 (List.mem_map.2 ⟨p, hp, rfl⟩)
    obtain ⟨q, hq, e⟩ := List.mem_map.1 this
    rw [← ba_ext e]; exact hq
  refine cl (k_place (g := 95) (first := []) (caps := [.pointer (some ⟨b1, 0, none⟩)]) (needs := neeC us (decl us)) (owp_sl O7 (by omega) fun _ _ => trivial) ⟨fun p hp w' k => k_needC (R7.lnk.bl k) hC (k.cl (R7.x1.cell rfl)) (hin7 p hp)⟩) ?_ (hm := fun _ _ r => mdW_bl r.1)
  rintro v w8 ⟨B78, hv⟩
  rw [e7] at hv
  have R8 := R7.bl B78
  cases hoc : ordC us with
  | none =>
    rw [hoc] at hv runA
    simp only at hv runA
    subst hv
    refine st R8.box fun w9 k9 x9 => ?_
    refine brt ?_
    exact rt1 (fail runA (by decide) (R8.to k9 x9).nc)
  | some oc =>
  rw [hoc] at hv runA
  simp only at hv runA
  obtain ⟨a8, c8, rfl, O8⟩ := hv
  refine st R8.box fun w9 k9 x9 => ?_
  have R9 := R8.to k9 x9
  have hb8 := R8.box.lt
  have hoc8 : ∀ g, a8 = some ⟨g, 0, none⟩ → g ≠ b := fun g hg e => O8.nbox R8.box (by decide) (by rw [hg, e])
  have hlo : oc.length ≤ 50 := by have := (orderL_perm (show orderL (neeC us (decl us)) (keysM (decl us).classes) = some oc from hoc)).length_eq; omega
  have S9 : Sl eStr (· ≠ b) w9 a8 oc := owp_sl (O8.wr k9 hoc8) (by omega) hoc8
  have hm19 := (hm1.bl ((B45.trans k6.bl).trans (B67.trans B78))).wr k9 (R8.lnk.cl.elim fun _ h => by
    have := (hm1.bl ((B45.trans k6.bl).trans (B67.trans B78))).ne R8.box; exact this)
  refine brf ?_
  refine cut [88] [(1, .pointer (some ⟨b1, 0, none⟩))] (fun vals w' => vals = [.bool (bigD (decl us))] ∧ Bl w9 w') (fun jo => ?_) ?_
  · refine ds fun w10 k10 => ?_
    have R10 := R9.bl k10.bl
    obtain ⟨q1, h1, M1⟩ := R10.lnk.cl
    obtain ⟨q2, h2, M2⟩ := R10.lnk.st
    obtain ⟨q3, h3, M3⟩ := R10.lnk.ca
    obtain ⟨q4, h4, M4⟩ := R10.lnk.se
    have pb : ∀ {o : Nat} {v : Value}, w10.cell? ⟨b1, 0, none⟩ = some (.pointer (some ⟨b, 0, none⟩)) := R10.x1.cell rfl
    refine ld (R10.x1.cell rfl) ?_
    refine ld h1 ?_
    refine lnm tD M1 ?_
    have hsum : IntKind.i64.wrap (((decl us).calls.length : Int) + ((decl us).sends.length : Int)) = (((decl us).calls.length + (decl us).sends.length : Nat) : Int) := by
      have := dok.lm
      rw [wrap_fit (by omega) (by omega)]; omega
    by_cases g1 : 10 < (decl us).classes.length
    · have q1 : decide ((10 : Int) < ((decl us).classes.length : Int)) = true := decide_eq_true (by omega)
      refine spn (.pointer (some ⟨b, 0, none⟩)) ?_ (hb := q1)
      refine spn (.map none) ?_ (hb := q1)
      refine spn (I 0) ?_ (hb := q1)
      refine spn (.pointer (some ⟨b, 0, none⟩)) ?_ (hb := by rw [q1]; rfl)
      refine spn (.map none) ?_ (hb := by rw [q1]; rfl)
      refine spn (I 0) ?_ (hb := by rw [q1]; rfl)
      refine spn (.pointer (some ⟨b, 0, none⟩)) ?_ (hb := by rw [q1]; rfl)
      refine spn (.map none) ?_ (hb := by rw [q1]; rfl)
      refine spn (I 0) ?_ (hb := by rw [q1]; rfl)
      refine jo ⟨lst1 (vb ?_), k10.bl⟩
      rw [q1]
      unfold bigD
      rw [decide_eq_true g1]; rfl
    · have q1 : decide ((10 : Int) < ((decl us).classes.length : Int)) = false := decide_eq_false (by omega)
      refine spt (.pointer none) ?_ (hb := q1)
      refine ld (R10.x1.cell rfl) ?_
      refine spt (.map none) ?_
      refine ld h2 ?_
      refine spt (I 0) ?_
      refine lnm tD M2 ?_
      by_cases g2 : 10 < (decl us).statics.length
      · have q2 : decide ((10 : Int) < ((decl us).statics.length : Int)) = true := decide_eq_true (by omega)
        refine spn (.pointer (some ⟨b, 0, none⟩)) ?_ (hb := by rw [q2]; rfl)
        refine spn (.map none) ?_ (hb := by rw [q2]; rfl)
        refine spn (I 0) ?_ (hb := by rw [q2]; rfl)
        refine spn (.pointer (some ⟨b, 0, none⟩)) ?_ (hb := by rw [q2]; rfl)
        refine spn (.map none) ?_ (hb := by rw [q2]; rfl)
        refine spn (I 0) ?_ (hb := by rw [q2]; rfl)
        refine jo ⟨lst1 (vb ?_), k10.bl⟩
        rw [q2]
        unfold bigD
        rw [decide_eq_true g2]; simp
      · have q2 : decide ((10 : Int) < ((decl us).statics.length : Int)) = false := decide_eq_false (by omega)
        refine spt (.pointer none) ?_ (hb := by rw [q2]; rfl)
        refine ld (R10.x1.cell rfl) ?_
        refine spt (.map none) ?_
        refine ld h3 ?_
        refine spt (I 0) ?_
        refine lnm tD M3 ?_
        refine spt (.pointer none) ?_
        refine ld (R10.x1.cell rfl) ?_
        refine spt (.map none) ?_
        refine ld h4 ?_
        refine spt (I 0) ?_
        refine lnm tD M4 ?_
        refine jo ⟨lst1 (vb ?_), k10.bl⟩
        unfold bigD
        rw [decide_eq_false g1, decide_eq_false g2, hsum]
        simp
        omega
  rintro _ w10 ⟨rfl, B910⟩
  have R10 := R9.bl B910
  have S10 := S9.bl B910
  cases hbg : bigD (decl us) with
  | true =>
    rw [if_pos hbg] at runA
    refine brt ?_
    exact rt1 (fail runA (by decide) R10.nc)
  | false =>
  rw [hbg, if_neg (by decide)] at runA
  refine brf ?_
  refine ld (R10.x1.cell rfl) ?_
  refine mm fun ml w11 k11 => ?_
  have R11 := R10.bl k11.bl
  refine st R11.box fun w12 k12 x12 => ?_
  have R12 := R11.to k12 x12
  have hMl0 := k11.is encR
  have hMl12 := hMl0.wr k12 (hMl0.ne R11.box)
  have yl := k11.blk
  have n1012 : Nc b w10 w12 := (Nc.of_bl k11.bl).wr k12 (.inl rfl)
  refine ld (R12.x1.cell rfl) ?_
  refine ld (R12.box.cell rfl) ?_
  have hperm := orderL_perm (show orderL (neeC us (decl us)) (keysM (decl us).classes) = some oc from hoc)
  have hkl : (keysM (decl us).classes).length = oc.length := hperm.length_eq.symm
  have hdeep : ∀ p ∈ oc, Deep us (decl us) (keysM (decl us).classes).length p := fun p hp => by
    obtain ⟨i, hi⟩ := List.mem_iff_getElem?.1 hp
    have hil : i < oc.length := (List.getElem?_eq_some_iff.1 hi).1
    exact deep_le (deep_of (fun q hq => clsI_of dok (hperm.mem_iff.1 hq)) (orderL_placed hoc) i p hi) (by omega)
  have hI : ∀ u ∈ us, Ixs u := fun u hu => ixs_of (hC u hu)
  have hF7 : ∀ u ∈ us, ∀ c ∈ u.classes, c.fields.length ≤ 7 := fun u hu => (lim_of (hC u hu).lim).flds
  refine lpk (vals := []) oc.length 99 [] [(1, .pointer (some ⟨b1, 0, none⟩)), (97, .slice a8 oc.length c8), (98, I oc.length)]
    (fun n vals w' => vals = [] ∧ Nc b w10 w' ∧ Box w' b tLn (lcells (.slice au us.length cu) (mpv m1) (mpv m2) (mpv m3) (mpv m4) (mpv m5) (mpv m6) (.slice a8 oc.length c8) nilS nilS nilS (mpv ml)) ∧ (∃ Y, LayW b us (oc.take n) ml Y w') ∧ (oc.take n).any (fun p => decide (7 < (lay us p).length)) = false)
    ⟨rfl, n1012, x12, ⟨[], hMl12, (fun p hp => by simp at hp), (fun _ _ h => by cases h)⟩, rfl⟩ ?_
  rintro n vals w13 hn ⟨rfl, n13, x13', ⟨Y, hY⟩, hany⟩ ih
  have R13 := R10.go n13 x13'
  have S13 := S10.kp n13.nb.kp
  by_cases hlt : n < oc.length
  · refine brT ?_
    obtain ⟨p, bp, op, cs, hp, rfl, _, hAt, rfl⟩ := at_some S13 hlt
    have hpm := List.mem_of_getElem? hp
    refine ix ?_
    refine ld (hAt 0 _ rfl) ?_
    refine dht 1 T (List.range 8) fun w14 k14 => ?_
    have R14 := R13.bl k14.bl
    refine ld (R14.x1.cell rfl) ?_ (hm := trivial)
    refine ld (R14.box.cell rfl) ?_ (hm := trivial)
    refine ld (R14.x1.cell rfl) ?_ (hm := trivial)
    refine cl (k_layout hI hF7 (keysM (decl us).classes).length p w14 (by omega) R14.lnk (hdeep p hpm)) ?_ (hm := fun _ _ r => by obtain ⟨_, _, _, _, _, hB⟩ := r; exact mdW_bl hB)
    rintro _ w15 ⟨a15, c15, rfl, O15, hl15, B15⟩
    have B1315 := k14.bl.trans B15
    have R15 := R14.bl B15
    have hne15 : ∀ g, a15 = some ⟨g, 0, none⟩ → g ≠ b := fun g hg e => O15.nbox R15.box (by decide) (by rw [hg, e])
    refine mu (⟨a15, c15, lay us p⟩ : Rs) tN (hY.is.bl B1315) fun w16 k16 hM16 => ?_
    have hMl := hY.is.bl B1315
    have kp16 := k16.kpm hMl
    have n16 : Nc b w10 w16 := (n13.bl B1315).wr k16 (.inr (Nat.le_of_eq yl.symm))
    have x16 := k16.box R15.box (hMl.ne R15.box).symm
    have R16 := R10.go n16 x16
    have hrow : Sl eStr (· ≠ b) w16 a15 (lay us p) := (owp_sl O15 (by omega) hne15).kp (kp16.sub fun _ _ => trivial)
    have hY16 : LayW b us (oc.take (n + 1)) ml (putM Y p ⟨a15, c15, lay us p⟩) w16 := by
      refine ⟨hM16, fun q hq => ?_, fun q r hq => ?_⟩
      rotate_left
      · rw [putM_get] at hq
        rw [take_succ_some hp]
        split at hq
        · rename_i e; rw [← e]; simp
        · exact List.mem_append_left _ (hY.only q r hq)
      rw [putM_get]
      by_cases e : p = q
      · subst e
        exact ⟨_, by rw [if_pos rfl], rfl, hrow⟩
      · rw [if_neg e]
        rw [take_succ_some hp] at hq
        rcases List.mem_append.1 hq with hq | hq
        · obtain ⟨r, h1, h2, h3⟩ := hY.at' q hq
          exact ⟨r, h1, h2, (h3.bl B1315).kp (kp16.sub fun _ _ => trivial)⟩
        · exact absurd (List.mem_singleton.1 hq).symm e
    refine ld (R16.x1.cell rfl) ?_
    refine ld (R16.box.cell rfl) ?_
    refine lk tN hM16 ?_
    rw [getD_enc, putM_get, if_pos rfl]
    by_cases h7 : 7 < (lay us p).length
    · refine brT ?_ (hp := by show ((7 : Int) < ((lay us p).length : Int)); omega)
      rw [if_pos (any_hit hp (by rw [decide_eq_true h7]))] at runA
      exact rt1 (fail runA (by decide) R16.nc)
    · refine brF ?_ (hp := by show ¬ ((7 : Int) < ((lay us p).length : Int)); omega)
      exact ih hlt ⟨rfl, n16, x16, ⟨_, hY16⟩, any_snoc hp hany (decide_eq_false h7)⟩
  refine brF ?_
  obtain rfl : n = oc.length := by omega
  clear ih
  rw [List.take_length] at hY
  rw [if_neg (by rw [any_end hany]; decide)] at runA
  refine ld (R13.x1.cell rfl) ?_
  refine ld (R13.box.cell rfl) ?_
  refine lpk (vals := []) oc.length 126 [] [(1, .pointer (some ⟨b1, 0, none⟩)), (124, .slice a8 oc.length c8), (125, I oc.length)]
    (fun n vals w' => vals = [] ∧ Bl w13 w' ∧ (oc.take n).any (fun p => dup (lay us p)) = false) ⟨rfl, Bl.refl _, rfl⟩ ?_
  rintro n vals w14 hn ⟨rfl, B14, hany2⟩ ih
  have R14 := R13.bl B14
  by_cases hlt : n < oc.length
  · refine brT ?_
    obtain ⟨p, bp, op, cs, hp, rfl, _, hAt, rfl⟩ := at_some (S13.bl B14) hlt
    obtain ⟨r, hr1, hr2, hr3⟩ := hY.at' p (List.mem_of_getElem? hp)
    refine ix ?_
    refine ld (hAt 0 _ rfl) ?_
    refine ld (R14.x1.cell rfl) ?_
    refine ld (R14.box.cell rfl) ?_
    refine lk tN (hY.is.bl B14) ?_
    rw [getD_enc, hr1]
    refine cl (k_doubled r.l r.a r.c (· ≠ b) w14 (hr3.bl B14)) ?_
    rintro _ w15 ⟨rfl, B15⟩
    rw [hr2]
    cases hd : dup (lay us p) with
    | true =>
      refine brt ?_
      rw [if_pos (any_hit hp hd)] at runA
      exact rt1 (fail runA (by decide) (R14.bl B15).nc)
    | false =>
      refine brf ?_
      exact ih hlt ⟨rfl, B14.trans B15, any_snoc hp hany2 hd⟩
  refine brF ?_
  obtain rfl : n = oc.length := by omega
  clear ih
  rw [if_neg (by rw [any_end hany2]; decide)] at runA
  refine ld (R14.x1.cell rfl) ?_
  refine cl (k_unlike R14.lnk (fun u hu => tyOk_of (hC u hu)) (sendI_of dok)) ?_
  rintro _ w15 ⟨rfl, B15⟩
  have R15 := R14.bl B15
  cases hul : unlikeL us (decl us) with
  | true =>
    refine brt ?_
    rw [if_pos hul] at runA
    exact rt1 (fail runA (by decide) R15.nc)
  | false =>
  rw [hul, if_neg (by decide)] at runA
  refine brf ?_
  have hY15 : LayW b us oc ml Y w15 := ⟨hY.is.bl (B14.trans B15), fun p hp => by
    obtain ⟨r, h1, h2, h3⟩ := hY.at' p hp
    exact ⟨r, h1, h2, h3.bl (B14.trans B15)⟩, hY.only⟩
  have S15 := S13.bl (B14.trans B15)
  have hzs : ∀ p ∈ (decl us).statics, p.1.size ≤ maxLen := fun p hp => by have := dok.zs p hp; unfold maxLen; omega
  have hza : ∀ p ∈ (decl us).calls, p.1.size ≤ maxLen := fun p hp => by have := dok.za p hp; unfold maxLen; omega
  have hze : ∀ p ∈ (decl us).sends, p.1.size ≤ maxLen := fun p hp => by have := dok.ze p hp; unfold maxLen; omega
  have hzn : ∀ p ∈ (decl us).named, p.1.size ≤ maxLen := fun p hp => by have := dok.zn p hp; unfold maxLen; omega
  have hls := dok.ls
  have hlm2 := dok.lm
  have hln := dok.ln
  -- the statics in order
  obtain ⟨o2, eo2⟩ : ∃ o2, sortL (keysM (decl us).statics) = o2 := ⟨_, rfl⟩
  have lo2 : o2.length ≤ 50 := by rw [← eo2, sortL_len]; unfold keysM; rw [List.length_map]; omega
  refine dht 4 T [0, 1, 2, 3, 4, 5, 6] fun w16 k16 => ?_
  have R16 := R15.bl k16.bl
  obtain ⟨q2, h2, M2⟩ := R16.lnk.st
  refine ld (R16.x1.cell rfl) ?_ (hm := trivial)
  refine ld (R16.x1.cell rfl) ?_ (hm := trivial)
  refine ld h2 ?_ (hm := trivial)
  refine cl (k_KeysD q2 w16) ?_ (hm := fun _ _ r => by obtain ⟨_, _, h⟩ := r; exact mdW_bl h.bl)
  rintro _ w17 ⟨b17, rfl, k17⟩
  refine cl (k_sortD (M2.bl k17.bl) (by omega) hzs k17) ?_ (hm := fun _ _ r => by obtain ⟨_, _, _, _, hB⟩ := r; exact mdW_bl hB)
  rintro _ w18 ⟨a18, c18, rfl, O18, B1718⟩
  rw [eo2] at O18 ⊢
  have B1518 := (k16.bl.trans k17.bl).trans B1718
  have R18 := R15.bl B1518
  refine st R18.box fun w19 k19 x19 => ?_
  have R19 := R18.to k19 x19
  have kb19 : Kp (· ≠ b) w18 w19 := k19.kp fun _ h => h
  have hne18 : ∀ g, a18 = some ⟨g, 0, none⟩ → g ≠ b := fun g hg e => O18.nbox R18.box (by decide) (by rw [hg, e])
  have T19 : Sl eStr (· ≠ b) w19 a18 o2 := owp_sl (O18.wr k19 hne18) (by omega) hne18
  have S19 := (S15.bl B1518).kp kb19
  have hY19 : LayW b us oc ml Y w19 := ⟨(hY15.is.bl B1518).wr k19 ((hY15.is.bl B1518).ne R18.box), fun p hp => by
    obtain ⟨r, h1, h2, h3⟩ := hY15.at' p hp
    exact ⟨r, h1, h2, (h3.bl B1518).kp kb19⟩, hY15.only⟩
  -- the selectors in order
  obtain ⟨o4, eo4⟩ : ∃ o4, sortL (keysM (decl us).named) = o4 := ⟨_, rfl⟩
  have lo4 : o4.length ≤ 80 := by rw [← eo4, sortL_len]; unfold keysM; rw [List.length_map]; omega
  refine dht 4 T [0, 1, 2, 3, 4, 5, 6] fun w20 k20 => ?_
  have R20 := R19.bl k20.bl
  obtain ⟨q5, M5, h5', hM5, hN5, _⟩ := R20.lnk.na
  have hk5 : keysM M5 = keysM (decl us).named := by rw [← hN5, keys_mapV]
  have hl5 : M5.length = (decl us).named.length := by rw [← hN5]; unfold mapV; rw [List.length_map]
  have hz5 : ∀ p ∈ M5, p.1.size ≤ maxLen := fun p hp => hzn (p.1, p.2.l) (by rw [← hN5]; exact List.mem_map.2 ⟨p, hp, rfl⟩)
  refine ld (R20.x1.cell rfl) ?_ (hm := trivial)
  refine ld (R20.x1.cell rfl) ?_ (hm := trivial)
  refine ld h5' ?_ (hm := trivial)
  refine cl (k_KeysN q5 w20) ?_ (hm := fun _ _ r => by obtain ⟨_, _, h⟩ := r; exact mdW_bl h.bl)
  rintro _ w21 ⟨b21, rfl, k21⟩
  refine cl (k_sortN (hM5.bl k21.bl) (by omega) hz5 k21) ?_ (hm := fun _ _ r => by obtain ⟨_, _, _, _, hB⟩ := r; exact mdW_bl hB)
  rintro _ w22 ⟨a22, c22, rfl, O22, B2122⟩
  rw [hk5, eo4] at O22 ⊢
  have B1922 := (k20.bl.trans k21.bl).trans B2122
  have R22 := R19.bl B1922
  refine st R22.box fun w23 k23 x23 => ?_
  have R23 := R22.to k23 x23
  have kb23 : Kp (· ≠ b) w22 w23 := k23.kp fun _ h => h
  have hne22 : ∀ g, a22 = some ⟨g, 0, none⟩ → g ≠ b := fun g hg e => O22.nbox R22.box (by decide) (by rw [hg, e])
  have V23 : Sl eStr (· ≠ b) w23 a22 o4 := owp_sl (O22.wr k23 hne22) (by omega) hne22
  have S23 := (S19.bl B1922).kp kb23
  have T23 := (T19.bl B1922).kp kb23
  have hY23 : LayW b us oc ml Y w23 := ⟨(hY19.is.bl B1922).wr k23 ((hY19.is.bl B1922).ne R22.box), fun p hp => by
    obtain ⟨r, h1, h2, h3⟩ := hY19.at' p hp
    exact ⟨r, h1, h2, (h3.bl B1922).kp kb23⟩, hY19.only⟩
  -- the methods
  refine dht 5 (· < w23.heap.size) [0, 1, 2, 3, 4, 6, 7, 8, 9, 12, 13, 5, 10, 11, 14, 15, 16, 17] fun w24 k24 => ?_
  have R24 := R23.bl k24.bl
  have lt1 : b1 < w23.heap.size := R23.x1.lt
  have ltb : b < w23.heap.size := R23.box.lt
  obtain ⟨q3, h3, M3⟩ := R24.lnk.ca
  obtain ⟨q4, h4, M4⟩ := R24.lnk.se
  refine ld (R24.x1.cell rfl) ?_ (hm := lt1)
  refine ld (R24.x1.cell rfl) ?_ (hm := lt1)
  refine ld h3 ?_ (hm := ltb)
  refine ld (R24.x1.cell rfl) ?_ (hm := lt1)
  refine ld h4 ?_ (hm := ltb)
  refine ld (R24.x1.cell rfl) ?_ (hm := lt1)
  refine cl (k_keys M3 (by omega) hza) ?_ (hm := fun _ _ r => by obtain ⟨_, _, _, _, _, _, hB⟩ := r; exact mdW_bl hB)
  rintro _ w25 ⟨a25, c25, l25, rfl, O25, hp25, B2425⟩
  refine cl (k_keys (M4.bl B2425) (by omega) hze) ?_ (hm := fun _ _ r => by obtain ⟨_, _, _, _, _, _, hB⟩ := r; exact mdW_bl hB)
  rintro _ w26 ⟨a26, c26, l26, rfl, O26, hp26, B2526⟩
  have hl25 : l25.length ≤ 80 := by have := hp25.length_eq; simp only [List.length_map] at this; unfold keysM at this; rw [List.length_map] at this; omega
  have hl26 : l26.length ≤ 80 := by have := hp26.length_eq; simp only [List.length_map] at this; unfold keysM at this; rw [List.length_map] at this; omega
  have B2426 := B2425.trans B2526
  have z24 : w24.heap.size = w23.heap.size := by rw [k24.heap]
  refine apl (O25.bl B2526) (src_of (owp_sl (S := T) O26 (by omega) fun _ _ => trivial)) B2426.size (fun a27 c27 w27 O27 A27 _ => ?_) (hm := apS fun g hg => by have := (O25.lt hg).1; omega)
  have B2427 : Bl w24 w27 := Eng.Ow.below (O25.bl B2526) A27 B2426 B2426.size
  have R27 := R24.bl B2427
  have hpm : ((l25 ++ l26).map toL).Perm ((keysM (decl us).calls ++ keysM (decl us).sends).map toL) := by
    rw [List.map_append, List.map_append]; exact hp25.append hp26
  have hin27 : ∀ p ∈ l25 ++ l26, p ∈ keysM (decl us).calls ++ keysM (decl us).sends := fun p hp => by
    have := hpm.mem_iff.1 (List.mem_map.2 ⟨p, hp, rfl⟩)
    obtain ⟨q, hq, e⟩ := List.mem_map.1 this
    rw [← ba_ext e]; exact hq
  have e27 : orderL (calL us (decl us)) (l25 ++ l26) = ordM us := by unfold ordM; exact orderL_names hpm
  refine cl (k_place (g := 102) (first := [.pointer (some ⟨b, 0, none⟩)]) (caps := []) (needs := calL us (decl us)) (owp_sl O27 (by rw [List.length_append]; omega) fun _ _ => trivial) ⟨fun p hp w' k => by
    obtain ⟨n, k', u, m, hM⟩ := mthI_of dok (hin27 p hp)
    refine (k_callees (R27.lnk.bl k) hI hN hM (code_len (hC u (List.mem_of_getElem? hM.hu)) (List.mem_of_getElem? hM.hm))).mono ?_
    rintro v w'' ⟨a, c, rfl, hO, hlen, hB⟩
    exact ⟨a, c, rfl, owp_sl hO (by omega) fun _ _ => trivial, hB⟩⟩) ?_ (hm := fun _ _ r => mdW_bl r.1)
  rintro v w28 ⟨B2728, hv⟩
  rw [e27] at hv
  have B2328 := (k24.bl.trans B2427).trans B2728
  have R28 := R23.bl B2328
  cases hom : ordM us with
  | none =>
    rw [hom] at hv runA
    simp only at hv runA
    subst hv
    refine st R28.box fun w29 k29 x29 => ?_
    refine brt ?_
    exact rt1 (fail runA (by decide) (R28.to k29 x29).nc)
  | some om =>
  rw [hom] at hv runA
  simp only at hv runA
  obtain ⟨a28, c28, rfl, O28⟩ := hv
  refine st R28.box fun w29 k29 x29 => ?_
  have R29 := R28.to k29 x29
  have kb29 : Kp (· ≠ b) w28 w29 := k29.kp fun _ h => h
  have hne28 : ∀ g, a28 = some ⟨g, 0, none⟩ → g ≠ b := fun g hg e => O28.nbox R28.box (by decide) (by rw [hg, e])
  have lom : om.length ≤ 160 := by
    have := (orderL_perm (show orderL (calL us (decl us)) (keysM (decl us).calls ++ keysM (decl us).sends) = some om from hom)).length_eq
    rw [this, List.length_append]; unfold keysM; rw [List.length_map, List.length_map]; omega
  have W29 : Sl eStr (· ≠ b) w29 a28 om := owp_sl (O28.wr k29 hne28) (by omega) hne28
  refine brf ?_
  refine rt1 ⟨by rw [runA], R29.nc, fun _ => ⟨R29.lnk, ⟨oc, a8, c8, hoc, R29.box.cell rfl, (S23.bl B2328).kp kb29⟩, ⟨a18, c18, by rw [eo2]; exact R29.box.cell rfl, by rw [eo2]; exact (T23.bl B2328).kp kb29⟩, ⟨om, a28, c28, hom, R29.box.cell rfl, W29⟩,
    ⟨a22, c22, by rw [eo4]; exact R29.box.cell rfl, by rw [eo4]; exact (V23.bl B2328).kp kb29⟩, ⟨oc, ml, Y, hoc, R29.box.cell rfl, (hY23.is.bl B2328).wr k29 ((hY23.is.bl B2328).ne R28.box), fun p hp => by
      obtain ⟨r, h1, h2, h3⟩ := hY23.at' p hp
      exact ⟨r, h1, h2, (h3.bl B2328).kp kb29⟩, hY23.only⟩⟩⟩
end Go.Proofs.YtkmdfjpafkcleaaGreatDoor

/- Walks: the linker resolves types, fields, tables. -/
namespace Go.Proofs.YtkmdfjpafkcleaaGreatDoor
open Eng Go.RowKit
theorem l_Index {S : Nat → Prop} {w : World} {a : Option Addr} {l : List ByteArray} (hS : Sl eStr S w a l) (cap : Nat) (x : ByteArray) : Ret Tryz.prog 103 #[.slice a l.length cap, .string x] w fun v w' => v = I (idxB l x) ∧ w' = w := by
  refine ⟨by kernel_rfl, ?_⟩
  have hbig := hS.big
  cases l with
  | nil =>
    refine (Tryz.slices_Index_string_empty a cap x w).mono ?_
    rintro e w' ⟨rfl, rfl⟩
    exact ⟨rfl, rfl⟩
  | cons y l =>
    obtain ⟨b, o, cs, rfl, _, _⟩ := hS.el 0 y rfl
    refine (Tryz.slices_Index_string b o (y :: l).length cap (y :: l) x w (Nat.le_refl _) (by omega) fun j hj => ?_).mono ?_
    · obtain ⟨s, hs⟩ := some_of_lt hj
      obtain ⟨b', o', cs', e, _, hAt, rfl⟩ := hS.el j s hs
      simp only [Option.some.injEq, Addr.mk.injEq, and_true] at e
      obtain ⟨rfl, rfl⟩ := e
      have := hAt 0 _ rfl
      rw [List.getD_eq_getElem?_getD, hs]
      simpa [eStr, plainEl] using this
    · rintro e w' ⟨rfl, rfl⟩
      exact ⟨by rw [List.take_length], rfl⟩
theorem idxB_ge (l : List ByteArray) (x : ByteArray) : idxB l x = -1 ∨ 0 ≤ idxB l x := by
  have key : ∀ (l : List ByteArray) (i : Nat), Lib.idxFromS l x i = -1 ∨ 0 ≤ Lib.idxFromS l x i := by
    intro l
    induction l with
    | nil => intro i; exact .inl rfl
    | cons y l ih =>
      intro i
      unfold Lib.idxFromS
      split
      · right; omega
      · exact ih (i + 1)
  exact key l 0
/-- a linker behind its run, with its orders -/
structure RunO (b : Nat) (us : List Unt) (O : Ords) (w : World) : Prop where
  lnk : Lnk w b us (decl us)
  oc : ∃ a c, w.cell? ⟨b, 7, none⟩ = some (.slice a O.oc.length c) ∧ Sl eStr (· ≠ b) w a O.oc
  os : ∃ a c, w.cell? ⟨b, 8, none⟩ = some (.slice a O.os.length c) ∧ Sl eStr (· ≠ b) w a O.os
  om : ∃ a c, w.cell? ⟨b, 9, none⟩ = some (.slice a O.om.length c) ∧ Sl eStr (· ≠ b) w a O.om
  oz : ∃ a c, w.cell? ⟨b, 10, none⟩ = some (.slice a O.oz.length c) ∧ Sl eStr (· ≠ b) w a O.oz
  ly : ∃ m Y, w.cell? ⟨b, 11, none⟩ = some (.map (some m)) ∧ LayW b us O.oc m Y w
theorem RunW.o {b : Nat} {us : List Unt} {w : World} (h : RunW b us w) : RunO b us (ordsL us) w := by
  obtain ⟨l1, a1, c1, e1, h1, s1⟩ := h.oc
  obtain ⟨l2, a2, c2, e2, h2, s2⟩ := h.om
  obtain ⟨l3, m, Y, e3, h3, y⟩ := h.ly
  have q1 : (ordsL us).oc = l1 := by unfold ordsL; rw [e1]; rfl
  have q2 : (ordsL us).om = l2 := by unfold ordsL; rw [e2]; rfl
  have q3 : (ordsL us).oc = l3 := by unfold ordsL; rw [e3]; rfl
  exact ⟨h.lnk, ⟨a1, c1, by rw [q1]; exact h1, by rw [q1]; exact s1⟩, h.os, ⟨a2, c2, by rw [q2]; exact h2, by rw [q2]; exact s2⟩, h.oz, ⟨m, Y, h3, by rw [q3]; exact y⟩⟩
variable {w w' : World} {b : Nat} {us : List Unt} {O : Ords}
theorem LayW.bl {l : List ByteArray} {m : Nat} {Y : Mp Rs} (h : LayW b us l m Y w) (k : Bl w w') : LayW b us l m Y w' :=
  ⟨h.is.bl k, fun p hp => by obtain ⟨r, h1, h2, h3⟩ := h.at' p hp; exact ⟨r, h1, h2, h3.bl k⟩, h.only⟩
theorem RunO.bl (h : RunO b us O w) (k : Bl w w') : RunO b us O w' := by
  obtain ⟨a1, c1, h1, s1⟩ := h.oc
  obtain ⟨a2, c2, h2, s2⟩ := h.os
  obtain ⟨a3, c3, h3, s3⟩ := h.om
  obtain ⟨a4, c4, h4, s4⟩ := h.oz
  obtain ⟨m, Y, h5, y⟩ := h.ly
  exact ⟨h.lnk.bl k, ⟨a1, c1, k.cl h1, s1.bl k⟩, ⟨a2, c2, k.cl h2, s2.bl k⟩, ⟨a3, c3, k.cl h3, s3.bl k⟩, ⟨a4, c4, k.cl h4, s4.bl k⟩, ⟨m, Y, k.cl h5, y.bl k⟩⟩
theorem k_kind (h : RunO b us O w) {n : Nat} {u : Unt} (hu : us[n]? = some u) {t : Ty} (ht : optP u t.cls) :
    Ret Tryz.prog 106 #[.pointer (some ⟨b, 0, none⟩), I n, .agg (encTy t).toArray] w fun v w' => v = .agg (encTy (kindM O.oc u t)).toArray ∧ Bl w w' := by
  refine entr (vs := [.pointer (some ⟨b, 0, none⟩), I n, .agg (encTy t).toArray]) [0, 1, 2, 5, 6, 9] tabok Tryz.func106 (by kernel_rfl) ?_
  refine bx (cs := encTy t) fun b5 w1 k1 => ?_
  refine al fun b6 w2 k2 => ?_
  have x2 := Bl.box k2.bl k1.box
  refine ld (x2.cell rfl) ?_
  have B2 := k1.bl.trans k2.bl
  have y2 := k2.blk
  have z1 := k1.size
  by_cases h0 : t.cls < 0
  · refine brT ?_ (hp := h0)
    refine ld (x2.cell rfl) ?_
    refine bd ?_
    refine sta (cs' := [I t.kind, I 0]) k2.box fun w3 k3 x3 => ?_
    refine rtc (cs := [I t.kind, I 0]) x3.at ⟨?_, Below.trans B2 (k3.below (by omega))⟩
    unfold kindM
    rw [if_pos h0]
  · refine brF ?_ (hp := h0)
    refine dt 1 fun w3 k3 => ?_
    have B3 := B2.trans k3.bl
    have H3 := h.bl B3
    obtain ⟨a, c, hc, hS⟩ := H3.oc
    refine ld ((k3.box x2).cell rfl) ?_
    refine ld hc ?_
    refine ld ((k3.box x2).cell rfl) ?_
    refine clq (k_path H3.lnk hu (ht.inP h0)) ?_
    refine clq (l_Index hS c _) ?_
    refine bd ?_
    refine sta (cs' := [I t.kind, I (idxB O.oc (nm u t.cls))]) (k3.box k2.box) fun w4 k4 x4 => ?_
    refine rtc (cs := [I t.kind, I (idxB O.oc (nm u t.cls))]) x4.at ⟨?_, Below.trans B3 (k4.below (by omega))⟩
    unfold kindM
    rw [if_neg h0]
theorem k_kinds (h : RunO b us O w) {n : Nat} {u : Unt} (hu : us[n]? = some u) {l : List Ty} {a : Option Addr} {c : Nat} (hS : Sl eTy T w a l) (ht : ∀ t ∈ l, optP u t.cls) :
    Ret Tryz.prog 107 #[.pointer (some ⟨b, 0, none⟩), I n, .slice a l.length c] w fun v w' => ∃ a' c', v = .slice a' (l.map (kindM O.oc u)).length c' ∧ OwP 2 encTy w' w.heap.size 51 a' c' (l.map (kindM O.oc u)) ∧ Bl w w' := by
  have hbig := hS.big
  refine entr (vs := [.pointer (some ⟨b, 0, none⟩), I n, .slice a l.length c]) [0, 1, 2, 6, 7, 9, 10, 11, 12, 13] tabok Tryz.func107 (by kernel_rfl) ?_
  refine lpk (vals := [nilS]) l.length 12 [7] [(0, .pointer (some ⟨b, 0, none⟩)), (1, I n), (10, .slice a l.length c), (11, I l.length)]
    (fun j vals w' => ∃ a' c', vals = [.slice a' ((l.take j).map (kindM O.oc u)).length c'] ∧ OwP 2 encTy w' w.heap.size 51 a' c' ((l.take j).map (kindM O.oc u)) ∧ Bl w w') ⟨none, 0, rfl, Ow.nil .., Bl.refl _⟩ ?_
  rintro j vals w1 hj ⟨a', c', rfl, O1, B1⟩ ih
  by_cases hlt : j < l.length
  · refine brT ?_
    obtain ⟨t, bf, off, cs, hti, rfl, _, hAt, rfl⟩ := at_some (hS.bl B1) hlt
    refine ix ?_
    refine lda hAt ?_
    refine al fun b2 w2 k2 => ?_
    refine sta (cs' := encTy t) k2.box fun w3 k3 x3 => ?_
    have B13 := k2.wr k3
    have B3 := B1.trans B13
    refine lda x3.at ?_
    refine cl (k_kind (h.bl B3) hu (ht t (List.mem_of_getElem? hti))) ?_
    rintro _ w4 ⟨rfl, B34⟩
    refine bs (cs := encTy (kindM O.oc u t)) fun b5 w5 k5 => ?_
    have B15 := (B13.trans B34).trans k5.bl
    have B5 := B1.trans B15
    have O5 := O1.bl B15
    have hl : ((l.take j).map (kindM O.oc u)).length ≤ 4194304 := by rw [List.length_map, List.length_take]; omega
    have e1 : (l.take (j + 1)).map (kindM O.oc u) = (l.take j).map (kindM O.oc u) ++ [kindM O.oc u t] := map_snoc hti
    refine apl (l1 := [kindM O.oc u t]) O5 (.inr ⟨b5, 0, rfl, k5.box.at⟩) B5.size (fun a6 c6 w6 O6 A6 _ => ?_) (hb := by simp only [List.length_cons, List.length_nil]; omega) (hn := by simp only [List.length_cons, List.length_nil]; omega)
    exact ih hlt ⟨a6, c6, by rw [e1], by rw [e1]; exact O6, Eng.Ow.below O5 A6 B5 B5.size⟩
  · refine brF ?_
    obtain rfl : j = l.length := by omega
    rw [List.take_length] at O1 ⊢
    exact rt1 ⟨a', c', rfl, O1, B1⟩
end Go.Proofs.YtkmdfjpafkcleaaGreatDoor
