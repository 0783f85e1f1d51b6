import Derived.Test.YtopjmiklpnejmaaGreatDoorM2
import Derived.Lib.AppendStr
import Derived.Lib.SlBytesConst
import Derived.Laws.BytesString
/- Walks: the program's ways through a unit, handing each index to a function. -/
namespace Go.Proofs.YtopjmiklpnejmaaGreatDoor
open Eng Go.RowKit
def tyU (t : Ty) : List Rf := if tcls t = true then [⟨t.cls, 2, false⟩] else []
def fldU (f : Fld) : List Rf := ⟨f.name, 1, false⟩ :: tyU f.ty
def clsU (c : Cls) : List Rf := ⟨c.name, 1, false⟩ :: ⟨c.super, 2, true⟩ :: c.fields.flatMap fldU
def mthU (m : Mth) : List Rf := ⟨m.name, 1, false⟩ :: ⟨m.cls, 2, true⟩ :: ([m.params, m.locals].flatMap (·.flatMap tyU) ++ tyU m.result)
def headsU (u : Unt) : List Rf := u.classes.flatMap clsU ++ u.statics.flatMap fldU ++ u.methods.flatMap mthU
def opU (i : Ins) : List Rf :=
  if i.op = 17 ∨ i.op = 18 then [⟨i.a, 3, false⟩] else if i.op = 14 ∨ i.op = 24 ∨ i.op = 22 ∨ i.op = 23 ∨ i.op = 25 then [⟨i.a, 2, false⟩] else if i.op = 16 then [⟨i.b, 2, false⟩] else if i.op = 12 then (if i.a = 3 then [] else [⟨i.b, 2, false⟩]) else if i.op = 26 then [⟨i.a, 1, false⟩] else []
/-- a function that is handed indexes, one after the other, at most N: what it keeps, and what it does -/
structure EachC (S : Nat → Prop) (w0 : World) (g : FuncId) (caps : List Value) (J : List Rf → World → Prop) (Pok : Rf → Prop) (N : Nat) : Prop where
  kp : ∀ pre w, J pre w → Kp S w0 w
  bl : ∀ pre w w', Bl w w' → J pre w → J pre w'
  run : ∀ pre u b o w, pre.length < N → Pok u → S b → J pre w → w.cell? ⟨b, o, none⟩ = some (I u.at') → Ret Tryz.prog g ([Value.agg #[.pointer (some ⟨b, o, none⟩), I u.parts, .bool u.opt]] ++ caps).toArray w fun _ w' => J (pre ++ [u]) w'
theorem fm_take_le {α β : Type} (f : α → List β) {l : List α} {k : Nat} {x : α} (h : l[k]? = some x) : ((l.take k).flatMap f).length + (f x).length ≤ (l.flatMap f).length := by
  obtain ⟨hk, rfl⟩ := List.getElem?_eq_some_iff.1 h
  conv => rhs; rw [← List.take_append_drop k l, List.drop_eq_getElem_cons hk, List.flatMap_append, List.flatMap_cons, List.length_append, List.length_append]
  omega
section
variable {S : Nat → Prop} {w0 : World} {g : FuncId} {caps : List Value} {J : List Rf → World → Prop} {Pok : Rf → Prop} {N : Nat}
theorem h_types (hE : EachC S w0 g caps J Pok N) (t : Ty) (ht : ∀ u ∈ tyU t, Pok u) (b o : Nat) (hb : S b) (hAt : At w0 b o [I t.kind, I t.cls]) (pre : List Rf) (w : World) (hJ : J pre w) (hN : pre.length + (tyU t).length ≤ N) :
    Ret Tryz.prog 123 #[.pointer (some ⟨b, o, none⟩), .func (.func g) #[] caps.toArray] w fun _ w' => J (pre ++ tyU t) w' := by
  have hA := hAt.kp (hE.kp pre w hJ) hb
  refine entr (vs := [.pointer (some ⟨b, o, none⟩), .func (.func g) #[] caps.toArray]) [0, 1, 15] tabok Tryz.func123 (by kernel_rfl) ?_
  refine ld (hA.two.1) ?_
  refine ldg (fun _ => hA.two.1) ?_
  refine br (t := tcls t) (fun h => ?_) (fun h => ?_)
  · have e : tyU t = [⟨t.cls, 2, false⟩] := by unfold tyU; rw [if_pos h]
    refine bd ?_
    refine cl (hE.run pre ⟨t.cls, 2, false⟩ b (o + 1) w (by rw [e] at hN; exact hN) (ht _ (by rw [e]; simp)) hb hJ hA.two.2) ?_
    intro v w' hJ'
    exact en (vs := []) (by rw [e]; exact hJ')
  · have e : tyU t = [] := by unfold tyU; rw [if_neg (by rw [h]; simp)]
    exact en (vs := []) (by rw [e, List.append_nil]; exact hJ)
theorem fldAt {f : Fld} {b o : Nat} {w : World} (h : At w b o (encFld f)) : At w b (o + 1) [I f.ty.kind, I f.ty.cls] := h.tail
theorem h_fields (hE : EachC S w0 g caps J Pok N) (l : List Fld) (hl : ∀ f ∈ l, ∀ u ∈ fldU f, Pok u) (a : Option Addr) (cap : Nat) (hS : Sl eFld S w0 a l) (pre : List Rf) (w : World) (hJ : J pre w) (hN : pre.length + (l.flatMap fldU).length ≤ N) :
    Ret Tryz.prog 122 #[.slice a l.length cap, .func (.func g) #[] caps.toArray] w fun _ w' => J (pre ++ l.flatMap fldU) w' := by
  have hbig := hS.big
  refine entr (vs := [.slice a l.length cap, .func (.func g) #[] caps.toArray]) [0, 1, 4, 6, 7, 8] tabok Tryz.func122 (by kernel_rfl) ?_
  refine lpk l.length 7 [] [(0, .slice a l.length cap), (1, .func (.func g) #[] caps.toArray), (6, I l.length)] (fun k vals w' => vals = [] ∧ J (pre ++ (l.take k).flatMap fldU) w') ⟨rfl, by simpa using hJ⟩ ?_
  rintro k vals w1 hk ⟨rfl, hJ1⟩ ih
  by_cases hlt : k < l.length
  · refine brT ?_
    obtain ⟨f, b, o, cs, hf, rfl, hSb, hAt0, rfl⟩ := at_some hS hlt
    have hm := List.mem_of_getElem? hf
    have hq := fm_take_le fldU hf
    have hq2 : (fldU f).length = (tyU f.ty).length + 1 := rfl
    have hAt := hAt0.kp (hE.kp _ _ hJ1) hSb
    refine ix ?_
    refine bd ?_
    refine cl (hE.run _ ⟨f.name, 1, false⟩ _ _ w1 (by simp only [List.length_append]; omega) (hl f hm _ (by simp [fldU])) hSb hJ1 (hAt.three.1)) ?_
    intro v w2 hJ2
    refine ix ?_
    refine cl (h_types hE f.ty (fun u hu => hl f hm u (by simp [fldU, hu])) b _ hSb (fldAt hAt0) _ w2 hJ2 (by simp only [List.length_append, List.length_cons, List.length_nil]; omega)) ?_
    intro v3 w3 hJ3
    refine ih hlt ⟨rfl, ?_⟩
    rw [flatMap_snoc hf]
    simpa [fldU] using hJ3
  · refine brF ?_
    obtain rfl : k = l.length := by omega
    exact en (vs := []) (by rw [List.take_length] at hJ1; exact hJ1)
theorem h_heads (hE : EachC S w0 g caps J Pok N) (u : Unt) (hP : ∀ r ∈ headsU u, Pok r) (a : UA) (hU : UnR S w0 u a) (b0 o0 : Nat) (hb0 : S b0) (hx : At w0 b0 o0 (ucells u a)) (pre : List Rf) (w : World) (hJ : J pre w) (hN : pre.length + (headsU u).length ≤ N) :
    Ret Tryz.prog 52 #[.pointer (some ⟨b0, o0, none⟩), .func (.func g) #[] caps.toArray] w fun _ w' => J (pre ++ headsU u) w' := by
  have n1 := hU.cls.big
  have n2 := hU.sta.big
  have n3 := hU.mth.big
  have hh : (headsU u).length = (u.classes.flatMap clsU).length + (u.statics.flatMap fldU).length + (u.methods.flatMap mthU).length := by unfold headsU; rw [List.length_append, List.length_append]
  have X : ∀ {pre w}, J pre w → At w b0 o0 (ucells u a) := fun h => hx.kp (hE.kp _ _ h) hb0
  refine entr (vs := [.pointer (some ⟨b0, o0, none⟩), .func (.func g) #[] caps.toArray]) [0, 1, 4, 5, 6, 7, 9, 10, 15, 16, 17, 54, 55, 56, 84, 85, 86, 89, 90, 91] tabok Tryz.func52 (by kernel_rfl) ?_
  refine ld (X hJ 2 _ rfl) ?_
  refine lpk u.classes.length 16 [] [(0, .pointer (some ⟨b0, o0, none⟩)), (1, .func (.func g) #[] caps.toArray), (15, I u.classes.length)] (fun k vals w' => vals = [] ∧ J (pre ++ (u.classes.take k).flatMap clsU) w') ⟨rfl, by simpa using hJ⟩ ?_
  rintro k vals w1 hk ⟨rfl, hJ1⟩ ih
  by_cases hlt : k < u.classes.length
  · refine brT ?_
    refine ld (X hJ1 2 _ rfl) ?_
    obtain ⟨c, b, o, cs, hc, e2, hSb, hAt0, af, cf, rfl, hF⟩ := at_some hU.cls hlt
    rw [e2]
    have hm := List.mem_of_getElem? hc
    have hAt := hAt0.kp (hE.kp _ _ hJ1) hSb
    have hq := fm_take_le clsU hc
    have hq2 : (clsU c).length = (c.fields.flatMap fldU).length + 2 := rfl
    have hPc : ∀ r ∈ clsU c, Pok r := fun r hr => hP r (by simp only [headsU, List.mem_append, List.mem_flatMap]; exact .inl (.inl ⟨c, hm, hr⟩))
    refine ix ?_
    refine bd ?_
    refine cl (hE.run _ ⟨c.name, 1, false⟩ _ _ w1 (by simp only [List.length_append]; omega) (hPc _ (by simp [clsU])) hSb hJ1 (hAt 0 _ rfl)) ?_
    intro v2 w2 hJ2
    have hAt2 := hAt0.kp (hE.kp _ _ hJ2) hSb
    refine bd ?_
    refine cl (hE.run _ ⟨c.super, 2, true⟩ _ _ w2 (by simp only [List.length_append, List.length_cons, List.length_nil]; omega) (hPc _ (by simp [clsU])) hSb hJ2 (hAt2 1 _ rfl)) ?_
    intro v3 w3 hJ3
    have hAt3 := hAt0.kp (hE.kp _ _ hJ3) hSb
    refine ld (hAt3 2 _ rfl) ?_
    refine cl (h_fields hE c.fields (fun f hf r hr => hPc r (by simp only [clsU, List.mem_cons, List.mem_flatMap]; exact .inr (.inr ⟨f, hf, hr⟩))) af cf hF _ w3 hJ3 (by simp only [List.length_append, List.length_cons, List.length_nil]; omega)) ?_
    intro v4 w4 hJ4
    refine ih hlt ⟨rfl, ?_⟩
    rw [flatMap_snoc hc]
    simpa [clsU] using hJ4
  refine brF ?_
  obtain rfl : k = u.classes.length := by omega
  rw [List.take_length] at hJ1
  refine ld (X hJ1 3 _ rfl) ?_
  refine cl (h_fields hE u.statics (fun f hf r hr => hP r (by simp only [headsU, List.mem_append, List.mem_flatMap]; exact .inl (.inr ⟨f, hf, hr⟩))) a.a3 a.c3 hU.sta _ w1 hJ1 (by simp only [List.length_append]; omega)) ?_
  intro v5 w5 hJ5
  refine ld (X hJ5 4 _ rfl) ?_
  refine lpk u.methods.length 55 [] [(0, .pointer (some ⟨b0, o0, none⟩)), (1, .func (.func g) #[] caps.toArray), (54, I u.methods.length)] (fun k vals w' => vals = [] ∧ J (pre ++ u.classes.flatMap clsU ++ u.statics.flatMap fldU ++ (u.methods.take k).flatMap mthU) w') ⟨rfl, by simpa using hJ5⟩ ?_
  rintro k vals w6 hk ⟨rfl, hJ6⟩ ih
  by_cases hlt : k < u.methods.length
  · refine brT ?_
    refine ld (X hJ6 4 _ rfl) ?_
    obtain ⟨m, b, o, cs, hm', e2, hSb, hAt0, a1, c1, a2, c2, a3, c3, rfl, hF1, hF2, hF3⟩ := at_some hU.mth hlt
    rw [e2]
    have hm := List.mem_of_getElem? hm'
    have hAt := hAt0.kp (hE.kp _ _ hJ6) hSb
    have hq := fm_take_le mthU hm'
    have hq2 : (mthU m).length = ([m.params, m.locals].flatMap (·.flatMap tyU)).length + (tyU m.result).length + 2 := by simp only [mthU, List.length_cons, List.length_append]
    have hPm : ∀ r ∈ mthU m, Pok r := fun r hr => hP r (by simp only [headsU, List.mem_append, List.mem_flatMap]; exact .inr ⟨m, hm, hr⟩)
    refine ix ?_
    refine bd ?_
    refine cl (hE.run _ ⟨m.name, 1, false⟩ _ _ w6 (by simp only [List.length_append]; omega) (hPm _ (by simp [mthU])) hSb hJ6 (hAt 0 _ rfl)) ?_
    intro v7 w7 hJ7
    have hAt7 := hAt0.kp (hE.kp _ _ hJ7) hSb
    refine bd ?_
    refine cl (hE.run _ ⟨m.cls, 2, true⟩ _ _ w7 (by simp only [List.length_append, List.length_cons, List.length_nil]; omega) (hPm _ (by simp [mthU])) hSb hJ7 (hAt7 1 _ rfl)) ?_
    intro v8 w8 hJ8
    have hAt8 := hAt0.kp (hE.kp _ _ hJ8) hSb
    refine ds fun w9 h9 => ?_
    have hJ9 := hE.bl _ _ _ h9.bl hJ8
    have hAt9 := hAt0.kp (hE.kp _ _ hJ9) hSb
    refine ld (hAt9 2 _ rfl) ?_
    refine ld (hAt9 3 _ rfl) ?_
    refine bda ?_
    have hL : ∀ j, j < 2 → ∃ aL cL L, [Value.slice a1 m.params.length c1, .slice a2 m.locals.length c2][j * 1]? = some (.slice aL L.length cL) ∧ Sl eTy S w0 aL L ∧ [m.params, m.locals][j]? = some L := fun j hj => by
      rcases j with _ | _ | j
      · exact ⟨a1, c1, m.params, rfl, hF1, rfl⟩
      · exact ⟨a2, c2, m.locals, rfl, hF2, rfl⟩
      · omega
    refine lpk 2 85 [] [(0, .pointer (some ⟨b0, o0, none⟩)), (1, .func (.func g) #[] caps.toArray), (54, I u.methods.length), (55, I k), (7, .pointer (some ⟨b, o + k * 7, none⟩)), (84, .agg #[.slice a1 m.params.length c1, .slice a2 m.locals.length c2])]
      (fun j vals w' => vals = [] ∧ J (pre ++ u.classes.flatMap clsU ++ u.statics.flatMap fldU ++ (u.methods.take k).flatMap mthU ++ [⟨m.name, 1, false⟩] ++ [⟨m.cls, 2, true⟩] ++ ([m.params, m.locals].take j).flatMap (·.flatMap tyU)) w') ⟨rfl, by simpa using hJ9⟩ ?_
    rintro j vals w10 hj ⟨rfl, hJ10⟩ ih2
    by_cases hlt2 : j < 2
    · refine brT ?_
      obtain ⟨aL, cL, L, hv, hSL, hLj⟩ := hL j hlt2
      have hbL := hSL.big
      have hqL := fm_take_le (fun x : List Ty => x.flatMap tyU) hLj
      refine ixv (cs := [Value.slice a1 m.params.length c1, .slice a2 m.locals.length c2]) hv ?_
      refine lpk L.length 90 [] [(0, .pointer (some ⟨b0, o0, none⟩)), (1, .func (.func g) #[] caps.toArray), (54, I u.methods.length), (55, I k), (7, .pointer (some ⟨b, o + k * 7, none⟩)), (84, .agg #[.slice a1 m.params.length c1, .slice a2 m.locals.length c2]), (85, I j), (9, .slice aL L.length cL), (89, I L.length)]
        (fun i vals w' => vals = [] ∧ J (pre ++ u.classes.flatMap clsU ++ u.statics.flatMap fldU ++ (u.methods.take k).flatMap mthU ++ [⟨m.name, 1, false⟩] ++ [⟨m.cls, 2, true⟩] ++ ([m.params, m.locals].take j).flatMap (·.flatMap tyU) ++ (L.take i).flatMap tyU) w') ⟨rfl, by simpa using hJ10⟩ ?_
      rintro i vals w11 hi ⟨rfl, hJ11⟩ ih3
      by_cases hlt3 : i < L.length
      · refine brT ?_
        obtain ⟨t, bt, ot, cst, ht, rfl, hSt, hAt, rfl⟩ := at_some hSL hlt3
        have hqt := fm_take_le tyU ht
        refine ix ?_
        refine cl (h_types hE t (fun r hr => hPm r ?_) bt _ hSt hAt _ w11 hJ11 (by simp only [List.length_append, List.length_cons, List.length_nil]; omega)) ?_
        · exact List.mem_cons_of_mem _ (List.mem_cons_of_mem _ (List.mem_append_left _ (List.mem_flatMap.2 ⟨L, List.mem_of_getElem? hLj, List.mem_flatMap.2 ⟨t, List.mem_of_getElem? ht, hr⟩⟩)))
        intro v12 w12 hJ12
        refine ih3 hlt3 ⟨rfl, ?_⟩
        rw [flatMap_snoc ht]
        simpa using hJ12
      · refine brF ?_
        obtain rfl : i = L.length := by omega
        rw [List.take_length] at hJ11
        refine ih2 hlt2 ⟨rfl, ?_⟩
        rw [flatMap_snoc hLj]
        simpa using hJ11
    refine brF ?_
    obtain rfl : j = 2 := by omega
    refine cl (h_types hE m.result (fun r hr => hPm r (by simp [mthU, hr])) b (o + k * 7 + 4) hSb (by
      intro j v hj
      rcases j with _ | _ | j
      · exact hAt0 4 v hj
      · exact hAt0 5 v hj
      · simp at hj) _ w10 hJ10 (by rw [show [m.params, m.locals].take 2 = [m.params, m.locals] from rfl]; simp only [List.length_append, List.length_cons, List.length_nil]; omega)) ?_
    intro v13 w13 hJ13
    refine ih hlt ⟨rfl, ?_⟩
    rw [flatMap_snoc hm']
    simpa [mthU] using hJ13
  · refine brF ?_
    obtain rfl : k = u.methods.length := by omega
    rw [List.take_length] at hJ6
    exact en (vs := []) (by unfold headsU; simpa using hJ6)
theorem h_operands (hE : EachC S w0 g caps J Pok N) (l : List Ins) (hl : ∀ i ∈ l, ∀ r ∈ opU i, Pok r) (a : Option Addr) (cap : Nat) (hS : Sl eIns S w0 a l) (pre : List Rf) (w : World) (hJ : J pre w) (hN : pre.length + (l.flatMap opU).length ≤ N) :
    Ret Tryz.prog 56 #[.slice a l.length cap, .func (.func g) #[] caps.toArray] w fun _ w' => J (pre ++ l.flatMap opU) w' := by
  have hbig := hS.big
  refine entr (vs := [.slice a l.length cap, .func (.func g) #[] caps.toArray]) [0, 1, 4, 5, 7, 8, 9, 17, 18, 27, 39, 47, 53, 60] tabok Tryz.func56 (by kernel_rfl) ?_
  refine lpk l.length 8 [] [(0, .slice a l.length cap), (1, .func (.func g) #[] caps.toArray), (7, I l.length)] (fun k vals w' => vals = [] ∧ J (pre ++ (l.take k).flatMap opU) w') ⟨rfl, by simpa using hJ⟩ ?_
  rintro k vals w1 hk ⟨rfl, hJ1⟩ ih
  by_cases hlt : k < l.length
  · refine brT ?_
    obtain ⟨x, b, o, cs, hx, rfl, hSb, hAt0, rfl⟩ := at_some hS hlt
    have hm := List.mem_of_getElem? hx
    have hAt := hAt0.kp (hE.kp _ _ hJ1) hSb
    have hq := fm_take_le opU hx
    have hlen : ∀ {r : Rf}, opU x = [r] → (pre ++ (l.take k).flatMap opU).length < N := fun e => by
      rw [e, List.length_singleton] at hq
      rw [List.length_append]; omega
    have next : ∀ {w2}, J (pre ++ (l.take k).flatMap opU ++ opU x) w2 → J (pre ++ (l.take (k + 1)).flatMap opU) w2 := fun h => by rw [flatMap_snoc hx, ← List.append_assoc]; exact h
    refine ix ?_
    refine ld (hAt.three.1) ?_
    obtain ⟨op, A, B⟩ := x
    by_cases e17 : op = 17
    · subst e17
      refine brT ?_ (hp := rfl)
      refine brT ?_ (hp := rfl)
      refine bd ?_
      refine cl (hE.run _ ⟨A, 3, false⟩ _ _ w1 (hlen (r := ⟨A, 3, false⟩) (by simp [opU])) (hl _ hm _ (by simp [opU])) hSb hJ1 (hAt 1 _ rfl)) ?_
      intro v2 w2 hJ2
      exact ih hlt ⟨rfl, next (by simpa [opU] using hJ2)⟩
    by_cases e18 : op = 18
    · subst e18
      refine brF ?_ (hp := by show ¬ ((18 : Int) = 17); decide)
      refine brT ?_ (hp := rfl)
      refine bd ?_
      refine cl (hE.run _ ⟨A, 3, false⟩ _ _ w1 (hlen (r := ⟨A, 3, false⟩) (by simp [opU])) (hl _ hm _ (by simp [opU])) hSb hJ1 (hAt 1 _ rfl)) ?_
      intro v2 w2 hJ2
      exact ih hlt ⟨rfl, next (by simpa [opU] using hJ2)⟩
    by_cases e14 : op = 14
    · subst e14
      refine brF ?_ (hp := by show ¬ ((14 : Int) = 17); decide)
      refine brF ?_ (hp := by show ¬ ((14 : Int) = 18); decide)
      refine brT ?_ (hp := rfl)
      refine brT ?_ (hp := rfl)
      refine bd ?_
      refine cl (hE.run _ ⟨A, 2, false⟩ _ _ w1 (hlen (r := ⟨A, 2, false⟩) (by simp [opU])) (hl _ hm _ (by simp [opU])) hSb hJ1 (hAt 1 _ rfl)) ?_
      intro v2 w2 hJ2
      exact ih hlt ⟨rfl, next (by simpa [opU] using hJ2)⟩
    by_cases e24 : op = 24
    · subst e24
      refine brF ?_ (hp := by show ¬ ((24 : Int) = 17); decide)
      refine brF ?_ (hp := by show ¬ ((24 : Int) = 18); decide)
      refine brF ?_ (hp := by show ¬ ((24 : Int) = 14); decide)
      refine brT ?_ (hp := rfl)
      refine brT ?_ (hp := rfl)
      refine bd ?_
      refine cl (hE.run _ ⟨A, 2, false⟩ _ _ w1 (hlen (r := ⟨A, 2, false⟩) (by simp [opU])) (hl _ hm _ (by simp [opU])) hSb hJ1 (hAt 1 _ rfl)) ?_
      intro v2 w2 hJ2
      exact ih hlt ⟨rfl, next (by simpa [opU] using hJ2)⟩
    by_cases e22 : op = 22
    · subst e22
      refine brF ?_ (hp := by show ¬ ((22 : Int) = 17); decide)
      refine brF ?_ (hp := by show ¬ ((22 : Int) = 18); decide)
      refine brF ?_ (hp := by show ¬ ((22 : Int) = 14); decide)
      refine brF ?_ (hp := by show ¬ ((22 : Int) = 24); decide)
      refine brT ?_ (hp := rfl)
      refine brT ?_ (hp := rfl)
      refine bd ?_
      refine cl (hE.run _ ⟨A, 2, false⟩ _ _ w1 (hlen (r := ⟨A, 2, false⟩) (by simp [opU])) (hl _ hm _ (by simp [opU])) hSb hJ1 (hAt 1 _ rfl)) ?_
      intro v2 w2 hJ2
      exact ih hlt ⟨rfl, next (by simpa [opU] using hJ2)⟩
    by_cases e23 : op = 23
    · subst e23
      refine brF ?_ (hp := by show ¬ ((23 : Int) = 17); decide)
      refine brF ?_ (hp := by show ¬ ((23 : Int) = 18); decide)
      refine brF ?_ (hp := by show ¬ ((23 : Int) = 14); decide)
      refine brF ?_ (hp := by show ¬ ((23 : Int) = 24); decide)
      refine brF ?_ (hp := by show ¬ ((23 : Int) = 22); decide)
      refine brT ?_ (hp := rfl)
      refine brT ?_ (hp := rfl)
      refine bd ?_
      refine cl (hE.run _ ⟨A, 2, false⟩ _ _ w1 (hlen (r := ⟨A, 2, false⟩) (by simp [opU])) (hl _ hm _ (by simp [opU])) hSb hJ1 (hAt 1 _ rfl)) ?_
      intro v2 w2 hJ2
      exact ih hlt ⟨rfl, next (by simpa [opU] using hJ2)⟩
    by_cases e25 : op = 25
    · subst e25
      refine brF ?_ (hp := by show ¬ ((25 : Int) = 17); decide)
      refine brF ?_ (hp := by show ¬ ((25 : Int) = 18); decide)
      refine brF ?_ (hp := by show ¬ ((25 : Int) = 14); decide)
      refine brF ?_ (hp := by show ¬ ((25 : Int) = 24); decide)
      refine brF ?_ (hp := by show ¬ ((25 : Int) = 22); decide)
      refine brF ?_ (hp := by show ¬ ((25 : Int) = 23); decide)
      refine brT ?_ (hp := rfl)
      refine bd ?_
      refine cl (hE.run _ ⟨A, 2, false⟩ _ _ w1 (hlen (r := ⟨A, 2, false⟩) (by simp [opU])) (hl _ hm _ (by simp [opU])) hSb hJ1 (hAt 1 _ rfl)) ?_
      intro v2 w2 hJ2
      exact ih hlt ⟨rfl, next (by simpa [opU] using hJ2)⟩
    by_cases e16 : op = 16
    · subst e16
      refine brF ?_ (hp := by show ¬ ((16 : Int) = 17); decide)
      refine brF ?_ (hp := by show ¬ ((16 : Int) = 18); decide)
      refine brF ?_ (hp := by show ¬ ((16 : Int) = 14); decide)
      refine brF ?_ (hp := by show ¬ ((16 : Int) = 24); decide)
      refine brF ?_ (hp := by show ¬ ((16 : Int) = 22); decide)
      refine brF ?_ (hp := by show ¬ ((16 : Int) = 23); decide)
      refine brF ?_ (hp := by show ¬ ((16 : Int) = 25); decide)
      refine brT ?_ (hp := rfl)
      refine bd ?_
      refine cl (hE.run _ ⟨B, 2, false⟩ _ _ w1 (hlen (r := ⟨B, 2, false⟩) (by simp [opU])) (hl _ hm _ (by simp [opU])) hSb hJ1 (hAt 2 _ rfl)) ?_
      intro v2 w2 hJ2
      exact ih hlt ⟨rfl, next (by simpa [opU] using hJ2)⟩
    by_cases e26 : op = 26
    · subst e26
      refine brF ?_ (hp := by show ¬ ((26 : Int) = 17); decide)
      refine brF ?_ (hp := by show ¬ ((26 : Int) = 18); decide)
      refine brF ?_ (hp := by show ¬ ((26 : Int) = 14); decide)
      refine brF ?_ (hp := by show ¬ ((26 : Int) = 24); decide)
      refine brF ?_ (hp := by show ¬ ((26 : Int) = 22); decide)
      refine brF ?_ (hp := by show ¬ ((26 : Int) = 23); decide)
      refine brF ?_ (hp := by show ¬ ((26 : Int) = 25); decide)
      refine brF ?_ (hp := by show ¬ ((26 : Int) = 16); decide)
      refine brF ?_ (hp := by show ¬ ((26 : Int) = 12); decide)
      refine brT ?_ (hp := rfl)
      refine bd ?_
      refine cl (hE.run _ ⟨A, 1, false⟩ _ _ w1 (hlen (r := ⟨A, 1, false⟩) (by simp [opU])) (hl _ hm _ (by simp [opU])) hSb hJ1 (hAt 1 _ rfl)) ?_
      intro v2 w2 hJ2
      exact ih hlt ⟨rfl, next (by simpa [opU] using hJ2)⟩
    by_cases e12 : op = 12
    · subst e12
      refine brF ?_ (hp := by show ¬ ((12 : Int) = 17); decide)
      refine brF ?_ (hp := by show ¬ ((12 : Int) = 18); decide)
      refine brF ?_ (hp := by show ¬ ((12 : Int) = 14); decide)
      refine brF ?_ (hp := by show ¬ ((12 : Int) = 24); decide)
      refine brF ?_ (hp := by show ¬ ((12 : Int) = 22); decide)
      refine brF ?_ (hp := by show ¬ ((12 : Int) = 23); decide)
      refine brF ?_ (hp := by show ¬ ((12 : Int) = 25); decide)
      refine brF ?_ (hp := by show ¬ ((12 : Int) = 16); decide)
      refine brT ?_ (hp := rfl)
      refine ld (hAt 1 _ rfl) ?_
      by_cases h3 : A = 3
      · refine brF ?_ (hp := by exact fun h => h h3)
        exact ih hlt ⟨rfl, next (by simpa [opU, h3] using hJ1)⟩
      · refine brT ?_ (hp := by exact h3)
        refine bd ?_
        refine cl (hE.run _ ⟨B, 2, false⟩ _ _ w1 (hlen (r := ⟨B, 2, false⟩) (by simp [opU, h3])) (hl _ hm _ (by simp [opU, h3])) hSb hJ1 (hAt 2 _ rfl)) ?_
        intro v2 w2 hJ2
        exact ih hlt ⟨rfl, next (by simpa [opU, h3] using hJ2)⟩
    refine brF ?_ (hp := e17)
    refine brF ?_ (hp := e18)
    refine brF ?_ (hp := e14)
    refine brF ?_ (hp := e24)
    refine brF ?_ (hp := e22)
    refine brF ?_ (hp := e23)
    refine brF ?_ (hp := e25)
    refine brF ?_ (hp := e16)
    refine brF ?_ (hp := e12)
    refine brF ?_ (hp := e26)
    exact ih hlt ⟨rfl, next (by simpa [opU, e17, e18, e14, e24, e22, e23, e25, e16, e12, e26] using hJ1)⟩
  · refine brF ?_
    obtain rfl : k = l.length := by omega
    exact en (vs := []) (by rw [List.take_length] at hJ1; exact hJ1)
/-- all the ways through a unit -/
def waysU (u : Unt) : List Rf := headsU u ++ u.methods.flatMap fun m => m.code.flatMap opU
theorem h_uses (hE : EachC S w0 g caps J Pok N) (u : Unt) (hP : ∀ r ∈ waysU u, Pok r) (a : UA) (hU : UnR S w0 u a) (b0 o0 : Nat) (hb0 : S b0) (hx : At w0 b0 o0 (ucells u a)) (pre : List Rf) (w : World) (hJ : J pre w) (hN : pre.length + (waysU u).length ≤ N) :
    Ret Tryz.prog 85 #[.pointer (some ⟨b0, o0, none⟩), .func (.func g) #[] caps.toArray] w fun _ w' => J (pre ++ waysU u) w' := by
  have n3 := hU.mth.big
  have hh : (waysU u).length = (headsU u).length + (u.methods.flatMap fun m => m.code.flatMap opU).length := by unfold waysU; rw [List.length_append]
  have X : ∀ {pre w}, J pre w → At w b0 o0 (ucells u a) := fun h => hx.kp (hE.kp _ _ h) hb0
  refine entr (vs := [.pointer (some ⟨b0, o0, none⟩), .func (.func g) #[] caps.toArray]) [0, 1, 4, 12, 13, 14] tabok Tryz.func85 (by kernel_rfl) ?_
  refine cl (h_heads hE u (fun r hr => hP r (List.mem_append_left _ hr)) a hU b0 o0 hb0 hx pre w hJ (by omega)) ?_
  intro v1 w1 hJ1
  refine ld (X hJ1 4 _ rfl) ?_
  refine lpk u.methods.length 13 [] [(0, .pointer (some ⟨b0, o0, none⟩)), (1, .func (.func g) #[] caps.toArray), (12, I u.methods.length)] (fun k vals w' => vals = [] ∧ J (pre ++ headsU u ++ (u.methods.take k).flatMap fun m => m.code.flatMap opU) w') ⟨rfl, by simpa using hJ1⟩ ?_
  rintro k vals w2 hk ⟨rfl, hJ2⟩ ih
  by_cases hlt : k < u.methods.length
  · refine brT ?_
    refine ld (X hJ2 4 _ rfl) ?_
    obtain ⟨m, b, o, cs, hm', e2, hSb, hAt0, a1, c1, a2, c2, a3, c3, rfl, hF1, hF2, hF3⟩ := at_some hU.mth hlt
    rw [e2]
    have hm := List.mem_of_getElem? hm'
    have hq := fm_take_le (fun m : Mth => m.code.flatMap opU) hm'
    have hAt := hAt0.kp (hE.kp _ _ hJ2) hSb
    refine ix ?_
    refine ld (hAt 6 _ rfl) ?_
    refine cl (h_operands hE m.code (fun i hi r hr => hP r (List.mem_append_right _ (List.mem_flatMap.2 ⟨m, hm, List.mem_flatMap.2 ⟨i, hi, hr⟩⟩))) a3 c3 hF3 _ w2 hJ2 (by rw [List.length_append, List.length_append]; omega)) ?_
    intro v3 w3 hJ3
    refine ih hlt ⟨rfl, ?_⟩
    rw [flatMap_snoc hm']
    simpa using hJ3
  · refine brF ?_
    obtain rfl : k = u.methods.length := by omega
    exact en (vs := []) (by rw [List.take_length] at hJ2; unfold waysU; simpa using hJ2)
end
end Go.Proofs.YtopjmiklpnejmaaGreatDoor

/- Walks: the program's word on kinds; slices.Concat and slices.Grow at types. -/
namespace Go.Proofs.YtopjmiklpnejmaaGreatDoor
open Eng Go.RowKit
theorem c_Grow (n : Nat) (hn : n ≤ 8388608) (w : World) : Ret Tryz.prog 173 #[.slice none 0 0, I n] w fun v w' => ∃ a cap, v = .slice a 0 cap ∧ Ow w' w.heap.size 61 2 a 0 cap [] ∧ Bl w w' := by
  refine entr (vs := [.slice none 0 0, I n]) [0, 1, 4, 6, 16] tabok Tryz.func173 (by kernel_rfl) ?_
  refine brF ?_
  refine cp ?_
  by_cases h0 : n = 0
  · subst h0
    refine brF ?_ (hp := by decide)
    exact rt1 ⟨none, 0, rfl, Ow.nil _ _ _ _, Bl.refl _⟩
  have hw : IntKind.i64.wrap ((n : Int) - IntKind.i64.wrap (((0 : Nat) : Int) - ((0 : Nat) : Int))) = n := by
    rw [show IntKind.i64.wrap (((0 : Nat) : Int) - ((0 : Nat) : Int)) = 0 from rfl, wrap_fit (by omega) (by omega)]; omega
  refine brT ?_ (hp := by rw [hw]; omega)
  refine cp ?_
  refine sl 0 0 ?_
  refine apz (n := n) (kd := .i64) (by omega) hn (fun cap w' hO hc hB => ?_) (hy := by exact congrArg (fun z => some (Value.int .i64 z)) hw)
  refine sl 0 0 ?_
  refine rt1 ⟨some ⟨w.heap.size, 0, none⟩, cap, ?_, hO, hB⟩
  rw [if_neg (by omega)]; rfl
theorem c_Concat (l1 l2 : List Ty) (a1 a2 : Option Addr) (c1 c2 : Nat) (b : Nat) (w : World) (h1 : Sl eTy T w a1 l1) (h2 : Sl eTy T w a2 l2) (hb : At w b 0 [.slice a1 l1.length c1, .slice a2 l2.length c2]) (hs : l1.length + l2.length ≤ 4194304) :
    Ret Tryz.prog 126 #[.slice (some ⟨b, 0, none⟩) 2 2] w fun v w' => ∃ a cap, v = .slice a (l1 ++ l2).length cap ∧ Sl eTy (fun i => w.heap.size ≤ i ∧ i < w'.heap.size) w' a (l1 ++ l2) ∧ Bl w w' := by
  have g1 := h1.big
  have g2 := h2.big
  have hL : ∀ j, j < 2 → ∃ aL cL L, [Value.slice a1 l1.length c1, .slice a2 l2.length c2][j]? = some (.slice aL L.length cL) ∧ Sl eTy T w aL L ∧ [l1, l2][j]? = some L := fun j hj => by
    rcases j with _ | _ | j
    · exact ⟨a1, c1, l1, rfl, h1, rfl⟩
    · exact ⟨a2, c2, l2, rfl, h2, rfl⟩
    · omega
  refine entr (vs := [.slice (some ⟨b, 0, none⟩) 2 2]) [0, 2, 3, 5, 6, 8, 9, 10, 11, 12, 20, 25, 26, 27, 28] tabok Tryz.func126 (by kernel_rfl) ?_
  refine lpk 2 11 [3] [(0, .slice (some ⟨b, 0, none⟩) 2 2), (9, .slice (some ⟨b, 0, none⟩) 2 2), (10, I 2)] (fun j vals w' => vals = [I ((([l1, l2].take j).flatMap id).length : Nat)] ∧ w = w') ⟨rfl, rfl⟩ ?_
  rintro j vals _ hj ⟨rfl, rfl⟩ ih
  by_cases hlt : j < 2
  · refine brT ?_
    obtain ⟨aL, cL, L, hv, hSL, hLj⟩ := hL j hlt
    have hbL := hSL.big
    refine ix ?_
    refine ld (o := 0 + j * 1) (v := .slice aL L.length cL) (by have := hb j _ hv; simpa using this) ?_
    have hlj : (([l1, l2].take j).flatMap id).length + L.length = (([l1, l2].take (j + 1)).flatMap id).length := by rw [flatMap_snoc hLj]; simp
    have hle : (([l1, l2].take (j + 1)).flatMap id).length ≤ l1.length + l2.length := by
      rcases j with _ | _ | j
      · simp
      · simp
      · omega
    have hw : IntKind.i64.wrap (((([l1, l2].take j).flatMap id).length : Nat) + (L.length : Int)) = ((([l1, l2].take (j + 1)).flatMap id).length : Nat) := by rw [wrap_fit (by omega) (by omega)]; omega
    refine brF ?_ (hp := by rw [hw]; omega)
    exact ih hlt ⟨lst1 (vi hw), rfl⟩
  refine brF ?_
  obtain rfl : j = 2 := by omega
  have e2 : (([l1, l2].take 2).flatMap id) = l1 ++ l2 := by simp
  refine cl (c_Grow (([l1, l2].take 2).flatMap id).length (by rw [e2, List.length_append]; omega) w) ?_
  rintro _ w1 ⟨a, cap, rfl, hO, hB1⟩
  refine lpk 2 27 [6] [(25, .slice (some ⟨b, 0, none⟩) 2 2), (26, I 2)] (fun j vals w' => ∃ a cap, vals = [.slice a (([l1, l2].take j).flatMap id).length cap] ∧ OwP 2 encTy w' w.heap.size 61 a cap (([l1, l2].take j).flatMap id) ∧ Bl w w') ⟨a, cap, rfl, hO, hB1⟩ ?_
  rintro j vals w2 hj ⟨a, cap, rfl, hO2, hB2⟩ ih
  by_cases hlt : j < 2
  · refine brT ?_
    obtain ⟨aL, cL, L, hv, hSL, hLj⟩ := hL j hlt
    have hbL := hSL.big
    refine ix ?_
    refine ld (o := 0 + j * 1) (v := .slice aL L.length cL) (by have := (hb.bl hB2) j _ hv; simpa using this) ?_
    have hle : (([l1, l2].take j).flatMap id).length ≤ l1.length + l2.length := by
      rcases j with _ | _ | j
      · simp
      · simp
      · omega
    refine apl hO2 (src_of (hSL.bl hB2)) hB2.size (fun a' cap' w3 hO3 hA _ => ?_)
    refine ih hlt ⟨a', cap', ?_, ?_, Eng.Ow.below hO2 hA hB2 hB2.size⟩
    · rw [flatMap_snoc hLj]; rfl
    · rw [flatMap_snoc hLj]; exact hO3
  refine brF ?_
  obtain rfl : j = 2 := by omega
  rw [e2] at hO2 ⊢
  exact rt1 ⟨a, cap, rfl, owp_sl hO2 (by rw [List.length_append]; omega) (fun _ hg => hO2.lt hg), hB2⟩
end Go.Proofs.YtopjmiklpnejmaaGreatDoor

/- Walks: the program's word on kinds. -/
namespace Go.Proofs.YtopjmiklpnejmaaGreatDoor
open Eng Go.RowKit
theorem Eng.Ap.trans {a b c : World} {x : Option Addr} (h : Ap a x b) (k : Ap b x c) : Ap a x c :=
  ⟨k.os.trans h.os, k.tape.trans h.tape, k.output.trans h.output, Nat.le_trans h.size k.size, fun i hi hx => (k.block i (Nat.lt_of_lt_of_le hi h.size) hx).trans (h.block i hi hx)⟩
theorem Eng.Ap.bl {w w' : World} (h : Bl w w') (x : Option Addr) : Ap w x w' := ⟨h.os, h.tape, h.output, h.size, fun i hi _ => h.block i hi⟩
theorem Eng.Ap.wr {w w' : World} {g : Nat} (h : Wr w g w') : Ap w (some ⟨g, 0, none⟩) w' := ⟨h.os, h.tape, h.output, by rw [h.size]; exact Nat.le_refl _, fun i _ hx => h.block i fun e => hx (by rw [e])⟩
theorem ap_ne {g b : Nat} (h : b ≠ g) : some (⟨g, 0, none⟩ : Addr) ≠ some ⟨b, 0, none⟩ := fun e => by cases e; exact h rfl
/-- a type is of a kind that may stand there, with a class just where one belongs -/
def sOk (t : Ty) (least : Int) : Bool := decide (least ≤ t.kind) && decide (t.kind ≤ 4) && (tcls t || decide (t.cls = -1))
theorem k_see (t : Ty) (least : Int) (g : Nat) (b : Bool) (w : World) (hg : Box w g 4 [.bool b]) :
    Ret Tryz.prog 124 #[.agg #[I t.kind, I t.cls], I least, .pointer (some ⟨g, 0, none⟩)] w fun _ w' => Box w' g 4 [.bool (b && sOk t least)] ∧ Ap w (some ⟨g, 0, none⟩) w' := by
  refine entr (vs := [.agg #[I t.kind, I t.cls], I least, .pointer (some ⟨g, 0, none⟩)]) [0, 1, 2, 3, 5] tabok Tryz.func124 (by kernel_rfl) ?_
  refine bx (cs := [I t.kind, I t.cls]) fun b1 w1 h1 => ?_
  refine ld (h1.box.cell rfl) ?_
  refine ldg (fun _ => h1.box.cell rfl) ?_
  have hg1 := Bl.box h1.bl hg
  refine ld (hg1.cell rfl) ?_
  refine ldg (fun _ => h1.box.cell rfl) ?_
  refine ldg (fun _ => h1.box.cell rfl) ?_
  refine ldg2 (fun _ _ => h1.box.cell rfl) ?_
  refine st hg1 (fun w2 h2 hg2 => ?_)
  refine en (vs := []) ⟨?_, (Eng.Ap.bl h1.bl _).trans (Eng.Ap.wr h2)⟩
  have e : (b && sOk t least) = (((b && decide (least ≤ t.kind)) && decide (t.kind ≤ 4)) && (tcls t || decide (t.cls = -1))) := by unfold sOk; cases b <;> simp [Bool.and_assoc]
  rw [e]; exact hg2
abbrev seeF (g : Nat) : Value := .func (.func 124) #[] #[.pointer (some ⟨g, 0, none⟩)]
def fOk (l : List Fld) : Bool := l.all fun f => sOk f.ty 1
theorem all_take_succ {α : Type} {p : α → Bool} {l : List α} {k : Nat} {x : α} (hx : l[k]? = some x) : (l.take (k + 1)).all p = ((l.take k).all p && p x) := by rw [take_succ_some hx, List.all_append]; simp
theorem k_all (l : List Fld) (a : Option Addr) (cap g g2 : Nat) (b : Bool) (S : Nat → Prop) (hgS : ¬ S g) (hne : g2 ≠ g) (w : World) (hS : Sl eFld S w a l) (hg : Box w g 4 [.bool b]) (hg2 : Box w g2 144 [seeF g]) :
    Ret Tryz.prog 125 #[.slice a l.length cap, .pointer (some ⟨g2, 0, none⟩)] w fun _ w' => Box w' g 4 [.bool (b && fOk l)] ∧ Ap w (some ⟨g, 0, none⟩) w' := by
  have hbig := hS.big
  have kS : ∀ {w'}, Ap w (some ⟨g, 0, none⟩) w' → Kp S w w' := fun h => Kp.sub h.kp fun i hi e => by cases e; exact hgS hi
  refine entr (vs := [.slice a l.length cap, .pointer (some ⟨g2, 0, none⟩)]) [0, 1, 4, 5, 6, 7, 8] tabok Tryz.func125 (by kernel_rfl) ?_
  refine lpk l.length 7 [] [(0, .slice a l.length cap), (1, .pointer (some ⟨g2, 0, none⟩)), (5, .slice a l.length cap), (6, I l.length)] (fun k vals w' => vals = [] ∧ Box w' g 4 [.bool (b && fOk (l.take k))] ∧ Ap w (some ⟨g, 0, none⟩) w') ⟨rfl, by simpa [fOk] using hg, Eng.Ap.bl (Bl.refl _) _⟩ ?_
  rintro k vals w1 hk ⟨rfl, hg1, hA1⟩ ih
  by_cases hlt : k < l.length
  · refine brT ?_
    obtain ⟨f, b4, o4, cs, hf, rfl, _, hAt, rfl⟩ := at_some (hS.kp (kS hA1)) hlt
    refine ix ?_
    refine lda hAt ?_
    refine al fun b5 w2 h2 => ?_
    refine sta h2.box (fun w3 h3 y3 => ?_)
    have hB3 : Bl w1 w3 := Eng.New.wr h2 h3
    have hg3 := Bl.box hB3 hg1
    refine ld ((Bl.box hB3 (hA1.box hg2 (ap_ne hne))).cell rfl) ?_
    refine lda (fldAt y3.at) ?_
    refine cl (k_see f.ty 1 g _ w3 hg3) ?_
    rintro v w4 ⟨hg4, hA4⟩
    refine ih hlt ⟨rfl, ?_, (hA1.trans (Eng.Ap.bl hB3 _)).trans hA4⟩
    have e : (b && fOk (l.take (k + 1))) = (b && fOk (l.take k) && sOk f.ty 1) := by unfold fOk; rw [all_take_succ hf, Bool.and_assoc]
    rw [e]; exact hg4
  · refine brF ?_
    obtain rfl : k = l.length := by omega
    rw [List.take_length] at hg1
    exact en (vs := []) ⟨hg1, hA1⟩
def mOk (m : Mth) : Bool := (m.params ++ m.locals).all (sOk · 1) && sOk m.result 0
def kgood (u : Unt) : Bool := (u.classes.all fun c => fOk c.fields) && fOk u.statics && u.methods.all mOk
theorem u_kinds (u : Unt) (a : UA) (b0 : Nat) (w : World) (hU : UnR (· < w.heap.size) w u a) (hb0 : b0 < w.heap.size) (hx : At w b0 0 (ucells u a)) (hL : Lim u) :
    Ret Tryz.prog 53 #[.pointer (some ⟨b0, 0, none⟩)] w fun v w' => v = .bool (kgood u) ∧ Bl w w' := by
  have n1 := hU.cls.big
  have n2 := hU.sta.big
  have n3 := hU.mth.big
  refine entr (vs := [.pointer (some ⟨b0, 0, none⟩)]) [0, 2, 3, 4, 5, 7, 9, 11, 17, 18, 19, 20, 37, 38, 39, 40, 48, 49, 50, 51] tabok Tryz.func53 (by kernel_rfl) ?_
  refine al fun g w1 h1 => ?_
  refine st h1.box (fun w2 h2 y2 => ?_)
  refine al fun g2 w3 h3 => ?_
  refine st h3.box (fun w4 h4 y4 => ?_)
  have q1 := h1.blk
  have q2 : g < w2.heap.size := y2.lt
  have q3 := h3.blk
  have hne : g2 ≠ g := by omega
  have hB4 : Below w.heap.size w w4 := Below.trans (Below.trans (Eng.New.wr h1 h2) (h3.bl.mono (by omega))) (h4.below (by omega))
  have y4g : Box w4 g 4 [.bool true] := h4.box (Bl.box h3.bl y2) (Ne.symm hne)
  have U : ∀ {w'}, Below w.heap.size w w' → UnR (· < w.heap.size) w' u a := fun h => hU.below h
  have X : ∀ {w'}, Below w.heap.size w w' → At w' b0 0 (ucells u a) := fun h => hx.kp (Below.kp h) hb0
  have apB : ∀ {x y}, Below w.heap.size w x → Ap x (some ⟨g, 0, none⟩) y → Below w.heap.size w y := fun h k => h.trans (k.below h.size (fun g' e => by cases e; omega))
  have gS : ¬ (g < w.heap.size) := by omega
  refine ld (X hB4 2 _ rfl) ?_
  refine lpk u.classes.length 19 [] [(0, .pointer (some ⟨b0, 0, none⟩)), (3, .pointer (some ⟨g, 0, none⟩)), (4, .pointer (some ⟨g2, 0, none⟩)), (5, .func (.func 125) #[] #[.pointer (some ⟨g2, 0, none⟩)]), (17, .slice a.a2 u.classes.length a.c2), (18, I u.classes.length)]
    (fun k vals w' => vals = [] ∧ Box w' g 4 [.bool ((u.classes.take k).all fun c => fOk c.fields)] ∧ Box w' g2 144 [seeF g] ∧ Below w.heap.size w w') ⟨rfl, y4g, y4, hB4⟩ ?_
  rintro k vals w5 hk ⟨rfl, g5, s5, hB5⟩ ih
  by_cases hlt : k < u.classes.length
  · refine brT ?_
    obtain ⟨c, b, o, cs, hc, e2, hSb, hAt, af, cf, rfl, hF⟩ := at_some (U hB5).cls hlt
    rw [e2]
    refine ix ?_
    refine lda hAt ?_
    refine al fun b6 w6 h6 => ?_
    refine sta h6.box (fun w7 h7 y7 => ?_)
    have hB7 : Bl w5 w7 := Eng.New.wr h6 h7
    refine ld (y7.cell rfl) ?_
    refine cl (k_all c.fields af cf g g2 _ (· < w.heap.size) gS hne w7 (hF.bl hB7) (Bl.box hB7 g5) (Bl.box hB7 s5)) ?_
    rintro v w8 ⟨g8, hA8⟩
    refine ih hlt ⟨rfl, ?_, hA8.box (Bl.box hB7 s5) (ap_ne hne), apB (hB5.trans (hB7.mono hB5.size)) hA8⟩ (hsub := by simp only [e2]; repeat (first | exact True.intro | (refine ⟨rfl, ?_⟩)))
    rw [all_take_succ hc]; exact g8
  refine brF ?_
  obtain rfl : k = u.classes.length := by omega
  rw [List.take_length] at g5
  refine ld (X hB5 3 _ rfl) ?_
  refine cl (k_all u.statics a.a3 a.c3 g g2 _ (· < w.heap.size) gS hne w5 (U hB5).sta g5 s5) ?_
  rintro v8 w8 ⟨g8, hA8⟩
  have s8 := hA8.box s5 (ap_ne hne)
  have hB8 := apB hB5 hA8
  refine ld (X hB8 4 _ rfl) ?_
  refine lpk u.methods.length 39 [] [(0, .pointer (some ⟨b0, 0, none⟩)), (3, .pointer (some ⟨g, 0, none⟩)), (4, .pointer (some ⟨g2, 0, none⟩)), (37, .slice a.a4 u.methods.length a.c4), (38, I u.methods.length)]
    (fun k vals w' => vals = [] ∧ Box w' g 4 [.bool (((u.classes.all fun c => fOk c.fields) && fOk u.statics) && (u.methods.take k).all mOk)] ∧ Box w' g2 144 [seeF g] ∧ Below w.heap.size w w') ⟨rfl, by simpa using g8, s8, hB8⟩ ?_
  rintro k vals w9 hk ⟨rfl, g9, s9, hB9⟩ ih
  by_cases hlt : k < u.methods.length
  · refine brT ?_
    obtain ⟨m, b, o, cs, hm, e2, hSb, hAt, a1, c1, a2, c2, a3, c3, rfl, f1, f2, f3⟩ := at_some (U hB9).mth hlt
    rw [e2]
    have hm' := List.mem_of_getElem? hm
    have l1 := hL.locs m hm'
    refine ix ?_
    refine lda hAt ?_
    refine al fun b10 w10 h10 => ?_
    refine sta h10.box (fun w11 h11 y11 => ?_)
    have hB11 : Bl w9 w11 := Eng.New.wr h10 h11
    refine ld (y11.cell rfl) ?_
    refine ld (y11.cell rfl) ?_
    refine bs fun b12 w12 h12 => ?_
    have hB12 := hB11.trans h12.bl
    refine cl (c_Concat m.params m.locals a1 a2 c1 c2 b12 w12 ((f1.bl hB12).sub fun _ _ => trivial) ((f2.bl hB12).sub fun _ _ => trivial) h12.box.at (by omega)) ?_
    rintro _ w13 ⟨ac, cc, rfl, hSc, hB13⟩
    have hB913 := hB12.trans hB13
    have hn : (m.params ++ m.locals).length ≤ 10 := by rw [List.length_append]; exact l1
    have hB13' : Below w.heap.size w w13 := hB9.trans (hB913.mono hB9.size)
    have y13 := Bl.box (h12.bl.trans hB13) y11
    have ng : b10 ≠ g := by have := h10.blk; have := g9.lt; omega
    have ng2 : b10 ≠ g2 := by have := h10.blk; have := s9.lt; omega
    refine lpk (m.params ++ m.locals).length 50 [] [(0, .pointer (some ⟨b0, 0, none⟩)), (3, .pointer (some ⟨g, 0, none⟩)), (4, .pointer (some ⟨g2, 0, none⟩)), (37, .slice a.a4 u.methods.length a.c4), (38, I u.methods.length), (39, I k), (9, .pointer (some ⟨b10, 0, none⟩)), (48, .slice ac (m.params ++ m.locals).length cc), (49, I (m.params ++ m.locals).length)]
      (fun i vals w' => vals = [] ∧ Box w' g 4 [.bool ((((u.classes.all fun c => fOk c.fields) && fOk u.statics) && (u.methods.take k).all mOk) && ((m.params ++ m.locals).take i).all (sOk · 1))] ∧ Box w' g2 144 [seeF g] ∧ Box w' b10 64 (mcells m a1 c1 a2 c2 a3 c3) ∧ Below w.heap.size w w' ∧ Ap w13 (some ⟨g, 0, none⟩) w') ⟨rfl, by simpa using Bl.box hB913 g9, Bl.box hB913 s9, y13, hB13', Eng.Ap.bl (Bl.refl _) _⟩ ?_ (hkeep := by simp only [e2]; repeat (first | exact True.intro | (refine ⟨rfl, ?_⟩)))
    rintro i vals w14 hi ⟨rfl, g14, s14, y14, hB14, hA14⟩ ih2
    by_cases hlt2 : i < (m.params ++ m.locals).length
    · refine brT ?_
      obtain ⟨t, bt, ot, cst, ht, rfl, hSt, hAtt, rfl⟩ := at_some hSc hlt2
      have hAt14 := hAtt.kp (S := fun j => j < w13.heap.size ∧ j ≠ g) (fun b' o' v hs hc => by rw [World.cell?_of_block (w := w13) (hA14.block b' hs.1 fun e => by cases e; exact hs.2 rfl)]; exact hc) ⟨hSt.2, by have := hSt.1; have := h12.size; have := h10.size; have := h11.size; have := g9.lt; omega⟩
      refine ix ?_
      refine lda hAt14 ?_
      refine al fun b15 w15 h15 => ?_
      refine sta h15.box (fun w16 h16 y16 => ?_)
      have hB16 : Bl w14 w16 := Eng.New.wr h15 h16
      refine ld ((Bl.box hB16 s14).cell rfl) ?_
      refine lda y16.at ?_
      refine cl (k_see t 1 g _ w16 (Bl.box hB16 g14)) ?_
      rintro v w17 ⟨g17, hA17⟩
      refine ih2 hlt2 ⟨rfl, ?_, hA17.box (Bl.box hB16 s14) (ap_ne hne), hA17.box (Bl.box hB16 y14) (ap_ne ng), apB (hB14.trans (hB16.mono hB14.size)) hA17, (hA14.trans (Eng.Ap.bl hB16 _)).trans hA17⟩
      rw [all_take_succ ht, ← Bool.and_assoc]; exact g17
    refine brF ?_
    obtain rfl : i = (m.params ++ m.locals).length := by omega
    rw [List.take_length] at g14
    refine ld (s14.cell rfl) ?_
    refine lda (cs := [I m.result.kind, I m.result.cls]) (b := b10) (o := 4) (fun j v hj => ?_) ?_
    · rcases j with _ | _ | j
      · exact y14.at 4 v hj
      · exact y14.at 5 v hj
      · simp at hj
    refine cl (k_see m.result 0 g _ w14 g14) ?_
    rintro v w18 ⟨g18, hA18⟩
    refine ih hlt ⟨rfl, ?_, hA18.box s14 (ap_ne hne), apB hB14 hA18⟩ (hsub := by simp only [e2]; repeat (first | exact True.intro | (refine ⟨rfl, ?_⟩)))
    have e : (((u.classes.all fun c => fOk c.fields) && fOk u.statics) && (u.methods.take (k + 1)).all mOk) = ((((u.classes.all fun c => fOk c.fields) && fOk u.statics) && (u.methods.take k).all mOk) && (m.params ++ m.locals).all (sOk · 1) && sOk m.result 0) := by rw [all_take_succ hm]; unfold mOk; simp [Bool.and_assoc]
    rw [e]; exact g18
  · refine brF ?_
    obtain rfl : k = u.methods.length := by omega
    rw [List.take_length] at g9
    refine ld (g9.cell rfl) ?_
    exact rt1 ⟨rfl, hB9⟩
theorem kgood_eq (u : Unt) : kgood u = (kinds u && classless u) := by
  have h1 : ∀ t, sOk t 1 = (kin t && bare t) := fun t => rfl
  have h0 : ∀ t, sOk t 0 = (kout t && bare t) := fun t => rfl
  have hf : ∀ l : List Fld, fOk l = ((l.all fun f => kin f.ty) && l.all fun f => bare f.ty) := fun l => by
    induction l with
    | nil => rfl
    | cons f l ih =>
      have : fOk (f :: l) = (sOk f.ty 1 && fOk l) := rfl
      rw [this, ih, h1, List.all_cons, List.all_cons]
      cases kin f.ty <;> cases bare f.ty <;> simp
  rw [Bool.eq_iff_iff]
  simp only [kgood, kinds, classless, kcls, kmth, bcls, bmth, mOk, hf, h1, h0, Bool.and_eq_true, List.all_eq_true, List.mem_append]
  constructor
  · rintro ⟨⟨a1, a2⟩, a3⟩
    exact ⟨⟨⟨fun c hc => (a1 c hc).1, a2.1⟩, fun m hm => ⟨⟨fun t ht => ((a3 m hm).1 t (.inl ht)).1, fun t ht => ((a3 m hm).1 t (.inr ht)).1⟩, (a3 m hm).2.1⟩⟩,
      ⟨fun c hc => (a1 c hc).2, a2.2⟩, fun m hm => ⟨⟨(a3 m hm).2.2, fun t ht => ((a3 m hm).1 t (.inl ht)).2⟩, fun t ht => ((a3 m hm).1 t (.inr ht)).2⟩⟩
  · rintro ⟨⟨⟨a1, a2⟩, a3⟩, ⟨b1, b2⟩, b3⟩
    refine ⟨⟨fun c hc => ⟨a1 c hc, b1 c hc⟩, a2, b2⟩, fun m hm => ⟨fun t ht => ?_, (a3 m hm).2, (b3 m hm).1.1⟩⟩
    rcases ht with ht | ht
    · exact ⟨(a3 m hm).1.1 t ht, (b3 m hm).1.2 t ht⟩
    · exact ⟨(a3 m hm).1.2 t ht, (b3 m hm).2 t ht⟩
end Go.Proofs.YtopjmiklpnejmaaGreatDoor

/- Walks: the document's Check, its parts that read a unit. -/
namespace Go.Proofs.YtopjmiklpnejmaaGreatDoor
open Eng Go.RowKit
theorem r_limits (u : Unt) (a : UA) (w : World) (hU : UnR T w u a) : Ret Tryz.prog 57 #[.agg (ucells u a).toArray] w fun v w' => v = .bool (limits u) ∧ Bl w w' := by
  refine entr (vs := [.agg (ucells u a).toArray]) [0, 1, 2, 3, 4, 5, 6, 28, 33, 43, 48, 65, 75] tabok Tryz.func57 (by kernel_rfl) ?_
  have hbc := hU.cls.big
  have hbm := hU.mth.big
  refine bx (cs := ucells u a) fun b w1 hn => ?_
  refine ld (hn.box.cell rfl) ?_
  refine ldg (fun _ => hn.box.cell rfl) ?_
  refine ldg (fun _ => hn.box.cell rfl) ?_
  refine ldg (fun _ => hn.box.cell rfl) ?_
  refine br (fun h => ?_) (fun h => ?_)
  · refine rt1 ⟨vb ?_, hn.bl⟩
    simp only [Bool.or_eq_true, decide_eq_true_eq] at h
    symm
    simp only [limits, Bool.and_eq_false_iff, decide_eq_false_iff_not]
    omega
  simp only [Bool.or_eq_false_iff, decide_eq_false_iff_not] at h
  have hl : limits u = (u.classes.all lcls && u.methods.all lmth) := by
    unfold limits
    rw [decide_eq_true (by omega), decide_eq_true (by omega), decide_eq_true (by omega), decide_eq_true (by omega)]; rfl
  refine lpk u.classes.length 3 [] [(1, .pointer (some ⟨b, 0, none⟩))] (fun k vals w' => vals = [] ∧ (u.classes.take k).all lcls = true ∧ w1 = w') ⟨rfl, rfl, rfl⟩ ?_
  rintro k vals _ hk ⟨rfl, ha, rfl⟩ ih
  refine ld (hn.box.cell rfl) ?_
  by_cases hlt : k < u.classes.length
  · refine brT ?_
    obtain ⟨c, b2, o2, cs, hc, e2, _, hAt, ac, cap, rfl, hf⟩ := at_some (hU.bl hn.bl).cls hlt
    refine ld (hn.box.cell rfl) ?_
    rw [e2]
    refine ix ?_
    refine ld (hAt 2 _ rfl) ?_
    refine br (fun h1 => ?_) (fun h1 => ?_)
    · have := of_decide_eq_true h1
      refine rt1 ⟨vb ?_, hn.bl⟩
      rw [hl, all_miss hc (decide_eq_false (by omega))]; rfl
    · have := of_decide_eq_false h1
      exact ih hlt ⟨rfl, all_snoc' hc ha (decide_eq_true (by omega)), rfl⟩
  refine brF ?_
  obtain rfl : k = u.classes.length := by omega
  rw [all_end ha, Bool.true_and] at hl
  refine lpk u.methods.length 4 [] [(1, .pointer (some ⟨b, 0, none⟩))] (fun k vals w' => vals = [] ∧ (u.methods.take k).all lmth = true ∧ Bl w1 w') ⟨rfl, rfl, Bl.refl _⟩ ?_
  rintro k vals w2 hk ⟨rfl, ha, hB⟩ ih
  have hx := Bl.box hB hn.box
  refine ld (hx.cell rfl) ?_
  by_cases hlt : k < u.methods.length
  · refine brT ?_
    refine ld (hx.cell rfl) ?_
    obtain ⟨m, b2, o2, cs, hm, e2, _, hAt, a1, c1, a2, c2, a3, c3, rfl, h1, h2, h3⟩ := at_some (hU.bl (hn.bl.trans hB)).mth hlt
    have hb1 := h1.big
    have hb2 := h2.big
    rw [e2]
    refine ix ?_
    refine lda hAt ?_
    refine al fun b5 w3 h5 => ?_
    refine sta h5.box fun w4 h6 hbx => ?_
    refine ld (hbx.cell rfl) ?_
    refine ld (hbx.cell rfl) ?_
    refine ld (hbx.cell rfl) ?_
    have hB4 : Bl w2 w4 := h5.wr h6
    have hslots : IntKind.i64.wrap ((m.params.length : Int) + m.locals.length) = (m.params.length : Int) + m.locals.length := wrap_fit (by omega) (by omega)
    have hslots1 : IntKind.i64.wrap ((m.params.length : Int) + m.locals.length + 1) = (m.params.length : Int) + m.locals.length + 1 := wrap_fit (by omega) (by omega)
    have fin : ∀ {x y : Int}, x = m.params.length → y = mslots m → lmth m = !(decide (x > 4) || decide (y > 10)) := by
      rintro x y rfl rfl
      unfold lmth
      by_cases h1 : m.params.length ≤ 4 <;> by_cases h2 : mslots m ≤ 10 <;> simp [h1, h2] <;> omega
    refine br (fun hc => ?_) (fun hc => ?_)
    · have hc' := of_decide_eq_true hc
      have hy : IntKind.i64.wrap (IntKind.i64.wrap ((m.params.length : Int) + m.locals.length) + 1) = mslots m := by rw [hslots, hslots1]; simp [mslots, hc']
      refine ld (hbx.cell rfl) ?_
      refine br (fun h => ?_) (fun h => ?_)
      · exact rt1 ⟨vb (by rw [hl, all_miss hm (by rw [fin rfl hy]; exact congrArg (fun x => !x) h)]), hn.bl.trans (hB.trans hB4)⟩
      · exact ih hlt ⟨rfl, all_snoc' hm ha (by rw [fin rfl hy]; exact congrArg (fun x => !x) h), hB.trans hB4⟩
    · have hc' := of_decide_eq_false hc
      have hy : IntKind.i64.wrap ((m.params.length : Int) + m.locals.length) = mslots m := by rw [hslots]; simp only [mslots]; rw [if_pos (Classical.not_not.1 hc')]; omega
      refine ld (hbx.cell rfl) ?_
      refine br (fun h => ?_) (fun h => ?_)
      · exact rt1 ⟨vb (by rw [hl, all_miss hm (by rw [fin rfl hy]; exact congrArg (fun x => !x) h)]), hn.bl.trans (hB.trans hB4)⟩
      · exact ih hlt ⟨rfl, all_snoc' hm ha (by rw [fin rfl hy]; exact congrArg (fun x => !x) h), hB.trans hB4⟩
  refine brF ?_
  obtain rfl : k = u.methods.length := by omega
  rw [all_end ha] at hl
  exact rt1 ⟨vb hl.symm, hn.bl.trans hB⟩
theorem u_long1 (c : Cls) (cs : List Value) (S : Nat → Prop) (w : World) (hr : eCls.rel S w cs c) : Ret Tryz.prog 118 #[asV cs] w fun v w' => v = .bool (!lcls c) ∧ Bl w w' := by
  obtain ⟨a, cap, rfl, hf⟩ := hr
  refine entr (vs := [asV [I c.name, I c.super, .slice a c.fields.length cap]]) [0, 1, 2] tabok Tryz.func118 (by kernel_rfl) ?_
  refine bx (cs := [I c.name, I c.super, .slice a c.fields.length cap]) fun b w1 hn => ?_
  refine ld (hn.box.cell rfl) ?_
  refine rt1 ⟨vb ?_, hn.bl⟩
  unfold lcls
  by_cases h : c.fields.length ≤ 7 <;> simp [h] <;> omega
theorem u_long2 (m : Mth) (cs : List Value) (S : Nat → Prop) (w : World) (hr : eMth.rel S w cs m) : Ret Tryz.prog 119 #[asV cs] w fun v w' => v = .bool (!lmth m) ∧ Bl w w' := by
  obtain ⟨a1, c1, a2, c2, a3, c3, rfl, h1, h2, h3⟩ := hr
  have hb1 := h1.big
  have hb2 := h2.big
  refine entr (vs := [asV [I m.name, I m.cls, .slice a1 m.params.length c1, .slice a2 m.locals.length c2, I m.result.kind, I m.result.cls, .slice a3 m.code.length c3]]) [0, 1, 2, 3, 13] tabok Tryz.func119 (by kernel_rfl) ?_
  refine bx (cs := [I m.name, I m.cls, .slice a1 m.params.length c1, .slice a2 m.locals.length c2, I m.result.kind, I m.result.cls, .slice a3 m.code.length c3]) fun b w1 hn => ?_
  have hslots : IntKind.i64.wrap ((m.params.length : Int) + m.locals.length) = (m.params.length : Int) + m.locals.length := wrap_fit (by omega) (by omega)
  have hslots1 : IntKind.i64.wrap ((m.params.length : Int) + m.locals.length + 1) = (m.params.length : Int) + m.locals.length + 1 := wrap_fit (by omega) (by omega)
  have fin : ∀ {x y : Int}, x = m.params.length → y = mslots m → lmth m = !(decide (x > 4) || decide (y > 10)) := by
    rintro x y rfl rfl
    unfold lmth
    by_cases h1 : m.params.length ≤ 4 <;> by_cases h2 : mslots m ≤ 10 <;> simp [h1, h2] <;> omega
  refine ld (hn.box.cell rfl) ?_
  refine ld (hn.box.cell rfl) ?_
  refine ld (hn.box.cell rfl) ?_
  refine br (fun hc => ?_) (fun hc => ?_)
  · have hc' := of_decide_eq_true hc
    have hy : IntKind.i64.wrap (IntKind.i64.wrap ((m.params.length : Int) + m.locals.length) + 1) = mslots m := by rw [hslots, hslots1]; simp [mslots, hc']
    refine ld (hn.box.cell rfl) ?_
    exact rt1 ⟨vb (by rw [fin rfl hy, Bool.not_not]), hn.bl⟩
  · have hc' := of_decide_eq_false hc
    have hy : IntKind.i64.wrap ((m.params.length : Int) + m.locals.length) = mslots m := by rw [hslots]; simp only [mslots]; rw [if_pos (Classical.not_not.1 hc')]; omega
    refine ld (hn.box.cell rfl) ?_
    exact rt1 ⟨vb (by rw [fin rfl hy, Bool.not_not]), hn.bl⟩
theorem any_not {α : Type} (p : α → Bool) (l : List α) : (l.any fun x => !p x) = !(l.all p) := by induction l with
  | nil => rfl
  | cons x l ih => simp [ih]
theorem limits_not (u : Unt) : limits u = (!(decide (60 < (u.pool.length : Int)) || decide (10 < (u.classes.length : Int)) || decide (10 < (u.statics.length : Int)) || decide (16 < (u.methods.length : Int))) && u.classes.all lcls && u.methods.all lmth) := by
  unfold limits
  have e : ∀ n k : Nat, decide (n ≤ k) = !decide ((k : Int) < n) := fun n k => by by_cases h : n ≤ k <;> simp [h] <;> omega
  rw [e, e, e, e]
  simp only [Bool.not_or]; rfl
theorem u_long (u : Unt) (a : UA) (b : Nat) (w : World) (hx : At w b 0 (ucells u a)) (hU : UnR T w u a) : Ret Tryz.prog 50 #[.pointer (some ⟨b, 0, none⟩)] w fun v w' => v = .bool (!limits u) ∧ Bl w w' := by
  refine entr (vs := [.pointer (some ⟨b, 0, none⟩)]) [0, 2, 3, 4] tabok Tryz.func50 (by kernel_rfl) ?_
  have c1 := hx 1 _ rfl
  have c2 := hx 2 _ rfl
  have c3 := hx 3 _ rfl
  have c4 := hx 4 _ rfl
  rw [Nat.zero_add] at c1 c2 c3 c4
  refine ld c1 ?_
  refine ldg (fun _ => c2) ?_
  refine ldg (fun _ => c3) ?_
  refine ldg (fun _ => c4) ?_
  refine ldg (fun _ => c2) ?_
  refine sp (.bool true) (fun h1 => ?_) (fun h1 => ?_)
  · refine cl (ContainsFunc_cls u.classes _ _ 118 [] (fun x => !lcls x) T w hU.cls ?_) ?_
    · exact fun x cs _ w' _ hr => u_long1 x cs T w' hr
    rintro _ w1 ⟨rfl, hB⟩
    have c4' := hB.kp T _ _ _ trivial c4
    refine ldg (fun _ => c4') ?_
    refine sp (.bool true) (fun h2 => ?_) (fun h2 => ?_)
    · refine cl (ContainsFunc_mth u.methods _ _ 119 [] (fun x => !lmth x) T w1 (hU.bl hB).mth ?_) ?_
      · exact fun x cs _ w' _ hr => u_long2 x cs T w' hr
      rintro _ w2 ⟨rfl, hB2⟩
      refine rt1 ⟨vb ?_, hB.trans hB2⟩
      rw [any_not, Bool.false_or] at h2 ⊢
      rw [limits_not, h1]; revert h2; cases u.classes.all lcls <;> cases u.methods.all lmth <;> simp
    · refine rt1 ⟨vb ?_, hB⟩
      rw [any_not, Bool.false_or] at h2
      rw [limits_not, h1]; revert h2; cases u.classes.all lcls <;> simp
  · refine ldg (fun _ => c4) ?_
    refine sp (.bool true) (fun h2 => ?_) (fun h2 => ?_)
    · rw [h1] at h2; cases h2
    refine rt1 ⟨vb ?_, Bl.refl _⟩
    rw [limits_not, h1]; simp
end Go.Proofs.YtopjmiklpnejmaaGreatDoor
/- Walks: kinds of types, in the document. -/
namespace Go.Proofs.YtopjmiklpnejmaaGreatDoor
open Eng Go.RowKit
theorem r_bare (t : Ty) (w : World) : Ret Tryz.prog 178 #[.agg #[I t.kind, I t.cls]] w fun v w' => v = .bool (bare t) ∧ Bl w w' := by
  refine entr (vs := [.agg #[I t.kind, I t.cls]]) [0, 1, 2] tabok Tryz.func178 (by kernel_rfl) ?_
  refine bx (cs := [I t.kind, I t.cls]) fun b w1 hn => ?_
  refine ld (hn.box.cell rfl) ?_
  refine ldg (fun _ => hn.box.cell rfl) ?_
  refine ldg (fun _ => hn.box.cell rfl) ?_
  exact rt1 ⟨rfl, hn.bl⟩
theorem kin_not (t : Ty) : (decide (t.kind < 1) || decide (4 < t.kind)) = !kin t := by
  unfold kin
  by_cases h1 : 1 ≤ t.kind <;> by_cases h2 : t.kind ≤ 4 <;> simp [h1, h2] <;> omega
theorem kout_not (t : Ty) : (decide (t.kind < 0) || decide (4 < t.kind)) = !kout t := by
  unfold kout
  by_cases h1 : 0 ≤ t.kind <;> by_cases h2 : t.kind ≤ 4 <;> simp [h1, h2] <;> omega
theorem r_kinds (u : Unt) (a : UA) (w : World) (hU : UnR T w u a) (hL : Lim u) : Ret Tryz.prog 59 #[.agg (ucells u a).toArray] w fun v w' => v = .bool (kinds u) ∧ Bl w w' := by
  refine entr (vs := [.agg (ucells u a).toArray]) [0, 1, 2, 3, 4, 5, 6, 7, 8, 9, 10, 11, 16, 27, 46, 51, 66, 71, 88, 104, 114] tabok Tryz.func59 (by kernel_rfl) ?_
  have hbc := hU.cls.big
  have hbm := hU.mth.big
  have hbs := hU.sta.big
  refine bx (cs := ucells u a) fun b w1 hn => ?_
  refine lpk u.classes.length 3 [] [(1, .pointer (some ⟨b, 0, none⟩))] (fun k vals w' => vals = [] ∧ (u.classes.take k).all kcls = true ∧ w1 = w') ⟨rfl, rfl, rfl⟩ ?_
  rintro k vals _ hk ⟨rfl, ha, rfl⟩ ih
  refine ld (hn.box.cell rfl) ?_
  by_cases hlt : k < u.classes.length
  · refine brT ?_
    obtain ⟨c, b2, o2, cs, hc, e2, _, hAt, ac, cap, rfl, hf⟩ := at_some (hU.bl hn.bl).cls hlt
    have hbf := hf.big
    refine lpk c.fields.length 4 [] [(1, .pointer (some ⟨b, 0, none⟩)), (3, I k)] (fun k vals w' => vals = [] ∧ ((c.fields.take k).all fun f => kin f.ty) = true ∧ w1 = w') ⟨rfl, rfl, rfl⟩ ?_
    rintro j vals _ hj ⟨rfl, hb, rfl⟩ ih2
    refine ld (hn.box.cell rfl) ?_
    rw [e2]
    refine ix ?_
    refine ld (hAt 2 _ rfl) ?_
    by_cases hlt2 : j < c.fields.length
    · refine brT ?_
      obtain ⟨f, b3, o3, cs3, hf3, e3, _, hAt3, rfl⟩ := at_some hf hlt2
      refine ld (hn.box.cell rfl) ?_
      rw [e2]
      refine ix ?_
      refine ld (hAt 2 _ rfl) ?_
      rw [e3]
      refine ix ?_
      refine ld (hAt3 1 _ rfl) ?_
      refine br (t := decide (f.ty.kind < 1) || decide (4 < f.ty.kind)) (fun h1 => ?_) (fun h1 => ?_)
      · rw [kin_not] at h1
        refine rt1 ⟨vb ?_, hn.bl⟩
        unfold kinds
        rw [all_miss hc (all_miss hf3 (by simpa using h1))]; rfl
      · rw [kin_not] at h1
        exact ih2 hlt2 ⟨rfl, all_snoc' hf3 hb (by simpa using h1), rfl⟩
    · refine brF ?_
      obtain rfl : j = c.fields.length := by omega
      exact ih hlt ⟨rfl, all_snoc' hc ha (all_end hb), rfl⟩
  refine brF ?_
  obtain rfl : k = u.classes.length := by omega
  have hk1 := all_end ha
  refine lpk u.statics.length 6 [] [(1, .pointer (some ⟨b, 0, none⟩))] (fun k vals w' => vals = [] ∧ ((u.statics.take k).all fun f => kin f.ty) = true ∧ w1 = w') ⟨rfl, rfl, rfl⟩ ?_
  rintro k vals _ hk ⟨rfl, ha2, rfl⟩ ih2
  refine ld (hn.box.cell rfl) ?_
  by_cases hlt2 : k < u.statics.length
  · refine brT ?_
    obtain ⟨f, b3, o3, cs3, hf3, e3, _, hAt3, rfl⟩ := at_some (hU.bl hn.bl).sta hlt2
    refine ld (hn.box.cell rfl) ?_
    rw [e3]
    refine ix ?_
    refine ld (hAt3 1 _ rfl) ?_
    refine br (t := decide (f.ty.kind < 1) || decide (4 < f.ty.kind)) (fun h1 => ?_) (fun h1 => ?_)
    · rw [kin_not] at h1
      refine rt1 ⟨vb ?_, hn.bl⟩
      unfold kinds
      rw [all_miss hf3 (p := fun f => kin f.ty) (by simpa using h1)]; simp
    · rw [kin_not] at h1
      exact ih2 hlt2 ⟨rfl, all_snoc' hf3 ha2 (by simpa using h1), rfl⟩
  refine brF ?_
  obtain rfl : k = u.statics.length := by omega
  have hk2 := all_end ha2
  have hk3 : kinds u = u.methods.all kmth := by unfold kinds; rw [hk1, hk2]; rfl
  refine lpk u.methods.length 8 [] [(1, .pointer (some ⟨b, 0, none⟩))] (fun k vals w' => vals = [] ∧ (u.methods.take k).all kmth = true ∧ Bl w1 w') ⟨rfl, rfl, Bl.refl _⟩ ?_
  rintro k vals w2 hk ⟨rfl, ha3, hB⟩ ih3
  have hx := Bl.box hB hn.box
  refine ld (hx.cell rfl) ?_
  by_cases hlt3 : k < u.methods.length
  · refine brT ?_
    refine ld (hx.cell rfl) ?_
    obtain ⟨m, b2, o2, cs, hm, e2, _, hAt, a1, c1, a2, c2, a3, c3, rfl, h1, h2, h3⟩ := at_some (hU.bl (hn.bl.trans hB)).mth hlt3
    have hb1 := h1.big
    have hb2 := h2.big
    rw [e2]
    refine ix ?_
    refine lda hAt ?_
    refine al fun b5 w3 h5 => ?_
    refine sta h5.box fun w4 h6 hbx => ?_
    have hB4 : Bl w2 w4 := h5.wr h6
    refine dh (fun i => i < w4.heap.size) [0, 1, 3, 4, 2, 5, 6] fun w5 h7 => ?_
    have hB5 := hB4.trans h7.bl
    have hbx5 := h7.box hbx
    have hl4 := hbx.lt
    have hz : w5.heap.size = w4.heap.size := by rw [h7.heap]
    refine ld (hbx5.cell rfl) ?_
    refine ld (hbx5.cell rfl) ?_
    have h15 := h1.bl hB5
    have h25 := h2.bl hB5
    refine apl (enc := encTy) (l0 := []) (Ow.nil w5 w4.heap.size 61 2) (src_of h15) (by omega) (fun a6 cap6 w6 hO6 hA6 hf6 => ?_) (hm := apS (fun g hg => by cases hg))
    have hl6 : ∀ g, a6 = some ⟨g, 0, none⟩ → ¬ g < w4.heap.size := fun g hg => by
      rcases hf6 g hg with h | h
      · cases h
      · omega
    have hB6 : Bl w2 w6 := Below.trans hB5 (hA6.below (by have := hB5.size; omega) fun g hg => by cases hg)
    have hz6 : w5.heap.size ≤ w6.heap.size := hA6.size
    have h26 := h25.kp (hA6.kp.sub (S' := T) fun i _ e => by cases e)
    refine apl (enc := encTy) (l0 := [] ++ m.params) hO6 (src_of h26) (by omega) (fun a7 cap7 w7 hO7 hA7 hf7 => ?_) (hm := apS hl6)
    have hB7 : Bl w2 w7 := Below.trans hB6 (hA7.below (by have := hB4.size; omega) fun g hg => by have := hl6 g hg; have := hB4.size; omega)
    have hbx7 : Box w7 b5 64 [I m.name, I m.cls, .slice a1 m.params.length c1, .slice a2 m.locals.length c2, I m.result.kind, I m.result.cls, .slice a3 m.code.length c3] := hA7.box (hA6.box hbx5 (by simp)) fun e => hl6 _ e hl4
    have hml := hL.locs m (List.mem_of_getElem? hm)
    have hS7 : Sl eTy T w7 a7 (([] ++ m.params) ++ m.locals) := owp_sl hO7 (by simp; omega) (fun _ _ => trivial)
    have hbn := hS7.big
    have hall : (([] ++ m.params) ++ m.locals).all kin = (m.params.all kin && m.locals.all kin) := by rw [List.nil_append, List.all_append]
    generalize ([] ++ m.params) ++ m.locals = ts at hS7 hbn hall
    refine lpk ts.length 11 [] [(1, .pointer (some ⟨b, 0, none⟩)), (8, I k), (9, .pointer (some ⟨b5, 0, none⟩)), (10, .slice a7 ts.length cap7)] (fun k vals w' => vals = [] ∧ (ts.take k).all kin = true ∧ w7 = w') ⟨rfl, rfl, rfl⟩ ?_
    rintro j vals _ hj ⟨rfl, hb, rfl⟩ ih4
    by_cases hlt4 : j < ts.length
    · refine brT ?_
      obtain ⟨t, b8, o8, cs8, ht, rfl, _, hAt8, rfl⟩ := at_some hS7 hlt4
      refine ix ?_
      refine ld (hAt8 0 _ rfl) ?_
      refine ixg (fun _ => hlt4) ?_
      refine ldg (fun _ => hAt8 0 _ rfl) ?_
      refine br (t := decide (t.kind < 1) || decide (4 < t.kind)) (fun h1 => ?_) (fun h1 => ?_)
      · rw [kin_not] at h1
        refine rt1 ⟨vb ?_, hn.bl.trans (hB.trans hB7)⟩
        rw [hk3, all_miss hm]
        unfold kmth
        rw [← hall, all_miss ht (by simpa using h1)]; rfl
      · rw [kin_not] at h1
        exact ih4 hlt4 ⟨rfl, all_snoc' ht hb (by simpa using h1), rfl⟩
    refine brF ?_
    obtain rfl : j = ts.length := by omega
    rw [all_end hb] at hall
    refine ld (hbx7.cell rfl) ?_
    refine ldg (fun _ => hbx7.cell rfl) ?_
    refine br (t := decide (m.result.kind < 0) || decide (4 < m.result.kind)) (fun h1 => ?_) (fun h1 => ?_)
    · rw [kout_not] at h1
      refine rt1 ⟨vb ?_, hn.bl.trans (hB.trans hB7)⟩
      rw [hk3, all_miss hm]
      unfold kmth
      rw [← hall]; simpa using h1
    · rw [kout_not] at h1
      refine ih3 hlt3 ⟨rfl, all_snoc' hm ha3 ?_, hB.trans hB7⟩
      unfold kmth
      rw [← hall]; simpa using h1
  refine brF ?_
  obtain rfl : k = u.methods.length := by omega
  rw [all_end ha3] at hk3
  exact rt1 ⟨vb hk3.symm, hn.bl.trans hB⟩
end Go.Proofs.YtopjmiklpnejmaaGreatDoor
/- Walks: what a unit refers to, in the document. -/
namespace Go.Proofs.YtopjmiklpnejmaaGreatDoor
open Eng Go.RowKit
theorem r_typed (t : Ty) (w : World) : Ret Tryz.prog 131 #[.agg #[I t.kind, I t.cls]] w fun v w' => v = .agg (encRf (typed t)).toArray ∧ Bl w w' := by
  refine entr (vs := [.agg #[I t.kind, I t.cls]]) [0, 1, 2] tabok Tryz.func131 (by kernel_rfl) ?_
  refine bx (cs := [I t.kind, I t.cls]) fun b w1 hn => ?_
  refine al fun b2 w2 h2 => ?_
  have hb := Bl.box h2.bl hn.box
  refine ld (hb.cell rfl) ?_
  refine ld (hb.cell rfl) ?_
  refine ldg (fun _ => hb.cell rfl) ?_
  refine bd ?_
  refine sta h2.box fun w3 h3 hb3 => ?_
  refine rtc hb3.at ⟨?_, hn.bl.trans (h2.wr h3)⟩
  unfold typed tcls
  by_cases h1 : t.kind = 2 <;> by_cases h2 : t.kind = 4 <;> simp [h1, h2, encRf]
theorem cref_len {u : Unt} (hL : Lim u) : ∀ c ∈ u.classes, (cref c).length ≤ 16 := fun c hc => by
  have := hL.flds c hc
  have h2 := flatMap_le (f := fref) (B := 2) (l := c.fields) fun f _ => Nat.le_refl _
  simp only [cref, List.length_append, List.length_cons, List.length_nil]; omega
theorem mref_len {u : Unt} (hL : Lim u) : ∀ m ∈ u.methods, (mref m).length ≤ 13 := fun m hm => by
  have := hL.locs m hm
  simp only [mref, List.length_append, List.length_cons, List.length_nil, List.length_map]; omega
theorem r_Refs (u : Unt) (a : UA) (w : World) (hU : UnR T w u a) (hL : Lim u) : Ret Tryz.prog 58 #[.agg (ucells u a).toArray] w fun v w' => ∃ a' cap, v = .slice a' (refs u).length cap ∧ Sl eRf (fun b => w.heap.size ≤ b) w' a' (refs u) ∧ Bl w w' := by
  have hU0 := hU.lt
  have hl1 := hL.cls
  have hl2 := hL.sta
  have hl3 := hL.mth
  refine entr (vs := [.agg (ucells u a).toArray]) [0, 1, 2, 3, 4, 5, 6, 7, 8, 9, 10, 11, 16, 37, 61, 85, 106, 122] tabok Tryz.func58 (by kernel_rfl) ?_
  refine bx (cs := ucells u a) fun b w1 hn => ?_
  refine lpk u.classes.length 4 [3] [(1, .pointer (some ⟨b, 0, none⟩))] (fun k vals w' => ∃ a1 n cap, vals = [.slice a1 n cap] ∧ n = ((u.classes.take k).flatMap cref).length ∧ OwP 3 encRf w' w1.heap.size 78 a1 cap ((u.classes.take k).flatMap cref) ∧ Bl w1 w') ⟨none, 0, 0, rfl, rfl, Ow.nil .., Bl.refl _⟩ ?_
  rintro k vals w2 hk ⟨a1, _, cap1, rfl, rfl, hO, hB⟩ ih
  have hlen := flatMap_take_le (cref_len hL) hk
  have hx := Bl.box hB hn.box
  refine ld (hx.cell rfl) ?_
  by_cases hlt : k < u.classes.length
  · refine brT ?_
    obtain ⟨c, b2, o2, cs, hc, e2, _, hAt, ac, cap, rfl, hf⟩ := at_some (hU0.below (hn.bl.trans hB)).cls hlt
    refine ld (hx.cell rfl) ?_
    rw [e2]
    refine ix ?_
    refine lda hAt ?_
    refine al fun b5 w3 h5 => ?_
    refine sta h5.box fun w4 h6 hbx => ?_
    have hB4 := hB.trans (h5.wr h6)
    refine ld (hbx.cell rfl) ?_
    refine bd ?_
    refine ld (hbx.cell rfl) ?_
    refine bd ?_
    refine bs fun b7 w5 h7 => ?_
    have hsz : w1.heap.size ≤ w5.heap.size := by have := hB4.size; have := h7.bl.size; omega
    refine apl (enc := encRf) (l1 := [⟨c.name, 1, false⟩, ⟨c.super, 2, true⟩]) (hO.bl ((h5.wr h6).trans h7.bl)) (.inr ⟨b7, 0, rfl, h7.box.at⟩) hsz (fun a6 cap6 w6 hO6 hA6 hf6 => ?_)
    have hB6 := hB4.trans (h7.bl)
    have hne6 : a6 ≠ some ⟨b5, 0, none⟩ := fun e => by
      rcases hf6 _ e with h | h
      · have := (hO.lt h).2; have := h5.blk; omega
      · have := hbx.lt; have := h7.bl.size; omega
    have hB6' : Bl w1 w6 := (hO.bl ((h5.wr h6).trans h7.bl)).below hA6 hB6 hsz
    have hB26 : Below w1.heap.size w2 w6 := (hO.bl ((h5.wr h6).trans h7.bl)).below hA6 (((h5.wr h6).trans h7.bl).mono hB.size) hsz
    have hx6 : Box w6 b5 58 [I c.name, I c.super, .slice ac c.fields.length cap] := hA6.box (Bl.box h7.bl hbx) fun e => by have := (hO.lt e).2; have := h5.blk; omega
    have hlc := hL.flds c (List.mem_of_getElem? hc)
    generalize hLL : (u.classes.take k).flatMap cref ++ [⟨c.name, 1, false⟩, ⟨c.super, 2, true⟩] = LL at hO6
    have hLlen : LL.length ≤ u.classes.length * 16 + 2 := by rw [← hLL]; simp only [List.length_append, List.length_cons, List.length_nil]; omega
    refine lpk c.fields.length 6 [3] [(1, .pointer (some ⟨b, 0, none⟩)), (4, I k), (5, .pointer (some ⟨b5, 0, none⟩))] (fun j vals w' => ∃ a1 n q, vals = [.slice a1 n q] ∧ n = (LL ++ (c.fields.take j).flatMap fref).length ∧
      OwP 3 encRf w' w1.heap.size 78 a1 q (LL ++ (c.fields.take j).flatMap fref) ∧ Below w1.heap.size w2 w' ∧ Box w' b5 58 [I c.name, I c.super, .slice ac c.fields.length cap] ∧ a1 ≠ some ⟨b5, 0, none⟩) ⟨a6, LL.length, cap6, rfl, by simp, by simpa using hO6, hB26, hx6, hne6⟩ ?_
    rintro j vals w7 hj ⟨a8, _, cap8, rfl, rfl, hO8, hB27, hx8, hne8⟩ ih2
    have hB8' : Below w1.heap.size w1 w7 := Below.trans hB hB27
    refine ld (hx8.cell rfl) ?_
    by_cases hlt2 : j < c.fields.length
    · refine brT ?_
      have hlen2 := flatMap_take_le (f := fref) (B := 2) (fun f _ => Nat.le_refl _) hj
      have hnj : (LL ++ (c.fields.take j).flatMap fref).length ≤ 200 := by rw [List.length_append]; omega
      obtain ⟨f, b3, o3, cs3, hf3, e3, hS3, hAt3, rfl⟩ := at_some (hf.kp (Below.kp (hB27.mono (by have := hn.bl.size; have := hB.size; omega)))) hlt2
      have hne3 : a8 ≠ some ⟨b3, 0, none⟩ := fun e => by have := (hO8.lt e).1; have := hn.bl.size; omega
      refine dh (fun i => a8 ≠ some ⟨i, 0, none⟩) (List.range 18) fun w8 h8 => ?_
      have hx9 := h8.box hx8
      refine ld (hx9.cell rfl) ?_
      rw [e3]
      refine ix ?_
      have hAt8 := hAt3.bl h8.bl
      refine ld (hAt8 0 _ rfl) ?_
      refine bd ?_
      refine ld (hx9.cell rfl) ?_
      rw [e3]
      refine ix ?_
      refine lda hAt8.tail ?_
      refine cl (r_typed f.ty _) ?_
      rintro _ w9 ⟨rfl, h9⟩
      refine bs fun b10 w10 h10 => ?_
      have hB10 := (h8.bl.trans h9).trans h10.bl
      have hsz10 : w1.heap.size ≤ w10.heap.size := by have := hB8'.size; have := hB10.size; omega
      have hff : (fref f).length = 2 := rfl
      refine apl (enc := encRf) (l1 := fref f) (hO8.bl hB10) (.inr ⟨b10, 0, rfl, h10.box.at⟩) hsz10 (fun a11 cap11 w11 hO11 hA11 hf11 => ?_) (hm := apS (S := fun i => a8 ≠ some ⟨i, 0, none⟩) fun g hg h => h hg)
      have e : (LL ++ (c.fields.take j).flatMap fref) ++ fref f = LL ++ (c.fields.take (j + 1)).flatMap fref := by rw [flatMap_snoc hf3, List.append_assoc]
      rw [e] at hO11
      refine ih2 hlt2 ⟨a11, _, cap11, rfl, congrArg List.length e, hO11, ?_, ?_, ?_⟩
      · exact (hO8.bl hB10).below hA11 (Below.trans hB27 (hB10.mono hB8'.size)) hsz10
      · exact hA11.box (Bl.box h10.bl (Bl.box h9 hx9)) hne8
      · intro e
        rcases hf11 _ e with h | h
        · exact hne8 h
        · have := hx9.lt; have := h9.size; have := h10.bl.size; omega
    · refine brF ?_
      obtain rfl : j = c.fields.length := by omega
      have e : LL ++ (c.fields.take c.fields.length).flatMap fref = (u.classes.take (k + 1)).flatMap cref := by rw [flatMap_snoc hc, ← hLL, List.take_length, cref, List.append_assoc]
      rw [e] at hO8
      exact ih hlt ⟨a8, _, cap8, rfl, congrArg List.length e, hO8, hB8'⟩
  refine brF ?_
  obtain rfl : k = u.classes.length := by omega
  rw [List.take_length] at hO hlen ⊢
  clear ih hx
  refine lpk u.statics.length 7 [3] [(1, .pointer (some ⟨b, 0, none⟩))] (fun k vals w' => ∃ a1 n q, vals = [.slice a1 n q] ∧ n = (u.classes.flatMap cref ++ (u.statics.take k).flatMap fref).length ∧ OwP 3 encRf w' w1.heap.size 78 a1 q (u.classes.flatMap cref ++ (u.statics.take k).flatMap fref) ∧ Bl w1 w') ⟨a1, (u.classes.flatMap cref).length, cap1, rfl, by simp, by simpa using hO, hB⟩ ?_
  clear hO hB
  rintro k vals w2 hk ⟨a1, _, cap1, rfl, rfl, hO, hB⟩ ih
  have hlen2 := flatMap_take_le (f := fref) (B := 2) (fun f _ => Nat.le_refl _) hk
  have hx := Bl.box hB hn.box
  refine ld (hx.cell rfl) ?_
  by_cases hlt : k < u.statics.length
  · refine brT ?_
    have hnj : (u.classes.flatMap cref ++ (u.statics.take k).flatMap fref).length ≤ 200 := by rw [List.length_append]; omega
    obtain ⟨f, b3, o3, cs3, hf3, e3, hS3, hAt3, rfl⟩ := at_some (hU0.below (hn.bl.trans hB)).sta hlt
    have hne3 : a1 ≠ some ⟨b3, 0, none⟩ := fun e => by have := (hO.lt e).1; have := hn.bl.size; omega
    have hneb : a1 ≠ some ⟨b, 0, none⟩ := fun e => by have := (hO.lt e).1; have := hn.box.lt; omega
    refine dh (fun i => a1 ≠ some ⟨i, 0, none⟩) (List.range 18) fun w8 h8 => ?_
    have hx9 := h8.box hx
    refine ld (hx9.cell rfl) ?_
    rw [e3]
    refine ix ?_
    have hAt8 := hAt3.bl h8.bl
    refine ld (hAt8 0 _ rfl) ?_
    refine bd ?_
    refine ld (hx9.cell rfl) ?_
    rw [e3]
    refine ix ?_
    refine lda hAt8.tail ?_
    refine cl (r_typed f.ty _) ?_
    rintro _ w9 ⟨rfl, h9⟩
    refine bs fun b10 w10 h10 => ?_
    have hB10 := (h8.bl.trans h9).trans h10.bl
    have hsz10 : w1.heap.size ≤ w10.heap.size := by have := hB.size; have := hB10.size; omega
    have hff : (fref f).length = 2 := rfl
    refine apl (enc := encRf) (l1 := fref f) (hO.bl hB10) (.inr ⟨b10, 0, rfl, h10.box.at⟩) hsz10 (fun a11 cap11 w11 hO11 hA11 hf11 => ?_) (hm := apS (S := fun i => a1 ≠ some ⟨i, 0, none⟩) fun g hg h => h hg)
    have e : (u.classes.flatMap cref ++ (u.statics.take k).flatMap fref) ++ fref f = u.classes.flatMap cref ++ (u.statics.take (k + 1)).flatMap fref := by rw [flatMap_snoc hf3, List.append_assoc]
    rw [e] at hO11
    exact ih hlt ⟨a11, _, cap11, rfl, congrArg List.length e, hO11, (hO.bl hB10).below hA11 (hB.trans hB10) hsz10⟩
  refine brF ?_
  obtain rfl : k = u.statics.length := by omega
  rw [List.take_length] at hO hlen2 ⊢
  clear ih hx
  generalize hQ : u.classes.flatMap cref ++ u.statics.flatMap fref = Q at hO ⊢
  have hQl : Q.length ≤ 200 := by rw [← hQ, List.length_append]; omega
  refine lpk u.methods.length 8 [3] [(1, .pointer (some ⟨b, 0, none⟩))] (fun k vals w' => ∃ a1 n q, vals = [.slice a1 n q] ∧ n = (Q ++ (u.methods.take k).flatMap mref).length ∧ OwP 3 encRf w' w1.heap.size 78 a1 q (Q ++ (u.methods.take k).flatMap mref) ∧ Bl w1 w') ⟨a1, Q.length, cap1, rfl, by simp, by simpa using hO, hB⟩ ?_
  clear hO hB
  rintro k vals w2 hk ⟨a1, _, cap1, rfl, rfl, hO, hB⟩ ih
  have hlen3 := flatMap_take_le (mref_len hL) hk
  have hx := Bl.box hB hn.box
  refine ld (hx.cell rfl) ?_
  by_cases hlt : k < u.methods.length
  · refine brT ?_
    obtain ⟨m, b2, o2, cs, hm, e2, _, hAt, am1, cm1, am2, cm2, am3, cm3, rfl, h1, h2, h3⟩ := at_some (hU0.below (hn.bl.trans hB)).mth hlt
    refine ld (hx.cell rfl) ?_
    rw [e2]
    refine ix ?_
    refine lda hAt ?_
    refine al fun b5 w3 h5 => ?_
    refine sta h5.box fun w4 h6 hbx => ?_
    have hB4 := hB.trans (h5.wr h6)
    refine ld (hbx.cell rfl) ?_
    refine bd ?_
    refine ld (hbx.cell rfl) ?_
    refine bd ?_
    refine bs fun b7 w5 h7 => ?_
    have hsz : w1.heap.size ≤ w5.heap.size := by have := hB4.size; have := h7.bl.size; omega
    have hnk : (Q ++ (u.methods.take k).flatMap mref).length ≤ 500 := by rw [List.length_append]; omega
    refine apl (enc := encRf) (l1 := [⟨m.name, 1, false⟩, ⟨m.cls, 2, true⟩]) (hO.bl ((h5.wr h6).trans h7.bl)) (.inr ⟨b7, 0, rfl, h7.box.at⟩) hsz (fun a6 cap6 w6 hO6 hA6 hf6 => ?_)
    have hB6 := hB4.trans (h7.bl)
    have hne6 : a6 ≠ some ⟨b5, 0, none⟩ := fun e => by
      rcases hf6 _ e with h | h
      · have := (hO.lt h).2; have := h5.blk; omega
      · have := hbx.lt; have := h7.bl.size; omega
    have hB26 : Below w1.heap.size w2 w6 := (hO.bl ((h5.wr h6).trans h7.bl)).below hA6 (((h5.wr h6).trans h7.bl).mono hB.size) hsz
    have hx6 : Box w6 b5 64 (mcells m am1 cm1 am2 cm2 am3 cm3) := hA6.box (Bl.box h7.bl hbx) fun e => by have := (hO.lt e).2; have := h5.blk; omega
    have hlc := hL.locs m (List.mem_of_getElem? hm)
    generalize hLL : (Q ++ (u.methods.take k).flatMap mref) ++ [⟨m.name, 1, false⟩, ⟨m.cls, 2, true⟩] = LL at hO6
    have hLlen : LL.length ≤ 502 := by rw [← hLL]; simp only [List.length_append, List.length_cons, List.length_nil] at hnk ⊢; omega
    refine lpk m.params.length 10 [3] [(1, .pointer (some ⟨b, 0, none⟩)), (8, I k), (9, .pointer (some ⟨b5, 0, none⟩))] (fun j vals w' => ∃ a1 n q, vals = [.slice a1 n q] ∧ n = (LL ++ (m.params.take j).map typed).length ∧
      OwP 3 encRf w' w1.heap.size 78 a1 q (LL ++ (m.params.take j).map typed) ∧ Below w1.heap.size w2 w' ∧ Box w' b5 64 (mcells m am1 cm1 am2 cm2 am3 cm3) ∧ a1 ≠ some ⟨b5, 0, none⟩) ⟨a6, LL.length, cap6, rfl, by simp, by simpa using hO6, hB26, hx6, hne6⟩ ?_
    rintro j vals w7 hj ⟨a8, _, cap8, rfl, rfl, hO8, hB27, hx8, hne8⟩ ih2
    have hB8' : Below w1.heap.size w1 w7 := Below.trans hB hB27
    refine ld (hx8.cell rfl) ?_
    by_cases hlt2 : j < m.params.length
    · refine brT ?_
      have hnj : (LL ++ (m.params.take j).map typed).length ≤ 600 := by rw [List.length_append, List.length_map, List.length_take]; omega
      obtain ⟨t, b3, o3, cs3, hf3, e3, hS3, hAt3, rfl⟩ := at_some (h1.kp (Below.kp (hB27.mono (by have := hn.bl.size; have := hB.size; omega)))) hlt2
      refine ld (hx8.cell rfl) ?_
      rw [e3]
      refine ix ?_
      refine lda hAt3 ?_
      refine cl (r_typed t _) ?_
      rintro _ w9 ⟨rfl, h9⟩
      refine bs fun b10 w10 h10 => ?_
      have hB10 := h9.trans h10.bl
      have hsz10 : w1.heap.size ≤ w10.heap.size := by have := hB8'.size; have := hB10.size; omega
      have h1l : ([typed t] : List Rf).length = 1 := rfl
      refine apl (enc := encRf) (l1 := [typed t]) (hO8.bl hB10) (.inr ⟨b10, 0, rfl, h10.box.at⟩) hsz10 (fun a11 cap11 w11 hO11 hA11 hf11 => ?_)
      have e : (LL ++ (m.params.take j).map typed) ++ [typed t] = LL ++ (m.params.take (j + 1)).map typed := by rw [map_snoc hf3, List.append_assoc]
      rw [e] at hO11
      refine ih2 hlt2 ⟨a11, _, cap11, rfl, congrArg List.length e, hO11, ?_, ?_, ?_⟩
      · exact (hO8.bl hB10).below hA11 (Below.trans hB27 (hB10.mono hB8'.size)) hsz10
      · exact hA11.box (Bl.box hB10 hx8) hne8
      · intro e
        rcases hf11 _ e with h | h
        · exact hne8 h
        · have := hx8.lt; have := h9.size; have := h10.bl.size; omega
    refine brF ?_
    obtain rfl : j = m.params.length := by omega
    rw [List.take_length] at hO8
    rw [List.take_length]
    clear ih2
    have hLlen2 : (LL ++ m.params.map typed).length ≤ 520 := by rw [List.length_append, List.length_map]; omega
    generalize hL2 : LL ++ m.params.map typed = LM at hO8 hLlen2 ⊢
    refine lpk m.locals.length 11 [3] [(1, .pointer (some ⟨b, 0, none⟩)), (8, I k), (9, .pointer (some ⟨b5, 0, none⟩))] (fun j vals w' => ∃ a1 n q, vals = [.slice a1 n q] ∧ n = (LM ++ (m.locals.take j).map typed).length ∧
      OwP 3 encRf w' w1.heap.size 78 a1 q (LM ++ (m.locals.take j).map typed) ∧ Below w1.heap.size w2 w' ∧ Box w' b5 64 (mcells m am1 cm1 am2 cm2 am3 cm3) ∧ a1 ≠ some ⟨b5, 0, none⟩) ⟨a8, LM.length, cap8, rfl, by simp, by simpa using hO8, hB27, hx8, hne8⟩ ?_
    clear hO8 hB27 hx8 hne8 hB8'
    rintro j vals w7 hj ⟨a8, _, cap8, rfl, rfl, hO8, hB27, hx8, hne8⟩ ih2
    have hB8' : Below w1.heap.size w1 w7 := Below.trans hB hB27
    refine ld (hx8.cell rfl) ?_
    by_cases hlt2 : j < m.locals.length
    · refine brT ?_
      have hnj : (LM ++ (m.locals.take j).map typed).length ≤ 600 := by rw [List.length_append, List.length_map, List.length_take]; omega
      obtain ⟨t, b3, o3, cs3, hf3, e3, hS3, hAt3, rfl⟩ := at_some (h2.kp (Below.kp (hB27.mono (by have := hn.bl.size; have := hB.size; omega)))) hlt2
      refine ld (hx8.cell rfl) ?_
      rw [e3]
      refine ix ?_
      refine lda hAt3 ?_
      refine cl (r_typed t _) ?_
      rintro _ w9 ⟨rfl, h9⟩
      refine bs fun b10 w10 h10 => ?_
      have hB10 := h9.trans h10.bl
      have hsz10 : w1.heap.size ≤ w10.heap.size := by have := hB8'.size; have := hB10.size; omega
      have h1l : ([typed t] : List Rf).length = 1 := rfl
      refine apl (enc := encRf) (l1 := [typed t]) (hO8.bl hB10) (.inr ⟨b10, 0, rfl, h10.box.at⟩) hsz10 (fun a11 cap11 w11 hO11 hA11 hf11 => ?_)
      have e : (LM ++ (m.locals.take j).map typed) ++ [typed t] = LM ++ (m.locals.take (j + 1)).map typed := by rw [map_snoc hf3, List.append_assoc]
      rw [e] at hO11
      refine ih2 hlt2 ⟨a11, _, cap11, rfl, congrArg List.length e, hO11, ?_, ?_, ?_⟩
      · exact (hO8.bl hB10).below hA11 (Below.trans hB27 (hB10.mono hB8'.size)) hsz10
      · exact hA11.box (Bl.box hB10 hx8) hne8
      · intro e
        rcases hf11 _ e with h | h
        · exact hne8 h
        · have := hx8.lt; have := h9.size; have := h10.bl.size; omega
    refine brF ?_
    obtain rfl : j = m.locals.length := by omega
    rw [List.take_length] at hO8
    rw [List.take_length]
    clear ih2
    have hLlen3 : (LM ++ m.locals.map typed).length ≤ 540 := by rw [List.length_append, List.length_map]; omega
    refine lda (At.left (cs := [I m.result.kind, I m.result.cls]) hx8.at.tail.tail.tail.tail) ?_
    refine cl (r_typed m.result _) ?_
    rintro _ w9 ⟨rfl, h9⟩
    refine bs fun b10 w10 h10 => ?_
    have hB10 := h9.trans h10.bl
    have hsz10 : w1.heap.size ≤ w10.heap.size := by have := hB8'.size; have := hB10.size; omega
    have h1l : ([typed m.result] : List Rf).length = 1 := rfl
    refine apl (enc := encRf) (l1 := [typed m.result]) (hO8.bl hB10) (.inr ⟨b10, 0, rfl, h10.box.at⟩) hsz10 (fun a11 cap11 w11 hO11 hA11 hf11 => ?_)
    have e : (LM ++ m.locals.map typed) ++ [typed m.result] = Q ++ (u.methods.take (k + 1)).flatMap mref := by
      rw [flatMap_snoc hm, ← hL2, ← hLL]; simp only [mref, List.append_assoc]
    rw [e] at hO11
    exact ih hlt ⟨a11, _, cap11, rfl, congrArg List.length e, hO11, Below.trans hB ((hO8.bl hB10).below hA11 (Below.trans hB27 (hB10.mono hB8'.size)) hsz10)⟩
  refine brF ?_
  obtain rfl : k = u.methods.length := by omega
  rw [List.take_length] at hO hlen3
  rw [List.take_length]
  have e : Q ++ u.methods.flatMap mref = refs u := by rw [← hQ]; rfl
  rw [e] at hO ⊢
  refine rt1 ⟨a1, cap1, rfl, owp_sl hO ?_ (fun g hg => by have := (hO.lt hg).1; have := hn.size; omega), hn.bl.trans hB⟩
  rw [← e, List.length_append]; omega
end Go.Proofs.YtopjmiklpnejmaaGreatDoor
/- Walks: the places, the doubled names of a unit, in the document. -/
namespace Go.Proofs.YtopjmiklpnejmaaGreatDoor
open Eng Go.RowKit
theorem r_classless (u : Unt) (a : UA) (w : World) (hU : UnR T w u a) (hL : Lim u) : Ret Tryz.prog 132 #[.agg (ucells u a).toArray] w fun v w' => v = .bool (classless u) ∧ Bl w w' := by
  refine entr (vs := [.agg (ucells u a).toArray]) [0, 1, 2, 3, 4, 5, 6, 7, 8, 9, 14, 25, 39, 44, 54, 59, 79, 87] tabok Tryz.func132 (by kernel_rfl) ?_
  have hbc := hU.cls.big
  have hbm := hU.mth.big
  have hbs := hU.sta.big
  refine bx (cs := ucells u a) fun b w1 hn => ?_
  refine lpk u.classes.length 3 [] [(1, .pointer (some ⟨b, 0, none⟩))] (fun k vals w' => vals = [] ∧ (u.classes.take k).all bcls = true ∧ Bl w1 w') ⟨rfl, rfl, Bl.refl _⟩ ?_
  rintro k vals w2 hk ⟨rfl, ha, hB⟩ ih
  have hx := Bl.box hB hn.box
  refine ld (hx.cell rfl) ?_
  by_cases hlt : k < u.classes.length
  · refine brT ?_
    obtain ⟨c, b2, o2, cs, hc, e2, _, hAt, ac, cap, rfl, hf⟩ := at_some (hU.bl (hn.bl.trans hB)).cls hlt
    have hbf := hf.big
    refine lpk c.fields.length 4 [] [(1, .pointer (some ⟨b, 0, none⟩)), (3, I k)] (fun k vals w' => vals = [] ∧ ((c.fields.take k).all fun f => bare f.ty) = true ∧ Bl w2 w') ⟨rfl, rfl, Bl.refl _⟩ ?_
    rintro j vals w3 hj ⟨rfl, hb, hB3⟩ ih2
    have hx3 := Bl.box hB3 hx
    have hAt3 := hAt.bl hB3
    refine ld (hx3.cell rfl) ?_
    rw [e2]
    refine ix ?_
    refine ld (hAt3 2 _ rfl) ?_
    by_cases hlt2 : j < c.fields.length
    · refine brT ?_
      obtain ⟨f, b3, o3, cs3, hf3, e3, _, hAt4, rfl⟩ := at_some (hf.bl hB3) hlt2
      refine ld (hx3.cell rfl) ?_
      rw [e2]
      refine ix ?_
      refine ld (hAt3 2 _ rfl) ?_
      rw [e3]
      refine ix ?_
      refine lda hAt4.tail ?_
      refine cl (r_bare f.ty _) ?_
      rintro _ w4 ⟨rfl, hB4⟩
      refine br (t := !bare f.ty) (fun h1 => ?_) (fun h1 => ?_)
      · refine rt1 ⟨vb ?_, hn.bl.trans (hB.trans (hB3.trans hB4))⟩
        unfold classless
        rw [all_miss hc (all_miss hf3 (p := fun f => bare f.ty) (by simpa using h1))]; rfl
      · exact ih2 hlt2 ⟨rfl, all_snoc' hf3 hb (by simpa using h1), hB3.trans hB4⟩
    · refine brF ?_
      obtain rfl : j = c.fields.length := by omega
      exact ih hlt ⟨rfl, all_snoc' hc ha (all_end hb), hB.trans hB3⟩
  refine brF ?_
  obtain rfl : k = u.classes.length := by omega
  have hk1 := all_end ha
  have hB1 := hB
  clear ih
  refine lpk u.statics.length 5 [] [(1, .pointer (some ⟨b, 0, none⟩))] (fun k vals w' => vals = [] ∧ ((u.statics.take k).all fun f => bare f.ty) = true ∧ Bl w1 w') ⟨rfl, rfl, hB⟩ ?_
  rintro k vals w3 hk ⟨rfl, ha2, hB⟩ ih2
  have hx := Bl.box hB hn.box
  refine ld (hx.cell rfl) ?_
  by_cases hlt2 : k < u.statics.length
  · refine brT ?_
    obtain ⟨f, b3, o3, cs3, hf3, e3, _, hAt3, rfl⟩ := at_some (hU.bl (hn.bl.trans hB)).sta hlt2
    refine ld (hx.cell rfl) ?_
    rw [e3]
    refine ix ?_
    refine lda hAt3.tail ?_
    refine cl (r_bare f.ty _) ?_
    rintro _ w4 ⟨rfl, hB4⟩
    refine br (t := !bare f.ty) (fun h1 => ?_) (fun h1 => ?_)
    · refine rt1 ⟨vb ?_, hn.bl.trans (hB.trans hB4)⟩
      unfold classless
      rw [all_miss hf3 (p := fun f => bare f.ty) (by simpa using h1)]; simp
    · exact ih2 hlt2 ⟨rfl, all_snoc' hf3 ha2 (by simpa using h1), hB.trans hB4⟩
  refine brF ?_
  obtain rfl : k = u.statics.length := by omega
  have hk2 := all_end ha2
  have hk3 : classless u = u.methods.all bmth := by unfold classless; rw [hk1, hk2]; rfl
  clear ih2
  refine lpk u.methods.length 6 [] [(1, .pointer (some ⟨b, 0, none⟩))] (fun k vals w' => vals = [] ∧ (u.methods.take k).all bmth = true ∧ Bl w1 w') ⟨rfl, rfl, hB⟩ ?_
  rintro k vals w2 hk ⟨rfl, ha3, hB⟩ ih3
  have hx := Bl.box hB hn.box
  refine ld (hx.cell rfl) ?_
  by_cases hlt3 : k < u.methods.length
  · refine brT ?_
    refine ld (hx.cell rfl) ?_
    obtain ⟨m, b2, o2, cs, hm, e2, _, hAt, a1, c1, a2, c2, a3, c3, rfl, h1, h2, h3⟩ := at_some (hU.bl (hn.bl.trans hB)).mth hlt3
    have hml := hL.locs m (List.mem_of_getElem? hm)
    rw [e2]
    refine ix ?_
    refine lda hAt ?_
    refine al fun b5 w3 h5 => ?_
    refine sta h5.box fun w4 h6 hbx => ?_
    have hB4 : Bl w2 w4 := h5.wr h6
    refine dh (fun i => i < w4.heap.size) [0, 1, 3, 4, 6, 7, 2, 5, 8, 9] fun w5 h7 => ?_
    have hB5 := hB4.trans h7.bl
    have hbx5 : Box w5 b5 64 (mcells m a1 c1 a2 c2 a3 c3) := h7.box hbx
    have hl4 := hbx.lt
    have hz : w5.heap.size = w4.heap.size := by rw [h7.heap]
    refine lda (At.left (cs := [I m.result.kind, I m.result.cls]) hbx5.at.tail.tail.tail.tail) ?_
    refine ld (hbx5.cell rfl) ?_
    refine ld (hbx5.cell rfl) ?_
    refine bs fun b6 w6 h8 => ?_
    have hb6 := h8.blk
    have hB6 := hB5.trans h8.bl
    have hO6 : OwP 2 encTy w6 b6 61 (some ⟨b6, 0, none⟩) 1 [m.result] := Ow.made (n := 1) h8 rfl (by omega)
    refine apl (enc := encTy) (l0 := [m.result]) hO6 (src_of (h1.bl hB6)) (by have := h8.size; omega) (fun a7 cap7 w7 hO7 hA7 hf7 => ?_) (hm := apS fun g hg => by simp at hg; subst hg; show ¬ b6 < _; omega)
    have hB7 : Bl w2 w7 := Below.trans hB6 (hA7.below (by have := hB6.size; omega) fun g hg => by simp at hg; subst hg; have := hB5.size; omega)
    have hz7 := hA7.size
    have hl7 : ∀ g, a7 = some ⟨g, 0, none⟩ → w4.heap.size ≤ g := fun g hg => by
      rcases hf7 g hg with h | h
      · simp at h; omega
      · have := h8.size; omega
    refine apl (enc := encTy) (l0 := [m.result] ++ m.params) hO7 (src_of (h2.bl hB7)) (by have := h8.size; omega) (fun a8 cap8 w8 hO8 hA8 hf8 => ?_) (hm := apS fun g hg => by have := hl7 g hg; show ¬ g < _; omega)
    have hB8 : Bl w2 w8 := Below.trans hB7 (hA8.below hB7.size fun g hg => by have := hl7 g hg; have := hB4.size; omega)
    have hS7 : Sl eTy T w8 a8 (([m.result] ++ m.params) ++ m.locals) := owp_sl hO8 (by simp; omega) (fun _ _ => trivial)
    have hbn := hS7.big
    have hall : (([m.result] ++ m.params) ++ m.locals).all bare = bmth m := by rw [List.all_append, List.all_append]; simp [bmth]
    generalize ([m.result] ++ m.params) ++ m.locals = ts at hS7 hbn hall
    refine lpk ts.length 9 [] [(1, .pointer (some ⟨b, 0, none⟩)), (6, I k), (8, .slice a8 ts.length cap8)] (fun k vals w' => vals = [] ∧ (ts.take k).all bare = true ∧ Bl w8 w') ⟨rfl, rfl, Bl.refl _⟩ ?_
    rintro j vals w9 hj ⟨rfl, hb, hB9⟩ ih4
    by_cases hlt4 : j < ts.length
    · refine brT ?_
      obtain ⟨t, b8, o8, cs8, ht, rfl, _, hAt8, rfl⟩ := at_some (hS7.bl hB9) hlt4
      refine ix ?_
      refine lda hAt8 ?_
      refine cl (r_bare t _) ?_
      rintro _ w10 ⟨rfl, hB10⟩
      refine br (t := !bare t) (fun h1 => ?_) (fun h1 => ?_)
      · refine rt1 ⟨vb ?_, hn.bl.trans (hB.trans (hB8.trans (hB9.trans hB10)))⟩
        rw [hk3, all_miss hm]
        rw [← hall, all_miss ht (by simpa using h1)]
      · exact ih4 hlt4 ⟨rfl, all_snoc' ht hb (by simpa using h1), hB9.trans hB10⟩
    refine brF ?_
    obtain rfl : j = ts.length := by omega
    rw [all_end hb] at hall
    exact ih3 hlt3 ⟨rfl, all_snoc' hm ha3 hall.symm, hB.trans (hB8.trans hB9)⟩
  refine brF ?_
  obtain rfl : k = u.methods.length := by omega
  rw [all_end ha3] at hk3
  exact rt1 ⟨vb hk3.symm, hn.bl.trans hB⟩
theorem r_places (u : Unt) (a : UA) (rs : List Rf) (ar : Option Addr) (cr : Nat) (w : World) (hU : UnR T w u a) (hL : Lim u) (hR : Sl eRf T w ar rs) : Ret Tryz.prog 60 #[.agg (ucells u a).toArray, .slice ar rs.length cr] w fun v w' => v = .bool (rs.all (refOk u.pool.length) && classless u) ∧ Bl w w' := by
  refine entr (vs := [.agg (ucells u a).toArray, .slice ar rs.length cr]) [0, 1, 2, 4, 5, 6, 10, 26, 35] tabok Tryz.func60 (by kernel_rfl) ?_
  have hbr := hR.big
  refine bx (cs := ucells u a) fun b w1 hn => ?_
  refine lpk rs.length 5 [] [(1, .slice ar rs.length cr), (2, .pointer (some ⟨b, 0, none⟩))] (fun k vals w' => vals = [] ∧ (rs.take k).all (refOk u.pool.length) = true ∧ w1 = w') ⟨rfl, rfl, rfl⟩ ?_
  rintro k vals _ hk ⟨rfl, ha, rfl⟩ ih
  by_cases hlt : k < rs.length
  · refine brT ?_
    obtain ⟨r, b2, o2, cs, hr, rfl, _, hAt, rfl⟩ := at_some (hR.bl hn.bl) hlt
    refine ix ?_
    refine ld (hAt 0 _ rfl) ?_
    refine ixg (fun _ => hlt) ?_
    refine ldg (fun _ => hAt 2 _ rfl) ?_
    refine br (t := decide (r.at' = -1) && r.opt) (fun h1 => ?_) (fun h1 => ?_)
    · exact ih hlt ⟨rfl, all_snoc' hr ha (by unfold refOk; rw [h1]; rfl), rfl⟩
    · refine ldg (fun _ => hn.box.cell rfl) ?_
      refine br (t := decide (r.at' < 0) || decide (r.at' ≥ u.pool.length)) (fun h2 => ?_) (fun h2 => ?_)
      · refine rt1 ⟨vb ?_, hn.bl⟩
        rw [all_miss hr (by unfold refOk; rw [h1, h2]; rfl)]; rfl
      · exact ih hlt ⟨rfl, all_snoc' hr ha (by unfold refOk; rw [h1, h2]; rfl), rfl⟩
  refine brF ?_
  obtain rfl : k = rs.length := by omega
  refine lda hn.box.at ?_
  refine cl (r_classless u a _ (hU.bl hn.bl) hL) ?_
  rintro _ w2 ⟨rfl, hB⟩
  exact rt1 ⟨vb (by rw [all_end ha, Bool.true_and]), hn.bl.trans hB⟩
end Go.Proofs.YtopjmiklpnejmaaGreatDoor
/- Walks: doubled names; the codes' names, in the document. -/
namespace Go.Proofs.YtopjmiklpnejmaaGreatDoor
open Eng Go.RowKit
theorem r_twice (l : List ByteArray) (a : Option Addr) (cap : Nat) (S : Nat → Prop) (w : World) (hS : Sl eStr S w a l) : Ret Tryz.prog 71 #[.slice a l.length cap] w fun v w' => v = .bool (dup l) ∧ Bl w w' := by
  refine entr (vs := [.slice a l.length cap]) [0, 2, 3, 4, 8, 13, 24] tabok Tryz.func71 (by kernel_rfl) ?_
  have hbig := hS.big
  refine lpk l.length 3 [] [(0, .slice a l.length cap)] (fun k vals w' => vals = [] ∧ (∀ i j x, j < i → i < k → l[i]? = some x → l[j]? ≠ some x) ∧ Bl w w') ⟨rfl, by omega, Bl.refl _⟩ ?_
  rintro k vals w1 hk ⟨rfl, ha, hB⟩ ih
  by_cases hlt : k < l.length
  · refine brT ?_
    obtain ⟨x, b, o, cs, hx, rfl, hSb, hAt, rfl⟩ := at_some (hS.bl hB) hlt
    refine lpk k 4 [] [(0, .slice (some ⟨b, o, none⟩) l.length cap), (3, I k)] (fun k2 vals w' => vals = [] ∧ (∀ j, j < k2 → l[j]? ≠ some x) ∧ Bl w1 w') ⟨rfl, by omega, Bl.refl _⟩ ?_
    rintro j vals w2 hj ⟨rfl, hb, hB2⟩ ih2
    by_cases hlt2 : j < k
    · refine brT ?_
      refine ds fun w3 h3 => ?_
      obtain ⟨y, b2, o2, cs2, hy, e2, hSb2, hAt2, rfl⟩ := at_some (hS.bl ((hB.trans hB2).trans h3.bl)) (show j < l.length by omega)
      simp only [Option.some.injEq, Addr.mk.injEq, and_true] at e2
      obtain ⟨rfl, rfl⟩ := e2
      refine ix ?_
      refine ld (hAt.bl (hB2.trans h3.bl) 0 _ rfl) ?_
      refine ix ?_
      refine ld (hAt2 0 _ rfl) ?_
      refine br (fun h => ?_) (fun h => ?_)
      · have e := of_decide_eq_true h
        subst e
        exact rt1 ⟨vb (dup_iff.2 ⟨k, j, hlt2, x, hx, hy⟩).symm, hB.trans (hB2.trans h3.bl)⟩
      · have e := of_decide_eq_false h
        refine ih2 hlt2 ⟨rfl, fun j' hj' => ?_, hB2.trans h3.bl⟩
        by_cases h5 : j' = j
        · subst h5; rw [hy]; exact fun h6 => e (Option.some.inj h6).symm
        · exact hb j' (by omega)
    refine brF ?_
    obtain rfl : j = k := by omega
    refine ih hlt ⟨rfl, fun i' j' x' h1 h2 h3 => ?_, hB.trans hB2⟩
    by_cases h5 : i' = j
    · subst h5; rw [hx] at h3; simp only [Option.some.injEq] at h3; subst h3; exact hb j' h1
    · exact ha i' j' x' h1 (by omega) h3
  refine brF ?_
  obtain rfl : k = l.length := by omega
  refine rt1 ⟨vb ?_, hB⟩
  symm; rw [← Bool.not_eq_true]
  intro h
  obtain ⟨i, j, hij, x, h1, h2⟩ := dup_iff.1 h
  exact ha i j x hij (List.getElem?_eq_some_iff.1 h1).1 h1 h2
theorem r_Named (i : Ins) (w : World) : Ret Tryz.prog 163 #[.agg #[I i.op, I i.a, I i.b]] w fun v w' => v = .tuple #[I (named i).1, I (named i).2] ∧ Bl w w' := by
  refine entr (vs := [.agg #[I i.op, I i.a, I i.b]]) [0, 1, 2, 3, 5, 6, 9, 15, 17, 19, 28] tabok Tryz.func163 (by kernel_rfl) ?_
  refine bx (cs := [I i.op, I i.a, I i.b]) fun b w1 hn => ?_
  refine ld (hn.box.cell rfl) ?_
  have fin : ∀ {p : Int × Int}, named i = p → Value.tuple #[I p.1, I p.2] = .tuple #[I (named i).1, I (named i).2] := fun e => by rw [e]
  refine br (t := decide (i.op = 17)) (fun h17 => ?_) (fun h17 => ?_)
  · refine brt ?_ (hp := h17)
    have := of_decide_eq_true h17
    exact rt2 ⟨fin (p := (1, 3)) (by simp [named, this]), hn.bl⟩
  have n17 := of_decide_eq_false h17
  refine br (t := decide (i.op = 18)) (fun h => ?_) (fun h => ?_)
  · have := of_decide_eq_true h
    exact rt2 ⟨fin (p := (1, 3)) (by simp [named, this]), hn.bl⟩
  have n18 := of_decide_eq_false h
  refine br (t := decide (i.op = 14)) (fun h => ?_) (fun h => ?_)
  · refine brt ?_ (hp := h)
    have := of_decide_eq_true h
    exact rt2 ⟨fin (p := (1, 2)) (by simp [named, this]), hn.bl⟩
  have n14 := of_decide_eq_false h
  refine br (t := decide (i.op = 24)) (fun h => ?_) (fun h => ?_)
  · refine brt ?_ (hp := h)
    have := of_decide_eq_true h
    exact rt2 ⟨fin (p := (1, 2)) (by simp [named, this]), hn.bl⟩
  have n24 := of_decide_eq_false h
  refine br (t := decide (i.op = 22)) (fun h => ?_) (fun h => ?_)
  · refine brt ?_ (hp := h)
    have := of_decide_eq_true h
    exact rt2 ⟨fin (p := (1, 2)) (by simp [named, this]), hn.bl⟩
  have n22 := of_decide_eq_false h
  refine br (t := decide (i.op = 23)) (fun h => ?_) (fun h => ?_)
  · refine brt ?_ (hp := h)
    have := of_decide_eq_true h
    exact rt2 ⟨fin (p := (1, 2)) (by simp [named, this]), hn.bl⟩
  have n23 := of_decide_eq_false h
  refine br (t := decide (i.op = 25)) (fun h => ?_) (fun h => ?_)
  · have := of_decide_eq_true h
    exact rt2 ⟨fin (p := (1, 2)) (by simp [named, this]), hn.bl⟩
  have n25 := of_decide_eq_false h
  refine br (t := decide (i.op = 26)) (fun h => ?_) (fun h => ?_)
  · have := of_decide_eq_true h
    exact rt2 ⟨fin (p := (1, 1)) (by simp [named, this]), hn.bl⟩
  have n26 := of_decide_eq_false h
  refine br (t := decide (i.op = 16)) (fun h => ?_) (fun h => ?_)
  · have := of_decide_eq_true h
    exact rt2 ⟨fin (p := (2, 2)) (by simp [named, this]), hn.bl⟩
  have n16 := of_decide_eq_false h
  refine br (t := decide (i.op = 12)) (fun h => ?_) (fun h => ?_)
  · have h12 := of_decide_eq_true h
    refine ld (hn.box.cell rfl) ?_
    refine ldg (fun _ => hn.box.cell rfl) ?_
    refine br (t := decide (i.a = 2) || decide (i.a = 4)) (fun h => ?_) (fun h => ?_)
    · simp only [Bool.or_eq_true, decide_eq_true_eq] at h
      exact rt2 ⟨fin (p := (2, 2)) (by simp [named, h12, h]), hn.bl⟩
    · simp only [Bool.or_eq_false_iff, decide_eq_false_iff_not] at h
      exact rt2 ⟨fin (p := (0, 0)) (by simp [named, h12, h]), hn.bl⟩
  · have n12 := of_decide_eq_false h
    exact rt2 ⟨fin (p := (0, 0)) (by simp [named, n17, n18, n14, n24, n22, n23, n25, n26, n16, n12]), hn.bl⟩
theorem r_Operand (i : Ins) (w : World) : Ret Tryz.prog 135 #[.agg #[I i.op, I i.a, I i.b]] w fun v w' => v = .tuple #[I (operand i).1, I (operand i).2] ∧ Bl w w' := by
  refine entr (vs := [.agg #[I i.op, I i.a, I i.b]]) [0, 1, 2, 3, 4, 5, 12, 17] tabok Tryz.func135 (by kernel_rfl) ?_
  refine bx (cs := [I i.op, I i.a, I i.b]) fun b w1 hn => ?_
  refine lda hn.box.at ?_
  refine cl (r_Named i _) ?_
  rintro _ w2 ⟨rfl, hB⟩
  have hx := Bl.box hB hn.box
  refine br (fun h => ?_) (fun h => ?_)
  · have := of_decide_eq_true h
    refine ld (hx.cell rfl) ?_
    exact rt2 ⟨by unfold operand; rw [if_pos this], hn.bl.trans hB⟩
  have h1 := of_decide_eq_false h
  refine br (fun h => ?_) (fun h => ?_)
  · have := of_decide_eq_true h
    refine ld (hx.cell rfl) ?_
    exact rt2 ⟨by unfold operand; rw [if_neg h1, if_pos this], hn.bl.trans hB⟩
  · have h2 := of_decide_eq_false h
    exact rt2 ⟨by unfold operand; rw [if_neg h1, if_neg h2], hn.bl.trans hB⟩
end Go.Proofs.YtopjmiklpnejmaaGreatDoor
/- Walks: the codes of a unit, in the document. -/
namespace Go.Proofs.YtopjmiklpnejmaaGreatDoor
open Eng Go.RowKit
theorem nm_at {u : Unt} {i : Int} {x : ByteArray} (h : u.pool[i.toNat]? = some x) : nm u i = x := by unfold nm; rw [List.getD_eq_getElem?_getD, h]; rfl
theorem int_nat {i : Int} (h : 0 ≤ i) : i = ((i.toNat : Nat) : Int) := by omega
theorem r_codes (u : Unt) (a : UA) (w : World) (hU : UnR T w u a) (hV : ∀ m ∈ u.methods, ∀ i ∈ m.code, 0 < (operand i).2 → 0 ≤ (operand i).1) : Ret Tryz.prog 63 #[.agg (ucells u a).toArray] w fun v w' => v = .bool (codesOk u) ∧ Bl w w' := by
  refine entr (vs := [.agg (ucells u a).toArray]) [0, 1, 2, 3, 4, 5, 6, 11, 22, 56] tabok Tryz.func63 (by kernel_rfl) ?_
  have hbm := hU.mth.big
  refine bx (cs := ucells u a) fun b w1 hn => ?_
  refine lpk u.methods.length 3 [] [(1, .pointer (some ⟨b, 0, none⟩))] (fun k vals w' => vals = [] ∧ ((u.methods.take k).all fun m => m.code.all (insOk u)) = true ∧ Bl w1 w') ⟨rfl, rfl, Bl.refl _⟩ ?_
  rintro k vals w2 hk ⟨rfl, ha, hB⟩ ih
  have hx := Bl.box hB hn.box
  refine ld (hx.cell rfl) ?_
  by_cases hlt : k < u.methods.length
  · refine brT ?_
    obtain ⟨m, b2, o2, cs, hm, e2, _, hAt, a1, c1, a2, c2, a3, c3, rfl, h1, h2, h3⟩ := at_some (hU.bl (hn.bl.trans hB)).mth hlt
    have hbk := h3.big
    refine lpk m.code.length 4 [] [(1, .pointer (some ⟨b, 0, none⟩)), (3, I k)] (fun k vals w' => vals = [] ∧ (m.code.take k).all (insOk u) = true ∧ Bl w2 w') ⟨rfl, rfl, Bl.refl _⟩ ?_
    rintro j vals w3 hj ⟨rfl, hb, hB3⟩ ih2
    have hx3 := Bl.box hB3 hx
    refine ld (hx3.cell rfl) ?_
    rw [e2]
    refine ix ?_
    refine ld (hAt.bl hB3 6 _ rfl) ?_
    by_cases hlt2 : j < m.code.length
    · refine brT ?_
      obtain ⟨i, b3, o3, cs3, hi, e3, _, hAt3, rfl⟩ := at_some (h3.bl hB3) hlt2
      refine ld (hx3.cell rfl) ?_
      rw [e2]
      refine ix ?_
      refine ld (hAt.bl hB3 6 _ rfl) ?_
      rw [e3]
      refine ix ?_
      refine lda hAt3 ?_
      refine cl (r_Operand i _) ?_
      rintro _ w4 ⟨rfl, hB4⟩
      have hx4 := Bl.box hB4 hx3
      refine ldg (fun _ => hx4.cell rfl) ?_
      refine ldg2 (fun _ _ => hx4.cell rfl) ?_
      have hv := hV m (List.mem_of_getElem? hm) i (List.mem_of_getElem? hi)
      have hB24 := hB.trans (hB3.trans hB4)
      refine sp2 (.pointer (some ⟨0, 0, none⟩)) (fun p1 p2 => ?_) (fun p1 => ?_)
      · have q1 := of_decide_eq_true p1
        have q2 := of_decide_eq_false p2
        have q0 := hv q1
        obtain ⟨s, b5, o5, cs5, hs, e5, _, hAt5, rfl⟩ := at_some (hU.bl (hn.bl.trans hB24)).pool (show (operand i).1.toNat < u.pool.length by omega)
        rw [e5]
        refine ix (hij := int_nat q0) ?_
        refine ldg (fun _ => hAt5 0 _ rfl) ?_
        refine sp (I 0) (fun _ => ?_) (fun p => ?_)
        · refine cl (r_Path s _ (hU.ps s (List.mem_of_getElem? hs))) ?_
          rintro _ w5 ⟨rfl, hB5⟩
          refine br (t := decide ((path s : Int) ≠ (operand i).2)) (fun h => ?_) (fun h => ?_)
          · have e : insOk u i = false := by unfold insOk; rw [nm_at hs, p1, p2, h]; rfl
            refine rt1 ⟨vb ?_, hn.bl.trans (hB24.trans hB5)⟩
            unfold codesOk
            rw [all_miss hm (all_miss hi e)]
          · have e : insOk u i = true := by unfold insOk; rw [nm_at hs, p1, p2, h]; rfl
            exact ih2 hlt2 ⟨rfl, all_snoc' hi hb e, hB3.trans (hB4.trans hB5)⟩
        · cases p
      · refine ldg2 (v := .string ⟨#[]⟩) (fun e1 e2 => (p1 ⟨e1, e2⟩).elim) ?_
        refine sp2 (I 0) (fun e1 e2 => (p1 ⟨e1, e2⟩).elim) (fun _ => ?_)
        have hB4' := hn.bl.trans hB24
        refine br (t := decide (0 < (operand i).2) && (decide ((u.pool.length : Int) ≤ (operand i).1) || decide (¬ (0 : Int) = (operand i).2))) (fun h => ?_) (fun h => ?_)
        · have e : insOk u i = false := by
            unfold insOk
            revert p1 h
            simp only [ge_iff_le]
            cases decide (0 < (operand i).2) <;> cases decide ((u.pool.length : Int) ≤ (operand i).1) <;> simp
          refine rt1 ⟨vb ?_, hB4'⟩
          unfold codesOk
          rw [all_miss hm (all_miss hi e)]
        · have e : insOk u i = true := by
            unfold insOk
            revert p1 h
            simp only [ge_iff_le]
            cases decide (0 < (operand i).2) <;> cases decide ((u.pool.length : Int) ≤ (operand i).1) <;> simp
          exact ih2 hlt2 ⟨rfl, all_snoc' hi hb e, hB3.trans hB4⟩
    · refine brF ?_
      obtain rfl : j = m.code.length := by omega
      exact ih hlt ⟨rfl, all_snoc' hm ha (all_end hb), hB.trans hB3⟩
  refine brF ?_
  obtain rfl : k = u.methods.length := by omega
  exact rt1 ⟨vb (all_end ha).symm, hn.bl.trans hB⟩
end Go.Proofs.YtopjmiklpnejmaaGreatDoor
/- Walks: the doubled names of a unit, in the document. -/
namespace Go.Proofs.YtopjmiklpnejmaaGreatDoor
open Eng Go.RowKit
theorem pool_at {S : Nat → Prop} {w : World} {u : Unt} {a : UA} (h : UnR S w u a) {i : Int} (hi : inP u i) : ∃ b o, a.a1 = some ⟨b, o, none⟩ ∧ S b ∧ w.cell? ⟨b, o + i.toNat * 1, none⟩ = some (.string (nm u i)) ∧ (nm u i).size ≤ 1048576 ∧ i = ((i.toNat : Nat) : Int) ∧ i.toNat < u.pool.length := by
  obtain ⟨h1, h2⟩ := hi
  have h3 : i.toNat < u.pool.length := by omega
  obtain ⟨s, b, o, cs, hs, e, hS, hAt, rfl⟩ := at_some h.pool h3
  refine ⟨b, o, e, hS, ?_, ?_, by omega, h3⟩
  · rw [nm_at hs]; exact hAt 0 _ rfl
  · rw [nm_at hs]; exact h.ps s (List.mem_of_getElem? hs)
theorem r_doubled (u : Unt) (a : UA) (w : World) (hU : UnR T w u a) (hL : Lim u) (hP : Plc u) : Ret Tryz.prog 61 #[.agg (ucells u a).toArray] w fun v w' => v = .bool (doubled u) ∧ Bl w w' := by
  refine entr (vs := [.agg (ucells u a).toArray]) [0, 1, 2, 3, 4, 5, 6, 7, 8, 9, 10, 13, 18, 42, 63, 68, 88, 107] tabok Tryz.func61 (by kernel_rfl) ?_
  have hU0 := hU.lt
  have hl1 := hL.cls
  have hl2 := hL.sta
  have hl3 := hL.mth
  refine bx (cs := ucells u a) fun b w1 hn => ?_
  have hbl := hn.box.lt
  have hww : w.heap.size ≤ w1.heap.size := hn.bl.size
  refine ld (hn.box.cell rfl) ?_
  refine cl (r_twice u.pool _ _ T _ (hU.bl hn.bl).pool) ?_
  rintro _ w2 ⟨rfl, hB⟩
  refine br (fun h => ?_) (fun hd => ?_)
  · exact rt1 (v := .bool true) ⟨vb (by unfold doubled; simp [h]), hn.bl.trans hB⟩
  refine lpk u.classes.length 5 [3] [(1, .pointer (some ⟨b, 0, none⟩)), (4, .slice none 0 0)] (fun k vals w' => ∃ a1 n q, vals = [.slice a1 n q] ∧ n = ((u.classes.take k).map fun c => nm u c.name).length ∧ OwP 1 encStr w' w1.heap.size 9 a1 q ((u.classes.take k).map fun c => nm u c.name) ∧ (u.classes.take k).any (cdup u) = false ∧ Bl w1 w') ⟨none, 0, 0, rfl, rfl, Ow.nil .., rfl, hB⟩ ?_
  clear hB
  rintro k vals w2 hk ⟨a1, _, cap1, rfl, rfl, hO, hc0, hB⟩ ih
  have hx := Bl.box hB hn.box
  have hBs : w1.heap.size ≤ w2.heap.size := hB.size
  refine ld (hx.cell rfl) ?_
  by_cases hlt : k < u.classes.length
  · refine brT ?_
    have hUk := hU0.below (hn.bl.trans hB)
    obtain ⟨c, b2, o2, cs, hc, e2, hS2, hAt, ac, cap, rfl, hf⟩ := at_some hUk.cls hlt
    obtain ⟨b3, o3, e3, hS3, hc3, hz3, hi3, hp3⟩ := pool_at hUk (hP.cn c (List.mem_of_getElem? hc))
    have hkl : ((u.classes.take k).map fun c => nm u c.name).length ≤ 10 := by rw [List.length_map, List.length_take]; omega
    refine dh (fun i => i < w1.heap.size) (List.range 14) fun w3 h3 => ?_
    have hx3 := h3.box hx
    refine ld (hx3.cell rfl) ?_
    refine ld (hx3.cell rfl) ?_
    rw [e2]
    refine ix ?_
    refine ld (hAt.bl h3.bl 0 _ rfl) ?_
    rw [e3]
    refine ix (hij := hi3) ?_
    refine ld (h3.bl.kp T _ _ _ trivial hc3) ?_
    refine bs fun b4 w4 h4 => ?_
    have hB24 := h3.bl.trans h4.bl
    have hsz4 : w1.heap.size ≤ w4.heap.size := by have := hB24.size; omega
    have h1l : ([nm u c.name] : List ByteArray).length = 1 := rfl
    refine apl (enc := encStr) (l1 := [nm u c.name]) (hO.bl hB24) (.inr ⟨b4, 0, rfl, h4.box.at⟩) hsz4 (fun a5 cap5 w5 hO5 hA5 hf5 => ?_) (hm := apS (S := fun i => i < w1.heap.size) fun g hg => by have := (hO.lt hg).1; omega)
    have e : ((u.classes.take k).map fun c => nm u c.name) ++ [nm u c.name] = (u.classes.take (k + 1)).map fun c => nm u c.name := (map_snoc (f := fun c => nm u c.name) hc).symm
    rw [e] at hO5 ⊢
    have hB15 : Bl w1 w5 := (hO.bl hB24).below hA5 (hB.trans hB24) hsz4
    have hx5 := Bl.box hB15 hn.box
    have hlc := hL.flds c (List.mem_of_getElem? hc)
    refine lpk c.fields.length 7 [6] [(1, .pointer (some ⟨b, 0, none⟩)), (3, .slice a5 ((u.classes.take (k + 1)).map fun c => nm u c.name).length cap5), (4, .slice none 0 0), (5, I k)] (fun j vals w' => ∃ a1 n q, vals = [.slice a1 n q] ∧ n = ((c.fields.take j).map fun f => nm u f.name).length ∧ OwP 1 encStr w' w5.heap.size 9 a1 q ((c.fields.take j).map fun f => nm u f.name) ∧ Bl w5 w') ⟨none, 0, 0, rfl, rfl, Ow.nil .., Bl.refl _⟩ ?_
    rintro j vals w6 hj ⟨a6, _, cap6, rfl, rfl, hO6, hB6⟩ ih2
    have hx6 := Bl.box hB6 hx5
    have hB16 := hB15.trans hB6
    have hs56 : w5.heap.size ≤ w6.heap.size := hB6.size
    have hs15 : w1.heap.size ≤ w5.heap.size := hB15.size
    have hU6 := hU0.below (hn.bl.trans hB16)
    obtain ⟨c', b2', o2', cs', hc', e2', hS2', hAt', ac', cap', rfl, hf'⟩ := at_some hU6.cls hlt
    rw [hc] at hc'
    obtain rfl := Option.some.inj hc'
    refine ld (hx6.cell rfl) ?_
    rw [e2']
    refine ix ?_
    refine ld (hAt' 2 _ rfl) ?_
    by_cases hlt2 : j < c.fields.length
    · refine brT ?_
      obtain ⟨f, b7, o7, cs7, hf7, e7, hS7, hAt7, rfl⟩ := at_some hf' hlt2
      obtain ⟨b8, o8, e8, hS8, hc8, hz8, hi8, hp8⟩ := pool_at hU6 (hP.fn c (List.mem_of_getElem? hc) f (List.mem_of_getElem? hf7))
      have hjl : ((c.fields.take j).map fun f => nm u f.name).length ≤ 10 := by rw [List.length_map, List.length_take]; omega
      refine dh (fun i => i < w1.heap.size) (List.range 18) fun w7 h7 => ?_
      have hx7 := h7.box hx6
      refine ld (hx7.cell rfl) ?_
      refine ld (hx7.cell rfl) ?_
      rw [e2']
      refine ix ?_
      refine ld (hAt'.bl h7.bl 2 _ rfl) ?_
      rw [e7]
      refine ix ?_
      refine ld (hAt7.bl h7.bl 0 _ rfl) ?_
      rw [e8]
      refine ix (hij := hi8) ?_
      refine ld (h7.bl.kp T _ _ _ trivial hc8) ?_
      refine bs fun b9 w9 h9 => ?_
      have hB79 := h7.bl.trans h9.bl
      have hsz9 : w5.heap.size ≤ w9.heap.size := by have := hB79.size; omega
      have h1l : ([nm u f.name] : List ByteArray).length = 1 := rfl
      refine apl (enc := encStr) (l1 := [nm u f.name]) (hO6.bl hB79) (.inr ⟨b9, 0, rfl, h9.box.at⟩) hsz9 (fun a10 cap10 w10 hO10 hA10 hf10 => ?_) (hm := apS (S := fun i => i < w1.heap.size) fun g hg => by have := (hO6.lt hg).1; omega)
      have e' : ((c.fields.take j).map fun f => nm u f.name) ++ [nm u f.name] = (c.fields.take (j + 1)).map fun f => nm u f.name := (map_snoc (f := fun f => nm u f.name) hf7).symm
      rw [e'] at hO10
      exact ih2 hlt2 ⟨a10, _, cap10, rfl, congrArg List.length e', hO10, (hO6.bl hB79).below hA10 (hB6.trans hB79) hsz9⟩
    refine brF ?_
    obtain rfl : j = c.fields.length := by omega
    rw [List.take_length] at hO6 ⊢
    have hS6 : Sl eStr T w6 a6 (c.fields.map fun f => nm u f.name) := owp_sl hO6 (by rw [List.length_map]; omega) (fun _ _ => trivial)
    refine cl (r_twice _ _ _ T _ hS6) ?_
    rintro _ w11 ⟨rfl, hB11⟩
    refine br (fun h => ?_) (fun h => ?_)
    · refine rt1 ⟨vb ?_, hn.bl.trans (hB16.trans hB11)⟩
      unfold doubled
      rw [any_hit hc (p := cdup u) h]; simp
    · exact ih hlt ⟨a5, _, cap5, rfl, rfl, hO5.bl (hB6.trans hB11), any_snoc hc hc0 h, hB16.trans hB11⟩
  refine brF ?_
  obtain rfl : k = u.classes.length := by omega
  have hdc := any_end hc0
  clear ih hx hc0
  rw [List.take_length] at hO ⊢
  generalize hM : (u.classes.map fun c => nm u c.name) = M at hO ⊢
  have hMl : M.length ≤ 10 := by rw [← hM, List.length_map]; exact hl1
  refine lpk u.statics.length 8 [3] [(1, .pointer (some ⟨b, 0, none⟩)), (4, .slice none 0 0)] (fun k vals w' => ∃ a1 n q, vals = [.slice a1 n q] ∧ n = (M ++ (u.statics.take k).map fun c => nm u c.name).length ∧ OwP 1 encStr w' w1.heap.size 9 a1 q (M ++ (u.statics.take k).map fun c => nm u c.name) ∧ Bl w1 w') ⟨a1, M.length, cap1, rfl, by simp, by simpa using hO, hB⟩ ?_
  clear hO hB hBs
  rintro k vals w2 hk ⟨a1, _, cap1, rfl, rfl, hO, hB⟩ ih
  have hx := Bl.box hB hn.box
  have hBs : w1.heap.size ≤ w2.heap.size := hB.size
  refine ld (hx.cell rfl) ?_
  by_cases hlt : k < u.statics.length
  · refine brT ?_
    have hUk := hU0.below (hn.bl.trans hB)
    obtain ⟨c, b2, o2, cs, hc, e2, hS2, hAt, rfl⟩ := at_some hUk.sta hlt
    obtain ⟨b3, o3, e3, hS3, hc3, hz3, hi3, hp3⟩ := pool_at hUk (hP.sn c (List.mem_of_getElem? hc))
    have hkl : (M ++ (u.statics.take k).map fun c => nm u c.name).length ≤ 20 := by rw [List.length_append, List.length_map, List.length_take]; omega
    refine dh (fun i => i < w1.heap.size) (List.range 14) fun w3 h3 => ?_
    have hx3 := h3.box hx
    refine ld (hx3.cell rfl) ?_
    refine ld (hx3.cell rfl) ?_
    rw [e2]
    refine ix ?_
    refine ld (hAt.bl h3.bl 0 _ rfl) ?_
    rw [e3]
    refine ix (hij := hi3) ?_
    refine ld (h3.bl.kp T _ _ _ trivial hc3) ?_
    refine bs fun b4 w4 h4 => ?_
    have hB24 := h3.bl.trans h4.bl
    have hsz4 : w1.heap.size ≤ w4.heap.size := by have := hB24.size; omega
    have h1l : ([nm u c.name] : List ByteArray).length = 1 := rfl
    refine apl (enc := encStr) (l1 := [nm u c.name]) (hO.bl hB24) (.inr ⟨b4, 0, rfl, h4.box.at⟩) hsz4 (fun a5 cap5 w5 hO5 hA5 hf5 => ?_) (hm := apS (S := fun i => i < w1.heap.size) fun g hg => by have := (hO.lt hg).1; omega)
    have e : (M ++ (u.statics.take k).map fun c => nm u c.name) ++ [nm u c.name] = M ++ (u.statics.take (k + 1)).map fun c => nm u c.name := by rw [map_snoc (f := fun c => nm u c.name) hc, List.append_assoc]
    rw [e] at hO5
    exact ih hlt ⟨a5, _, cap5, rfl, congrArg List.length e, hO5, (hO.bl hB24).below hA5 (hB.trans hB24) hsz4⟩
  refine brF ?_
  obtain rfl : k = u.statics.length := by omega
  clear ih hx
  rw [List.take_length] at hO ⊢
  generalize hM2 : (M ++ u.statics.map fun c => nm u c.name) = M2 at hO ⊢
  have hMl2 : M2.length ≤ 20 := by rw [← hM2, List.length_append, List.length_map]; omega
  let hf : List Mth → List ByteArray := fun l => (l.filter fun m => decide (m.cls = -1)).map fun m => nm u m.name
  let ff : List Mth → List ByteArray := fun l => (l.filter fun m => !decide (m.cls = -1)).map fun m => dots (nm u m.cls) (nm u m.name)
  have hfl : ∀ l, (hf l).length ≤ l.length := fun l => by simp only [hf, List.length_map]; exact List.length_filter_le _ _
  have ffl : ∀ l, (ff l).length ≤ l.length := fun l => by simp only [ff, List.length_map]; exact List.length_filter_le _ _
  refine lpk u.methods.length 9 [3, 4] [(1, .pointer (some ⟨b, 0, none⟩))] (fun k vals w' => ∃ a1 n q a2 n2 q2, vals = [.slice a1 n q, .slice a2 n2 q2] ∧ n = (M2 ++ hf (u.methods.take k)).length ∧ n2 = (ff (u.methods.take k)).length ∧
    OwP 1 encStr w' w1.heap.size 9 a1 q (M2 ++ hf (u.methods.take k)) ∧ OwP 1 encStr w' w1.heap.size 9 a2 q2 (ff (u.methods.take k)) ∧ (∀ g, a1 = some ⟨g, 0, none⟩ → a2 ≠ some ⟨g, 0, none⟩) ∧ Bl w1 w') ⟨a1, M2.length, cap1, none, 0, 0, rfl, by simp [hf], rfl, by simpa [hf] using hO, Ow.nil .., fun _ _ => by simp, hB⟩ ?_
  clear hO hB hBs
  rintro k vals w2 hk ⟨a1, _, cap1, a2, _, cap2, rfl, rfl, rfl, hO, hO2, hd12, hB⟩ ih
  have hx := Bl.box hB hn.box
  have hBs : w1.heap.size ≤ w2.heap.size := hB.size
  refine ld (hx.cell rfl) ?_
  by_cases hlt : k < u.methods.length
  · refine brT ?_
    have hUk := hU0.below (hn.bl.trans hB)
    obtain ⟨m, b2, o2, cs, hm, e2, hS2, hAt, am1, cm1, am2, cm2, am3, cm3, rfl, h1, h2, h3⟩ := at_some hUk.mth hlt
    obtain ⟨b3, o3, e3, hS3, hc3, hz3, hi3, hp3⟩ := pool_at hUk (hP.mn m (List.mem_of_getElem? hm))
    have hkl : (M2 ++ hf (u.methods.take k)).length ≤ 40 := by have := hfl (u.methods.take k); rw [List.length_append]; rw [List.length_take] at this; omega
    have hkl2 : (ff (u.methods.take k)).length ≤ 20 := by have := ffl (u.methods.take k); rw [List.length_take] at this; omega
    refine ds fun w3 h3 => ?_
    have hx3 := h3.box hx
    refine ld (hx3.cell rfl) ?_
    refine ld (hx3.cell rfl) ?_
    rw [e2]
    refine ix ?_
    refine ld (hAt.bl h3.bl 0 _ rfl) ?_
    rw [e3]
    refine ix (hij := hi3) ?_
    refine ld (h3.bl.kp T _ _ _ trivial hc3) ?_
    refine ld (hx3.cell rfl) ?_
    rw [e2]
    refine ix ?_
    refine ld (hAt.bl h3.bl 1 _ rfl) ?_
    refine br (fun h => ?_) (fun h => ?_)
    · have hcl := of_decide_eq_true h
      have ef : ff (u.methods.take (k + 1)) = ff (u.methods.take k) := by simp [ff, take_succ_some hm, hcl]
      have eh : (M2 ++ hf (u.methods.take k)) ++ [nm u m.name] = M2 ++ hf (u.methods.take (k + 1)) := by simp [hf, take_succ_some hm, hcl]
      refine bs fun b4 w4 h4 => ?_
      have hB24 := h3.bl.trans h4.bl
      have hsz4 : w1.heap.size ≤ w4.heap.size := by have := hB24.size; omega
      have h1l : ([nm u m.name] : List ByteArray).length = 1 := rfl
      refine apl (enc := encStr) (l1 := [nm u m.name]) (hO.bl hB24) (.inr ⟨b4, 0, rfl, h4.box.at⟩) hsz4 (fun a5 cap5 w5 hO5 hA5 hf5 => ?_)
      rw [eh] at hO5
      have hO25 : OwP 1 encStr w5 w1.heap.size 9 a2 cap2 (ff (u.methods.take k)) := (hO2.bl hB24).same fun g hg => hA5.block g ((hO2.bl hB24).lt hg).2 fun e => hd12 g e hg
      refine ih hlt ⟨a5, _, cap5, a2, _, cap2, rfl, congrArg List.length eh, by rw [ef], hO5, by rw [ef]; exact hO25, fun g hg e => ?_, (hO.bl hB24).below hA5 (hB.trans hB24) hsz4⟩
      rcases hf5 g hg with h6 | h6
      · exact hd12 g h6 e
      · have := ((hO2.bl hB24).lt e).2; omega
    · have hcl := of_decide_eq_false h
      obtain ⟨b6, o6, e6, hS6, hc6, hz6, hi6, hp6⟩ := pool_at hUk ((hP.mc m (List.mem_of_getElem? hm)).resolve_left hcl)
      have eh : hf (u.methods.take (k + 1)) = hf (u.methods.take k) := by simp [hf, take_succ_some hm, hcl]
      have ef : ff (u.methods.take k) ++ [dots (nm u m.cls) (nm u m.name)] = ff (u.methods.take (k + 1)) := by simp [ff, take_succ_some hm, hcl]
      have hs13 : w1.heap.size ≤ w3.heap.size := by have := h3.bl.size; omega
      refine dh (fun i => i < w1.heap.size) (List.range 17) fun w7 h7 => ?_
      have hx7 := h7.box hx3
      have hB27 := h3.bl.trans h7.bl
      refine ld (hx7.cell rfl) ?_
      refine ld (hx7.cell rfl) ?_
      rw [e2]
      refine ix ?_
      refine ld (hAt.bl hB27 1 _ rfl) ?_
      rw [e6]
      refine ix (hij := hi6) ?_
      refine ld (hB27.kp T _ _ _ trivial hc6) ?_
      refine cat ?_ (hab := by rw [show ByteArray.size ⟨#[46]⟩ = 1 from rfl]; omega)
      refine cat ?_ (hab := by rw [ByteArray.size_append, show ByteArray.size ⟨#[46]⟩ = 1 from rfl]; omega)
      refine bs fun b4 w4 h4 => ?_
      have hB24 := hB27.trans h4.bl
      have hsz4 : w1.heap.size ≤ w4.heap.size := by have := hB24.size; omega
      have h1l : ([dots (nm u m.cls) (nm u m.name)] : List ByteArray).length = 1 := rfl
      refine apl (enc := encStr) (l1 := [dots (nm u m.cls) (nm u m.name)]) (hO2.bl hB24) (.inr ⟨b4, 0, rfl, h4.box.at⟩) hsz4 (fun a5 cap5 w5 hO5 hA5 hf5 => ?_) (hm := apS (S := fun i => i < w1.heap.size) fun g hg => by have := (hO2.lt hg).1; omega)
      rw [ef] at hO5
      have hO25 : OwP 1 encStr w5 w1.heap.size 9 a1 cap1 (M2 ++ hf (u.methods.take k)) := (hO.bl hB24).same fun g hg => hA5.block g ((hO.bl hB24).lt hg).2 fun e => hd12 g hg e
      refine ih hlt ⟨a1, _, cap1, a5, _, cap5, rfl, by rw [eh], congrArg List.length ef, by rw [eh]; exact hO25, hO5, fun g hg e => ?_, (hO2.bl hB24).below hA5 (hB.trans hB24) hsz4⟩
      rcases hf5 g e with h6 | h6
      · exact hd12 g hg h6
      · have := ((hO.bl hB24).lt hg).2; omega
  refine brF ?_
  obtain rfl : k = u.methods.length := by omega
  rw [List.take_length] at hO hO2 ⊢
  have hh : M2 ++ hf u.methods = heads u := by rw [← hM2, ← hM]; rfl
  have hff : ff u.methods = fulls u := rfl
  rw [hh] at hO ⊢
  rw [hff] at hO2 ⊢
  have l1 : (heads u).length ≤ 36 := by have := hfl u.methods; rw [← hh, List.length_append]; omega
  have l2 : (fulls u).length ≤ 16 := by have := ffl u.methods; rw [← hff]; omega
  have hS1 : Sl eStr T w2 a1 (heads u) := owp_sl hO (by omega) (fun _ _ => trivial)
  refine cl (r_twice _ _ _ T _ hS1) ?_
  rintro _ w3 ⟨rfl, hB3⟩
  have hdb : doubled u = (dup (heads u) || dup (fulls u)) := by unfold doubled; rw [hd, hdc]; rfl
  refine sp (.bool true) (fun p => ?_) (fun p => ?_)
  · have hS2 : Sl eStr T w3 a2 (fulls u) := owp_sl (hO2.bl hB3) (by omega) (fun _ _ => trivial)
    refine cl (r_twice _ _ _ T _ hS2) ?_
    rintro _ w4 ⟨rfl, hB4⟩
    refine rt1 ⟨vb ?_, hn.bl.trans (hB.trans (hB3.trans hB4))⟩
    rw [hdb, p]
  · refine rt1 ⟨vb ?_, hn.bl.trans (hB.trans hB3)⟩
    rw [hdb, p]; rfl
end Go.Proofs.YtopjmiklpnejmaaGreatDoor

/- Walks: the document's Check of a unit. -/
namespace Go.Proofs.YtopjmiklpnejmaaGreatDoor
open Eng Go.RowKit
def pathsOk (u : Unt) : Bool := u.pool.all fun s => decide (¬ (path s : Int) = 0)
def refsOk (u : Unt) : Bool := (refs u).all fun r => !(decide (0 ≤ r.at') && decide (¬ (path (nm u r.at') : Int) = r.parts))
def mErr (l : List Mth) : Int := match l with
  | [] => 0
  | m :: r => if codeE m.code true = 0 then mErr r else codeE m.code true
theorem mErr_hit {l : List Mth} {k : Nat} {m : Mth} (hm : l[k]? = some m) (h : ∀ x ∈ l.take k, codeE x.code true = 0) (h2 : codeE m.code true ≠ 0) : mErr l = codeE m.code true := by
  induction l generalizing k with
  | nil => simp at hm
  | cons y l ih =>
    cases k with
    | zero => simp at hm; subst hm; simp [mErr, h2]
    | succ k =>
      have h3 := h y (by simp)
      simp only [mErr, h3, if_true]
      exact ih (by simpa using hm) fun x hx => h x (by simp [hx])
theorem mErr_none {l : List Mth} (h : ∀ x ∈ l, codeE x.code true = 0) : mErr l = 0 := by
  induction l with
  | nil => rfl
  | cons y l ih => simp only [mErr, h y (by simp), if_true]; exact ih fun x hx => h x (by simp [hx])
def checkE (u : Unt) : Int :=
  if limits u = false then 2 else if simple u.name = false then 8 else if pathsOk u = false then 8 else if (kinds u && places u) = false then 1 else if refsOk u = false then 8 else if doubled u = true then 9
  else if mErr u.methods ≠ 0 then mErr u.methods else if codesOk u = false then 8 else 0
theorem operand_ge (i : Ins) (hv : validI i true = true) (h : 0 < (operand i).2) : 0 ≤ (operand i).1 := by
  obtain ⟨op, a, b⟩ := i
  have hr : 0 ≤ op ∧ op < 36 := by
    unfold validI at hv
    simp only [Bool.and_eq_true, decide_eq_true_eq] at hv
    exact ⟨hv.1.1.1.1, hv.1.1.1.2⟩
  have hc : op = 0 ∨ op = 1 ∨ op = 2 ∨ op = 3 ∨ op = 4 ∨ op = 5 ∨ op = 6 ∨ op = 7 ∨ op = 8 ∨ op = 9 ∨ op = 10 ∨ op = 11 ∨ op = 12 ∨ op = 13 ∨ op = 14 ∨ op = 15 ∨ op = 16 ∨ op = 17 ∨ op = 18 ∨ op = 19 ∨ op = 20 ∨ op = 21 ∨ op = 22 ∨ op = 23 ∨ op = 24 ∨ op = 25 ∨ op = 26 ∨ op = 27 ∨ op = 28 ∨ op = 29 ∨ op = 30 ∨ op = 31 ∨ op = 32 ∨ op = 33 ∨ op = 34 ∨ op = 35 := by omega
  rcases hc with rfl | rfl | rfl | rfl | rfl | rfl | rfl | rfl | rfl | rfl | rfl | rfl | rfl | rfl | rfl | rfl | rfl | rfl | rfl | rfl | rfl | rfl | rfl | rfl | rfl | rfl | rfl | rfl | rfl | rfl | rfl | rfl | rfl | rfl | rfl | rfl <;> first
    | (exfalso; revert h; simp [operand, named]; done)
    | (simp [operand, named]; simp [validI, inR, rngs, isPool, mosts] at hv; omega)
    | (by_cases h2 : a = 2 ∨ a = 4
       · simp [operand, named, h2]; simp [validI, inR, rngs, isPool] at hv; omega
       · exfalso; revert h; simp [operand, named, h2])
theorem r_Check (u : Unt) (a : UA) (w : World) (hU : UnR T w u a) : Ret Tryz.prog 22 #[.agg (ucells u a).toArray] w fun v w' => v = I (checkE u) ∧ Bl w w' := by
  refine entr (vs := [.agg (ucells u a).toArray]) [0, 1, 2, 3, 4, 5, 6, 7, 10, 14, 19, 28, 39, 43, 69, 71, 76, 87, 91] tabok Tryz.func22 (by kernel_rfl) ?_
  refine bx (cs := ucells u a) fun b w1 hn => ?_
  refine lda hn.box.at ?_
  refine cl (r_limits u a _ (hU.bl hn.bl)) ?_
  rintro _ w2 ⟨rfl, hB⟩
  have hx := Bl.box hB hn.box
  refine br (t := !limits u) (fun h => ?_) (fun h => ?_)
  · exact rt1 ⟨vi (by unfold checkE; rw [if_pos (by simpa using h)]), hn.bl.trans hB⟩
  have hl1 : limits u = true := by simpa using h
  have hL := lim_of hl1
  have hl2 := hL.pool
  have hl3 := hL.mth
  refine ld (hx.cell rfl) ?_
  refine cl (r_Simple u.name _ hU.nm) ?_
  rintro _ _ ⟨rfl, rfl⟩
  refine br (t := !simple u.name) (fun h => ?_) (fun h => ?_)
  · exact rt1 ⟨vi (by unfold checkE; rw [if_neg (by rw [hl1]; simp), if_pos (by simpa using h)]), hn.bl.trans hB⟩
  have hs1 : simple u.name = true := by simpa using h
  refine lpk u.pool.length 3 [] [(1, .pointer (some ⟨b, 0, none⟩))] (fun k vals w' => vals = [] ∧ ((u.pool.take k).all fun s => decide (¬ (path s : Int) = 0)) = true ∧ Bl w1 w') ⟨rfl, rfl, hB⟩ ?_
  rintro k vals w3 hk ⟨rfl, ha, hB3⟩ ih
  have hx3 := Bl.box hB3 hn.box
  refine ld (hx3.cell rfl) ?_
  by_cases hlt : k < u.pool.length
  · refine brT ?_
    obtain ⟨s, b4, o4, cs4, hs, e4, _, hAt4, rfl⟩ := at_some (hU.bl (hn.bl.trans hB3)).pool hlt
    refine ld (hx3.cell rfl) ?_
    rw [e4]
    refine ix ?_
    refine ld (hAt4 0 _ rfl) ?_
    refine cl (r_Path s _ (hU.ps s (List.mem_of_getElem? hs))) ?_
    rintro _ w4 ⟨rfl, hB4⟩
    refine br (t := decide ((path s : Int) = 0)) (fun h => ?_) (fun h => ?_)
    · have h0 := of_decide_eq_true h
      refine rt1 ⟨vi ?_, hn.bl.trans (hB3.trans hB4)⟩
      have : pathsOk u = false := all_miss hs (decide_eq_false (by simp [h0]))
      unfold checkE; rw [if_neg (by rw [hl1]; simp), if_neg (by rw [hs1]; simp), if_pos this]
    · exact ih hlt ⟨rfl, all_snoc' hs ha (decide_eq_true (of_decide_eq_false h)), hB3.trans hB4⟩
  refine brF ?_
  obtain rfl : k = u.pool.length := by omega
  have hp1 : pathsOk u = true := all_end ha
  have hE1 : checkE u = if (kinds u && places u) = false then 1 else if refsOk u = false then 8 else if doubled u = true then 9 else if mErr u.methods ≠ 0 then mErr u.methods else if codesOk u = false then 8 else 0 := by
    unfold checkE; rw [if_neg (by rw [hl1]; simp), if_neg (by rw [hs1]; simp), if_neg (by rw [hp1]; simp)]
  have hU3 := hU.bl (hn.bl.trans hB3)
  refine lda hx3.at ?_
  refine cl (r_Refs u a _ hU3 hL) ?_
  rintro _ w4 ⟨ar, cr, rfl, hR0, hB4⟩
  have hR : Sl eRf T w4 ar (refs u) := hR0.sub fun _ _ => trivial
  have hB14 := hB3.trans hB4
  have hx4 := Bl.box hB14 hn.box
  refine lda hx4.at ?_
  refine cl (r_kinds u a _ (hU3.bl hB4) hL) ?_
  rintro _ w5 ⟨rfl, hB5⟩
  have hB15 := hB14.trans hB5
  have hx5 := Bl.box hB15 hn.box
  refine sp (.agg (ucells u a).toArray) (fun q => ?_) (fun q => ?_)
  rotate_left
  · refine sp (.bool false) (fun q2 => ?_) (fun q2 => ?_)
    · rw [q] at q2; cases q2
    refine br (fun h => ?_) (fun h => ?_)
    · refine rt1 ⟨vi ?_, hn.bl.trans hB15⟩
      rw [hE1, if_pos]
      have : kinds u = false := by simpa using q
      rw [this]; rfl
    · rw [q] at h; simp at h
  have hk1 : kinds u = true := by simpa using q
  refine lda hx5.at ?_
  refine sp (.bool false) (fun q2 => ?_) (fun q2 => ?_)
  rotate_left
  · exact absurd q2 (by decide)
  refine cl (r_places u a (refs u) ar cr _ (hU3.bl (hB4.trans hB5)) hL (hR.bl hB5)) ?_
  rintro _ w6 ⟨rfl, hB6⟩
  have hB16 := hB15.trans hB6
  refine br (t := !places u) (fun h => ?_) (fun h => ?_)
  · refine rt1 ⟨vi ?_, hn.bl.trans hB16⟩
    rw [hE1, if_pos]
    have : places u = false := by simpa using h
    rw [this]; simp
  have hpl : places u = true := by simpa using h
  have hP : Plc u := plc_of (by unfold places at hpl; simp only [Bool.and_eq_true] at hpl; exact hpl.1)
  have hE2 : checkE u = if refsOk u = false then 8 else if doubled u = true then 9 else if mErr u.methods ≠ 0 then mErr u.methods else if codesOk u = false then 8 else 0 := by rw [hE1, if_neg (by rw [hk1, hpl]; simp)]
  have hR6 := (hR.bl hB5).bl hB6
  have hbr := hR6.big
  have hU6 := hU.bl (hn.bl.trans hB16)
  refine lpk (refs u).length 5 [] [(1, .pointer (some ⟨b, 0, none⟩)), (4, .slice ar (refs u).length cr)] (fun k vals w' => vals = [] ∧ (((refs u).take k).all fun r => !(decide (0 ≤ r.at') && decide (¬ (path (nm u r.at') : Int) = r.parts))) = true ∧ Bl w6 w') ⟨rfl, rfl, Bl.refl _⟩ ?_
  rintro k vals w7 hk ⟨rfl, ha, hB7⟩ ih
  by_cases hlt : k < (refs u).length
  · refine brT ?_
    obtain ⟨r, b8, o8, cs8, hr, rfl, _, hAt8, rfl⟩ := at_some (hR6.bl hB7) hlt
    have hx7 := Bl.box (hB16.trans hB7) hn.box
    have hrp : refOk u.pool.length r = true := by
      unfold places at hpl; simp only [Bool.and_eq_true] at hpl
      exact List.all_eq_true.1 hpl.1 r (List.mem_of_getElem? hr)
    refine dh T [0, 1, 2, 3, 4, 5, 6, 7, 8, 9, 10, 11, 12, 13, 14, 15, 17, 18, 19, 20, 21, 16, 22, 23] fun w8 h8 => ?_
    have hx8 := h8.box hx7
    have hAt9 := hAt8.bl h8.bl
    refine ix ?_
    refine ld (hAt9 0 _ rfl) ?_
    refine ldg (fun _ => hx8.cell rfl) ?_
    refine ixg (fun _ => hlt) ?_
    refine ldg (fun _ => hAt9 0 _ rfl) ?_
    refine sp (.pointer (some ⟨0, 0, none⟩)) (fun q => ?_) (fun q => ?_)
    · have q0 := of_decide_eq_true q
      have hin : inP u r.at' := by
        simp only [refOk, Bool.or_eq_true, Bool.and_eq_true, decide_eq_true_eq, Bool.not_eq_true', Bool.or_eq_false_iff, decide_eq_false_iff_not] at hrp
        exact ⟨q0, by omega⟩
      obtain ⟨b9, o9, e9, _, hc9, hz9, hi9, hp9⟩ := pool_at (hU6.bl (hB7.trans h8.bl)) hin
      rw [e9]
      refine ix (hij := hi9) ?_
      refine ldg (fun _ => hc9) ?_
      refine ixg (fun _ => hlt) ?_
      refine ldg (fun _ => hAt9 1 _ rfl) ?_
      refine sp (I 0) (fun _ => ?_) (fun p => ?_)
      · refine cl (r_Path (nm u r.at') _ hz9) ?_
        rintro _ w9 ⟨rfl, hB9⟩
        have hB79 := hB7.trans (h8.bl.trans hB9)
        refine br (t := decide (¬ (path (nm u r.at') : Int) = r.parts)) (fun h => ?_) (fun h => ?_)
        · refine rt1 ⟨vi ?_, hn.bl.trans (hB16.trans hB79)⟩
          rw [hE2, if_pos]
          exact all_miss hr (by rw [q, h]; rfl)
        · exact ih hlt ⟨rfl, all_snoc' hr ha (by rw [q, h]; rfl), hB79⟩
      · cases p
    · refine ldg (v := .string ⟨#[]⟩) (fun e => ?_) ?_
      · rw [q] at e; cases e
      refine ixg (fun _ => hlt) ?_
      refine ldg (fun _ => hAt9 1 _ rfl) ?_
      refine sp (I 0) (fun p => ?_) (fun p => ?_)
      · rw [q] at p; cases p
      refine br (fun h => ?_) (fun h => ?_)
      · rw [q] at h; simp at h
      · exact ih hlt ⟨rfl, all_snoc' hr ha (by rw [show decide (0 ≤ r.at') = false from q]; rfl), hB7.trans h8.bl⟩
  refine brF ?_
  obtain rfl : k = (refs u).length := by omega
  have hr1 : refsOk u = true := all_end ha
  have hE3 : checkE u = if doubled u = true then 9 else if mErr u.methods ≠ 0 then mErr u.methods else if codesOk u = false then 8 else 0 := by rw [hE2, if_neg (by rw [hr1]; simp)]
  have hx7 := Bl.box (hB16.trans hB7) hn.box
  refine lda hx7.at ?_
  refine cl (r_doubled u a _ (hU6.bl hB7) hL hP) ?_
  rintro _ w8 ⟨rfl, hB8⟩
  have hB18 := hB16.trans (hB7.trans hB8)
  refine br (fun h => ?_) (fun h => ?_)
  · exact rt1 ⟨vi (by rw [hE3, if_pos h]), hn.bl.trans hB18⟩
  have hE4 : checkE u = if mErr u.methods ≠ 0 then mErr u.methods else if codesOk u = false then 8 else 0 := by rw [hE3, if_neg (by rw [h]; simp)]
  refine lpk u.methods.length 6 [] [(1, .pointer (some ⟨b, 0, none⟩))] (fun k vals w' => vals = [] ∧ (∀ m ∈ u.methods.take k, codeE m.code true = 0) ∧ Bl w1 w') ⟨rfl, by simp, hB18⟩ ?_
  rintro k vals w9 hk ⟨rfl, ha9, hB9⟩ ih9
  have hx9 := Bl.box hB9 hn.box
  have hU9 := hU.bl (hn.bl.trans hB9)
  refine ld (hx9.cell rfl) ?_
  by_cases hlt : k < u.methods.length
  · refine brT ?_
    obtain ⟨m, b2, o2, cs, hm, e2, _, hAt, a1, c1, a2, c2, a3, c3, rfl, h1, h2, h3⟩ := at_some hU9.mth hlt
    refine ld (hx9.cell rfl) ?_
    rw [e2]
    refine ix ?_
    refine ld (hAt 6 _ rfl) ?_
    refine cl (r3_Check m.code _ _ true T _ h3) ?_
    rintro _ w10 ⟨rfl, hB10⟩
    refine br (t := decide (¬ codeE m.code true = 0)) (fun h => ?_) (fun h => ?_)
    · have h4 := of_decide_eq_true h
      refine rt1 ⟨vi ?_, hn.bl.trans (hB9.trans hB10)⟩
      have := mErr_hit hm ha9 h4
      rw [hE4, if_pos (by rw [this]; exact h4), this]
    · have h4 := Classical.not_not.1 (of_decide_eq_false h)
      refine ih9 hlt ⟨rfl, fun y hy => ?_, hB9.trans hB10⟩
      rw [take_succ_some hm, List.mem_append] at hy
      rcases hy with hy | hy
      · exact ha9 y hy
      · simp at hy; subst hy; exact h4
  refine brF ?_
  obtain rfl : k = u.methods.length := by omega
  rw [List.take_length] at ha9
  have hE5 : checkE u = if codesOk u = false then 8 else 0 := by rw [hE4, if_neg (by rw [mErr_none ha9]; simp)]
  refine lda hx9.at ?_
  refine cl (r_codes u a _ hU9 ?_) ?_
  · intro m hm i hi
    refine operand_ge i ?_
    have := ha9 m hm
    unfold codeE at this
    split at this
    · cases this
    · split at this
      · rename_i hv
        exact List.all_eq_true.1 hv i hi
      · cases this
  rintro _ w10 ⟨rfl, hB10⟩
  refine br (t := !codesOk u) (fun h => ?_) (fun h => ?_)
  · exact rt1 ⟨vi (by rw [hE5, if_pos (by simpa using h)]), hn.bl.trans (hB9.trans hB10)⟩
  · exact rt1 ⟨vi (by rw [hE5, if_neg (by simpa using h)]), hn.bl.trans (hB9.trans hB10)⟩
end Go.Proofs.YtopjmiklpnejmaaGreatDoor

/- Walks: names out of the pool; names that are there twice. -/
namespace Go.Proofs.YtopjmiklpnejmaaGreatDoor
open Eng Go.RowKit
def joinB (xs : List ByteArray) : ByteArray := ⟨(Lib.join (xs.map toL) [46]).toArray⟩
def picked (u : Unt) (l : List Int) : List ByteArray := (l.filter fun i => decide (0 ≤ i)).map (nm u)
theorem joinB_one (x : ByteArray) : joinB [x] = x := by cases x; simp [joinB, Lib.join]
theorem joinB_two (x y : ByteArray) : joinB [x, y] = dots x y := by
  apply ba_ext
  simp [joinB, Lib.join, dots]
theorem join_len : ∀ xs : List ByteArray, (∀ x ∈ xs, x.size ≤ 1048576) → (Lib.join (xs.map toL) [46]).length ≤ xs.length * 1048577
  | [], _ => by simp [Lib.join]
  | [x], h => by
    have := h x (by simp)
    show (Lib.join [toL x] [46]).length ≤ _
    rw [Lib.join_one, ba_len]; simp; omega
  | x :: y :: r, h => by
    have := join_len (y :: r) fun z hz => h z (List.mem_cons_of_mem _ hz)
    have h1 := h x (by simp)
    have e : Lib.join ((x :: y :: r).map toL) [46] = toL x ++ ([46] ++ Lib.join ((y :: r).map toL) [46]) := by simp [Lib.join, List.intercalate]
    rw [e, List.length_append, List.length_append, ba_len]
    simp only [List.length_cons, List.length_nil] at this ⊢
    omega
theorem u_named (u : Unt) (a : UA) (b0 : Nat) (l : List Int) (aL : Option Addr) (cL : Nat) (S : Nat → Prop) (w : World) (hU : UnR S w u a) (hx : At w b0 0 (ucells u a)) (hl : Sl eInt T w aL l) (hn : l.length ≤ 16) (hin : ∀ i ∈ l, 0 ≤ i → inP u i) :
    Ret Tryz.prog 82 #[.pointer (some ⟨b0, 0, none⟩), .slice aL l.length cL] w fun v w' => v = .string (joinB (picked u l)) ∧ Bl w w' := by
  refine entr (vs := [.pointer (some ⟨b0, 0, none⟩), .slice aL l.length cL]) [0, 1, 4, 5, 7, 8, 9, 10, 11, 15] tabok Tryz.func82 (by kernel_rfl) ?_
  refine lpk l.length 10 [5] [(0, .pointer (some ⟨b0, 0, none⟩)), (8, .slice aL l.length cL), (9, I l.length)] (fun k vals w' => ∃ a5 c5, vals = [.slice a5 (picked u (l.take k)).length c5] ∧ OwP 1 encStr w' w.heap.size 9 a5 c5 (picked u (l.take k)) ∧ Bl w w') ⟨none, 0, rfl, Ow.nil _ _ _ _, Bl.refl _⟩ ?_
  rintro k vals w1 hk ⟨a5, c5, rfl, hO, hB⟩ ih
  have hpl : (picked u (l.take k)).length ≤ 16 := by
    unfold picked
    rw [List.length_map]
    exact Nat.le_trans (List.length_filter_le _ _) (Nat.le_trans (List.length_take_le' _ _) hn)
  by_cases hlt : k < l.length
  · refine brT ?_
    obtain ⟨i, bi, oi, cs, hi, rfl, _, hAt, rfl⟩ := at_some (hl.bl hB) hlt
    refine ix ?_
    refine ld (hAt 0 _ rfl) ?_
    refine br (fun h => ?_) (fun h => ?_)
    · have h0 : 0 ≤ i := of_decide_eq_true h
      have hP := hin i (List.mem_of_getElem? hi) h0
      have e1 : picked u (l.take (k + 1)) = picked u (l.take k) ++ [nm u i] := by unfold picked; rw [take_succ_some hi, List.filter_append, List.map_append]; simp [h0]
      refine ld ((hx.bl hB) 1 _ rfl) ?_
      obtain ⟨b9, o9, e9, _, hc9, hz9, hi9, hp9⟩ := pool_at (hU.bl hB) hP
      rw [e9]
      refine ix (hij := hi9) ?_
      refine ld hc9 ?_
      refine bs fun b2 w2 h2 => ?_
      refine apl (l1 := [nm u i]) (hO.bl h2.bl) (.inr ⟨b2, 0, rfl, h2.box.at⟩) (hB.trans h2.bl).size (fun a' cap' w3 hO3 hA _ => ?_)
      refine ih hlt ⟨a', cap', ?_, ?_, Eng.Ow.below (hO.bl h2.bl) hA (hB.trans h2.bl) (hB.trans h2.bl).size⟩
      · rw [e1]
      · rw [e1]; exact hO3
    · have h0 : ¬ 0 ≤ i := of_decide_eq_false h
      have e1 : picked u (l.take (k + 1)) = picked u (l.take k) := by unfold picked; rw [take_succ_some hi, List.filter_append, List.map_append]; simp [h0]
      exact ih hlt ⟨a5, c5, by rw [e1], by rw [e1]; exact hO, hB⟩
  refine brF ?_
  obtain rfl : k = l.length := by omega
  rw [List.take_length] at hO hpl ⊢
  have hsz : ∀ x ∈ picked u l, x.size ≤ 1048576 := fun x hx => by
    unfold picked at hx
    obtain ⟨i, hi, rfl⟩ := List.mem_map.1 hx
    rw [List.mem_filter] at hi
    obtain ⟨b9, o9, e9, _, hc9, hz9, hi9, hp9⟩ := pool_at hU (hin i hi.1 (of_decide_eq_true hi.2))
    exact hz9
  refine cl (R := fun v w' => v = .string (joinB (picked u l)) ∧ Bl w1 w') ?_ ?_
  · refine ⟨by kernel_rfl, ?_⟩
    rcases hO.shape with ⟨rfl, h0, rfl, _⟩ | ⟨g, cur, rfl, hg, hgb, hn2, hcs, htk⟩
    · have : picked u l = [] := List.eq_nil_of_length_eq_zero h0
      rw [this]
      refine (Tryz.strings_Join_none none 0 ⟨#[46]⟩ w1).mono ?_
      rintro e w3 ⟨rfl, rfl⟩
      exact ⟨rfl, Bl.refl _⟩
    · have hjl := join_len (picked u l) hsz
      refine (Tryz.strings_Join g 0 c5 (picked u l) ⟨#[46]⟩ w1 (fun j x hx => ?_) (Array.getElem?_eq_some_iff.1 hgb).1 (by omega) hn2 ?_).mono ?_
      · have h2 := hO.at rfl (j * 1 + 0) (.string x) (by rw [flat_get (sz := 1) (enc := encStr) (fun _ => rfl) hx 0 (by decide)]; rfl)
        simpa using h2
      · exact Nat.le_trans hjl (by omega)
      rintro e w3 ⟨rfl, hb⟩
      exact ⟨rfl, hb⟩
  rintro _ w2 ⟨rfl, hB2⟩
  exact rt1 ⟨rfl, hB.trans hB2⟩
end Go.Proofs.YtopjmiklpnejmaaGreatDoor

/- Walks: the program's word on names that must differ. -/
namespace Go.Proofs.YtopjmiklpnejmaaGreatDoor
open Eng Go.RowKit
theorem Eng.Ow.oth {w w' : World} {base e esz n cap : Nat} {a a2 : Option Addr} {xs : List Value} (h : Ow w base e esz a n cap xs) (k : Ap w a2 w') (hne : ∀ g, a = some ⟨g, 0, none⟩ → a2 ≠ some ⟨g, 0, none⟩) : Ow w' base e esz a n cap xs := h.same fun g hg => k.block g (h.lt hg).2 (hne g hg)
theorem named1 (u : Unt) (a : UA) (b0 : Nat) (i : Int) (S : Nat → Prop) {w0 w : World} {b : Nat} (hn : New w0 b 3 [I i] w) (hU : UnR S w u a) (hx : At w b0 0 (ucells u a)) (hi : inP u i) :
    Ret Tryz.prog 82 #[.pointer (some ⟨b0, 0, none⟩), .slice (some ⟨b, 0, none⟩) 1 1] w fun v w' => v = .string (nm u i) ∧ Bl w w' := by
  have hO : OwP 1 encInt w b 3 (some ⟨b, 0, none⟩) 1 [i] := Ow.made (n := 1) hn rfl (by omega)
  refine (u_named u a b0 [i] _ 1 S w hU hx (owp_sl hO (by simp) (fun _ _ => trivial)) (by simp) (fun j hj _ => ?_)).mono ?_
  · simp at hj; subst hj; exact hi
  rintro v w' ⟨rfl, hB⟩
  refine ⟨?_, hB⟩
  have : picked u [i] = [nm u i] := by simp [picked, hi.1]
  rw [this, joinB_one]
theorem named2 (u : Unt) (a : UA) (b0 : Nat) (i j : Int) (S : Nat → Prop) {w0 w : World} {b : Nat} (hn : New w0 b 3 [I i, I j] w) (hU : UnR S w u a) (hx : At w b0 0 (ucells u a)) (hi : inP u i) (hj : inP u j) :
    Ret Tryz.prog 82 #[.pointer (some ⟨b0, 0, none⟩), .slice (some ⟨b, 0, none⟩) 2 2] w fun v w' => v = .string (dots (nm u i) (nm u j)) ∧ Bl w w' := by
  have hO : OwP 1 encInt w b 3 (some ⟨b, 0, none⟩) 2 [i, j] := Ow.made (n := 2) hn rfl (by omega)
  refine (u_named u a b0 [i, j] _ 2 S w hU hx (owp_sl hO (by simp) (fun _ _ => trivial)) (by simp) (fun k hk _ => ?_)).mono ?_
  · simp at hk; rcases hk with rfl | rfl
    · exact hi
    · exact hj
  rintro v w' ⟨rfl, hB⟩
  refine ⟨?_, hB⟩
  have : picked u [i, j] = [nm u i, nm u j] := by simp [picked, hi.1, hj.1]
  rw [this, joinB_two]
theorem app1 {n m : Nat} (h : n ≤ 100) (hm : m = 1) : (n + m) * 16 ≤ 140737488355328 := by omega
theorem u_doubled (u : Unt) (a : UA) (b0 : Nat) (w : World) (hU : UnR T w u a) (hx : At w b0 0 (ucells u a)) (hL : Lim u) (hP : Plc u) : Ret Tryz.prog 54 #[.pointer (some ⟨b0, 0, none⟩)] w fun v w' => v = .bool (doubled u) ∧ Bl w w' := by
  have n1 := hL.cls
  have n2 := hL.sta
  have n3 := hL.mth
  refine entr (vs := [.pointer (some ⟨b0, 0, none⟩)]) [0, 2, 3, 4, 6, 7, 9, 11, 13, 17, 18, 19, 20, 32, 33, 34, 35, 48, 53, 54, 55, 56, 71, 72, 73, 74, 79] tabok Tryz.func54 (by kernel_rfl) ?_
  refine ld (hx 2 _ rfl) ?_
  refine lpk u.classes.length 19 [3] [(0, .pointer (some ⟨b0, 0, none⟩)), (2, .bool false), (4, .slice none 0 0), (17, .slice a.a2 u.classes.length a.c2), (18, I u.classes.length)]
    (fun k vals w' => ∃ a3 c3, vals = [.slice a3 ((u.classes.take k).map fun c => nm u c.name).length c3] ∧ OwP 1 encStr w' w.heap.size 9 a3 c3 ((u.classes.take k).map fun c => nm u c.name) ∧ (u.classes.take k).any (cdup u) = false ∧ Bl w w') ⟨none, 0, rfl, Ow.nil _ _ _ _, rfl, Bl.refl _⟩ ?_
  rintro k vals w1 hk ⟨a3, c3, rfl, hO, hany, hB⟩ ih
  have ht1 : ((u.classes.take k).map fun c => nm u c.name).length ≤ 10 := by rw [List.length_map, List.length_take]; omega
  by_cases hlt : k < u.classes.length
  · refine brT ?_
    obtain ⟨c, b, o, cs, hc, e2, hSb, hAt, af, cf, rfl, hF⟩ := at_some hU.cls hlt
    have hcm := List.mem_of_getElem? hc
    have nf := hL.flds c hcm
    rw [e2]
    refine ix ?_
    refine lda (hAt.bl hB) ?_
    refine al fun b2 w2 h2 => ?_
    refine sta h2.box (fun w3 h3 y3 => ?_)
    have hB3 : Bl w w3 := hB.trans (Eng.New.wr h2 h3)
    refine ld (y3.cell rfl) ?_
    refine bs fun b4 w4 h4 => ?_
    have hB4 := hB3.trans h4.bl
    refine cl (named1 u a b0 c.name T h4 (hU.bl hB4) (hx.bl hB4) (hP.cn c hcm)) ?_
    rintro _ w5 ⟨rfl, hB5⟩
    refine bs fun b6 w6 h6 => ?_
    have hB6 := (hB4.trans hB5).trans h6.bl
    have hO6 := ((hO.bl (Eng.New.wr h2 h3)).bl h4.bl).bl (hB5.trans h6.bl)
    refine apl (l1 := [nm u c.name]) hO6 (.inr ⟨b6, 0, rfl, h6.box.at⟩) hB6.size (fun a7 c7 w7 hO7 hA7 _ => ?_) (hb := by simp only [List.length_cons, List.length_nil]; omega) (hn := by simp only [List.length_cons, List.length_nil]; omega)
    have hB7 : Bl w w7 := Eng.Ow.below hO6 hA7 hB6 hB6.size
    have y7 := hA7.box (Bl.box ((h4.bl.trans hB5).trans h6.bl) y3) (fun e => by have := (hO.lt e).2; have := h2.blk; omega)
    have e1 : (u.classes.take (k + 1)).map (fun c => nm u c.name) = (u.classes.take k).map (fun c => nm u c.name) ++ [nm u c.name] := map_snoc hc
    refine ld (y7.cell rfl) ?_
    refine lpk c.fields.length 34 [7] [(0, .pointer (some ⟨b0, 0, none⟩)), (2, .bool false), (4, .slice none 0 0), (17, .slice (some ⟨b, o, none⟩) u.classes.length a.c2), (18, I u.classes.length), (19, I k), (3, .slice a7 ((u.classes.take k).map (fun c => nm u c.name) ++ [nm u c.name]).length c7), (32, .slice af c.fields.length cf), (33, I c.fields.length)]
      (fun i vals w' => ∃ a8 c8, vals = [.slice a8 ((c.fields.take i).map fun f => nm u f.name).length c8] ∧ OwP 1 encStr w' w7.heap.size 9 a8 c8 ((c.fields.take i).map fun f => nm u f.name) ∧ Bl w7 w') ⟨none, 0, rfl, Ow.nil _ _ _ _, Bl.refl _⟩ ?_
    rintro i vals w8 hi ⟨a8, c8, rfl, hO8, hB8⟩ ih2
    have ht2 : ((c.fields.take i).map fun f => nm u f.name).length ≤ 7 := by rw [List.length_map, List.length_take]; omega
    have hB08 := hB7.trans hB8
    by_cases hlt2 : i < c.fields.length
    · refine brT ?_
      obtain ⟨f, bf, off, cs, hf, rfl, _, hAtf, rfl⟩ := at_some hF hlt2
      refine ix ?_
      refine lda (hAtf.bl hB08) ?_
      refine al fun b9 w9 h9 => ?_
      refine sta h9.box (fun w10 h10 y10 => ?_)
      have hB10 := Eng.New.wr h9 h10
      refine ld (y10.cell rfl) ?_
      refine bs fun b11 w11 h11 => ?_
      have hB11 := hB10.trans h11.bl
      refine cl (named1 u a b0 f.name T h11 (hU.bl (hB08.trans hB11)) (hx.bl (hB08.trans hB11)) (hP.fn c hcm f (List.mem_of_getElem? hf))) ?_
      rintro _ w12 ⟨rfl, hB12⟩
      refine bs fun b13 w13 h13 => ?_
      have hB13 := (hB11.trans hB12).trans h13.bl
      have hO13 := hO8.bl hB13
      refine apl (l1 := [nm u f.name]) hO13 (.inr ⟨b13, 0, rfl, h13.box.at⟩) (hB8.trans hB13).size (fun a14 c14 w14 hO14 hA14 _ => ?_) (hb := by simp only [List.length_cons, List.length_nil]; omega) (hn := by simp only [List.length_cons, List.length_nil]; omega)
      have e3 : (c.fields.take (i + 1)).map (fun f => nm u f.name) = (c.fields.take i).map (fun f => nm u f.name) ++ [nm u f.name] := map_snoc hf
      exact ih2 hlt2 ⟨a14, c14, by rw [e3], by rw [e3]; exact hO14, Eng.Ow.below hO13 hA14 (hB8.trans hB13) (hB8.trans hB13).size⟩
    refine brF ?_
    obtain rfl : i = c.fields.length := by omega
    rw [List.take_length] at hO8 ⊢
    refine cl (u_twice (c.fields.map fun f : Fld => nm u f.name) a8 c8 T w8 (owp_sl hO8 (by rw [List.length_map]; omega) (fun _ _ => trivial))) ?_
    rintro _ w9 ⟨rfl, hB9⟩
    refine br (t := cdup u c) (fun h => ?_) (fun h => ?_)
    · refine rt1 ⟨vb ?_, hB08.trans hB9⟩
      have : u.classes.any (cdup u) = true := List.any_eq_true.2 ⟨c, hcm, h⟩
      unfold doubled; rw [this]; simp
    · refine ih hlt ⟨a7, c7, by rw [e1], by rw [e1]; exact (hO7.bl hB8).bl hB9, any_snoc hc hany h, hB08.trans hB9⟩ (hsub := by simp only [e2]; repeat (first | exact True.intro | (refine ⟨rfl, ?_⟩)))
  refine brF ?_
  obtain rfl : k = u.classes.length := by omega
  have hany' := any_end hany
  rw [List.take_length] at hO ht1 ⊢
  refine ld ((hx.bl hB) 3 _ rfl) ?_
  refine lpk (vals := [.slice a3 (u.classes.map fun c => nm u c.name).length c3]) u.statics.length 55 [3] [(0, .pointer (some ⟨b0, 0, none⟩)), (4, .slice none 0 0), (53, .slice a.a3 u.statics.length a.c3), (54, I u.statics.length)]
    (fun k vals w' => ∃ a3 c3, vals = [.slice a3 ((u.classes.map fun c => nm u c.name) ++ (u.statics.take k).map fun f => nm u f.name).length c3] ∧ OwP 1 encStr w' w.heap.size 9 a3 c3 ((u.classes.map fun c => nm u c.name) ++ (u.statics.take k).map fun f => nm u f.name) ∧ Bl w w') ⟨a3, c3, by simp, by simpa using hO, hB⟩ ?_
  rintro k vals w2 hk ⟨a4, c4, rfl, hO2, hB2⟩ ih
  have ht2 : ((u.classes.map fun c => nm u c.name) ++ (u.statics.take k).map fun f => nm u f.name).length ≤ 20 := by rw [List.length_append, List.length_map, List.length_map, List.length_take]; omega
  by_cases hlt : k < u.statics.length
  · refine brT ?_
    obtain ⟨f, b, o, cs, hf, e2, hSb, hAt, rfl⟩ := at_some hU.sta hlt
    have hfm := List.mem_of_getElem? hf
    rw [e2]
    refine ix ?_
    refine lda (hAt.bl hB2) ?_
    refine al fun b3 w3 h3 => ?_
    refine sta h3.box (fun w4 h4 y4 => ?_)
    have hB4 := Eng.New.wr h3 h4
    refine ld (y4.cell rfl) ?_
    refine bs fun b5 w5 h5 => ?_
    have hB5 := hB4.trans h5.bl
    refine cl (named1 u a b0 f.name T h5 (hU.bl (hB2.trans hB5)) (hx.bl (hB2.trans hB5)) (hP.sn f hfm)) ?_
    rintro _ w6 ⟨rfl, hB6⟩
    refine bs fun b7 w7 h7 => ?_
    have hB7 := (hB5.trans hB6).trans h7.bl
    have hO7 := hO2.bl hB7
    refine apl (l1 := [nm u f.name]) hO7 (.inr ⟨b7, 0, rfl, h7.box.at⟩) (hB2.trans hB7).size (fun a8 c8 w8 hO8 hA8 _ => ?_) (hb := by simp only [List.length_cons, List.length_nil]; omega) (hn := by simp only [List.length_cons, List.length_nil]; omega)
    have e3 : (u.classes.map fun c => nm u c.name) ++ (u.statics.take (k + 1)).map (fun f => nm u f.name) = ((u.classes.map fun c => nm u c.name) ++ (u.statics.take k).map (fun f => nm u f.name)) ++ [nm u f.name] := by rw [map_snoc hf, List.append_assoc]
    exact ih hlt ⟨a8, c8, by rw [e3], by rw [e3]; exact hO8, Eng.Ow.below hO7 hA8 (hB2.trans hB7) (hB2.trans hB7).size⟩ (hsub := by simp only [e2]; repeat (first | exact True.intro | (refine ⟨rfl, ?_⟩)))
  refine brF ?_
  obtain rfl : k = u.statics.length := by omega
  rw [List.take_length] at hO2 ht2 ⊢
  refine ld ((hx.bl hB2) 4 _ rfl) ?_
  refine lpk (vals := [.slice a4 ((u.classes.map fun c => nm u c.name) ++ u.statics.map fun f => nm u f.name).length c4, .slice none 0 0]) u.methods.length 73 [3, 4] [(0, .pointer (some ⟨b0, 0, none⟩)), (71, .slice a.a4 u.methods.length a.c4), (72, I u.methods.length)]
    (fun k vals w' => ∃ a3 c3 a4 c4, vals = [.slice a3 (((u.classes.map fun c => nm u c.name) ++ u.statics.map fun f => nm u f.name) ++ ((u.methods.take k).filter fun m => decide (m.cls = -1)).map fun m => nm u m.name).length c3, .slice a4 (((u.methods.take k).filter fun m => !decide (m.cls = -1)).map fun m => dots (nm u m.cls) (nm u m.name)).length c4] ∧
      OwP 1 encStr w' w.heap.size 9 a3 c3 (((u.classes.map fun c => nm u c.name) ++ u.statics.map fun f => nm u f.name) ++ ((u.methods.take k).filter fun m => decide (m.cls = -1)).map fun m => nm u m.name) ∧
      OwP 1 encStr w' w.heap.size 9 a4 c4 (((u.methods.take k).filter fun m => !decide (m.cls = -1)).map fun m => dots (nm u m.cls) (nm u m.name)) ∧ (∀ g, a3 = some ⟨g, 0, none⟩ → a4 ≠ some ⟨g, 0, none⟩) ∧ Bl w w') ⟨a4, c4, none, 0, by simp, by simpa using hO2, by simp only [List.take_zero, List.filter_nil, List.map_nil]; exact Ow.nil _ _ _ _, (fun _ _ e => by cases e), hB2⟩ ?_
  rintro k vals w3 hk ⟨a5, c5, a6, c6, rfl, hO3, hO4, hne, hB3⟩ ih
  have fl : ∀ p : Mth → Bool, ((u.methods.take k).filter p).length ≤ 16 := fun p => Nat.le_trans (List.length_filter_le _ _) (by rw [List.length_take]; omega)
  have ht3 : (((u.classes.map fun c => nm u c.name) ++ u.statics.map fun f => nm u f.name) ++ ((u.methods.take k).filter fun m => decide (m.cls = -1)).map fun m => nm u m.name).length ≤ 36 := by
    have := fl fun m => decide (m.cls = -1)
    rw [List.length_append, List.length_map]; omega
  have ht4 : (((u.methods.take k).filter fun m => !decide (m.cls = -1)).map fun m => dots (nm u m.cls) (nm u m.name)).length ≤ 16 := by rw [List.length_map]; exact fl _
  by_cases hlt : k < u.methods.length
  · refine brT ?_
    obtain ⟨m, b, o, cs, hm, e2, hSb, hAt, a1, c1, a2, c2, a3, c3, rfl, f1, f2, f3⟩ := at_some hU.mth hlt
    have hmm := List.mem_of_getElem? hm
    rw [e2]
    refine ix ?_
    refine lda (hAt.bl hB3) ?_
    refine al fun b4 w4 h4 => ?_
    refine sta h4.box (fun w5 h5 y5 => ?_)
    have hB5 := Eng.New.wr h4 h5
    refine ld (y5.cell rfl) ?_
    rcases hP.mc m hmm with hc | hc
    · refine brT ?_ (hp := by show m.cls < 0; omega)
      have e5 : ((u.methods.take (k + 1)).filter fun m => decide (m.cls = -1)) = ((u.methods.take k).filter fun m => decide (m.cls = -1)) ++ [m] := by rw [take_succ_some hm, List.filter_append]; simp [hc]
      have e6 : ((u.methods.take (k + 1)).filter fun m => !decide (m.cls = -1)) = ((u.methods.take k).filter fun m => !decide (m.cls = -1)) := by rw [take_succ_some hm, List.filter_append]; simp [hc]
      refine ld (y5.cell rfl) ?_
      refine bs fun b6 w6 h6 => ?_
      have hB6 := hB5.trans h6.bl
      refine cl (named1 u a b0 m.name T h6 (hU.bl (hB3.trans hB6)) (hx.bl (hB3.trans hB6)) (hP.mn m hmm)) ?_
      rintro _ w7 ⟨rfl, hB7⟩
      refine bs fun b8 w8 h8 => ?_
      have hB8 := (hB6.trans hB7).trans h8.bl
      have hO8 := hO3.bl hB8
      refine apl (l1 := [nm u m.name]) hO8 (.inr ⟨b8, 0, rfl, h8.box.at⟩) (hB3.trans hB8).size (fun a9 c9 w9 hO9 hA9 hfr => ?_) (hb := by simp only [List.length_cons, List.length_nil]; omega) (hn := by simp only [List.length_cons, List.length_nil]; omega)
      refine ih hlt ⟨a9, c9, a6, c6, ?_, ?_, ?_, ?_, Eng.Ow.below hO8 hA9 (hB3.trans hB8) (hB3.trans hB8).size⟩ (hsub := by simp only [e2]; repeat (first | exact True.intro | (refine ⟨rfl, ?_⟩)))
      · rw [e5, e6, List.map_append, ← List.append_assoc]; rfl
      · rw [e5, List.map_append, ← List.append_assoc]; exact hO9
      · rw [e6]; exact (hO4.bl hB8).oth hA9 (fun g hg e => hne g e hg)
      · intro g hg e
        rcases hfr g hg with h | h
        · exact hne g h e
        · have := (hO4.lt e).2; have := hB8.size; omega
    · refine brF ?_ (hp := by show ¬ m.cls < 0; have := hc.1; omega)
      have hcn : ¬ m.cls = -1 := by have := hc.1; omega
      have e5 : ((u.methods.take (k + 1)).filter fun m => decide (m.cls = -1)) = ((u.methods.take k).filter fun m => decide (m.cls = -1)) := by rw [take_succ_some hm, List.filter_append]; simp [hcn]
      have e6 : ((u.methods.take (k + 1)).filter fun m => !decide (m.cls = -1)) = ((u.methods.take k).filter fun m => !decide (m.cls = -1)) ++ [m] := by rw [take_succ_some hm, List.filter_append]; simp [hcn]
      refine ld (y5.cell rfl) ?_
      refine ld (y5.cell rfl) ?_
      refine bs fun b6 w6 h6 => ?_
      have hB6 := hB5.trans h6.bl
      refine cl (named2 u a b0 m.cls m.name T h6 (hU.bl (hB3.trans hB6)) (hx.bl (hB3.trans hB6)) hc (hP.mn m hmm)) ?_
      rintro _ w7 ⟨rfl, hB7⟩
      refine bs fun b8 w8 h8 => ?_
      have hB8 := (hB6.trans hB7).trans h8.bl
      have hO8 := hO4.bl hB8
      refine apl (l1 := [dots (nm u m.cls) (nm u m.name)]) hO8 (.inr ⟨b8, 0, rfl, h8.box.at⟩) (hB3.trans hB8).size (fun a9 c9 w9 hO9 hA9 hfr => ?_) (hb := by simp only [List.length_cons, List.length_nil]; omega) (hn := by simp only [List.length_cons, List.length_nil]; omega)
      refine ih hlt ⟨a5, c5, a9, c9, ?_, ?_, ?_, ?_, Eng.Ow.below hO8 hA9 (hB3.trans hB8) (hB3.trans hB8).size⟩ (hsub := by simp only [e2]; repeat (first | exact True.intro | (refine ⟨rfl, ?_⟩)))
      · rw [e5, e6, List.map_append]; rfl
      · rw [e5]; exact (hO3.bl hB8).oth hA9 (fun g hg e => hne g hg e)
      · rw [e6, List.map_append]; exact hO9
      · intro g hg e
        rcases hfr g e with h | h
        · exact hne g hg h
        · have := (hO3.lt hg).2; have := hB8.size; omega
  refine brF ?_
  obtain rfl : k = u.methods.length := by omega
  rw [List.take_length] at hO3 hO4 ht3 ht4 ⊢
  have eD : doubled u = (dup u.pool || dup (heads u) || dup (fulls u)) := by unfold doubled; rw [hany']; simp
  refine ld ((hx.bl hB3) 1 _ rfl) ?_
  refine cl (u_twice u.pool a.a1 a.c1 T w3 (hU.bl hB3).pool) ?_
  rintro _ w4 ⟨rfl, hB4⟩
  refine sp (.bool false) (fun q => ?_) (fun q => ?_)
  · refine cl (u_twice (heads u) a5 c5 T w4 (owp_sl (hO3.bl hB4) (by omega) (fun _ _ => trivial))) ?_
    rintro _ w5 ⟨rfl, hB5⟩
    refine sp (.bool false) (fun q2 => ?_) (fun q2 => ?_)
    · refine cl (u_twice (fulls u) a6 c6 T w5 (owp_sl ((hO4.bl hB4).bl hB5) (by omega) (fun _ _ => trivial))) ?_
      rintro _ w6 ⟨rfl, hB6⟩
      refine rt1 ⟨vb ?_, ((hB3.trans hB4).trans hB5).trans hB6⟩
      rw [eD, q, show dup (heads u) = false from by simpa using q2]; rfl
    · have q2' : dup (heads u) = true := by simpa using q2
      refine rt1 ⟨vb ?_, (hB3.trans hB4).trans hB5⟩
      rw [eD, q, q2']; rfl
  · have q' : dup u.pool = true := by simpa using q
    refine sp (.bool false) (fun q2 => ?_) (fun q2 => ?_)
    · rw [q'] at q2; cases q2
    refine rt1 ⟨vb ?_, hB3.trans hB4⟩
    rw [eD, q']; rfl
end Go.Proofs.YtopjmiklpnejmaaGreatDoor

/- What the program's Check sees is what the document's Check sees. No program stands here. -/
namespace Go.Proofs.YtopjmiklpnejmaaGreatDoor
open Eng Go.RowKit
def beyB (u : Unt) (r : Rf) : Bool := !refOk u.pool.length r
def frmB (u : Unt) (r : Rf) : Bool := refOk u.pool.length r && decide (0 ≤ r.at') && decide (¬ (path (nm u r.at') : Int) = r.parts)
theorem any_congr {α : Type} {q r : α → Bool} : ∀ {l : List α}, (∀ x ∈ l, q x = r x) → l.any q = l.any r
  | [], _ => rfl
  | x :: l, h => by rw [List.any_cons, List.any_cons, h x (List.mem_cons_self ..), any_congr fun y hy => h y (List.mem_cons_of_mem _ hy)]
section
variable {p : Rf → Bool} (hp : ∀ r : Rf, r.at' = -1 → r.opt = true → p r = false)
include hp
theorem ty_any {t : Ty} (hb : bare t = true) : (tyU t).any p = p (typed t) := by
  unfold tyU
  cases ht : tcls t with
  | true => simp [typed, ht]
  | false =>
    have : t.cls = -1 := by simpa [bare, ht] using hb
    simp [hp (typed t) this (by simp [typed, ht])]
theorem fld_any {f : Fld} (hb : bare f.ty = true) : (fldU f).any p = (fref f).any p := by simp [fldU, fref, ty_any hp hb]
theorem heads_any {u : Unt} (hc : classless u = true) : (headsU u).any p = (refs u).any p := by
  unfold classless at hc
  simp only [Bool.and_eq_true, List.all_eq_true] at hc
  obtain ⟨⟨h1, h2⟩, h3⟩ := hc
  unfold headsU refs
  rw [List.any_append, List.any_append, List.any_append, List.any_append, List.any_flatMap, List.any_flatMap, List.any_flatMap, List.any_flatMap, List.any_flatMap, List.any_flatMap]
  congr 1
  · congr 1
    · refine any_congr fun c hcm => ?_
      have hb := h1 c hcm
      simp only [bcls, List.all_eq_true] at hb
      simp only [clsU, cref, List.any_cons, List.any_append, List.any_nil, Bool.or_false, Bool.or_assoc]
      congr 2
      rw [List.any_flatMap, List.any_flatMap]
      exact any_congr fun f hf => fld_any hp (hb f hf)
    · exact any_congr fun f hf => fld_any hp (h2 f hf)
  · refine any_congr fun m hm => ?_
    have hb := h3 m hm
    simp only [bmth, Bool.and_eq_true, List.all_eq_true] at hb
    obtain ⟨⟨g1, g2⟩, g3⟩ := hb
    have e : ∀ l : List Ty, (∀ t ∈ l, bare t = true) → (l.flatMap tyU).any p = (l.map typed).any p := fun l hl => by
      rw [List.any_flatMap, List.any_map]
      exact any_congr fun t ht => ty_any hp (hl t ht)
    simp only [mthU, mref, List.any_cons, List.any_append, List.any_nil, Bool.or_false, Bool.or_assoc, List.flatMap_cons, List.flatMap_nil, List.append_nil]
    rw [e _ g2, e _ g3, ty_any hp g1]
end
theorem bey_none (u : Unt) : ∀ r : Rf, r.at' = -1 → r.opt = true → beyB u r = false := fun r h1 h2 => by simp [beyB, refOk, h1, h2]
theorem frm_none (u : Unt) : ∀ r : Rf, r.at' = -1 → r.opt = true → frmB u r = false := fun r h1 h2 => by simp [frmB, h1]
theorem heads_bey {u : Unt} (hc : classless u = true) : (headsU u).any (beyB u) = !(refs u).all (refOk u.pool.length) := by
  rw [heads_any (bey_none u) hc, List.not_all_eq_any_not]; rfl
theorem heads_frm {u : Unt} (hc : classless u = true) (hr : (refs u).all (refOk u.pool.length) = true) : (headsU u).any (frmB u) = !refsOk u := by
  rw [heads_any (frm_none u) hc]
  unfold refsOk
  rw [List.not_all_eq_any_not]
  rw [List.all_eq_true] at hr
  have : ∀ l : List Rf, (∀ r ∈ l, refOk u.pool.length r = true) → l.any (frmB u) = l.any fun r => !!(decide (0 ≤ r.at') && decide (¬ (path (nm u r.at') : Int) = r.parts)) := by
    intro l hl
    induction l with
    | nil => rfl
    | cons r l ih =>
      rw [List.any_cons, List.any_cons, ih fun x hx => hl x (List.mem_cons_of_mem _ hx)]
      congr 1
      unfold frmB
      rw [hl r (List.mem_cons_self ..)]; simp
  exact this _ hr
/-- the words of one instruction -/
theorem op_any {u : Unt} {i : Ins} (hv : validI i true = true) : ((opU i).any (beyB u) || (opU i).any (frmB u)) = !insOk u i := by
  have hge := operand_ge i hv
  have h12 : i.op = 12 → i.a = 2 ∨ i.a = 3 ∨ i.a = 4 := fun h => by
    obtain ⟨op, a, b⟩ := i
    subst h
    simp [validI, inR, rngs, isPool] at hv
    simp only
    omega
  have key : opU i = if 0 < (operand i).2 then [⟨(operand i).1, (operand i).2, false⟩] else [] := by
    unfold opU operand named
    by_cases e1 : i.op = 17 ∨ i.op = 18
    · simp [e1]
    by_cases e2 : i.op = 14 ∨ i.op = 24 ∨ i.op = 22 ∨ i.op = 23 ∨ i.op = 25
    · simp [e1, e2]
    by_cases e3 : i.op = 16
    · simp [e3]
    by_cases e4 : i.op = 12
    · have := h12 e4
      by_cases e5 : i.a = 3
      · simp [e4, e5]
      · have e6 : i.a = 2 ∨ i.a = 4 := by omega
        simp [e4, e5, e6]
    by_cases e7 : i.op = 26
    · simp [e7]
    simp [e1, e2, e3, e4, e7]
  rw [key]
  unfold insOk
  by_cases h0 : 0 < (operand i).2
  · have h1 := hge h0
    simp only [if_pos h0, List.any_cons, List.any_nil, Bool.or_false, decide_eq_true h0, Bool.true_and, Bool.not_not]
    unfold beyB frmB refOk
    simp only [Bool.and_false, Bool.false_or]
    by_cases h2 : (operand i).1 ≥ u.pool.length
    · simp [h2]
    · have h3 : ¬ (operand i).1 < 0 := by omega
      simp [h2, h3, h1]
  · simp [h0]
end Go.Proofs.YtopjmiklpnejmaaGreatDoor
/- Walks: the program's Check of a unit. -/
namespace Go.Proofs.YtopjmiklpnejmaaGreatDoor
open Eng Go.RowKit
/-- what Check's visitor keeps: all but two cells stay; these tell what it has seen -/
structure SeeJ (u : Unt) (bb bf : Nat) (w0 : World) (pre : List Rf) (w : World) : Prop where
  os : w.os = w0.os
  tape : w.tape = w0.tape
  output : w.output = w0.output
  size : w0.heap.size ≤ w.heap.size
  block : ∀ k, k < w0.heap.size → k ≠ bb → k ≠ bf → w.heap[k]? = w0.heap[k]?
  bey : Box w bb 4 [.bool (pre.any (beyB u))]
  frm : Box w bf 4 [.bool (pre.any (frmB u))]
abbrev seeS (bb bf : Nat) (w0 : World) : Nat → Prop := fun i => i < w0.heap.size ∧ i ≠ bb ∧ i ≠ bf
theorem SeeJ.bl {u : Unt} {bb bf : Nat} {w0 : World} {pre : List Rf} {w w' : World} (h : SeeJ u bb bf w0 pre w) (k : Bl w w') : SeeJ u bb bf w0 pre w' :=
  ⟨k.os.trans h.os, k.tape.trans h.tape, k.output.trans h.output, Nat.le_trans h.size k.size, fun i h1 h2 h3 => (k.block i (Nat.lt_of_lt_of_le h1 h.size)).trans (h.block i h1 h2 h3), Bl.box k h.bey, Bl.box k h.frm⟩
theorem SeeJ.kp {u : Unt} {bb bf : Nat} {w0 : World} {pre : List Rf} {w : World} (h : SeeJ u bb bf w0 pre w) : Kp (seeS bb bf w0) w0 w := fun b o v s x => by
  rw [World.cell?_of_block (w := w0) (h.block b s.1 s.2.1 s.2.2)]; exact x
theorem SeeJ.below {u : Unt} {bb bf B : Nat} {w00 w0 : World} {pre : List Rf} {w : World} (h : SeeJ u bb bf w0 pre w) (k : Below B w00 w0) (h1 : B ≤ bb) (h2 : B ≤ bf) (h3 : B ≤ w0.heap.size) : Below B w00 w :=
  ⟨h.os.trans k.os, h.tape.trans k.tape, h.output.trans k.output, Nat.le_trans k.size h.size, fun i hi => (h.block i (by omega) (by omega) (by omega)).trans (k.block i hi)⟩
theorem v_see (u : Unt) (a : UA) (b1 bb bf : Nat) (hne : bb ≠ bf) (n1 : b1 ≠ bb) (n2 : b1 ≠ bf) (w0 : World) (hb1 : b1 < w0.heap.size) (_hbb : bb < w0.heap.size) (_hbf : bf < w0.heap.size) (hU : UnR (seeS bb bf w0) w0 u a) (hx : At w0 b1 0 (ucells u a)) (hG : Gl w0) (hGg : seeS bb bf w0 0) (N : Nat) :
    EachC (seeS bb bf w0) w0 49 [.pointer (some ⟨b1, 0, none⟩), .pointer (some ⟨bb, 0, none⟩), .pointer (some ⟨bf, 0, none⟩)] (SeeJ u bb bf w0) (fun _ => True) N := by
  refine ⟨fun pre w h => h.kp, fun pre w w' k h => h.bl k, fun pre r b o w _ _ _ hJ hc => ?_⟩
  have hb1S : seeS bb bf w0 b1 := ⟨hb1, n1, n2⟩
  show Ret Tryz.prog 49 #[.agg #[.pointer (some ⟨b, o, none⟩), I r.parts, .bool r.opt], .pointer (some ⟨b1, 0, none⟩), .pointer (some ⟨bb, 0, none⟩), .pointer (some ⟨bf, 0, none⟩)] w _
  refine entr (vs := [.agg #[.pointer (some ⟨b, o, none⟩), I r.parts, .bool r.opt], .pointer (some ⟨b1, 0, none⟩), .pointer (some ⟨bb, 0, none⟩), .pointer (some ⟨bf, 0, none⟩)]) [0, 1, 2, 3, 4, 5, 10, 17, 27] tabok Tryz.func49 (by kernel_rfl) ?_
  refine bx (cs := [.pointer (some ⟨b, o, none⟩), I r.parts, .bool r.opt]) fun b4 w1 h1 => ?_
  have hJ1 := hJ.bl h1.bl
  have X1 := hx.kp hJ1.kp hb1S
  refine ld (h1.box.cell rfl) ?_
  refine ld (h1.bl.kp T _ _ _ trivial hc) ?_
  refine ld (h1.box.cell rfl) ?_
  have e1 : ∀ p : Rf → Bool, (pre ++ [r]).any p = (pre.any p || p r) := fun p => by rw [List.any_append]; simp
  have stay : beyB u r = false → frmB u r = false → ∀ {w'}, SeeJ u bb bf w0 pre w' → SeeJ u bb bf w0 (pre ++ [r]) w' := fun h1 h2 w' h => ⟨h.os, h.tape, h.output, h.size, h.block, by rw [e1, h1, Bool.or_false]; exact h.bey, by rw [e1, h2, Bool.or_false]; exact h.frm⟩
  refine br (t := r.opt && decide (r.at' = -1)) (fun h => ?_) (fun h => ?_)
  · simp only [Bool.and_eq_true, decide_eq_true_eq] at h
    exact en (vs := []) (stay (bey_none u r h.2 h.1) (frm_none u r h.2 h.1) hJ1)
  refine ldg (fun _ => X1 1 _ rfl) ?_
  refine br (t := decide (r.at' < 0) || decide ((u.pool.length : Int) ≤ r.at')) (fun h2 => ?_) (fun h2 => ?_)
  · have hb : beyB u r = true := by
      unfold beyB refOk
      have e3 : (decide (r.at' = -1) && r.opt) = false := by rw [Bool.and_comm]; exact h
      rw [e3]; simpa using h2
    have hf : frmB u r = false := by unfold frmB; unfold beyB at hb; simp at hb; simp [hb]
    refine st hJ1.bey (fun w2 h3 y3 => ?_)
    refine en (vs := []) ⟨h3.os.trans hJ1.os, h3.tape.trans hJ1.tape, h3.output.trans hJ1.output, by rw [h3.size]; exact hJ1.size, fun i g1 g2 g3 => (h3.block i g2).trans (hJ1.block i g1 g2 g3), by rw [e1, hb, Bool.or_true]; exact y3, by rw [e1, hf, Bool.or_false]; exact h3.box hJ1.frm (Ne.symm hne)⟩
  have hin : inP u r.at' := by
    simp only [Bool.or_eq_false_iff, decide_eq_false_iff_not] at h2
    exact ⟨by omega, by omega⟩
  have hok : refOk u.pool.length r = true := by unfold refOk; obtain ⟨g1, g2⟩ := hin; simp; right; omega
  have hb : beyB u r = false := by unfold beyB; rw [hok]; rfl
  obtain ⟨b9, o9, e9, hS9, hc9, hz9, hi9, hp9⟩ := pool_at hU hin
  refine dh T [0, 1, 2, 3, 4, 6, 7, 5, 8, 9] fun w2 h2 => ?_
  have hJ2 := hJ1.bl h2.bl
  refine ld ((hx.kp hJ2.kp hb1S) 1 _ rfl) ?_
  rw [e9]
  refine ix (hij := hi9) ?_
  refine ld (hJ2.kp _ _ _ hS9 hc9) ?_
  refine ld ((h2.box h1.box).cell rfl) ?_
  refine cl (u_Path (nm u r.at') w2 hz9 (hG.kp hJ2.kp hGg)) ?_
  rintro _ w3 ⟨rfl, hB3⟩
  have hJ3 := hJ2.bl hB3
  refine br (t := decide (¬ (path (nm u r.at') : Int) = r.parts)) (fun h3 => ?_) (fun h3 => ?_)
  · have hf : frmB u r = true := by unfold frmB; rw [hok, decide_eq_true hin.1, h3]; rfl
    refine st hJ3.frm (fun w4 h4 y4 => ?_)
    refine en (vs := []) ⟨h4.os.trans hJ3.os, h4.tape.trans hJ3.tape, h4.output.trans hJ3.output, by rw [h4.size]; exact hJ3.size, fun i g1 g2 g3 => (h4.block i g3).trans (hJ3.block i g1 g2 g3), by rw [e1, hb, Bool.or_false]; exact h4.box hJ3.bey hne, by rw [e1, hf, Bool.or_true]; exact y4⟩
  · have hf : frmB u r = false := by unfold frmB; rw [h3, Bool.and_false]
    exact en (vs := []) (stay hb hf hJ3)
end Go.Proofs.YtopjmiklpnejmaaGreatDoor
/- Walks: the program's Check of a unit is the document's. -/
namespace Go.Proofs.YtopjmiklpnejmaaGreatDoor
open Eng Go.RowKit
theorem Gl.lt {w : World} (h : Gl w) : 0 < w.heap.size := let ⟨_, hm⟩ := h; cell_lt hm
theorem u_Check2 (s : ByteArray) (w : World) (hs : s.size ≤ 1048576) (hG : Gl w) : Ret Tryz.prog 51 #[.string s] w fun v w' => v = .bool (decide ((path s : Int) = 0)) ∧ Bl w w' := by
  refine entr (vs := [.string s]) [0, 2] tabok Tryz.func51 (by kernel_rfl) ?_
  refine cl (u_Path s w hs hG) ?_
  rintro _ w1 ⟨rfl, hB⟩
  exact rt1 ⟨rfl, hB⟩
set_option maxHeartbeats 1000000 in
theorem u_Check (u : Unt) (a : UA) (w : World) (hU : UnR T w u a) (hG : Gl w) : Ret Tryz.prog 21 #[.agg (ucells u a).toArray] w fun v w' => v = I (checkE u) ∧ Bl w w' := by
  have hgl := hG.lt
  refine entr (vs := [.agg (ucells u a).toArray]) [0, 1, 2, 3, 4, 5, 7, 8, 10, 12, 21, 24, 30, 32, 35, 36, 37, 38, 45, 49, 50, 51, 52, 63] tabok Tryz.func21 (by kernel_rfl) ?_
  refine bx (cs := ucells u a) fun b1 w1 h1 => ?_
  refine al fun bb w2 h2 => ?_
  refine al fun bf w3 h3 => ?_
  have q1 := h1.blk
  have q2 := h2.blk
  have q3 := h3.blk
  have z1 := h1.size
  have z2 := h2.size
  have z3 := h3.size
  refine st (Bl.box h3.bl h2.box) (fun w4 h4 y4 => ?_)
  have hf4 := h4.box h3.box (by omega)
  refine st hf4 (fun w5 h5 y5 => ?_)
  have yb5 := h5.box y4 (by omega)
  have z4 := h4.size
  have z5 := h5.size
  have hB5 : Bl w w5 := Below.trans (Below.trans ((h1.bl.trans h2.bl).trans h3.bl) (h4.below (by omega))) (h5.below (by omega))
  have x5 : Box w5 b1 _ (ucells u a) := h5.box (h4.box (Bl.box (h2.bl.trans h3.bl) h1.box) (by omega)) (by omega)
  refine cl (u_long u a b1 w5 x5.at (hU.bl hB5)) ?_
  rintro _ w6 ⟨rfl, hB6⟩
  have hB06 := hB5.trans hB6
  refine br (t := !limits u) (fun h => ?_) (fun h => ?_)
  · exact rt1 ⟨vi (by unfold checkE; rw [if_pos (by simpa using h)]), hB06⟩
  have hl1 : limits u = true := by simpa using h
  have hL := lim_of hl1
  have x6 := Bl.box hB6 x5
  refine ld (x6.cell rfl) ?_
  refine cl (u_Simple u.name w6 hU.nm) ?_
  rintro _ w6 ⟨rfl, rfl⟩
  refine ldg (fun _ => x6.cell rfl) ?_
  refine sp (.bool false) (fun q => ?_) (fun q => ?_)
  rotate_left
  · have hs0 : simple u.name = false := by simpa using q
    refine brt ?_ (hp := by rw [hs0]; rfl)
    exact rt1 ⟨vi (by unfold checkE; rw [if_neg (by rw [hl1]; simp), if_pos hs0]), hB06⟩
  have hs1 : simple u.name = true := by simpa using q
  refine cl (ContainsFunc_str u.pool a.a1 a.c1 51 [] (fun s => decide ((path s : Int) = 0)) T w6 (hU.bl hB06).pool (fun s cs hs w' hB' hr => ?_)) ?_
  · obtain rfl : cs = [.string s] := hr
    exact u_Check2 s w' (hU.ps s hs) (hG.bl (hB06.trans hB'))
  rintro _ w7 ⟨rfl, hB7⟩
  have hB07 := hB06.trans hB7
  have eP : pathsOk u = !(u.pool.any fun s => decide ((path s : Int) = 0)) := by
    unfold pathsOk
    rw [← Bool.not_not (u.pool.all _), List.not_all_eq_any_not]
    congr 1
    exact congrArg (fun f => u.pool.any f) (funext fun s => by by_cases h : (path s : Int) = 0 <;> simp [h])
  refine br (t := false || u.pool.any fun s => decide ((path s : Int) = 0)) (fun h => ?_) (fun h => ?_)
  · have h' : (u.pool.any fun s => decide ((path s : Int) = 0)) = true := by simpa using h
    exact rt1 ⟨vi (by unfold checkE; rw [if_neg (by rw [hl1]; simp), if_neg (by rw [hs1]; simp), if_pos (by rw [eP, h']; rfl)]), hB07⟩
  have h' : (u.pool.any fun s => decide ((path s : Int) = 0)) = false := by simpa using h
  have hp1 : pathsOk u = true := by rw [eP, h']; rfl
  have hE1 : checkE u = if (kinds u && places u) = false then 1 else if refsOk u = false then 8 else if doubled u = true then 9 else if mErr u.methods ≠ 0 then mErr u.methods else if codesOk u = false then 8 else 0 := by
    unfold checkE; rw [if_neg (by rw [hl1]; simp), if_neg (by rw [hs1]; simp), if_neg (by rw [hp1]; simp)]
  have z6 := hB6.size
  have z7 := hB7.size
  have x7 := Bl.box hB7 x6
  have U7 : UnR (seeS bb bf w7) w7 u a := ((hU.lt).bl hB07).sub fun i hi => ⟨by omega, by omega, by omega⟩
  have hE := v_see u a b1 bb bf (by omega) (by omega) (by omega) w7 x7.lt (by omega) (by omega) U7 x7.at (hG.bl hB07) ⟨by omega, by omega, by omega⟩
  have hJ7 : SeeJ u bb bf w7 [] w7 := ⟨rfl, rfl, rfl, Nat.le_refl _, fun _ _ _ _ => rfl, Bl.box (hB6.trans hB7) yb5, Bl.box (hB6.trans hB7) y5⟩
  have hbS : seeS bb bf w7 b1 := ⟨x7.lt, by omega, by omega⟩
  have jb : ∀ {pre w'}, SeeJ u bb bf w7 pre w' → Bl w w' := fun h => h.below hB07 (by omega) (by omega) hB07.size
  refine cl (h_heads (hE _) u (fun _ _ => trivial) a U7 b1 0 hbS x7.at [] w7 hJ7 (Nat.le_refl _)) ?_
  intro v8 w8 hJ8
  rw [List.nil_append] at hJ8
  have hB08 := jb hJ8
  have z8 := hJ8.size
  have X8 := x7.at.kp hJ8.kp hbS
  refine ld (hJ8.bey.cell rfl) ?_
  have U8' : UnR (· < w8.heap.size) w8 u a := ((hU.lt).bl hB08).sub fun i hi => by omega
  have hbey : ∀ {c : Bool}, classless u = c → c = true → (headsU u).any (beyB u) = !(refs u).all (refOk u.pool.length) := fun h1 h2 => heads_bey (by rw [h1, h2])
  refine sp (.bool false) (fun q => ?_) (fun q => ?_)
  rotate_left
  · -- something is beyond
    have q' : (headsU u).any (beyB u) = true := by simpa using q
    refine brt ?_ (hp := by rw [q']; rfl)
    refine rt1 ⟨vi ?_, hB08⟩
    rw [hE1, if_pos]
    cases hc : classless u with
    | false => unfold places; rw [hc]; simp
    | true =>
      rw [heads_bey hc] at q'
      unfold places
      have : (refs u).all (refOk u.pool.length) = false := by simpa using q'
      rw [this]; simp
  have hb8 : (headsU u).any (beyB u) = false := by simpa using q
  refine cl (u_kinds u a b1 w8 U8' (by omega) X8 hL) ?_
  rintro _ w9 ⟨rfl, hB9⟩
  have hJ9 := hJ8.bl hB9
  have hB09 := hB08.trans hB9
  refine br (t := false || !kgood u) (fun h => ?_) (fun h => ?_)
  · have h1 : kgood u = false := by simpa using h
    refine rt1 ⟨vi ?_, hB09⟩
    rw [hE1, if_pos]
    rw [kgood_eq] at h1
    unfold places
    cases hk : kinds u
    · rfl
    · rw [hk] at h1
      have : classless u = false := by simpa using h1
      rw [this]; simp
  have h1 : kgood u = true := by simpa using h
  rw [kgood_eq, Bool.and_eq_true] at h1
  obtain ⟨hk1, hc1⟩ := h1
  have hr1 : (refs u).all (refOk u.pool.length) = true := by rw [heads_bey hc1] at hb8; simpa using hb8
  have hpl : places u = true := by unfold places; rw [hr1, hc1]; rfl
  have hP : Plc u := plc_of hr1
  have hE2 : checkE u = if refsOk u = false then 8 else if doubled u = true then 9 else if mErr u.methods ≠ 0 then mErr u.methods else if codesOk u = false then 8 else 0 := by rw [hE1, if_neg (by rw [hk1, hpl]; simp)]
  have hf8 := heads_frm hc1 hr1
  refine ld (hJ9.frm.cell rfl) ?_
  refine br (t := (headsU u).any (frmB u)) (fun h => ?_) (fun h => ?_)
  · refine rt1 ⟨vi ?_, hB09⟩
    rw [hE2, if_pos]
    rw [hf8] at h; simpa using h
  have hrf : refsOk u = true := by rw [hf8] at h; simpa using h
  have hE3 : checkE u = if doubled u = true then 9 else if mErr u.methods ≠ 0 then mErr u.methods else if codesOk u = false then 8 else 0 := by rw [hE2, if_neg (by rw [hrf]; simp)]
  have X : ∀ {pre w'}, SeeJ u bb bf w7 pre w' → At w' b1 0 (ucells u a) := fun h => x7.at.kp h.kp hbS
  refine cl (u_doubled u a b1 w9 (hU.bl hB09) (X hJ9) hL hP) ?_
  rintro _ w10 ⟨rfl, hB10⟩
  have hJ10 := hJ9.bl hB10
  have hB010 := hB09.trans hB10
  refine br (t := doubled u) (fun h => ?_) (fun h => ?_)
  · exact rt1 ⟨vi (by rw [hE3, if_pos h]), hB010⟩
  have hE4 : checkE u = if mErr u.methods ≠ 0 then mErr u.methods else if codesOk u = false then 8 else 0 := by rw [hE3, if_neg (by rw [h]; simp)]
  have nm3 := hL.mth
  refine ld (X hJ10 4 _ rfl) ?_
  refine lpk u.methods.length 37 [] [(1, .pointer (some ⟨b1, 0, none⟩)), (3, .pointer (some ⟨bb, 0, none⟩)), (4, .pointer (some ⟨bf, 0, none⟩)), (5, .func (.func 49) #[] #[.pointer (some ⟨b1, 0, none⟩), .pointer (some ⟨bb, 0, none⟩), .pointer (some ⟨bf, 0, none⟩)]), (35, .slice a.a4 u.methods.length a.c4), (36, I u.methods.length)]
    (fun k vals w' => vals = [] ∧ (∀ m ∈ u.methods.take k, codeE m.code true = 0) ∧ SeeJ u bb bf w7 (headsU u) w') ⟨rfl, by simp, hJ10⟩ ?_
  rintro k vals w11 hk ⟨rfl, ha11, hJ11⟩ ih
  have hB11 := jb hJ11
  by_cases hlt : k < u.methods.length
  · refine brT ?_
    obtain ⟨m, b2, o2, cs, hm, e2, _, hAt, a1, c1, a2, c2, a3, c3, rfl, f1, f2, f3⟩ := at_some (hU.bl hB11).mth hlt
    rw [e2]
    refine ix ?_
    refine lda hAt ?_
    refine al fun b12 w12 h12 => ?_
    refine sta h12.box (fun w13 h13 y13 => ?_)
    have hB13 := Eng.New.wr h12 h13
    refine ld (y13.cell rfl) ?_
    refine cl (u_codeCheck m.code a3 c3 true T w13 (f3.bl hB13)) ?_
    rintro _ w14 ⟨rfl, hB14⟩
    have hJ14 := hJ11.bl (hB13.trans hB14)
    refine br (t := decide (¬ codeE m.code true = 0)) (fun h => ?_) (fun h => ?_)
    · have h4 := of_decide_eq_true h
      refine rt1 ⟨vi ?_, jb hJ14⟩
      have := mErr_hit hm ha11 h4
      rw [hE4, if_pos (by rw [this]; exact h4), this]
    · have h4 := Classical.not_not.1 (of_decide_eq_false h)
      refine ih hlt ⟨rfl, fun y hy => ?_, hJ14⟩ (hsub := by simp only [e2]; repeat (first | exact True.intro | (refine ⟨rfl, ?_⟩)))
      rw [take_succ_some hm, List.mem_append] at hy
      rcases hy with hy | hy
      · exact ha11 y hy
      · simp at hy; subst hy; exact h4
  refine brF ?_
  obtain rfl : k = u.methods.length := by omega
  rw [List.take_length] at ha11
  have hE5 : checkE u = if codesOk u = false then 8 else 0 := by rw [hE4, if_neg (by rw [mErr_none ha11]; simp)]
  refine ld (X hJ11 4 _ rfl) ?_
  refine lpk u.methods.length 51 [] [(3, .pointer (some ⟨bb, 0, none⟩)), (4, .pointer (some ⟨bf, 0, none⟩)), (5, .func (.func 49) #[] #[.pointer (some ⟨b1, 0, none⟩), .pointer (some ⟨bb, 0, none⟩), .pointer (some ⟨bf, 0, none⟩)]), (49, .slice a.a4 u.methods.length a.c4), (50, I u.methods.length)]
    (fun k vals w' => vals = [] ∧ SeeJ u bb bf w7 (headsU u ++ (u.methods.take k).flatMap fun m => m.code.flatMap opU) w') ⟨rfl, by simpa using hJ11⟩ ?_
  rintro k vals w15 hk ⟨rfl, hJ15⟩ ih
  by_cases hlt : k < u.methods.length
  · refine brT ?_
    obtain ⟨m, b2, o2, cs, hm, e2, hSb, hAt0, a1, c1, a2, c2, a3, c3, rfl, f1, f2, f3⟩ := at_some U7.mth hlt
    rw [e2]
    refine ix ?_
    refine lda (hAt0.kp hJ15.kp hSb) ?_
    refine al fun b16 w16 h16 => ?_
    refine sta h16.box (fun w17 h17 y17 => ?_)
    have hJ17 := hJ15.bl (Eng.New.wr h16 h17)
    refine ld (y17.cell rfl) ?_
    refine cl (h_operands (hE _) m.code (fun _ _ _ _ => trivial) a3 c3 f3 _ w17 hJ17 (Nat.le_refl _)) ?_
    intro v18 w18 hJ18
    refine ih hlt ⟨rfl, ?_⟩ (hsub := by simp only [e2]; repeat (first | exact True.intro | (refine ⟨rfl, ?_⟩)))
    rw [flatMap_snoc hm, ← List.append_assoc]; exact hJ18
  refine brF ?_
  obtain rfl : k = u.methods.length := by omega
  rw [List.take_length] at hJ15
  refine ld (hJ15.bey.cell rfl) ?_
  refine ldg (fun _ => hJ15.frm.cell rfl) ?_
  have hfin : (((headsU u ++ u.methods.flatMap fun m => m.code.flatMap opU).any (beyB u)) || (headsU u ++ u.methods.flatMap fun m => m.code.flatMap opU).any (frmB u)) = !codesOk u := by
    have hf0 : (headsU u).any (frmB u) = false := by rw [hf8, hrf]; rfl
    rw [List.any_append, List.any_append, hb8, hf0, Bool.false_or, Bool.false_or]
    have hval : ∀ m ∈ u.methods, ∀ i ∈ m.code, validI i true = true := fun m hm i hi => by
      have := ha11 m hm
      unfold codeE at this
      split at this
      · cases this
      · split at this
        · rename_i hv
          exact List.all_eq_true.1 hv i hi
        · cases this
    have orflat : ∀ {α : Type} (f : α → List Rf) (l : List α), ((l.flatMap f).any (beyB u) || (l.flatMap f).any (frmB u)) = l.any fun x => (f x).any (beyB u) || (f x).any (frmB u) := fun f l => by
      induction l with
      | nil => rfl
      | cons x l ih =>
        rw [List.flatMap_cons, List.any_append, List.any_append, List.any_cons, ← ih]
        cases (f x).any (beyB u) <;> cases (f x).any (frmB u) <;> cases (l.flatMap f).any (beyB u) <;> cases (l.flatMap f).any (frmB u) <;> rfl
    rw [orflat]
    unfold codesOk
    rw [List.not_all_eq_any_not]
    refine any_congr fun m hm => ?_
    rw [orflat, List.not_all_eq_any_not]
    exact any_congr fun i hi => op_any (hval m hm i hi)
  refine br (t := ((headsU u ++ u.methods.flatMap fun m => m.code.flatMap opU).any (beyB u)) || (headsU u ++ u.methods.flatMap fun m => m.code.flatMap opU).any (frmB u)) (fun h => ?_) (fun h => ?_)
  · rw [hfin] at h
    exact rt1 ⟨vi (by rw [hE5, if_pos (by simpa using h)]), jb hJ15⟩
  · rw [hfin] at h
    exact rt1 ⟨vi (by rw [hE5, if_neg (by simpa using h)]), jb hJ15⟩
end Go.Proofs.YtopjmiklpnejmaaGreatDoor

/- Rows of bytes that grow: a literal's row, or a row of the call's own. -/
namespace Go.Proofs.YtopjmiklpnejmaaGreatDoor
open Eng Go.RowKit
abbrev encB : UInt8 → List Value := fun c => [.int .u8 (c.toNat : Int)]
def eB : El UInt8 := plainEl 1 encB (fun _ => rfl)
abbrev bC (l : List UInt8) : List Value := l.flatMap encB
theorem bC_length (l : List UInt8) : (bC l).length = l.length := by rw [flat_length (sz := 1) fun _ => rfl]; omega
theorem bC_append (l m : List UInt8) : bC (l ++ m) = bC l ++ bC m := List.flatMap_append ..
/-- a row of bytes that may be appended to -/
inductive RowS (w : World) (B : Nat) (a : Option Addr) (cap : Nat) (bs : List UInt8) : Prop where
  | own (h : OwP 1 encB w B 5 a cap bs)
  | lit (g : Nat) (ha : a = some ⟨g, 0, none⟩) (hB : B ≤ g) (hc : cap = bs.length) (hne : bs ≠ []) (hat : At w g 0 (bC bs)) (h4 : bs.length ≤ 4)
theorem At.lt {w : World} {g o : Nat} {cs : List Value} (h : At w g o cs) (hne : cs ≠ []) : g < w.heap.size := by
  cases cs with
  | nil => exact absurd rfl hne
  | cons v cs => exact cell_lt (h 0 v rfl)
theorem bC_ne {bs : List UInt8} (h : bs ≠ []) : bC bs ≠ [] := by
  cases bs with
  | nil => exact absurd rfl h
  | cons b bs => simp [bC]
theorem RowS.lt {w : World} {B : Nat} {a : Option Addr} {cap : Nat} {bs : List UInt8} (h : RowS w B a cap bs) {g : Nat} (ha : a = some ⟨g, 0, none⟩) : B ≤ g ∧ g < w.heap.size := by
  cases h with
  | own h => exact h.lt ha
  | lit g' ha' hB hc hne hat h4 =>
    rw [ha] at ha'
    simp only [Option.some.injEq, Addr.mk.injEq, and_true] at ha'
    subst ha'
    exact ⟨hB, At.lt hat (bC_ne hne)⟩
theorem RowS.addr {w : World} {B : Nat} {a : Option Addr} {cap : Nat} {bs : List UInt8} (h : RowS w B a cap bs) : (a = none ∧ bs = []) ∨ ∃ g, a = some ⟨g, 0, none⟩ := by
  cases h with
  | own h =>
    rcases h.shape with ⟨rfl, h0, _⟩ | ⟨g, _, rfl, _⟩
    · exact .inl ⟨rfl, List.eq_nil_of_length_eq_zero h0⟩
    · exact .inr ⟨g, rfl⟩
  | lit g ha => exact .inr ⟨g, ha⟩
theorem RowS.at {w : World} {B : Nat} {a : Option Addr} {cap : Nat} {bs : List UInt8} (h : RowS w B a cap bs) {g : Nat} (ha : a = some ⟨g, 0, none⟩) : At w g 0 (bC bs) := by
  cases h with
  | own h => exact h.at ha
  | lit g' ha' hB hc hne hat h4 =>
    rw [ha] at ha'
    simp only [Option.some.injEq, Addr.mk.injEq, and_true] at ha'
    subst ha'; exact hat
theorem RowS.cap_ge {w : World} {B : Nat} {a : Option Addr} {cap : Nat} {bs : List UInt8} (h : RowS w B a cap bs) : bs.length ≤ cap := by
  cases h with
  | own h =>
    rcases h.shape with ⟨rfl, h0, rfl, _⟩ | ⟨g, _, rfl, _, _, hc, _⟩
    · omega
    · exact hc
  | lit g ha hB hc => omega
theorem RowS.sl {w : World} {B : Nat} {a : Option Addr} {cap : Nat} {bs : List UInt8} (h : RowS w B a cap bs) (hl : bs.length ≤ 4194304) : Sl eB T w a bs := by
  refine ⟨hl, fun i x hx => ?_⟩
  rcases h.addr with ⟨_, rfl⟩ | ⟨g, hg⟩
  · simp at hx
  · refine ⟨g, 0, encB x, hg, trivial, fun j v hj => ?_, rfl⟩
    have hj' : j < 1 := (List.getElem?_eq_some_iff.1 hj).1
    have := h.at hg (i * 1 + j) v (by rw [flat_get (sz := 1) (fun _ => rfl) hx j hj']; exact hj)
    simpa [eB, plainEl] using this
/-- what one step leaves alone: all blocks but those of X and the row's own -/
structure Stp (X : Nat → Prop) (a : Option Addr) (w : World) (a' : Option Addr) (w' : World) : Prop where
  os : w'.os = w.os
  tape : w'.tape = w.tape
  output : w'.output = w.output
  size : w.heap.size ≤ w'.heap.size
  block : ∀ k, k < w.heap.size → ¬ X k → a ≠ some ⟨k, 0, none⟩ → w'.heap[k]? = w.heap[k]?
  fresh : ∀ g, a' = some ⟨g, 0, none⟩ → a = some ⟨g, 0, none⟩ ∨ w.heap.size ≤ g
theorem Stp.refl {X : Nat → Prop} {a : Option Addr} {w : World} : Stp X a w a w := ⟨rfl, rfl, rfl, Nat.le_refl _, fun _ _ _ _ => rfl, fun _ h => .inl h⟩
theorem Stp.trans {X : Nat → Prop} {a b c : Option Addr} {w1 w2 w3 : World} (h : Stp X a w1 b w2) (k : Stp X b w2 c w3) : Stp X a w1 c w3 :=
  ⟨k.os.trans h.os, k.tape.trans h.tape, k.output.trans h.output, Nat.le_trans h.size k.size, fun i hi hx ha => (k.block i (Nat.lt_of_lt_of_le hi h.size) hx fun e => by
    rcases h.fresh i e with e2 | e2
    · exact ha e2
    · omega).trans (h.block i hi hx ha), fun g hg => by
    rcases k.fresh g hg with e | e
    · exact h.fresh g e
    · exact .inr (Nat.le_trans h.size e)⟩
theorem Stp.bl {X : Nat → Prop} {a : Option Addr} {w w' : World} (h : Bl w w') : Stp X a w a w' := ⟨h.os, h.tape, h.output, h.size, fun i hi _ _ => h.block i hi, fun _ h => .inl h⟩
theorem Stp.wr {X : Nat → Prop} {a : Option Addr} {w w' : World} {b : Nat} (h : Wr w b w') (hb : X b) : Stp X a w a w' := ⟨h.os, h.tape, h.output, by rw [h.size]; exact Nat.le_refl _, fun i _ hx _ => h.block i fun e => hx (e ▸ hb), fun _ h => .inl h⟩
theorem Stp.ap {X : Nat → Prop} {a a' : Option Addr} {w w' : World} (h : Ap w a w') (hf : ∀ g, a' = some ⟨g, 0, none⟩ → a = some ⟨g, 0, none⟩ ∨ w.heap.size ≤ g) : Stp X a w a' w' := ⟨h.os, h.tape, h.output, h.size, fun i hi _ ha => h.block i hi ha, hf⟩
theorem Stp.box {X : Nat → Prop} {a a' : Option Addr} {w w' : World} (h : Stp X a w a' w') {b : Nat} {t : TypeId} {cs : List Value} (hb : Box w b t cs) (hx : ¬ X b) (ha : a ≠ some ⟨b, 0, none⟩) : Box w' b t cs := by unfold Box; rw [h.block b hb.lt hx ha]; exact hb
theorem Stp.ne {X : Nat → Prop} {a a' : Option Addr} {w w' : World} (h : Stp X a w a' w') {b : Nat} (hb : b < w.heap.size) (ha : a ≠ some ⟨b, 0, none⟩) : a' ≠ some ⟨b, 0, none⟩ := fun e => by
  rcases h.fresh b e with e2 | e2
  · exact ha e2
  · omega
theorem Stp.kp {X : Nat → Prop} {a a' : Option Addr} {w w' : World} (h : Stp X a w a' w') : Kp (fun i => ¬ X i ∧ a ≠ some ⟨i, 0, none⟩) w w' := fun b o v s x => by
  rw [World.cell?_of_block (w := w) (h.block b (cell_lt x) s.1 s.2)]; exact x
theorem Stp.below {X : Nat → Prop} {a a' : Option Addr} {w0 w w' : World} {B : Nat} (h : Stp X a w a' w') (h0 : Below B w0 w) (hX : ∀ i, X i → B ≤ i) (ha : ∀ g, a = some ⟨g, 0, none⟩ → B ≤ g) (hB : B ≤ w.heap.size) : Below B w0 w' :=
  ⟨h.os.trans h0.os, h.tape.trans h0.tape, h.output.trans h0.output, Nat.le_trans h0.size h.size, fun k hk => (h.block k (by omega) (fun e => by have := hX k e; omega) (fun e => by have := ha k e; omega)).trans (h0.block k hk)⟩
theorem RowS.stay {w w' : World} {B : Nat} {a : Option Addr} {cap : Nat} {bs : List UInt8} (h : RowS w B a cap bs) (k : ∀ g, a = some ⟨g, 0, none⟩ → w'.heap[g]? = w.heap[g]?) : RowS w' B a cap bs := by
  cases h with
  | own h => exact .own (h.same k)
  | lit g ha hB hc hne hat h4 => exact .lit g ha hB hc hne (fun j v hj => by rw [World.cell?_of_block (w := w) (k g ha)]; exact hat j v hj) h4
theorem RowS.bl {w w' : World} {B : Nat} {a : Option Addr} {cap : Nat} {bs : List UInt8} (h : RowS w B a cap bs) (k : Bl w w') : RowS w' B a cap bs := h.stay fun g hg => k.block g (h.lt hg).2
theorem RowS.wr {w w' : World} {B : Nat} {a : Option Addr} {cap : Nat} {bs : List UInt8} (h : RowS w B a cap bs) {b : Nat} (k : Wr w b w') (hb : a ≠ some ⟨b, 0, none⟩) : RowS w' B a cap bs := h.stay fun g hg => k.block g fun e => hb (by rw [hg, e])
theorem appendR_run {P : Program} {w : World} {T by' sz : Nat} {ag : Bool} {zr : List Value} (ht : tiOk P T ⟨.slice 5 1 by', sz, ag, zr⟩ = true) (hby : by' = 1) {B : Nat} {a : Option Addr} {cap : Nat} {bs : List UInt8} (hR : RowS w B a cap bs)
    {ay : Option Addr} {cy : Nat} {l : List UInt8} (hy : Eng.Src w ay l.length (bC l)) (hb : bs.length + l.length ≤ 1099511627776) (hbase : B ≤ w.heap.size) (ty : TypeId) :
    ∃ a' cap' w', (Builtin.append_ #[T, T] ty #[.slice a bs.length cap, .slice ay l.length cy]).run P w = .ok (.slice a' (bs ++ l).length cap') w' ∧ RowS w' B a' cap' (bs ++ l) ∧ Ap w a w' ∧ ∀ g, a' = some ⟨g, 0, none⟩ → a = some ⟨g, 0, none⟩ ∨ w.heap.size ≤ g := by
  subst hby
  cases hR with
  | own hO =>
    obtain ⟨a', cap', w', hr, hO', hA, hf⟩ := append_run ht (by decide) hO hy (by rw [bC_length, Nat.mul_one]) (by rw [List.all_flatMap, List.all_eq_true]; exact fun _ _ => rfl) (by omega) (by omega) hbase ty (cy := cy)
    exact ⟨a', cap', w', by rw [List.length_append]; exact hr, .own (by unfold OwP; rw [List.length_append, List.flatMap_append]; exact hO'), hA, hf⟩
  | lit g ha hB hc hne hat h4 =>
    subst ha
    subst hc
    rcases hy with ⟨h0, hn⟩ | ⟨b2, o2, rfl, hat2⟩
    · have hl : l = [] := List.eq_nil_of_length_eq_zero h0
      subst hl
      obtain ⟨d, x, z, hT⟩ := tiOk_und ht
      obtain ⟨rfl, hel⟩ := hT.sl _ _ _ rfl
      obtain ⟨y, zz, hyi, hys, hyb, hyz, hzc⟩ := elemOk_of hel
      refine ⟨some ⟨g, 0, none⟩, bs.length, w, ?_, .lit g rfl hB (by simp) (by simpa using hne) (by simpa using hat) (by simpa using h4), Eng.Ap.bl (Bl.refl _) _, fun g' h => .inl h⟩
      cases ay <;> simp [Builtin.append_, run_underlying hT.und, sizeOf, typeInfo, hyi, Builtin.lenOf, Builtin.firstCells, storeCells, loadCells, loadCellsFrom]
    · by_cases hl0 : l = []
      · subst hl0
        obtain ⟨d, x, z, hT⟩ := tiOk_und ht
        obtain ⟨rfl, hel⟩ := hT.sl _ _ _ rfl
        obtain ⟨y, zz, hyi, hys, hyb, hyz, hzc⟩ := elemOk_of hel
        refine ⟨some ⟨g, 0, none⟩, bs.length, w, ?_, .lit g rfl hB (by simp) (by simpa using hne) (by simpa using hat) (by simpa using h4), Eng.Ap.bl (Bl.refl _) _, fun g' h => .inl h⟩
        simp [Builtin.append_, run_underlying hT.und, sizeOf, typeInfo, hyi, Builtin.lenOf, Builtin.firstCells, storeCells, loadCells, loadCellsFrom]
      · obtain ⟨d, x, z, hT⟩ := tiOk_und ht
        obtain ⟨rfl, hel⟩ := hT.sl _ _ _ rfl
        obtain ⟨y, zz, hyi, hys, hyb, hyz, hzc⟩ := elemOk_of hel
        have hlp : 0 < l.length := List.length_pos_iff.2 hl0
        have hr := run_append_grow (P := P) w T ty 5 y zz hT.und hyi hyz ⟨g, 0, none⟩ bs.length bs.length (bC bs) (by rw [hys, bC_length, Nat.mul_one]) (fun j v hv => by rw [add_none]; exact hat j v hv) ⟨b2, o2, none⟩ l.length cy (bC l) (by rw [hys, bC_length, Nat.mul_one]) (fun j v hv => by rw [add_none]; exact hat2 j v hv) (by omega) (by omega) (growslice_fits (by omega) (by rw [hyb]; omega))
        have hge := grownCap_ge w (bs.length + l.length) bs.length 5
        have hcm := grownCap_le_maxLen w (bs.length + l.length) bs.length 5 (by unfold maxLen; omega)
        obtain ⟨W', hW'⟩ : ∃ W', w.drew.alloc (.cells ((bC bs).toArray ++ (bC l).toArray ++ Builtin.zeroCells zz.cells (grownCap w (bs.length + l.length) bs.length 5 - (bs.length + l.length))) 5) = W' := ⟨_, rfl⟩
        rw [hW'] at hr
        have hBl : Bl w W' := by rw [← hW']; exact ((Below.refl _ _).drew).alloc (Nat.le_refl _) _
        refine ⟨_, _, W', by rw [List.length_append]; exact hr, .own ⟨⟨by rw [bC_length, Nat.mul_one], .inr ⟨w.heap.size, _, _, by rw [List.length_append], hbase, by rw [← hW']; show (w.heap.push _)[w.heap.size]? = _; simp; rfl, by rw [List.length_append]; exact hge, hcm, ?_, ?_⟩⟩⟩, Eng.Ap.bl hBl _, fun g' hg' => ?_⟩
        · have hz : zz.cells.size = 1 := hzc
          have e1 : (List.flatMap encB bs).length = bs.length := bC_length bs
          have e2 : (List.flatMap encB l).length = l.length := bC_length l
          simp only [Array.size_append, size_zeroCells, hz, List.size_toArray, List.length_append, e1, e2]; omega
        · have e : List.flatMap encB (bs ++ l) = bC bs ++ bC l := bC_append bs l
          have e3 : (bC bs ++ bC l).length = (bs ++ l).length * 1 := by rw [List.length_append, bC_length, bC_length, List.length_append, Nat.mul_one]
          rw [e, Array.toList_append, List.take_append_of_le_length (by rw [e3]; exact Nat.le_refl _), List.take_of_length_le (by rw [e3]; exact Nat.le_refl _)]
        · simp only [Option.some.injEq, Addr.mk.injEq, and_true] at hg'
          right; rw [← hg']; exact Nat.le_refl _
theorem strCells_bC (s : ByteArray) : Lib.strCells s = bC (toL s) := by unfold Lib.strCells; rw [List.map_eq_flatMap]
theorem appendS_run {P : Program} {w : World} {T U by' sz sz2 : Nat} {ag ag2 : Bool} {zr zr2 : List Value} (ht : tiOk P T ⟨.slice 5 1 by', sz, ag, zr⟩ = true) (hu : tiOk P U ⟨.str, sz2, ag2, zr2⟩ = true) (hby : by' = 1) {B : Nat} {a : Option Addr} {cap : Nat} {bs : List UInt8} (hR : RowS w B a cap bs) (hne : bs ≠ [])
    {s : ByteArray} (hb : bs.length + s.size ≤ 1099511627776) (hbase : B ≤ w.heap.size) (ty : TypeId) :
    ∃ a' cap' w', (Builtin.append_ #[T, U] ty #[.slice a bs.length cap, .string s]).run P w = .ok (.slice a' (bs ++ toL s).length cap') w' ∧ RowS w' B a' cap' (bs ++ toL s) ∧ Ap w a w' ∧ ∀ g, a' = some ⟨g, 0, none⟩ → a = some ⟨g, 0, none⟩ ∨ w.heap.size ≤ g := by
  subst hby
  obtain ⟨d, x, z, hT⟩ := tiOk_und ht
  obtain ⟨d2, x2, z2, hT2⟩ := tiOk_und hu
  have hus : P.underlying U = some .string := by have := hT2.str rfl; subst this; exact hT2.und
  obtain ⟨rfl, hel⟩ := hT.sl _ _ _ rfl
  obtain ⟨y, zz, hyi, hys, hyb, hyz, hzc⟩ := elemOk_of hel
  have hsl : (toL s).length = s.size := ba_len s
  obtain ⟨g, rfl⟩ : ∃ g, a = some ⟨g, 0, none⟩ := by
    rcases hR.addr with ⟨_, h⟩ | h
    · exact absurd h hne
    · exact h
  have hat := hR.at rfl
  have hcg := hR.cap_ge
  have hlt := hR.lt rfl
  by_cases hroom : bs.length + s.size ≤ cap
  · cases hR with
    | own hO =>
      obtain ⟨cur, hbx, hcl, htk, hnc, hle⟩ := hO.box
      have hr := Lib.run_append_room_string (P := P) w T U ty 5 y hT.und hus hyi hys g bs.length cap cur.toArray hbx s hroom (by simp; omega)
      have hgr : (w.setRow g ((cur.toArray.toList.take bs.length) ++ Lib.strCells s ++ cur.toArray.toList.drop (bs.length + s.size)).toArray).heap[g]? = some (.cells ((cur.toArray.toList.take bs.length) ++ Lib.strCells s ++ cur.toArray.toList.drop (bs.length + s.size)).toArray 5 (0, 0)) := by
        unfold Box at hbx
        simp [World.setRow, Array.getElem?_modify, hbx]
      refine ⟨some ⟨g, 0, none⟩, cap, _, by rw [List.length_append, hsl]; exact hr, .own ⟨⟨by rw [show (List.flatMap encB (bs ++ toL s)).length = (bs ++ toL s).length from bC_length _, Nat.mul_one], .inr ⟨g, cap, _, by rw [List.length_append, hsl], hlt.1, hgr, by rw [List.length_append, hsl]; exact hroom, ?_, ?_, ?_⟩⟩⟩, ?_, fun g' h => .inl h⟩
      · have := hO.own.2
        rcases this with ⟨h, _⟩ | ⟨_, _, _, h, _, _, _, hm, _⟩
        · cases h
        · simp only [Value.slice.injEq] at h; rw [h.2.2]; exact hm
      · have : (Lib.strCells s).length = s.size := Lib.strCells_length s
        simp [this]; omega
      · have e1 : cur.take bs.length = bC bs := by rw [Nat.mul_one] at htk; exact htk
        have e2 : List.flatMap encB (bs ++ toL s) = bC bs ++ bC (toL s) := bC_append _ _
        have e3 : (bC bs ++ bC (toL s)).length = (bs ++ toL s).length * 1 := by rw [List.length_append, bC_length, bC_length, List.length_append, Nat.mul_one]
        rw [e2]
        simp only [strCells_bC, e1]
        rw [List.take_append_of_le_length (by rw [e3]; exact Nat.le_refl _), List.take_of_length_le (by rw [e3]; exact Nat.le_refl _)]
      · refine ⟨rfl, rfl, rfl, by simp [World.setRow], fun k hk hx => ?_⟩
        have : g ≠ k := fun e => hx (by rw [e])
        simp [World.setRow, Array.getElem?_modify, this]
    | lit g' ha hB hc hne2 hat2 h4 =>
      have h0 : s.size = 0 := by omega
      have hs0 : toL s = [] := List.eq_nil_of_length_eq_zero (by rw [hsl, h0])
      refine ⟨some ⟨g, 0, none⟩, cap, w, ?_, by rw [hs0, List.append_nil]; exact .lit g rfl (by simp only [Option.some.injEq, Addr.mk.injEq, and_true] at ha; rw [ha]; exact hB) hc hne hat h4, Eng.Ap.bl (Bl.refl _) _, fun g' h => .inl h⟩
      have hsz : s = ⟨#[]⟩ := ba_nil.2 h0
      rw [hs0, List.append_nil, hsz]
      simp [Builtin.append_, run_underlying hT.und, run_underlying hus, sizeOf, typeInfo, hyi, Builtin.lenOf, Builtin.firstCells, storeCells]
      rw [if_pos (by show bs.length + 0 ≤ cap; omega)]
      rfl
  · have hr := Lib.run_append_grow_string (P := P) w T U ty 5 y zz hT.und hus hyi hyz ⟨g, 0, none⟩ bs.length cap (bC bs) (by rw [hys, bC_length, Nat.mul_one]) (fun j v hv => by rw [add_none]; exact hat j v hv) s (by omega) (by omega) (growslice_fits (by omega) (by rw [hyb]; omega))
    have hge := grownCap_ge w (bs.length + s.size) cap 5
    have hcm := grownCap_le_maxLen w (bs.length + s.size) cap 5 (by unfold maxLen; omega)
    rw [strCells_bC] at hr
    obtain ⟨W', hW'⟩ : ∃ W', w.drew.alloc (.cells ((bC bs).toArray ++ (bC (toL s)).toArray ++ Builtin.zeroCells zz.cells (grownCap w (bs.length + s.size) cap 5 - (bs.length + s.size))) 5) = W' := ⟨_, rfl⟩
    rw [hW'] at hr
    have hBl : Bl w W' := by rw [← hW']; exact ((Below.refl _ _).drew).alloc (Nat.le_refl _) _
    refine ⟨_, _, W', by rw [List.length_append, hsl]; exact hr, .own ⟨⟨by rw [show (List.flatMap encB (bs ++ toL s)).length = (bs ++ toL s).length from bC_length _, Nat.mul_one], .inr ⟨w.heap.size, _, _, by rw [List.length_append, hsl], hbase, by rw [← hW']; show (w.heap.push _)[w.heap.size]? = _; simp; rfl, by rw [List.length_append, hsl]; exact hge, hcm, ?_, ?_⟩⟩⟩, Eng.Ap.bl hBl _, fun g' hg' => ?_⟩
    · have hz : zz.cells.size = 1 := hzc
      have e1 : (List.flatMap encB bs).length = bs.length := bC_length bs
      have e2 : (List.flatMap encB (toL s)).length = s.size := by rw [show (List.flatMap encB (toL s)).length = (toL s).length from bC_length _, hsl]
      simp only [Array.size_append, size_zeroCells, hz, List.size_toArray, List.length_append, e1, e2]; omega
    · have e : List.flatMap encB (bs ++ toL s) = bC bs ++ bC (toL s) := bC_append bs _
      have e3 : (bC bs ++ bC (toL s)).length = (bs ++ toL s).length * 1 := by rw [List.length_append, bC_length, bC_length, List.length_append, Nat.mul_one]
      rw [e, Array.toList_append, List.take_append_of_le_length (by rw [e3]; exact Nat.le_refl _), List.take_of_length_le (by rw [e3]; exact Nat.le_refl _)]
    · simp only [Option.some.injEq, Addr.mk.injEq, and_true] at hg'
      right; rw [← hg']; exact Nat.le_refl _
section
variable {C : Cx} {s : St} {w : World}
/-- append of bytes -/
theorem apb {md : Option Md} {ops : Array Oper} {T T' : TypeId} {x y : Operand} {d : Nat} {ty : TypeId} {pos : String} {af : Array Edge} {g : Option (Nat × Bool)} {rest : List Oper} {k : List Item} {l : Env} {c : CEnv} {by' sz : Nat} {ag : Bool} {zr : List Value}
    {B : Nat} {a : Option Addr} {cap : Nat} {bs : List UInt8} {ay : Option Addr} {cy : Nat} {l1 : List UInt8} (hR : RowS w B a cap bs) (hsrc : Eng.Src w ay l1.length (bC l1)) (hbase : B ≤ w.heap.size)
    (h : ∀ a' cap' w', RowS w' B a' cap' (bs ++ l1) → Ap w a w' → (∀ g, a' = some ⟨g, 0, none⟩ → a = some ⟨g, 0, none⟩ ∨ w.heap.size ≤ g) → Wk C (.reg md ops rest k ((d, .slice a' (bs ++ l1).length cap') :: l) c) w')
    (hs : adv C.tab C.n C.ks 400 s = .opn md ops ⟨some d, .call ⟨.builtin .append, #[x, y], #[T, T']⟩, ty, pos, af, g⟩ rest k l c [] := by rfl) (ht : C.tab.at T = some ⟨.slice 5 1 by', sz, ag, zr⟩ := by rfl)
    (hx : evc l c [] x = some (.slice a bs.length cap) := by rfl) (hy : evc l c [] y = some (.slice ay l1.length cy) := by rfl) (hTT : T' = T := by rfl) (hby : by' = 1 := by rfl)
    (hb : bs.length + l1.length ≤ 1099511627776 := by omega) (hf : fresh d l c [] = true := by rfl) (hm : ∀ w', Ap w a w' → mdW md w w' := by intros; exact True.intro) (hnt : notT md = true := by rfl) : Wk C s w := by
  subst hTT
  refine by_adv hs ⟨fun hT hfn => ?_⟩
  obtain ⟨a', cap', w', hr, hR', hap, hfr⟩ := appendR_run (tab_at hT ht) hby hR hsrc hb hbase ty (cy := cy)
  refine (op_val0 (okW_of rfl hnt) (hm _ hap) (fun _ a hA => ?_) (h a' cap' w' hR' hap hfr) rfl hf).run hT hfn
  simp only [execOp, resolve, List.map_toArray, List.map_cons, List.map_nil, evc_ok hA.k hA.kc.c (p := []) trivial hx, evc_ok hA.k hA.kc.c (p := []) trivial hy]
  show (Sem.bind (Sem.pure _) _).run C.P w = _
  simp only [Sem.bind, invoke, builtin]
  exact (run_bind_ok hr).trans rfl
/-- append of a string's bytes -/
theorem aps {md : Option Md} {ops : Array Oper} {T U : TypeId} {x y : Operand} {d : Nat} {ty : TypeId} {pos : String} {af : Array Edge} {g : Option (Nat × Bool)} {rest : List Oper} {k : List Item} {l : Env} {c : CEnv} {by' sz sz2 : Nat} {ag ag2 : Bool} {zr zr2 : List Value}
    {B : Nat} {a : Option Addr} {cap : Nat} {bs : List UInt8} {str : ByteArray} (hR : RowS w B a cap bs) (hne : bs ≠ []) (hbase : B ≤ w.heap.size)
    (h : ∀ a' cap' w', RowS w' B a' cap' (bs ++ toL str) → Ap w a w' → (∀ g, a' = some ⟨g, 0, none⟩ → a = some ⟨g, 0, none⟩ ∨ w.heap.size ≤ g) → Wk C (.reg md ops rest k ((d, .slice a' (bs ++ toL str).length cap') :: l) c) w')
    (hs : adv C.tab C.n C.ks 400 s = .opn md ops ⟨some d, .call ⟨.builtin .append, #[x, y], #[T, U]⟩, ty, pos, af, g⟩ rest k l c [] := by rfl) (ht : C.tab.at T = some ⟨.slice 5 1 by', sz, ag, zr⟩ := by rfl) (hu : C.tab.at U = some ⟨.str, sz2, ag2, zr2⟩ := by rfl)
    (hx : evc l c [] x = some (.slice a bs.length cap) := by rfl) (hy : evc l c [] y = some (.string str) := by rfl) (hby : by' = 1 := by rfl)
    (hb : bs.length + str.size ≤ 1099511627776 := by omega) (hf : fresh d l c [] = true := by rfl) (hm : ∀ w', Ap w a w' → mdW md w w' := by intros; exact True.intro) (hnt : notT md = true := by rfl) : Wk C s w := by
  refine by_adv hs ⟨fun hT hfn => ?_⟩
  obtain ⟨a', cap', w', hr, hR', hap, hfr⟩ := appendS_run (tab_at hT ht) (tab_at hT hu) hby hR hne hb hbase ty
  refine (op_val0 (okW_of rfl hnt) (hm _ hap) (fun _ a hA => ?_) (h a' cap' w' hR' hap hfr) rfl hf).run hT hfn
  simp only [execOp, resolve, List.map_toArray, List.map_cons, List.map_nil, evc_ok hA.k hA.kc.c (p := []) trivial hx, evc_ok hA.k hA.kc.c (p := []) trivial hy]
  show (Sem.bind (Sem.pure _) _).run C.P w = _
  simp only [Sem.bind, invoke, builtin]
  exact (run_bind_ok hr).trans rfl
/-- a literal's bytes: the row is marked -/
theorem cvl {md : Option Md} {ops : Array Oper} {T : TypeId} {x : Operand} {d : Nat} {ty : TypeId} {pos : String} {af : Array Edge} {g : Option (Nat × Bool)} {rest : List Oper} {k : List Item} {l : Env} {c : CEnv} {w0 : World} {b : Nat} {cs : List Value} {n cc : Nat} (hn : New w0 b 5 cs w)
    (h : ∀ w', At w' b 0 cs → Bl w0 w' → w'.heap.size = w.heap.size → Wk C (.reg md ops rest k ((d, .slice (some ⟨b, 0, none⟩) n cc) :: l) c) w')
    (hs : adv C.tab C.n C.ks 400 s = .opn md ops ⟨some d, .convert T T x, ty, pos, af, g⟩ rest k l c [] := by rfl) (hx : evc l c [] x = some (.slice (some ⟨b, 0, none⟩) n cc) := by rfl) (hT : C.P.underlying T = some (.slice 5) := by kernel_rfl) (he : C.P.underlying 5 = some (.int .u8) := by kernel_rfl) (hf : fresh d l c [] = true := by rfl) (hmd : md = none := by rfl) : Wk C s w := by
  subst hmd
  have hb := hn.blk
  have hw := hn.eq
  have hrun := Lib.run_convert_bytes_const (P := C.P) w0 T 5 cs.toArray n cc hT he
  rw [← hw, ← hb] at hrun
  obtain ⟨W', hW'⟩ : ∃ W', w0.alloc (.cells cs.toArray 5 (cs.toArray.size, cs.toArray.size + 1)) = W' := ⟨_, rfl⟩
  rw [hW'] at hrun
  have hB : Bl w0 W' := by rw [← hW']; exact (Below.refl _ _).alloc (Nat.le_refl _) _
  have hat : At W' b 0 cs := fun j v hj => by
    rw [← hW', hb, Nat.zero_add]
    have : (w0.alloc (.cells cs.toArray 5 (cs.toArray.size, cs.toArray.size + 1))).heap[w0.heap.size]? = some (.cells cs.toArray 5 (cs.toArray.size, cs.toArray.size + 1)) := by show (w0.heap.push _)[w0.heap.size]? = _; simp
    simp only [World.cell?, this]
    simpa using hj
  have hsz : W'.heap.size = w.heap.size := by rw [← hW', hw]; show (w0.heap.push _).size = (w0.heap.push _).size; simp
  refine by_adv hs ⟨fun hT2 hfn hdk a hA hw2 => ?_⟩
  show wpList C.P ops (nq C k) (_ :: rest) a w
  unfold wpList
  rw [if_pos (hw2.2 trivial)]
  left
  unfold Oper.wp
  have e : (execOp a.eval ⟨some d, .convert T T x, ty, pos, af, g⟩).run C.P w = .ok (.value (.slice (some ⟨b, 0, none⟩) n cc)) W' := by
    simp only [execOp, evc_ok hA.k hA.kc.c (p := []) trivial hx]
    exact (run_bind_ok hrun).trans rfl
  rw [e]
  exact (h W' hat hB hsz).run hT2 hfn _ ((ok_put (v := .slice (some ⟨b, 0, none⟩) n cc) (u := .slice (some ⟨b, 0, none⟩) n cc) (p := []) hA hdk hf).1 rfl)
end
end Go.Proofs.YtopjmiklpnejmaaGreatDoor
