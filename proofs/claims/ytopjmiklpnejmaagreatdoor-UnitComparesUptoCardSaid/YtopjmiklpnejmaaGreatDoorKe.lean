/- Walks: the program's word on kinds. -/
import Derived.Test.YtopjmiklpnejmaaGreatDoorKd
namespace Go.Proofs.YtopjmiklpnejmaaGreatDoor
open Eng Go.RowKit
theorem Eng.Ap.trans {a b c : World} {x : Option Addr} (h : Ap a x b) (k : Ap b x c) : Ap a x c :=
  ⟨k.os.trans h.os, k.tape.trans h.tape, k.output.trans h.output, Nat.le_trans h.size k.size, fun i hi hx => (k.block i (Nat.lt_of_lt_of_le hi h.size) hx).trans (h.block i hi hx)⟩
theorem Eng.Ap.bl {w w' : World} (h : Bl w w') (x : Option Addr) : Ap w x w' := ⟨h.os, h.tape, h.output, h.size, fun i hi _ => h.block i hi⟩
theorem Eng.Ap.wr {w w' : World} {g : Nat} (h : Wr w g w') : Ap w (some ⟨g, 0, none⟩) w' := ⟨h.os, h.tape, h.output, by rw [h.size]; exact Nat.le_refl _, fun i _ hx => h.block i fun e => hx (by rw [e])⟩
theorem ap_ne {g b : Nat} (h : b ≠ g) : some (⟨g, 0, none⟩ : Addr) ≠ some ⟨b, 0, none⟩ := fun e => by cases e; exact h rfl
/-- a type is of a kind that may stand there, with a class just where one belongs -/
def sOk (t : Ty) (least : Int) : Bool := decide (least ≤ t.kind) && decide (t.kind ≤ 4) && (tcls t || decide (t.cls = -1))
theorem k_see (t : Ty) (least : Int) (g : Nat) (b : Bool) (w : World) (hg : Box w g 4 [.bool b]) :
    Ret Tryz.prog 124 #[.agg #[I t.kind, I t.cls], I least, .pointer (some ⟨g, 0, none⟩)] w fun _ w' => Box w' g 4 [.bool (b && sOk t least)] ∧ Ap w (some ⟨g, 0, none⟩) w' := by
  refine entr (vs := [.agg #[I t.kind, I t.cls], I least, .pointer (some ⟨g, 0, none⟩)]) [0, 1, 2, 3, 5] tabok Tryz.func124 (by kernel_rfl) ?_
  refine bx (cs := [I t.kind, I t.cls]) fun b1 w1 h1 => ?_
  refine ld (h1.box.cell rfl) ?_
  refine ldg (fun _ => h1.box.cell rfl) ?_
  have hg1 := Bl.box h1.bl hg
  refine ld (hg1.cell rfl) ?_
  refine ldg (fun _ => h1.box.cell rfl) ?_
  refine ldg (fun _ => h1.box.cell rfl) ?_
  refine ldg2 (fun _ _ => h1.box.cell rfl) ?_
  refine st hg1 (fun w2 h2 hg2 => ?_)
  refine en (vs := []) ⟨?_, (Eng.Ap.bl h1.bl _).trans (Eng.Ap.wr h2)⟩
  have e : (b && sOk t least) = (((b && decide (least ≤ t.kind)) && decide (t.kind ≤ 4)) && (tcls t || decide (t.cls = -1))) := by unfold sOk; cases b <;> simp [Bool.and_assoc]
  rw [e]; exact hg2
abbrev seeF (g : Nat) : Value := .func (.func 124) #[] #[.pointer (some ⟨g, 0, none⟩)]
def fOk (l : List Fld) : Bool := l.all fun f => sOk f.ty 1
theorem all_take_succ {α : Type} {p : α → Bool} {l : List α} {k : Nat} {x : α} (hx : l[k]? = some x) : (l.take (k + 1)).all p = ((l.take k).all p && p x) := by rw [take_succ_some hx, List.all_append]; simp
theorem k_all (l : List Fld) (a : Option Addr) (cap g g2 : Nat) (b : Bool) (S : Nat → Prop) (hgS : ¬ S g) (hne : g2 ≠ g) (w : World) (hS : Sl eFld S w a l) (hg : Box w g 4 [.bool b]) (hg2 : Box w g2 144 [seeF g]) :
    Ret Tryz.prog 125 #[.slice a l.length cap, .pointer (some ⟨g2, 0, none⟩)] w fun _ w' => Box w' g 4 [.bool (b && fOk l)] ∧ Ap w (some ⟨g, 0, none⟩) w' := by
  have hbig := hS.big
  have kS : ∀ {w'}, Ap w (some ⟨g, 0, none⟩) w' → Kp S w w' := fun h => Kp.sub h.kp fun i hi e => by cases e; exact hgS hi
  refine entr (vs := [.slice a l.length cap, .pointer (some ⟨g2, 0, none⟩)]) [0, 1, 4, 5, 6, 7, 8] tabok Tryz.func125 (by kernel_rfl) ?_
  refine lpk l.length 7 [] [(0, .slice a l.length cap), (1, .pointer (some ⟨g2, 0, none⟩)), (5, .slice a l.length cap), (6, I l.length)] (fun k vals w' => vals = [] ∧ Box w' g 4 [.bool (b && fOk (l.take k))] ∧ Ap w (some ⟨g, 0, none⟩) w') ⟨rfl, by simpa [fOk] using hg, Eng.Ap.bl (Bl.refl _) _⟩ ?_
  rintro k vals w1 hk ⟨rfl, hg1, hA1⟩ ih
  by_cases hlt : k < l.length
  · refine brT ?_
    obtain ⟨f, b4, o4, cs, hf, rfl, _, hAt, rfl⟩ := at_some (hS.kp (kS hA1)) hlt
    refine ix ?_
    refine lda hAt ?_
    refine al fun b5 w2 h2 => ?_
    refine sta h2.box (fun w3 h3 y3 => ?_)
    have hB3 : Bl w1 w3 := Eng.New.wr h2 h3
    have hg3 := Bl.box hB3 hg1
    refine ld ((Bl.box hB3 (hA1.box hg2 (ap_ne hne))).cell rfl) ?_
    refine lda (fldAt y3.at) ?_
    refine cl (k_see f.ty 1 g _ w3 hg3) ?_
    rintro v w4 ⟨hg4, hA4⟩
    refine ih hlt ⟨rfl, ?_, (hA1.trans (Eng.Ap.bl hB3 _)).trans hA4⟩
    have e : (b && fOk (l.take (k + 1))) = (b && fOk (l.take k) && sOk f.ty 1) := by unfold fOk; rw [all_take_succ hf, Bool.and_assoc]
    rw [e]; exact hg4
  · refine brF ?_
    obtain rfl : k = l.length := by omega
    rw [List.take_length] at hg1
    exact en (vs := []) ⟨hg1, hA1⟩
def mOk (m : Mth) : Bool := (m.params ++ m.locals).all (sOk · 1) && sOk m.result 0
def kgood (u : Unt) : Bool := (u.classes.all fun c => fOk c.fields) && fOk u.statics && u.methods.all mOk
theorem u_kinds (u : Unt) (a : UA) (b0 : Nat) (w : World) (hU : UnR (· < w.heap.size) w u a) (hb0 : b0 < w.heap.size) (hx : At w b0 0 (ucells u a)) (hL : Lim u) :
    Ret Tryz.prog 53 #[.pointer (some ⟨b0, 0, none⟩)] w fun v w' => v = .bool (kgood u) ∧ Bl w w' := by
  have n1 := hU.cls.big
  have n2 := hU.sta.big
  have n3 := hU.mth.big
  refine entr (vs := [.pointer (some ⟨b0, 0, none⟩)]) [0, 2, 3, 4, 5, 7, 9, 11, 17, 18, 19, 20, 37, 38, 39, 40, 48, 49, 50, 51] tabok Tryz.func53 (by kernel_rfl) ?_
  refine al fun g w1 h1 => ?_
  refine st h1.box (fun w2 h2 y2 => ?_)
  refine al fun g2 w3 h3 => ?_
  refine st h3.box (fun w4 h4 y4 => ?_)
  have q1 := h1.blk
  have q2 : g < w2.heap.size := y2.lt
  have q3 := h3.blk
  have hne : g2 ≠ g := by omega
  have hB4 : Below w.heap.size w w4 := Below.trans (Below.trans (Eng.New.wr h1 h2) (h3.bl.mono (by omega))) (h4.below (by omega))
  have y4g : Box w4 g 4 [.bool true] := h4.box (Bl.box h3.bl y2) (Ne.symm hne)
  have U : ∀ {w'}, Below w.heap.size w w' → UnR (· < w.heap.size) w' u a := fun h => hU.below h
  have X : ∀ {w'}, Below w.heap.size w w' → At w' b0 0 (ucells u a) := fun h => hx.kp (Below.kp h) hb0
  have apB : ∀ {x y}, Below w.heap.size w x → Ap x (some ⟨g, 0, none⟩) y → Below w.heap.size w y := fun h k => h.trans (k.below h.size (fun g' e => by cases e; omega))
  have gS : ¬ (g < w.heap.size) := by omega
  refine ld (X hB4 2 _ rfl) ?_
  refine lpk u.classes.length 19 [] [(0, .pointer (some ⟨b0, 0, none⟩)), (3, .pointer (some ⟨g, 0, none⟩)), (4, .pointer (some ⟨g2, 0, none⟩)), (5, .func (.func 125) #[] #[.pointer (some ⟨g2, 0, none⟩)]), (17, .slice a.a2 u.classes.length a.c2), (18, I u.classes.length)]
    (fun k vals w' => vals = [] ∧ Box w' g 4 [.bool ((u.classes.take k).all fun c => fOk c.fields)] ∧ Box w' g2 144 [seeF g] ∧ Below w.heap.size w w') ⟨rfl, y4g, y4, hB4⟩ ?_
  rintro k vals w5 hk ⟨rfl, g5, s5, hB5⟩ ih
  by_cases hlt : k < u.classes.length
  · refine brT ?_
    obtain ⟨c, b, o, cs, hc, e2, hSb, hAt, af, cf, rfl, hF⟩ := at_some (U hB5).cls hlt
    rw [e2]
    refine ix ?_
    refine lda hAt ?_
    refine al fun b6 w6 h6 => ?_
    refine sta h6.box (fun w7 h7 y7 => ?_)
    have hB7 : Bl w5 w7 := Eng.New.wr h6 h7
    refine ld (y7.cell rfl) ?_
    refine cl (k_all c.fields af cf g g2 _ (· < w.heap.size) gS hne w7 (hF.bl hB7) (Bl.box hB7 g5) (Bl.box hB7 s5)) ?_
    rintro v w8 ⟨g8, hA8⟩
    refine ih hlt ⟨rfl, ?_, hA8.box (Bl.box hB7 s5) (ap_ne hne), apB (hB5.trans (hB7.mono hB5.size)) hA8⟩ (hsub := by simp only [e2]; repeat (first | exact True.intro | (refine ⟨rfl, ?_⟩)))
    rw [all_take_succ hc]; exact g8
  refine brF ?_
  obtain rfl : k = u.classes.length := by omega
  rw [List.take_length] at g5
  refine ld (X hB5 3 _ rfl) ?_
  refine cl (k_all u.statics a.a3 a.c3 g g2 _ (· < w.heap.size) gS hne w5 (U hB5).sta g5 s5) ?_
  rintro v8 w8 ⟨g8, hA8⟩
  have s8 := hA8.box s5 (ap_ne hne)
  have hB8 := apB hB5 hA8
  refine ld (X hB8 4 _ rfl) ?_
  refine lpk u.methods.length 39 [] [(0, .pointer (some ⟨b0, 0, none⟩)), (3, .pointer (some ⟨g, 0, none⟩)), (4, .pointer (some ⟨g2, 0, none⟩)), (37, .slice a.a4 u.methods.length a.c4), (38, I u.methods.length)]
    (fun k vals w' => vals = [] ∧ Box w' g 4 [.bool (((u.classes.all fun c => fOk c.fields) && fOk u.statics) && (u.methods.take k).all mOk)] ∧ Box w' g2 144 [seeF g] ∧ Below w.heap.size w w') ⟨rfl, by simpa using g8, s8, hB8⟩ ?_
  rintro k vals w9 hk ⟨rfl, g9, s9, hB9⟩ ih
  by_cases hlt : k < u.methods.length
  · refine brT ?_
    obtain ⟨m, b, o, cs, hm, e2, hSb, hAt, a1, c1, a2, c2, a3, c3, rfl, f1, f2, f3⟩ := at_some (U hB9).mth hlt
    rw [e2]
    have hm' := List.mem_of_getElem? hm
    have l1 := hL.locs m hm'
    refine ix ?_
    refine lda hAt ?_
    refine al fun b10 w10 h10 => ?_
    refine sta h10.box (fun w11 h11 y11 => ?_)
    have hB11 : Bl w9 w11 := Eng.New.wr h10 h11
    refine ld (y11.cell rfl) ?_
    refine ld (y11.cell rfl) ?_
    refine bs fun b12 w12 h12 => ?_
    have hB12 := hB11.trans h12.bl
    refine cl (c_Concat m.params m.locals a1 a2 c1 c2 b12 w12 ((f1.bl hB12).sub fun _ _ => trivial) ((f2.bl hB12).sub fun _ _ => trivial) h12.box.at (by omega)) ?_
    rintro _ w13 ⟨ac, cc, rfl, hSc, hB13⟩
    have hB913 := hB12.trans hB13
    have hn : (m.params ++ m.locals).length ≤ 10 := by rw [List.length_append]; exact l1
    have hB13' : Below w.heap.size w w13 := hB9.trans (hB913.mono hB9.size)
    have y13 := Bl.box (h12.bl.trans hB13) y11
    have ng : b10 ≠ g := by have := h10.blk; have := g9.lt; omega
    have ng2 : b10 ≠ g2 := by have := h10.blk; have := s9.lt; omega
    refine lpk (m.params ++ m.locals).length 50 [] [(0, .pointer (some ⟨b0, 0, none⟩)), (3, .pointer (some ⟨g, 0, none⟩)), (4, .pointer (some ⟨g2, 0, none⟩)), (37, .slice a.a4 u.methods.length a.c4), (38, I u.methods.length), (39, I k), (9, .pointer (some ⟨b10, 0, none⟩)), (48, .slice ac (m.params ++ m.locals).length cc), (49, I (m.params ++ m.locals).length)]
      (fun i vals w' => vals = [] ∧ Box w' g 4 [.bool ((((u.classes.all fun c => fOk c.fields) && fOk u.statics) && (u.methods.take k).all mOk) && ((m.params ++ m.locals).take i).all (sOk · 1))] ∧ Box w' g2 144 [seeF g] ∧ Box w' b10 64 (mcells m a1 c1 a2 c2 a3 c3) ∧ Below w.heap.size w w' ∧ Ap w13 (some ⟨g, 0, none⟩) w') ⟨rfl, by simpa using Bl.box hB913 g9, Bl.box hB913 s9, y13, hB13', Eng.Ap.bl (Bl.refl _) _⟩ ?_ (hkeep := by simp only [e2]; repeat (first | exact True.intro | (refine ⟨rfl, ?_⟩)))
    rintro i vals w14 hi ⟨rfl, g14, s14, y14, hB14, hA14⟩ ih2
    by_cases hlt2 : i < (m.params ++ m.locals).length
    · refine brT ?_
      obtain ⟨t, bt, ot, cst, ht, rfl, hSt, hAtt, rfl⟩ := at_some hSc hlt2
      have hAt14 := hAtt.kp (S := fun j => j < w13.heap.size ∧ j ≠ g) (fun b' o' v hs hc => by rw [World.cell?_of_block (w := w13) (hA14.block b' hs.1 fun e => by cases e; exact hs.2 rfl)]; exact hc) ⟨hSt.2, by have := hSt.1; have := h12.size; have := h10.size; have := h11.size; have := g9.lt; omega⟩
      refine ix ?_
      refine lda hAt14 ?_
      refine al fun b15 w15 h15 => ?_
      refine sta h15.box (fun w16 h16 y16 => ?_)
      have hB16 : Bl w14 w16 := Eng.New.wr h15 h16
      refine ld ((Bl.box hB16 s14).cell rfl) ?_
      refine lda y16.at ?_
      refine cl (k_see t 1 g _ w16 (Bl.box hB16 g14)) ?_
      rintro v w17 ⟨g17, hA17⟩
      refine ih2 hlt2 ⟨rfl, ?_, hA17.box (Bl.box hB16 s14) (ap_ne hne), hA17.box (Bl.box hB16 y14) (ap_ne ng), apB (hB14.trans (hB16.mono hB14.size)) hA17, (hA14.trans (Eng.Ap.bl hB16 _)).trans hA17⟩
      rw [all_take_succ ht, ← Bool.and_assoc]; exact g17
    refine brF ?_
    obtain rfl : i = (m.params ++ m.locals).length := by omega
    rw [List.take_length] at g14
    refine ld (s14.cell rfl) ?_
    refine lda (cs := [I m.result.kind, I m.result.cls]) (b := b10) (o := 4) (fun j v hj => ?_) ?_
    · rcases j with _ | _ | j
      · exact y14.at 4 v hj
      · exact y14.at 5 v hj
      · simp at hj
    refine cl (k_see m.result 0 g _ w14 g14) ?_
    rintro v w18 ⟨g18, hA18⟩
    refine ih hlt ⟨rfl, ?_, hA18.box s14 (ap_ne hne), apB hB14 hA18⟩ (hsub := by simp only [e2]; repeat (first | exact True.intro | (refine ⟨rfl, ?_⟩)))
    have e : (((u.classes.all fun c => fOk c.fields) && fOk u.statics) && (u.methods.take (k + 1)).all mOk) = ((((u.classes.all fun c => fOk c.fields) && fOk u.statics) && (u.methods.take k).all mOk) && (m.params ++ m.locals).all (sOk · 1) && sOk m.result 0) := by rw [all_take_succ hm]; unfold mOk; simp [Bool.and_assoc]
    rw [e]; exact g18
  · refine brF ?_
    obtain rfl : k = u.methods.length := by omega
    rw [List.take_length] at g9
    refine ld (g9.cell rfl) ?_
    exact rt1 ⟨rfl, hB9⟩
theorem kgood_eq (u : Unt) : kgood u = (kinds u && classless u) := by
  have h1 : ∀ t, sOk t 1 = (kin t && bare t) := fun t => rfl
  have h0 : ∀ t, sOk t 0 = (kout t && bare t) := fun t => rfl
  have hf : ∀ l : List Fld, fOk l = ((l.all fun f => kin f.ty) && l.all fun f => bare f.ty) := fun l => by
    induction l with
    | nil => rfl
    | cons f l ih =>
      have : fOk (f :: l) = (sOk f.ty 1 && fOk l) := rfl
      rw [this, ih, h1, List.all_cons, List.all_cons]
      cases kin f.ty <;> cases bare f.ty <;> simp
  rw [Bool.eq_iff_iff]
  simp only [kgood, kinds, classless, kcls, kmth, bcls, bmth, mOk, hf, h1, h0, Bool.and_eq_true, List.all_eq_true, List.mem_append]
  constructor
  · rintro ⟨⟨a1, a2⟩, a3⟩
    exact ⟨⟨⟨fun c hc => (a1 c hc).1, a2.1⟩, fun m hm => ⟨⟨fun t ht => ((a3 m hm).1 t (.inl ht)).1, fun t ht => ((a3 m hm).1 t (.inr ht)).1⟩, (a3 m hm).2.1⟩⟩,
      ⟨fun c hc => (a1 c hc).2, a2.2⟩, fun m hm => ⟨⟨(a3 m hm).2.2, fun t ht => ((a3 m hm).1 t (.inl ht)).2⟩, fun t ht => ((a3 m hm).1 t (.inr ht)).2⟩⟩
  · rintro ⟨⟨⟨a1, a2⟩, a3⟩, ⟨b1, b2⟩, b3⟩
    refine ⟨⟨fun c hc => ⟨a1 c hc, b1 c hc⟩, a2, b2⟩, fun m hm => ⟨fun t ht => ?_, (a3 m hm).2, (b3 m hm).1.1⟩⟩
    rcases ht with ht | ht
    · exact ⟨(a3 m hm).1.1 t ht, (b3 m hm).1.2 t ht⟩
    · exact ⟨(a3 m hm).1.2 t ht, (b3 m hm).2 t ht⟩
end Go.Proofs.YtopjmiklpnejmaaGreatDoor
