/- Walks: the program's word on names that must differ. -/
import Derived.Test.YtopjmiklpnejmaaGreatDoorNd
namespace Go.Proofs.YtopjmiklpnejmaaGreatDoor
open Eng Go.RowKit
theorem Eng.Ow.oth {w w' : World} {base e esz n cap : Nat} {a a2 : Option Addr} {xs : List Value} (h : Ow w base e esz a n cap xs) (k : Ap w a2 w') (hne : ∀ g, a = some ⟨g, 0, none⟩ → a2 ≠ some ⟨g, 0, none⟩) : Ow w' base e esz a n cap xs := h.same fun g hg => k.block g (h.lt hg).2 (hne g hg)
theorem named1 (u : Unt) (a : UA) (b0 : Nat) (i : Int) (S : Nat → Prop) {w0 w : World} {b : Nat} (hn : New w0 b 3 [I i] w) (hU : UnR S w u a) (hx : At w b0 0 (ucells u a)) (hi : inP u i) :
    Ret Tryz.prog 82 #[.pointer (some ⟨b0, 0, none⟩), .slice (some ⟨b, 0, none⟩) 1 1] w fun v w' => v = .string (nm u i) ∧ Bl w w' := by
  have hO : OwP 1 encInt w b 3 (some ⟨b, 0, none⟩) 1 [i] := Ow.made (n := 1) hn rfl (by omega)
  refine (u_named u a b0 [i] _ 1 S w hU hx (owp_sl hO (by simp) (fun _ _ => trivial)) (by simp) (fun j hj _ => ?_)).mono ?_
  · simp at hj; subst hj; exact hi
  rintro v w' ⟨rfl, hB⟩
  refine ⟨?_, hB⟩
  have : picked u [i] = [nm u i] := by simp [picked, hi.1]
  rw [this, joinB_one]
theorem named2 (u : Unt) (a : UA) (b0 : Nat) (i j : Int) (S : Nat → Prop) {w0 w : World} {b : Nat} (hn : New w0 b 3 [I i, I j] w) (hU : UnR S w u a) (hx : At w b0 0 (ucells u a)) (hi : inP u i) (hj : inP u j) :
    Ret Tryz.prog 82 #[.pointer (some ⟨b0, 0, none⟩), .slice (some ⟨b, 0, none⟩) 2 2] w fun v w' => v = .string (dots (nm u i) (nm u j)) ∧ Bl w w' := by
  have hO : OwP 1 encInt w b 3 (some ⟨b, 0, none⟩) 2 [i, j] := Ow.made (n := 2) hn rfl (by omega)
  refine (u_named u a b0 [i, j] _ 2 S w hU hx (owp_sl hO (by simp) (fun _ _ => trivial)) (by simp) (fun k hk _ => ?_)).mono ?_
  · simp at hk; rcases hk with rfl | rfl
    · exact hi
    · exact hj
  rintro v w' ⟨rfl, hB⟩
  refine ⟨?_, hB⟩
  have : picked u [i, j] = [nm u i, nm u j] := by simp [picked, hi.1, hj.1]
  rw [this, joinB_two]
theorem app1 {n m : Nat} (h : n ≤ 100) (hm : m = 1) : (n + m) * 16 ≤ 140737488355328 := by omega
theorem u_doubled (u : Unt) (a : UA) (b0 : Nat) (w : World) (hU : UnR T w u a) (hx : At w b0 0 (ucells u a)) (hL : Lim u) (hP : Plc u) : Ret Tryz.prog 54 #[.pointer (some ⟨b0, 0, none⟩)] w fun v w' => v = .bool (doubled u) ∧ Bl w w' := by
  have n1 := hL.cls
  have n2 := hL.sta
  have n3 := hL.mth
  refine entr (vs := [.pointer (some ⟨b0, 0, none⟩)]) [0, 2, 3, 4, 6, 7, 9, 11, 13, 17, 18, 19, 20, 32, 33, 34, 35, 48, 53, 54, 55, 56, 71, 72, 73, 74, 79] tabok Tryz.func54 (by kernel_rfl) ?_
  refine ld (hx 2 _ rfl) ?_
  refine lpk u.classes.length 19 [3] [(0, .pointer (some ⟨b0, 0, none⟩)), (2, .bool false), (4, .slice none 0 0), (17, .slice a.a2 u.classes.length a.c2), (18, I u.classes.length)]
    (fun k vals w' => ∃ a3 c3, vals = [.slice a3 ((u.classes.take k).map fun c => nm u c.name).length c3] ∧ OwP 1 encStr w' w.heap.size 9 a3 c3 ((u.classes.take k).map fun c => nm u c.name) ∧ (u.classes.take k).any (cdup u) = false ∧ Bl w w') ⟨none, 0, rfl, Ow.nil _ _ _ _, rfl, Bl.refl _⟩ ?_
  rintro k vals w1 hk ⟨a3, c3, rfl, hO, hany, hB⟩ ih
  have ht1 : ((u.classes.take k).map fun c => nm u c.name).length ≤ 10 := by rw [List.length_map, List.length_take]; omega
  by_cases hlt : k < u.classes.length
  · refine brT ?_
    obtain ⟨c, b, o, cs, hc, e2, hSb, hAt, af, cf, rfl, hF⟩ := at_some hU.cls hlt
    have hcm := List.mem_of_getElem? hc
    have nf := hL.flds c hcm
    rw [e2]
    refine ix ?_
    refine lda (hAt.bl hB) ?_
    refine al fun b2 w2 h2 => ?_
    refine sta h2.box (fun w3 h3 y3 => ?_)
    have hB3 : Bl w w3 := hB.trans (Eng.New.wr h2 h3)
    refine ld (y3.cell rfl) ?_
    refine bs fun b4 w4 h4 => ?_
    have hB4 := hB3.trans h4.bl
    refine cl (named1 u a b0 c.name T h4 (hU.bl hB4) (hx.bl hB4) (hP.cn c hcm)) ?_
    rintro _ w5 ⟨rfl, hB5⟩
    refine bs fun b6 w6 h6 => ?_
    have hB6 := (hB4.trans hB5).trans h6.bl
    have hO6 := ((hO.bl (Eng.New.wr h2 h3)).bl h4.bl).bl (hB5.trans h6.bl)
    refine apl (l1 := [nm u c.name]) hO6 (.inr ⟨b6, 0, rfl, h6.box.at⟩) hB6.size (fun a7 c7 w7 hO7 hA7 _ => ?_) (hb := by simp only [List.length_cons, List.length_nil]; omega) (hn := by simp only [List.length_cons, List.length_nil]; omega)
    have hB7 : Bl w w7 := Eng.Ow.below hO6 hA7 hB6 hB6.size
    have y7 := hA7.box (Bl.box ((h4.bl.trans hB5).trans h6.bl) y3) (fun e => by have := (hO.lt e).2; have := h2.blk; omega)
    have e1 : (u.classes.take (k + 1)).map (fun c => nm u c.name) = (u.classes.take k).map (fun c => nm u c.name) ++ [nm u c.name] := map_snoc hc
    refine ld (y7.cell rfl) ?_
    refine lpk c.fields.length 34 [7] [(0, .pointer (some ⟨b0, 0, none⟩)), (2, .bool false), (4, .slice none 0 0), (17, .slice (some ⟨b, o, none⟩) u.classes.length a.c2), (18, I u.classes.length), (19, I k), (3, .slice a7 ((u.classes.take k).map (fun c => nm u c.name) ++ [nm u c.name]).length c7), (32, .slice af c.fields.length cf), (33, I c.fields.length)]
      (fun i vals w' => ∃ a8 c8, vals = [.slice a8 ((c.fields.take i).map fun f => nm u f.name).length c8] ∧ OwP 1 encStr w' w7.heap.size 9 a8 c8 ((c.fields.take i).map fun f => nm u f.name) ∧ Bl w7 w') ⟨none, 0, rfl, Ow.nil _ _ _ _, Bl.refl _⟩ ?_
    rintro i vals w8 hi ⟨a8, c8, rfl, hO8, hB8⟩ ih2
    have ht2 : ((c.fields.take i).map fun f => nm u f.name).length ≤ 7 := by rw [List.length_map, List.length_take]; omega
    have hB08 := hB7.trans hB8
    by_cases hlt2 : i < c.fields.length
    · refine brT ?_
      obtain ⟨f, bf, off, cs, hf, rfl, _, hAtf, rfl⟩ := at_some hF hlt2
      refine ix ?_
      refine lda (hAtf.bl hB08) ?_
      refine al fun b9 w9 h9 => ?_
      refine sta h9.box (fun w10 h10 y10 => ?_)
      have hB10 := Eng.New.wr h9 h10
      refine ld (y10.cell rfl) ?_
      refine bs fun b11 w11 h11 => ?_
      have hB11 := hB10.trans h11.bl
      refine cl (named1 u a b0 f.name T h11 (hU.bl (hB08.trans hB11)) (hx.bl (hB08.trans hB11)) (hP.fn c hcm f (List.mem_of_getElem? hf))) ?_
      rintro _ w12 ⟨rfl, hB12⟩
      refine bs fun b13 w13 h13 => ?_
      have hB13 := (hB11.trans hB12).trans h13.bl
      have hO13 := hO8.bl hB13
      refine apl (l1 := [nm u f.name]) hO13 (.inr ⟨b13, 0, rfl, h13.box.at⟩) (hB8.trans hB13).size (fun a14 c14 w14 hO14 hA14 _ => ?_) (hb := by simp only [List.length_cons, List.length_nil]; omega) (hn := by simp only [List.length_cons, List.length_nil]; omega)
      have e3 : (c.fields.take (i + 1)).map (fun f => nm u f.name) = (c.fields.take i).map (fun f => nm u f.name) ++ [nm u f.name] := map_snoc hf
      exact ih2 hlt2 ⟨a14, c14, by rw [e3], by rw [e3]; exact hO14, Eng.Ow.below hO13 hA14 (hB8.trans hB13) (hB8.trans hB13).size⟩
    refine brF ?_
    obtain rfl : i = c.fields.length := by omega
    rw [List.take_length] at hO8 ⊢
    refine cl (u_twice (c.fields.map fun f : Fld => nm u f.name) a8 c8 T w8 (owp_sl hO8 (by rw [List.length_map]; omega) (fun _ _ => trivial))) ?_
    rintro _ w9 ⟨rfl, hB9⟩
    refine br (t := cdup u c) (fun h => ?_) (fun h => ?_)
    · refine rt1 ⟨vb ?_, hB08.trans hB9⟩
      have : u.classes.any (cdup u) = true := List.any_eq_true.2 ⟨c, hcm, h⟩
      unfold doubled; rw [this]; simp
    · refine ih hlt ⟨a7, c7, by rw [e1], by rw [e1]; exact (hO7.bl hB8).bl hB9, any_snoc hc hany h, hB08.trans hB9⟩ (hsub := by simp only [e2]; repeat (first | exact True.intro | (refine ⟨rfl, ?_⟩)))
  refine brF ?_
  obtain rfl : k = u.classes.length := by omega
  have hany' := any_end hany
  rw [List.take_length] at hO ht1 ⊢
  refine ld ((hx.bl hB) 3 _ rfl) ?_
  refine lpk (vals := [.slice a3 (u.classes.map fun c => nm u c.name).length c3]) u.statics.length 55 [3] [(0, .pointer (some ⟨b0, 0, none⟩)), (4, .slice none 0 0), (53, .slice a.a3 u.statics.length a.c3), (54, I u.statics.length)]
    (fun k vals w' => ∃ a3 c3, vals = [.slice a3 ((u.classes.map fun c => nm u c.name) ++ (u.statics.take k).map fun f => nm u f.name).length c3] ∧ OwP 1 encStr w' w.heap.size 9 a3 c3 ((u.classes.map fun c => nm u c.name) ++ (u.statics.take k).map fun f => nm u f.name) ∧ Bl w w') ⟨a3, c3, by simp, by simpa using hO, hB⟩ ?_
  rintro k vals w2 hk ⟨a4, c4, rfl, hO2, hB2⟩ ih
  have ht2 : ((u.classes.map fun c => nm u c.name) ++ (u.statics.take k).map fun f => nm u f.name).length ≤ 20 := by rw [List.length_append, List.length_map, List.length_map, List.length_take]; omega
  by_cases hlt : k < u.statics.length
  · refine brT ?_
    obtain ⟨f, b, o, cs, hf, e2, hSb, hAt, rfl⟩ := at_some hU.sta hlt
    have hfm := List.mem_of_getElem? hf
    rw [e2]
    refine ix ?_
    refine lda (hAt.bl hB2) ?_
    refine al fun b3 w3 h3 => ?_
    refine sta h3.box (fun w4 h4 y4 => ?_)
    have hB4 := Eng.New.wr h3 h4
    refine ld (y4.cell rfl) ?_
    refine bs fun b5 w5 h5 => ?_
    have hB5 := hB4.trans h5.bl
    refine cl (named1 u a b0 f.name T h5 (hU.bl (hB2.trans hB5)) (hx.bl (hB2.trans hB5)) (hP.sn f hfm)) ?_
    rintro _ w6 ⟨rfl, hB6⟩
    refine bs fun b7 w7 h7 => ?_
    have hB7 := (hB5.trans hB6).trans h7.bl
    have hO7 := hO2.bl hB7
    refine apl (l1 := [nm u f.name]) hO7 (.inr ⟨b7, 0, rfl, h7.box.at⟩) (hB2.trans hB7).size (fun a8 c8 w8 hO8 hA8 _ => ?_) (hb := by simp only [List.length_cons, List.length_nil]; omega) (hn := by simp only [List.length_cons, List.length_nil]; omega)
    have e3 : (u.classes.map fun c => nm u c.name) ++ (u.statics.take (k + 1)).map (fun f => nm u f.name) = ((u.classes.map fun c => nm u c.name) ++ (u.statics.take k).map (fun f => nm u f.name)) ++ [nm u f.name] := by rw [map_snoc hf, List.append_assoc]
    exact ih hlt ⟨a8, c8, by rw [e3], by rw [e3]; exact hO8, Eng.Ow.below hO7 hA8 (hB2.trans hB7) (hB2.trans hB7).size⟩ (hsub := by simp only [e2]; repeat (first | exact True.intro | (refine ⟨rfl, ?_⟩)))
  refine brF ?_
  obtain rfl : k = u.statics.length := by omega
  rw [List.take_length] at hO2 ht2 ⊢
  refine ld ((hx.bl hB2) 4 _ rfl) ?_
  refine lpk (vals := [.slice a4 ((u.classes.map fun c => nm u c.name) ++ u.statics.map fun f => nm u f.name).length c4, .slice none 0 0]) u.methods.length 73 [3, 4] [(0, .pointer (some ⟨b0, 0, none⟩)), (71, .slice a.a4 u.methods.length a.c4), (72, I u.methods.length)]
    (fun k vals w' => ∃ a3 c3 a4 c4, vals = [.slice a3 (((u.classes.map fun c => nm u c.name) ++ u.statics.map fun f => nm u f.name) ++ ((u.methods.take k).filter fun m => decide (m.cls = -1)).map fun m => nm u m.name).length c3, .slice a4 (((u.methods.take k).filter fun m => !decide (m.cls = -1)).map fun m => dots (nm u m.cls) (nm u m.name)).length c4] ∧
      OwP 1 encStr w' w.heap.size 9 a3 c3 (((u.classes.map fun c => nm u c.name) ++ u.statics.map fun f => nm u f.name) ++ ((u.methods.take k).filter fun m => decide (m.cls = -1)).map fun m => nm u m.name) ∧
      OwP 1 encStr w' w.heap.size 9 a4 c4 (((u.methods.take k).filter fun m => !decide (m.cls = -1)).map fun m => dots (nm u m.cls) (nm u m.name)) ∧ (∀ g, a3 = some ⟨g, 0, none⟩ → a4 ≠ some ⟨g, 0, none⟩) ∧ Bl w w') ⟨a4, c4, none, 0, by simp, by simpa using hO2, by simp only [List.take_zero, List.filter_nil, List.map_nil]; exact Ow.nil _ _ _ _, (fun _ _ e => by cases e), hB2⟩ ?_
  rintro k vals w3 hk ⟨a5, c5, a6, c6, rfl, hO3, hO4, hne, hB3⟩ ih
  have fl : ∀ p : Mth → Bool, ((u.methods.take k).filter p).length ≤ 16 := fun p => Nat.le_trans (List.length_filter_le _ _) (by rw [List.length_take]; omega)
  have ht3 : (((u.classes.map fun c => nm u c.name) ++ u.statics.map fun f => nm u f.name) ++ ((u.methods.take k).filter fun m => decide (m.cls = -1)).map fun m => nm u m.name).length ≤ 36 := by
    have := fl fun m => decide (m.cls = -1)
    rw [List.length_append, List.length_map]; omega
  have ht4 : (((u.methods.take k).filter fun m => !decide (m.cls = -1)).map fun m => dots (nm u m.cls) (nm u m.name)).length ≤ 16 := by rw [List.length_map]; exact fl _
  by_cases hlt : k < u.methods.length
  · refine brT ?_
    obtain ⟨m, b, o, cs, hm, e2, hSb, hAt, a1, c1, a2, c2, a3, c3, rfl, f1, f2, f3⟩ := at_some hU.mth hlt
    have hmm := List.mem_of_getElem? hm
    rw [e2]
    refine ix ?_
    refine lda (hAt.bl hB3) ?_
    refine al fun b4 w4 h4 => ?_
    refine sta h4.box (fun w5 h5 y5 => ?_)
    have hB5 := Eng.New.wr h4 h5
    refine ld (y5.cell rfl) ?_
    rcases hP.mc m hmm with hc | hc
    · refine brT ?_ (hp := by show m.cls < 0; omega)
      have e5 : ((u.methods.take (k + 1)).filter fun m => decide (m.cls = -1)) = ((u.methods.take k).filter fun m => decide (m.cls = -1)) ++ [m] := by rw [take_succ_some hm, List.filter_append]; simp [hc]
      have e6 : ((u.methods.take (k + 1)).filter fun m => !decide (m.cls = -1)) = ((u.methods.take k).filter fun m => !decide (m.cls = -1)) := by rw [take_succ_some hm, List.filter_append]; simp [hc]
      refine ld (y5.cell rfl) ?_
      refine bs fun b6 w6 h6 => ?_
      have hB6 := hB5.trans h6.bl
      refine cl (named1 u a b0 m.name T h6 (hU.bl (hB3.trans hB6)) (hx.bl (hB3.trans hB6)) (hP.mn m hmm)) ?_
      rintro _ w7 ⟨rfl, hB7⟩
      refine bs fun b8 w8 h8 => ?_
      have hB8 := (hB6.trans hB7).trans h8.bl
      have hO8 := hO3.bl hB8
      refine apl (l1 := [nm u m.name]) hO8 (.inr ⟨b8, 0, rfl, h8.box.at⟩) (hB3.trans hB8).size (fun a9 c9 w9 hO9 hA9 hfr => ?_) (hb := by simp only [List.length_cons, List.length_nil]; omega) (hn := by simp only [List.length_cons, List.length_nil]; omega)
      refine ih hlt ⟨a9, c9, a6, c6, ?_, ?_, ?_, ?_, Eng.Ow.below hO8 hA9 (hB3.trans hB8) (hB3.trans hB8).size⟩ (hsub := by simp only [e2]; repeat (first | exact True.intro | (refine ⟨rfl, ?_⟩)))
      · rw [e5, e6, List.map_append, ← List.append_assoc]; rfl
      · rw [e5, List.map_append, ← List.append_assoc]; exact hO9
      · rw [e6]; exact (hO4.bl hB8).oth hA9 (fun g hg e => hne g e hg)
      · intro g hg e
        rcases hfr g hg with h | h
        · exact hne g h e
        · have := (hO4.lt e).2; have := hB8.size; omega
    · refine brF ?_ (hp := by show ¬ m.cls < 0; have := hc.1; omega)
      have hcn : ¬ m.cls = -1 := by have := hc.1; omega
      have e5 : ((u.methods.take (k + 1)).filter fun m => decide (m.cls = -1)) = ((u.methods.take k).filter fun m => decide (m.cls = -1)) := by rw [take_succ_some hm, List.filter_append]; simp [hcn]
      have e6 : ((u.methods.take (k + 1)).filter fun m => !decide (m.cls = -1)) = ((u.methods.take k).filter fun m => !decide (m.cls = -1)) ++ [m] := by rw [take_succ_some hm, List.filter_append]; simp [hcn]
      refine ld (y5.cell rfl) ?_
      refine ld (y5.cell rfl) ?_
      refine bs fun b6 w6 h6 => ?_
      have hB6 := hB5.trans h6.bl
      refine cl (named2 u a b0 m.cls m.name T h6 (hU.bl (hB3.trans hB6)) (hx.bl (hB3.trans hB6)) hc (hP.mn m hmm)) ?_
      rintro _ w7 ⟨rfl, hB7⟩
      refine bs fun b8 w8 h8 => ?_
      have hB8 := (hB6.trans hB7).trans h8.bl
      have hO8 := hO4.bl hB8
      refine apl (l1 := [dots (nm u m.cls) (nm u m.name)]) hO8 (.inr ⟨b8, 0, rfl, h8.box.at⟩) (hB3.trans hB8).size (fun a9 c9 w9 hO9 hA9 hfr => ?_) (hb := by simp only [List.length_cons, List.length_nil]; omega) (hn := by simp only [List.length_cons, List.length_nil]; omega)
      refine ih hlt ⟨a5, c5, a9, c9, ?_, ?_, ?_, ?_, Eng.Ow.below hO8 hA9 (hB3.trans hB8) (hB3.trans hB8).size⟩ (hsub := by simp only [e2]; repeat (first | exact True.intro | (refine ⟨rfl, ?_⟩)))
      · rw [e5, e6, List.map_append]; rfl
      · rw [e5]; exact (hO3.bl hB8).oth hA9 (fun g hg e => hne g hg e)
      · rw [e6, List.map_append]; exact hO9
      · intro g hg e
        rcases hfr g e with h | h
        · exact hne g hg h
        · have := (hO3.lt hg).2; have := hB8.size; omega
  refine brF ?_
  obtain rfl : k = u.methods.length := by omega
  rw [List.take_length] at hO3 hO4 ht3 ht4 ⊢
  have eD : doubled u = (dup u.pool || dup (heads u) || dup (fulls u)) := by unfold doubled; rw [hany']; simp
  refine ld ((hx.bl hB3) 1 _ rfl) ?_
  refine cl (u_twice u.pool a.a1 a.c1 T w3 (hU.bl hB3).pool) ?_
  rintro _ w4 ⟨rfl, hB4⟩
  refine sp (.bool false) (fun q => ?_) (fun q => ?_)
  · refine cl (u_twice (heads u) a5 c5 T w4 (owp_sl (hO3.bl hB4) (by omega) (fun _ _ => trivial))) ?_
    rintro _ w5 ⟨rfl, hB5⟩
    refine sp (.bool false) (fun q2 => ?_) (fun q2 => ?_)
    · refine cl (u_twice (fulls u) a6 c6 T w5 (owp_sl ((hO4.bl hB4).bl hB5) (by omega) (fun _ _ => trivial))) ?_
      rintro _ w6 ⟨rfl, hB6⟩
      refine rt1 ⟨vb ?_, ((hB3.trans hB4).trans hB5).trans hB6⟩
      rw [eD, q, show dup (heads u) = false from by simpa using q2]; rfl
    · have q2' : dup (heads u) = true := by simpa using q2
      refine rt1 ⟨vb ?_, (hB3.trans hB4).trans hB5⟩
      rw [eD, q, q2']; rfl
  · have q' : dup u.pool = true := by simpa using q
    refine sp (.bool false) (fun q2 => ?_) (fun q2 => ?_)
    · rw [q'] at q2; cases q2
    refine rt1 ⟨vb ?_, hB3.trans hB4⟩
    rw [eD, q']; rfl
end Go.Proofs.YtopjmiklpnejmaaGreatDoor
