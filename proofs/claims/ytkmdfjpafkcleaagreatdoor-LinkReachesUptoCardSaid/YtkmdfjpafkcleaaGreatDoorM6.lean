import Derived.Test.YtkmdfjpafkcleaaGreatDoorM5
import Derived.Test.YtkmdfjpafkcleaaGreatDoorM3
/- Walks: what a method names, in the document. -/
namespace Go.Proofs.YtkmdfjpafkcleaaGreatDoor
open Eng Go.RowKit
/-- named, where the list is a row of the call's own -/
theorem r5_named (l : List Int) (t : Ty) (base : Nat) (al : Option Addr) (ce : Nat) (w : World) (hO : OwP 1 encInt w base 3 al ce l) (hl : l.length ≤ 1000000) (hb : base ≤ w.heap.size) :
    Ret Tryz.prog 81 #[.slice al l.length ce, .agg (encTy t).toArray] w fun v w' => ∃ a c, v = .slice a (l ++ tcl t).length c ∧ OwP 1 encInt w' base 3 a c (l ++ tcl t) ∧ (∀ g, a = some ⟨g, 0, none⟩ → al = some ⟨g, 0, none⟩ ∨ w.heap.size ≤ g) ∧ Chg (fun g => al = some ⟨g, 0, none⟩) w w' := by
  refine entr (vs := [.slice al l.length ce, .agg (encTy t).toArray]) [0, 1, 3, 4, 12] tabok Tryz.func81 (by kernel_rfl) ?_
  refine bx (cs := encTy t) fun b1 w1 k1 => ?_
  have z1 := k1.size
  have O1 := hO.bl k1.bl
  refine ld (k1.box.cell rfl) ?_
  by_cases h2 : t.kind = 2
  · have et : tcl t = [t.cls] := if_pos (.inl h2)
    refine spn (I 0) ?_ (hb := by simp [h2])
    refine brt ?_ (hp := by simp [h2])
    refine ld (k1.box.cell rfl) ?_
    refine bs (cs := encInt t.cls) fun b2 w2 k2 => ?_
    have z2 := k2.size
    refine apl (l1 := [t.cls]) (O1.bl k2.bl) (.inr ⟨b2, 0, rfl, k2.box.at⟩) (by omega) fun a3 c3 w3 O3 A3 F3 => ?_
    exact rt1 ⟨a3, c3, by rw [et], by rw [et]; exact O3, fun g hg => (F3 g hg).imp id fun q => by omega, ((k1.bl.trans k2.bl).chg _).trans (A3.chg fun g hg _ => hg)⟩
  · refine spt (I 0) ?_ (hb := by simp [h2])
    refine ld (k1.box.cell rfl) ?_
    by_cases h4 : t.kind = 4
    · have et : tcl t = [t.cls] := if_pos (.inr h4)
      refine brt ?_ (hp := by simp [h4])
      refine ld (k1.box.cell rfl) ?_
      refine bs (cs := encInt t.cls) fun b2 w2 k2 => ?_
      have z2 := k2.size
      refine apl (l1 := [t.cls]) (O1.bl k2.bl) (.inr ⟨b2, 0, rfl, k2.box.at⟩) (by omega) fun a3 c3 w3 O3 A3 F3 => ?_
      exact rt1 ⟨a3, c3, by rw [et], by rw [et]; exact O3, fun g hg => (F3 g hg).imp id fun q => by omega, ((k1.bl.trans k2.bl).chg _).trans (A3.chg fun g hg _ => hg)⟩
    · have et : tcl t = [] := if_neg (by omega)
      refine brf ?_ (hp := by simp [h2, h4])
      exact rt1 ⟨al, ce, by rw [et, List.append_nil], by rw [et, List.append_nil]; exact O1, fun g hg => .inl hg, k1.bl.chg _⟩
/-- named, where the list has no room -/
theorem r5_namedF (l : List Int) (t : Ty) (al : Option Addr) (w : World) (hS : Sl eInt T w al l) (hl : l.length ≤ 1000000) :
    Ret Tryz.prog 81 #[.slice al l.length l.length, .agg (encTy t).toArray] w fun v w' => ∃ a c, v = .slice a (l ++ tcl t).length c ∧ (l ++ tcl t).length ≤ c ∧ (a = none → c = 0) ∧ Sl eInt T w' a (l ++ tcl t) ∧ Bl w w' := by
  refine entr (vs := [.slice al l.length l.length, .agg (encTy t).toArray]) [0, 1, 3, 4, 12] tabok Tryz.func81 (by kernel_rfl) ?_
  refine bx (cs := encTy t) fun b1 w1 k1 => ?_
  have z1 := k1.size
  have S1 := hS.bl k1.bl
  have hnone : al = none → l.length = 0 := fun e => by
    cases l with
    | nil => rfl
    | cons x l =>
      obtain ⟨b, o, cs, e2, _⟩ := hS.el 0 x rfl
      rw [e] at e2; cases e2
  refine ld (k1.box.cell rfl) ?_
  by_cases h2 : t.kind = 2
  · have et : tcl t = [t.cls] := if_pos (.inl h2)
    refine spn (I 0) ?_ (hb := by simp [h2])
    refine brt ?_ (hp := by simp [h2])
    refine ld (k1.box.cell rfl) ?_
    refine bs (cs := encInt t.cls) fun b2 w2 k2 => ?_
    refine apg (m := 1) (xs := l.flatMap encInt) (src_of (S1.bl k2.bl)) (.inr ⟨b2, 0, rfl, k2.box.at⟩) (fun e => hnone e) (by omega) (by omega) (fun a3 c3 w3 O3 B3 => ?_) (hlx := by rw [int_len]; omega) (h1 := rfl)
    have e5 : l.flatMap encInt ++ encInt t.cls = (l ++ [t.cls]).flatMap encInt := by simp
    have e6 : l.length + 1 = (l ++ [t.cls]).length := by simp
    rw [e5, e6] at O3
    rw [e6]
    exact rt1 ⟨a3, c3, by rw [et], by rw [et]; exact O3.capn.1, O3.capn.2, by rw [et]; exact owp_sl O3 (by simp; omega) fun _ _ => trivial, (k1.bl.trans k2.bl).trans B3⟩
  · refine spt (I 0) ?_ (hb := by simp [h2])
    refine ld (k1.box.cell rfl) ?_
    by_cases h4 : t.kind = 4
    · have et : tcl t = [t.cls] := if_pos (.inr h4)
      refine brt ?_ (hp := by simp [h4])
      refine ld (k1.box.cell rfl) ?_
      refine bs (cs := encInt t.cls) fun b2 w2 k2 => ?_
      refine apg (m := 1) (xs := l.flatMap encInt) (src_of (S1.bl k2.bl)) (.inr ⟨b2, 0, rfl, k2.box.at⟩) (fun e => hnone e) (by omega) (by omega) (fun a3 c3 w3 O3 B3 => ?_) (hlx := by rw [int_len]; omega) (h1 := rfl)
      have e5 : l.flatMap encInt ++ encInt t.cls = (l ++ [t.cls]).flatMap encInt := by simp
      have e6 : l.length + 1 = (l ++ [t.cls]).length := by simp
      rw [e5, e6] at O3
      rw [e6]
      exact rt1 ⟨a3, c3, by rw [et], by rw [et]; exact O3.capn.1, O3.capn.2, by rw [et]; exact owp_sl O3 (by simp; omega) fun _ _ => trivial, (k1.bl.trans k2.bl).trans B3⟩
    · have et : tcl t = [] := if_neg (by omega)
      refine brf ?_ (hp := by simp [h2, h4])
      exact rt1 ⟨al, l.length, by rw [et, List.append_nil], by rw [et, List.append_nil]; exact Nat.le_refl _, hnone, by rw [et, List.append_nil]; exact S1, k1.bl⟩
/-- two slices do not share a row -/
def Sep2 (a b : Option Addr) : Prop := ∀ g, a = some ⟨g, 0, none⟩ → b = some ⟨g, 0, none⟩ → False
theorem insC_len (i : Ins) : (insC i).length ≤ 1 := by
  unfold insC tcl
  split
  · split <;> simp
  · split
    · simp
    · split <;> simp
theorem insS_len (i : Ins) : (insS i).length ≤ 1 := by unfold insS; split <;> simp
theorem tcl_len (t : Ty) : (tcl t).length ≤ 1 := by unfold tcl; split <;> simp
set_option maxHeartbeats 4000000 in
theorem r5_needs (m : Mod) (a : MA) (P : ModP m) (k : Nat) (x : MM) (hx : m.methods[k]? = some x) (w : World) (hM : MdR T w m a) :
    Ret Tryz.prog 80 #[.agg (modcells m a).toArray, I k] w fun v w' => ∃ a1 c1 a2 c2, v = .tuple #[.slice a1 (needC x).length c1, .slice a2 (needS x).length c2] ∧
      Sl eInt (fun b => w.heap.size ≤ b ∧ b < w'.heap.size) w' a1 (needC x) ∧ Sl eInt (fun b => w.heap.size ≤ b ∧ b < w'.heap.size) w' a2 (needS x) ∧ Bl w w' := by
  have q1 := hM.mth.big
  have hk := (List.getElem?_eq_some_iff.1 hx).1
  have M := P.mth k x hx
  have hcl := codeE_len M.cd
  have hll : (locM x).length ≤ 11 := by
    have h1 := M.ll
    have h2 := selfM_len x
    rw [locM_eq, List.length_append, List.length_append]
    split at h1 <;> omega
  refine entr (vs := [.agg (modcells m a).toArray, I k]) [0, 1, 2, 4, 5, 6, 7, 8, 10, 11, 12, 31, 49, 56, 57, 72, 83, 93] tabok Tryz.func80 (by kernel_rfl) ?_
  refine bx (cs := modcells m a) fun b1 w1 k1 => ?_
  obtain ⟨x', b, o, cs, hx', e2, _, hAt, a1, d1, a2', d2, a3, d3, rfl, f1, f2, f3, _⟩ := at_some (hM.bl k1.bl).mth hk
  obtain rfl : x' = x := by rw [hx] at hx'; exact (Option.some.inj hx').symm
  have f3 := Sl.lt (by decide) f3
  refine lda k1.box.at ?_
  refine cl (r5_Locals m a k w1 (hM.bl k1.bl)) ?_ (hm := fun _ _ r => by obtain ⟨_, _, _, _, hB⟩ := r; exact mdW_bl hB)
  rintro _ w2 ⟨a2, c2, rfl, O2, B12⟩
  have ha : askE m m.methods.length [(k : Int)] = 0 := if_pos ⟨chkE_yes P, fun i hi => by simp only [List.mem_singleton] at hi; subst hi; exact ⟨by omega, by omega⟩⟩
  have el : locL m k = locM x' := by rw [← mths_at hx]; exact if_pos ha
  rw [el] at O2 ⊢
  have B2 := k1.bl.trans B12
  have x2 := Bl.box B12 k1.box
  have z1 := k1.size
  have z2 := B12.size
  refine ld (x2.cell rfl) ?_
  rw [e2]
  refine ix ?_
  refine lda (At.left (cs := encTy x'.result) (hAt.bl B12).tail.tail.tail.tail) ?_
  refine bs (cs := encTy x'.result) fun b3 w3 k3 => ?_
  have z3 := k3.size
  refine apl (l1 := [x'.result]) (O2.bl k3.bl) (.inr ⟨b3, 0, rfl, k3.box.at⟩) (by omega) fun a4 c4 w4 O4 A4 F4 => ?_
  have z4 := A4.size
  have B14 : Bl w1 w4 := Below.trans (B12.trans k3.bl) (A4.below (by omega) fun g hg => (O2.lt hg).1)
  have B4 := k1.bl.trans B14
  have x4 := Bl.box B14 k1.box
  obtain ⟨L, hL⟩ : ∃ L, L = locM x' ++ [x'.result] := ⟨_, rfl⟩
  rw [← hL] at O4 ⊢
  have hLl : L.length ≤ 12 := by rw [hL, List.length_append]; simp only [List.length_singleton]; omega
  have S4 : Sl eTy T w4 a4 L := owp_sl O4 (by omega) fun _ _ => trivial
  refine lpk L.length 10 [6] [(1, I k), (2, .pointer (some ⟨b1, 0, none⟩)), (7, .slice none 0 0), (8, .slice a4 L.length c4)] (fun j vals w' => ∃ a c, vals = [.slice a ((L.take j).flatMap tcl).length c] ∧ OwP 1 encInt w' w4.heap.size 3 a c ((L.take j).flatMap tcl) ∧ Bl w4 w') ⟨none, 0, rfl, Ow.nil .., Bl.refl _⟩ ?_
  rintro j vals w5 hj ⟨a5, c5, rfl, O5, B45⟩ ih
  have h5 := flatMap_take_le (f := tcl) (B := 1) (l := L) (fun t _ => tcl_len t) hj
  have z5 := B45.size
  by_cases hlt : j < L.length
  · refine brT ?_
    obtain ⟨t, bt, ot, ct, ht, rfl, _, hAt5, rfl⟩ := at_some (S4.bl B45) hlt
    refine ix ?_
    refine lda hAt5 ?_
    refine cl (r5_named _ t w4.heap.size a5 c5 w5 O5 (by omega) z5) ?_ (hm := by intros; trivial)
    rintro _ w6 ⟨a6, c6, rfl, O6, F6, C6⟩
    rw [← flatMap_snoc ht] at O6 ⊢
    refine ih hlt ⟨a6, c6, rfl, O6, Below.trans B45 (C6.below z5 fun g hg => (O5.lt hg).1)⟩
  refine brF ?_
  obtain rfl : j = L.length := by omega
  rw [List.take_length] at O5 h5 ⊢
  clear ih
  have B5 := B4.trans B45
  have x5 := Bl.box B45 x4
  have B15 := B14.trans B45
  refine ld (x5.cell rfl) ?_
  rw [e2]
  refine ix ?_
  refine ld ((hAt.bl B15) 6 _ rfl) ?_
  obtain ⟨K, hK⟩ : ∃ K, K = L.flatMap tcl := ⟨_, rfl⟩
  rw [← hK] at O5 h5 ⊢
  have S5 := f3.bl B15
  refine lpk (vals := [.slice a5 K.length c5, .slice none 0 0]) x'.code.length 12 [6, 7] [(11, .slice a3 x'.code.length d3)] (fun j vals w' => ∃ a6 c6 a7 c7, vals = [.slice a6 (K ++ (x'.code.take j).flatMap insC).length c6, .slice a7 ((x'.code.take j).flatMap insS).length c7] ∧ OwP 1 encInt w' w4.heap.size 3 a6 c6 (K ++ (x'.code.take j).flatMap insC) ∧ OwP 1 encInt w' w4.heap.size 3 a7 c7 ((x'.code.take j).flatMap insS) ∧ Sep2 a6 a7 ∧ Below w4.heap.size w5 w')
    ⟨a5, c5, none, 0, by simp, by simpa using O5, Ow.nil .., (fun _ _ h => by cases h), Below.refl _ _⟩ ?_
  rintro j vals w6 hj ⟨a6, c6, a7, c7, rfl, O6, O7, hsep, B56⟩ ih
  have h6 := flatMap_take_le (f := insC) (B := 1) (l := x'.code) (fun t _ => insC_len t) hj
  have h7 := flatMap_take_le (f := insS) (B := 1) (l := x'.code) (fun t _ => insS_len t) hj
  have z6 := B56.size
  have hK6 : (K ++ (x'.code.take j).flatMap insC).length ≤ 140 := by rw [List.length_append]; omega
  by_cases hlt : j < x'.code.length
  rotate_left
  · refine brF ?_
    obtain rfl : j = x'.code.length := by omega
    rw [List.take_length] at *
    have en : needC x' = K ++ x'.code.flatMap insC := by rw [hK, hL]; rfl
    have es : needS x' = x'.code.flatMap insS := rfl
    rw [en, es]
    refine rt2 ⟨a6, c6, a7, c7, rfl, owp_sl O6 (by omega) fun g hg => ⟨by have := (O6.lt hg).1; omega, (O6.lt hg).2⟩, owp_sl O7 (by omega) fun g hg => ⟨by have := (O7.lt hg).1; omega, (O7.lt hg).2⟩, Below.trans B5 (B56.mono (by omega))⟩
  refine brT ?_
  have S6 : Sl eIns (· < w1.heap.size) w6 a3 x'.code := S5.kp ((Below.kp B56).sub fun i hi => by omega)
  obtain ⟨i, bi, oi, ci, hi, rfl, hSi, hAi, rfl⟩ := at_some S6 hlt
  have hsC := flatMap_snoc (f := insC) hi
  have hsS := flatMap_snoc (f := insS) hi
  -- a class more
  have goC : ∀ {w8 : World} {a8 : Option Addr} {c8 : Nat} {l8 : List Int}, insC i = l8 → insS i = [] → OwP 1 encInt w8 w4.heap.size 3 a8 c8 (K ++ (x'.code.take j).flatMap insC ++ l8) → (∀ g, a8 = some ⟨g, 0, none⟩ → a6 = some ⟨g, 0, none⟩ ∨ w6.heap.size ≤ g) → Chg (fun g => a6 = some ⟨g, 0, none⟩) w6 w8 →
      ∃ a6' c6' a7' c7', [Value.slice a8 (K ++ (x'.code.take j).flatMap insC ++ l8).length c8, .slice a7 ((x'.code.take j).flatMap insS).length c7] = [.slice a6' (K ++ (x'.code.take (j + 1)).flatMap insC).length c6', .slice a7' ((x'.code.take (j + 1)).flatMap insS).length c7'] ∧ OwP 1 encInt w8 w4.heap.size 3 a6' c6' (K ++ (x'.code.take (j + 1)).flatMap insC) ∧ OwP 1 encInt w8 w4.heap.size 3 a7' c7' ((x'.code.take (j + 1)).flatMap insS) ∧ Sep2 a6' a7' ∧ Below w4.heap.size w5 w8 := fun {w8 a8 c8 l8} e1 e2 O F C => by
    have e3 : K ++ (x'.code.take (j + 1)).flatMap insC = K ++ (x'.code.take j).flatMap insC ++ l8 := by rw [hsC, e1, List.append_assoc]
    have e4 : (x'.code.take (j + 1)).flatMap insS = (x'.code.take j).flatMap insS := by rw [hsS, e2, List.append_nil]
    refine ⟨a8, c8, a7, c7, by rw [e3, e4], by rw [e3]; exact O, by rw [e4]; exact O7.same fun g hg => C.block g (O7.lt hg).2 fun q => hsep g q hg, fun g hg hg' => ?_, Below.trans B56 (C.below (by omega) fun g hg => (O6.lt hg).1)⟩
    rcases F g hg with q | q
    · exact hsep g q hg'
    · have := (O7.lt hg').2; omega
  refine ix ?_
  refine ld (hAi 0 _ rfl) ?_
  by_cases h12 : i.op = 12
  · have ec : insC i = tcl ⟨i.a, i.b⟩ := by unfold insC; rw [if_pos h12]
    have es : insS i = [] := by unfold insS; rw [if_neg (by omega)]
    refine brT ?_ (hp := h12)
    refine dh (· < w1.heap.size) (List.range 14) fun w7 k7 => ?_
    have z7 := k7.bl.size
    have hA7 := hAi.bl k7.bl
    refine ix ?_
    refine ld (hA7 1 _ rfl) ?_ (hm := hSi)
    refine ix ?_
    refine ld (hA7 2 _ rfl) ?_ (hm := hSi)
    refine bd (cs := [I i.a, I i.b]) ?_
    refine cl (r5_named _ ⟨i.a, i.b⟩ w4.heap.size a6 c6 w7 (O6.bl k7.bl) (by omega) (by omega)) ?_ (hm := fun _ _ r => by obtain ⟨_, _, _, _, _, hC⟩ := r; exact ⟨fun i hi hlt => hC.block i hlt fun q => by have := (O6.lt q).1; omega⟩)
    rintro _ w8 ⟨a8, c8, rfl, O8, F8, C8⟩
    exact ih hlt (goC ec es O8 (fun g hg => (F8 g hg).imp id fun q => by omega) ((k7.bl.chg _).trans C8))
  refine brF ?_ (hp := h12)
  by_cases h14 : i.op = 14
  · have ec : insC i = [i.a] := by unfold insC; rw [if_neg h12, if_pos (.inl h14)]
    have es : insS i = [] := by unfold insS; rw [if_neg (by omega)]
    refine brT ?_ (hp := h14)
    refine brT ?_ (hp := h14)
    refine ix ?_
    refine ld (hAi 1 _ rfl) ?_
    refine bs (cs := encInt i.a) fun b7 w7 k7 => ?_
    have z7 := k7.size
    refine apl (l1 := [i.a]) (O6.bl k7.bl) (.inr ⟨b7, 0, rfl, k7.box.at⟩) (by omega) fun a8 c8 w8 O8 A8 F8 => ?_
    exact ih hlt (goC ec es O8 (fun g hg => (F8 g hg).imp id fun q => by omega) ((k7.bl.chg _).trans (A8.chg fun g hg _ => hg)))
  refine brF ?_ (hp := h14)
  by_cases h24 : i.op = 24
  · have ec : insC i = [i.a] := by unfold insC; rw [if_neg h12, if_pos (.inr h24)]
    have es : insS i = [] := by unfold insS; rw [if_neg (by omega)]
    refine brT ?_ (hp := h24)
    refine ix ?_
    refine ld (hAi 1 _ rfl) ?_
    refine bs (cs := encInt i.a) fun b7 w7 k7 => ?_
    have z7 := k7.size
    refine apl (l1 := [i.a]) (O6.bl k7.bl) (.inr ⟨b7, 0, rfl, k7.box.at⟩) (by omega) fun a8 c8 w8 O8 A8 F8 => ?_
    exact ih hlt (goC ec es O8 (fun g hg => (F8 g hg).imp id fun q => by omega) ((k7.bl.chg _).trans (A8.chg fun g hg _ => hg)))
  refine brF ?_ (hp := h24)
  by_cases h16 : i.op = 16
  · have ec : insC i = [i.b] := by unfold insC; rw [if_neg h12, if_neg (by omega), if_pos h16]
    have es : insS i = [] := by unfold insS; rw [if_neg (by omega)]
    refine brT ?_ (hp := h16)
    refine ix ?_
    refine ld (hAi 2 _ rfl) ?_
    refine bs (cs := encInt i.b) fun b7 w7 k7 => ?_
    have z7 := k7.size
    refine apl (l1 := [i.b]) (O6.bl k7.bl) (.inr ⟨b7, 0, rfl, k7.box.at⟩) (by omega) fun a8 c8 w8 O8 A8 F8 => ?_
    exact ih hlt (goC ec es O8 (fun g hg => (F8 g hg).imp id fun q => by omega) ((k7.bl.chg _).trans (A8.chg fun g hg _ => hg)))
  refine brF ?_ (hp := h16)
  have ec : insC i = [] := by unfold insC; rw [if_neg h12, if_neg (by omega), if_neg h16]
  have goS : (i.op = 22 ∨ i.op = 23) → ∀ {w8 : World} {a8 : Option Addr} {c8 : Nat}, OwP 1 encInt w8 w4.heap.size 3 a8 c8 ((x'.code.take j).flatMap insS ++ [i.a]) → (∀ g, a8 = some ⟨g, 0, none⟩ → a7 = some ⟨g, 0, none⟩ ∨ w6.heap.size ≤ g) → Chg (fun g => a7 = some ⟨g, 0, none⟩) w6 w8 →
      ∃ a6' c6' a7' c7', [Value.slice a6 (K ++ (x'.code.take j).flatMap insC).length c6, .slice a8 ((x'.code.take j).flatMap insS ++ [i.a]).length c8] = [.slice a6' (K ++ (x'.code.take (j + 1)).flatMap insC).length c6', .slice a7' ((x'.code.take (j + 1)).flatMap insS).length c7'] ∧ OwP 1 encInt w8 w4.heap.size 3 a6' c6' (K ++ (x'.code.take (j + 1)).flatMap insC) ∧ OwP 1 encInt w8 w4.heap.size 3 a7' c7' ((x'.code.take (j + 1)).flatMap insS) ∧ Sep2 a6' a7' ∧ Below w4.heap.size w5 w8 := fun hop {w8 a8 c8} O F C => by
    have e3 : K ++ (x'.code.take (j + 1)).flatMap insC = K ++ (x'.code.take j).flatMap insC := by rw [hsC, ec, List.append_nil]
    have e4 : (x'.code.take (j + 1)).flatMap insS = (x'.code.take j).flatMap insS ++ [i.a] := by rw [hsS]; unfold insS; rw [if_pos hop]
    refine ⟨a6, c6, a8, c8, by rw [e3, e4], by rw [e3]; exact O6.same fun g hg => C.block g (O6.lt hg).2 fun q => hsep g hg q, by rw [e4]; exact O, fun g hg hg' => ?_, Below.trans B56 (C.below (by omega) fun g hg => (O7.lt hg).1)⟩
    rcases F g hg' with q | q
    · exact hsep g hg q
    · have := (O6.lt hg).2; omega
  by_cases h22 : i.op = 22
  · refine brT ?_ (hp := h22)
    refine brT ?_ (hp := h22)
    refine ix ?_
    refine ld (hAi 1 _ rfl) ?_
    refine bs (cs := encInt i.a) fun b7 w7 k7 => ?_
    have z7 := k7.size
    refine apl (l1 := [i.a]) (O7.bl k7.bl) (.inr ⟨b7, 0, rfl, k7.box.at⟩) (by omega) fun a8 c8 w8 O8 A8 F8 => ?_
    exact ih hlt (goS (.inl h22) O8 (fun g hg => (F8 g hg).imp id fun q => by omega) ((k7.bl.chg _).trans (A8.chg fun g hg _ => hg)))
  refine brF ?_ (hp := h22)
  by_cases h23 : i.op = 23
  · refine brT ?_ (hp := h23)
    refine ix ?_
    refine ld (hAi 1 _ rfl) ?_
    refine bs (cs := encInt i.a) fun b7 w7 k7 => ?_
    have z7 := k7.size
    refine apl (l1 := [i.a]) (O7.bl k7.bl) (.inr ⟨b7, 0, rfl, k7.box.at⟩) (by omega) fun a8 c8 w8 O8 A8 F8 => ?_
    exact ih hlt (goS (.inr h23) O8 (fun g hg => (F8 g hg).imp id fun q => by omega) ((k7.bl.chg _).trans (A8.chg fun g hg _ => hg)))
  refine brF ?_ (hp := h23)
  have es : insS i = [] := by unfold insS; rw [if_neg (by omega)]
  have e3 : K ++ (x'.code.take (j + 1)).flatMap insC = K ++ (x'.code.take j).flatMap insC := by rw [hsC, ec, List.append_nil]
  have e4 : (x'.code.take (j + 1)).flatMap insS = (x'.code.take j).flatMap insS := by rw [hsS, es, List.append_nil]
  exact ih hlt ⟨a6, c6, a7, c7, by rw [e3, e4], by rw [e3]; exact O6, by rw [e4]; exact O7, hsep, B56⟩
end Go.Proofs.YtkmdfjpafkcleaaGreatDoor

/- Rounds that add what follows the members of a list: after as many rounds as there are classes nothing is added. No program stands here. -/
namespace Go.Proofs.YtkmdfjpafkcleaaGreatDoor
open Eng Go.RowKit
theorem nodup_sub_len : ∀ {a b : List Int}, a.Nodup → (∀ x ∈ a, x ∈ b) → a.length ≤ b.length
  | [], _, _, _ => Nat.zero_le _
  | x :: a, b, hn, h => by
    rw [List.nodup_cons] at hn
    have hx := h x (List.mem_cons_self ..)
    have h2 := nodup_sub_len (a := a) (b := b.erase x) hn.2 fun y hy => by
      have h3 := h y (List.mem_cons_of_mem _ hy)
      have h4 : y ≠ x := fun e => hn.1 (e ▸ hy)
      exact (List.mem_erase_of_ne h4).2 h3
    rw [List.length_erase_of_mem hx] at h2
    have := List.length_pos_of_mem hx
    simp only [List.length_cons]; omega
theorem asc_nodup {l : List Int} (h : AscI l) : l.Nodup := h.imp fun q e => by omega
theorem asc_grow {a b : List Int} (ha : AscI a) (hb : AscI b) (h : ∀ x ∈ a, x ∈ b) (hne : ¬ a = b) : a.length < b.length := by
  have : ∃ x ∈ b, ¬ x ∈ a := by
    refine Classical.byContradiction fun q => hne (asc_eq ha hb fun x => ⟨h x, fun hx => ?_⟩)
    exact Classical.byContradiction fun r => q ⟨x, hx, r⟩
  obtain ⟨x, hx, hxa⟩ := this
  have := nodup_sub_len (a := x :: a) (b := b) (List.nodup_cons.2 ⟨hxa, asc_nodup ha⟩) fun y hy => by
    rcases List.mem_cons.1 hy with rfl | hy
    · exact hx
    · exact h y hy
  simp only [List.length_cons] at this; omega
/-- one round -/
def rnd (m : Mod) (l : List Int) : List Int := srtI (l ++ l.flatMap (sucC m))
def rnds (m : Mod) (l : List Int) : Nat → List Int
  | 0 => l
  | n + 1 => rnd m (rnds m l n)
theorem mem_rnd {m : Mod} {l : List Int} {x : Int} : x ∈ rnd m l ↔ x ∈ l ∨ ∃ c ∈ l, x ∈ sucC m c := by
  unfold rnd
  rw [mem_srtI, List.mem_append, List.mem_flatMap]
theorem rnds_asc {m : Mod} {l : List Int} (h : AscI l) : ∀ n, AscI (rnds m l n)
  | 0 => h
  | n + 1 => srtI_asc _
theorem rnds_mono {m : Mod} {l : List Int} : ∀ (n : Nat) {x : Int}, x ∈ l → x ∈ rnds m l n
  | 0, _, h => h
  | n + 1, _, h => mem_rnd.2 (.inl (rnds_mono n h))
theorem rnds_in {m : Mod} (P : ModP m) {l : List Int} (h : ∀ x ∈ l, 0 ≤ x ∧ x < m.classes.length) : ∀ (n : Nat), ∀ x ∈ rnds m l n, 0 ≤ x ∧ x < m.classes.length
  | 0 => h
  | n + 1 => fun x hx => by
    rcases mem_rnd.1 hx with q | ⟨c, hc, q⟩
    · exact rnds_in P h n x q
    · obtain ⟨c0, c1⟩ := rnds_in P h n c hc
      obtain ⟨k, rfl⟩ := Int.eq_ofNat_of_zero_le c0
      obtain ⟨z, hz⟩ := some_of_lt (l := m.classes) (k := k) (by omega)
      exact sucC_in P hz q
theorem rnds_stay {m : Mod} {l : List Int} {r : Nat} (h : rnds m l (r + 1) = rnds m l r) : ∀ (n : Nat), rnds m l (r + n) = rnds m l r
  | 0 => rfl
  | n + 1 => by
    show rnd m (rnds m l (r + n)) = _
    rw [rnds_stay h n]; exact h
theorem rnds_len {m : Mod} {l : List Int} (ha : AscI l) : ∀ (n : Nat), (∀ r, r < n → ¬ rnds m l (r + 1) = rnds m l r) → l.length + n ≤ (rnds m l n).length
  | 0, _ => Nat.le_refl _
  | n + 1, h => by
    have h1 := rnds_len ha n fun r hr => h r (by omega)
    have h2 := asc_grow (rnds_asc (m := m) ha n) (rnds_asc (m := m) ha (n + 1)) (fun x hx => mem_rnd.2 (.inl hx)) fun e => h n (by omega) e.symm
    omega
/-- nothing is added after as many rounds as there are classes -/
theorem rnds_closed {m : Mod} (P : ModP m) {l : List Int} (ha : AscI l) (h : ∀ x ∈ l, 0 ≤ x ∧ x < m.classes.length) {c x : Int} (hc : c ∈ rnds m l m.classes.length) (hx : x ∈ sucC m c) : x ∈ rnds m l m.classes.length := by
  have key : ∃ r, r ≤ m.classes.length ∧ rnds m l (r + 1) = rnds m l r := by
    refine Classical.byContradiction fun q => ?_
    have h1 := rnds_len (m := m) ha (m.classes.length + 1) fun r hr e => q ⟨r, by omega, e⟩
    have h2 := nodup_len m.classes.length (asc_nodup (rnds_asc (m := m) ha (m.classes.length + 1))) (rnds_in P h _)
    omega
  obtain ⟨r, hr, e⟩ := key
  have e1 := rnds_stay e (m.classes.length - r)
  rw [show r + (m.classes.length - r) = m.classes.length by omega] at e1
  rw [e1] at hc ⊢
  rw [← e]
  exact mem_rnd.2 (.inr ⟨c, hc, hx⟩)
/-- the document's way to the least closed sets -/
structure Way (m : Mod) (roots L cl st : List Int) : Prop where
  la : AscI L
  lr : ∀ x ∈ roots, x ∈ L
  lf : ∀ x ∈ L, Rch m (rootsN roots) (.m x)
  lc : ∀ x ∈ L, ∀ c ∈ calM m x.toNat, c ∈ L
  es : st = L.flatMap fun k => needS (mths m k)
  ec : cl = (L.flatMap fun k => needC (mths m k)) ++ st.flatMap (staC m)
theorem Way.meth {m : Mod} (P : ModP m) {roots L cl st : List Int} (h : Way m roots L cl st) (hr : ∀ x, rootsN roots x → NdIn m x) :
    L = meL m roots ∧ rnds m (srtI cl) m.classes.length = clL m roots ∧ srtI st = stL m roots := by
  have hin : ∀ x, Rch m (rootsN roots) x → NdIn m x := fun x q => q.isIn P hr
  have hcl : ∀ x ∈ srtI cl, Rch m (rootsN roots) (.c x) := fun x hx => by
    rw [mem_srtI, h.ec, List.mem_append, List.mem_flatMap, List.mem_flatMap] at hx
    rcases hx with ⟨k, hk, hc⟩ | ⟨i, hi, hc⟩
    · exact .step (h.lf k hk) (by simp only [suc, List.mem_append, List.mem_map]; exact .inl (.inl ⟨x, hc, rfl⟩))
    · rw [h.es, List.mem_flatMap] at hi
      obtain ⟨k, hk, hs⟩ := hi
      exact .step (.step (h.lf k hk) (y := .s i) (by simp only [suc, List.mem_append, List.mem_map]; exact .inl (.inr ⟨i, hs, rfl⟩))) (by simp only [suc, List.mem_map]; exact ⟨x, hc, rfl⟩)
  have hci : ∀ x ∈ srtI cl, 0 ≤ x ∧ x < m.classes.length := fun x hx => hin _ (hcl x hx)
  have hfw : ∀ n, ∀ x ∈ rnds m (srtI cl) n, Rch m (rootsN roots) (.c x) := fun n => by
    induction n with
    | zero => exact hcl
    | succ n ih =>
      intro x hx
      rcases mem_rnd.1 hx with q | ⟨c, hc, q⟩
      · exact ih x q
      · exact .step (ih c hc) (by simp only [suc, List.mem_map]; exact ⟨x, q, rfl⟩)
  have hbk : ∀ y, Rch m (rootsN roots) y → match y with
      | .m x => x ∈ L
      | .c x => x ∈ rnds m (srtI cl) m.classes.length
      | .s x => x ∈ st := fun y q => by
    induction q with
    | root q => obtain ⟨k, hk, rfl⟩ := q; exact h.lr k hk
    | @step a b _ hy ih =>
      cases a with
      | m k =>
        simp only [suc, List.mem_append, List.mem_map] at hy
        rcases hy with (⟨c, hc, rfl⟩ | ⟨c, hc, rfl⟩) | ⟨c, hc, rfl⟩
        · refine rnds_mono _ (mem_srtI.2 ?_)
          rw [h.ec]
          exact List.mem_append_left _ (List.mem_flatMap.2 ⟨k, ih, hc⟩)
        · show c ∈ st
          rw [h.es]
          exact List.mem_flatMap.2 ⟨k, ih, hc⟩
        · exact h.lc k ih c hc
      | c k =>
        obtain ⟨c, hc, rfl⟩ := List.mem_map.1 hy
        exact rnds_closed P (srtI_asc _) hci ih hc
      | s k =>
        obtain ⟨c, hc, rfl⟩ := List.mem_map.1 hy
        refine rnds_mono _ (mem_srtI.2 ?_)
        rw [h.ec]
        exact List.mem_append_right _ (List.mem_flatMap.2 ⟨k, ih, hc⟩)
  refine ⟨sel_of h.la (fun x => ⟨h.lf x, hbk _⟩) fun x q => hin _ q, sel_of (rnds_asc (srtI_asc _) _) (fun x => ⟨hfw _ x, hbk _⟩) fun x q => hin _ q, sel_of (srtI_asc _) (fun x => ?_) fun x q => hin _ q⟩
  rw [mem_srtI]
  refine ⟨fun hx => ?_, hbk _⟩
  rw [h.es, List.mem_flatMap] at hx
  obtain ⟨k, hk, hs⟩ := hx
  exact .step (h.lf k hk) (by simp only [suc, List.mem_append, List.mem_map]; exact .inl (.inr ⟨x, hs, rfl⟩))
end Go.Proofs.YtkmdfjpafkcleaaGreatDoor

/- Walks: what roots reach, in the document. -/
namespace Go.Proofs.YtkmdfjpafkcleaaGreatDoor
open Eng Go.RowKit
theorem ask_nil (m : Mod) (n : Int) : askE m n [] = mchkE m := by
  unfold askE
  rcases chkE_cases m with h | h
  · rw [h, if_pos ⟨rfl, fun i hi => by cases hi⟩]
  · rw [h, if_neg fun q => by cases q.1]
theorem ask_snoc (m : Mod) (n x : Int) (l : List Int) : askE m n (l ++ [x]) = if askE m n l = 0 then askE m n [x] else 1 := by
  by_cases h : askE m n l = 0
  · rw [if_pos h]
    obtain ⟨h1, h2⟩ := ask_yes h
    unfold askE
    by_cases q : 0 ≤ x ∧ x < n
    · rw [if_pos ⟨h1, fun i hi => by
        rcases List.mem_append.1 hi with hi | hi
        · exact h2 i hi
        · obtain rfl := List.mem_singleton.1 hi; exact q⟩, if_pos ⟨h1, fun i hi => by obtain rfl := List.mem_singleton.1 hi; exact q⟩]
    · rw [if_neg fun r => q (r.2 x (by simp)), if_neg fun r => q (r.2 x (by simp))]
  · rw [if_neg h]
    unfold askE at h ⊢
    refine if_neg fun q => h ?_
    rw [if_pos ⟨q.1, fun i hi => q.2 i (List.mem_append_left _ hi)⟩]
theorem ask_part {m : Mod} {n : Int} {l : List Int} {k : Nat} (h : ¬ askE m n (l.take k) = 0) : askE m n l = 1 := by
  refine ask_n fun q => h ?_
  obtain ⟨h1, h2⟩ := ask_yes q
  exact if_pos ⟨h1, fun i hi => h2 i (List.mem_of_mem_take hi)⟩
theorem slm_a (a : Option Addr) (n : Nat) : (if n = 0 then a else a.map (·.add (0 * 1))) = a := by
  split
  · rfl
  · cases a <;> simp [Addr.add]
theorem needC_len {m : Mod} (P : ModP m) {k : Nat} {x : MM} (h : m.methods[k]? = some x) : (needC x).length ≤ 140 := by
  have M := P.mth k x h
  have h1 := M.ll
  have h2 := selfM_len x
  have h3 := codeE_len M.cd
  have h4 := flatMap_le (f := tcl) (B := 1) (l := locM x ++ [x.result]) fun t _ => tcl_len t
  have h5 := flatMap_le (f := insC) (B := 1) (l := x.code) fun t _ => insC_len t
  have h6 : (locM x ++ [x.result]).length ≤ 12 := by
    rw [locM_eq]
    simp only [List.length_append, List.length_singleton]
    split at h1 <;> omega
  unfold needC
  rw [List.length_append]; omega
theorem needS_len {m : Mod} (P : ModP m) {k : Nat} {x : MM} (h : m.methods[k]? = some x) : (needS x).length ≤ 140 := by
  have h3 := codeE_len (P.mth k x h).cd
  have h5 := flatMap_le (f := insS) (B := 1) (l := x.code) fun t _ => insS_len t
  unfold needS; omega
theorem sucC_len {m : Mod} (P : ModP m) (c : Int) : (sucC m c).length ≤ 8 := by
  unfold sucC
  cases h : m.classes[c.toNat]? with
  | none => simp
  | some x =>
    have h1 := (P.cls _ x h).fl
    have h2 := flatMap_le (f := tcl) (B := 1) (l := x.fields) fun t _ => tcl_len t
    simp only [Option.map_some, Option.getD_some, List.length_append]
    split <;> simp only [List.length_singleton, List.length_nil] <;> omega
/-- a list in memory with what append may ask of it -/
def CapL (w : World) (a : Option Addr) (c : Nat) (l : List Int) : Prop := Sl eInt T w a l ∧ l.length ≤ c ∧ (a = none → c = 0)
theorem CapL.bl {w w' : World} {a : Option Addr} {c : Nat} {l : List Int} (h : CapL w a c l) (k : Bl w w') : CapL w' a c l := ⟨h.1.bl k, h.2⟩
theorem CapL.own {w : World} {base : Nat} {a : Option Addr} {c : Nat} {l : List Int} (h : OwP 1 encInt w base 3 a c l) (hl : l.length ≤ 4194304) : CapL w a c l := ⟨owp_sl h hl fun _ _ => trivial, h.capn.1, h.capn.2⟩
set_option maxHeartbeats 8000000 in
theorem r5_Reach (m : Mod) (a : MA) (roots : List Int) (ar : Option Addr) (cr : Nat) (w : World) (hM : MdR T w m a) (hS : Sl eInt T w ar roots) :
    Ret Tryz.prog 42 #[.agg (modcells m a).toArray, .slice ar roots.length cr] w (RchQ m roots w) := by
  have q1 := hM.mth.big
  have q2 := hS.big
  have q3 := hM.cls.big
  refine entr (vs := [.agg (modcells m a).toArray, .slice ar roots.length cr]) [0, 1, 2, 4, 5, 6, 7, 8, 9, 10, 11, 12, 13, 14, 15, 16, 17, 18, 19, 20, 21, 22, 32, 45, 54, 59, 69, 90, 109, 116, 129, 144] tabok Tryz.func42 (by kernel_rfl) ?_
  refine bx (cs := modcells m a) fun b1 w1 k1 => ?_
  have y1 := k1.blk
  have z1 := k1.size
  refine lda k1.box.at ?_
  refine cl (r5_Check m a w1 (hM.bl k1.bl)) ?_
  rintro _ w2 ⟨rfl, B12⟩
  have B2 := k1.bl.trans B12
  have x2 := Bl.box B12 k1.box
  rw [← ask_nil m m.methods.length]
  refine lpk roots.length 9 [8] [(1, .slice ar roots.length cr), (2, .pointer (some ⟨b1, 0, none⟩))] (fun i vals w' => vals = [I (askE m m.methods.length (roots.take i))] ∧ Bl w2 w') ⟨rfl, Bl.refl _⟩ ?_
  rintro i vals w3 hi ⟨rfl, B23⟩ ih
  have B3 := B2.trans B23
  have x3 := Bl.box B23 x2
  by_cases hc : i < roots.length ∧ askE m m.methods.length (roots.take i) = 0
  · obtain ⟨hlt, h0⟩ := hc
    refine brt ?_ (hp := by first | (simp [hlt, h0]; done) | (simp; omega))
    obtain ⟨x, b, o, cs, hx, e2, _, hAt, rfl⟩ := at_some (hS.bl B3) hlt
    refine dh T (List.range 10) fun w4 k4 => ?_
    have x4 := k4.box x3
    refine lda x4.at ?_ (hm := trivial)
    rw [e2]
    refine ix ?_
    refine ld ((hAt.bl k4.bl) 0 _ rfl) ?_ (hm := trivial)
    refine ld (x4.cell rfl) ?_ (hm := trivial)
    refine cl (r5_within m a x m.methods.length w4 (hM.bl (B3.trans k4.bl))) ?_
    rintro _ w5 ⟨rfl, B45⟩
    refine ih hlt ⟨?_, (B23.trans k4.bl).trans B45⟩ (hsub := by rw [e2]; repeat (first | exact True.intro | (refine ⟨rfl, ?_⟩)))
    rw [take_succ_some hx, ask_snoc, if_pos h0]
  have hE : askE m m.methods.length (roots.take i) = askE m m.methods.length roots := by
    by_cases h0 : askE m m.methods.length (roots.take i) = 0
    · have : i = roots.length := by
        rcases Nat.lt_or_ge i roots.length with q | q
        · exact absurd ⟨q, h0⟩ hc
        · omega
      rw [this, List.take_length]
    · rw [ask_part h0, ask_n h0]
  refine brf ?_ (hp := by first | (simp; done) | (simp; omega) | (simp; exact fun q => fun r => hc ⟨by omega, r⟩))
  rw [hE]
  clear ih
  by_cases h1 : askE m m.methods.length roots = 0
  rotate_left
  · have e1 : meR m roots = [] := if_neg h1
    have e2 : clR m roots = [] := if_neg h1
    have e3 : stR m roots = [] := if_neg h1
    rw [ask_n h1]
    refine brt ?_
    refine rt (vs := [.slice none 0 0, .slice none 0 0, .slice none 0 0, I 1]) ⟨none, 0, none, 0, none, 0, by rw [e1, e2, e3, ask_n h1]; rfl, ?_, ?_, ?_, B3⟩
    · rw [e1]; exact Sl.nil ..
    · rw [e2]; exact Sl.nil ..
    · rw [e3]; exact Sl.nil ..
  have e1 : meR m roots = meL m roots := if_pos h1
  have e2 : clR m roots = clL m roots := if_pos h1
  have e3 : stR m roots = stL m roots := if_pos h1
  obtain ⟨hm, hri⟩ := ask_yes h1
  have P := modP_of hm
  have hrin := roots_in h1
  have hc10 := P.cl
  have hs10 := P.sl
  have hm16 := P.ml
  rw [h1]
  refine brf ?_
  refine cl (r5_SortO roots ar cr w3 (hS.bl B3)) ?_ (hm := fun _ _ r => by obtain ⟨_, _, _, _, hB⟩ := r; exact mdW_bl hB)
  rintro _ w4 ⟨a4, c4, rfl, O4, B34⟩
  have x4 := Bl.box B34 x3
  refine ld (x4.cell rfl) ?_
  have hRm : ∀ x ∈ srtI roots, Rch m (rootsN roots) (.m x) := fun x hx => .root ⟨x, mem_srtI.1 hx, rfl⟩
  have inR : ∀ {x : Int}, Rch m (rootsN roots) (.m x) → 0 ≤ x ∧ x < m.methods.length := fun q => q.isIn P hrin
  refine lp (vals := [.slice a4 (srtI roots).length c4, .int .i64 (IntKind.wrap .i64 ((m.methods.length : Int) - 1))]) [10, 11] [(2, .pointer (some ⟨b1, 0, none⟩))] (fun n vals w' => n ≤ m.methods.length ∧ ∃ (L : List Int) (a : Option Addr) (c : Nat), vals = [.slice a L.length c, I ((n : Int) - 1)] ∧ OwP 1 encInt w' w3.heap.size 3 a c L ∧ AscI L ∧ (∀ x ∈ roots, x ∈ L) ∧ (∀ x ∈ L, Rch m (rootsN roots) (.m x)) ∧ (∀ x ∈ L, (n : Int) ≤ x → ∀ c ∈ calM m x.toNat, c ∈ L) ∧ Bl w3 w')
    ⟨rfl, trivial⟩ (m := m.methods.length) ⟨Nat.le_refl _, srtI roots, a4, c4, by rw [wrap_fit (by omega) (by omega)], O4, srtI_asc _, fun x hx => mem_srtI.2 hx, hRm, fun x hx hn => by have := (inR (hRm x hx)).2; omega, B34⟩ ?_
  rintro n vals w5 ⟨hn, L, a5, c5, rfl, O5, hLa, hLr, hLf, hLc, B35⟩ ih
  have hL16 : L.length ≤ 16 := Nat.le_trans (asc_len hLa fun x hx => inR (hLf x hx)) hm16
  have x5 := Bl.box B35 x3
  have B5 := B3.trans B35
  have z5 := B35.size
  rcases Nat.eq_zero_or_pos n with h0n | h0n
  rotate_left
  · obtain ⟨n, rfl⟩ : ∃ n', n = n' + 1 := ⟨n - 1, by omega⟩
    rw [show (((n + 1 : Nat) : Int) - 1) = (n : Int) by omega]
    refine brT ?_
    refine cl (r5_Has L a5 c5 n w5 (owp_sl O5 (by omega) fun _ _ => trivial)) ?_
    rintro _ w6 ⟨rfl, B56⟩
    have z6 := B56.size
    obtain ⟨x, hx⟩ := some_of_lt (l := m.methods) (k := n) (by omega)
    by_cases hmem : (n : Int) ∈ L
    · refine brT ?_ (hp := hmem)
      refine lda (Bl.box B56 x5).at ?_
      refine cl (r5_calls m a n P (by omega) w6 (hM.bl (B5.trans B56))) ?_ (hm := fun _ _ r => by obtain ⟨_, _, _, _, hB⟩ := r; exact mdW_bl hB)
      rintro _ w7 ⟨a7, c7, rfl, S7, B67⟩
      have hcl := calM_len P (k := n) (by omega)
      have z7 := B67.size
      have B57 := B56.trans B67
      refine apl (l1 := calM m n) (O5.bl B57) (src_of S7) (by omega) fun a8 c8 w8 O8 A8 _ => ?_
      have B38 : Bl w3 w8 := Below.trans (B35.trans B57) (A8.below (by omega) fun g hg => (O5.lt hg).1)
      have z8 := B38.size
      refine cl (r5_SortO (L ++ calM m n) a8 c8 w8 (owp_sl O8 (by rw [List.length_append]; omega) fun _ _ => trivial)) ?_ (hm := fun _ _ r => by obtain ⟨_, _, _, _, hB⟩ := r; exact mdW_bl hB)
      rintro _ w9 ⟨a9, c9, rfl, O9, B89⟩
      refine again (ih n _ _ _ (by omega) ⟨rfl, trivial⟩ rfl ⟨by omega, srtI (L ++ calM m n), a9, c9, ?_, O9.base z8, srtI_asc _, fun x hx => mem_srtI.2 (List.mem_append_left _ (hLr x hx)), fun y hy => ?_, fun y hy hny c hc => ?_, B38.trans B89⟩)
      · rw [wrap_fit (by omega) (by omega)]
      · rcases List.mem_append.1 (mem_srtI.1 hy) with q | q
        · exact hLf y q
        · exact .step (hLf _ hmem) (by simp only [suc, Int.toNat_natCast, List.mem_append, List.mem_map]; exact .inr ⟨y, q, rfl⟩)
      · refine mem_srtI.2 (List.mem_append.2 ?_)
        rcases List.mem_append.1 (mem_srtI.1 hy) with q | q
        · by_cases e : y = n
          · subst e; rw [Int.toNat_natCast] at hc; exact .inr hc
          · exact .inl (hLc y q (by omega) c hc)
        · have := (calM_lt P hx q).2; omega
    · refine brF ?_ (hp := hmem)
      refine again (ih n _ _ _ (by omega) ⟨rfl, trivial⟩ rfl ⟨by omega, L, a5, c5, ?_, O5.bl B56, hLa, hLr, hLf, fun y hy hny c hc => ?_, B35.trans B56⟩)
      · rw [wrap_fit (by omega) (by omega)]
      · exact hLc y hy (by have : y ≠ n := fun e => hmem (e ▸ hy); omega) c hc
  subst h0n
  refine brF ?_
  clear ih
  have SL5 : Sl eInt T w5 a5 L := owp_sl O5 (by omega) fun _ _ => trivial
  have hLn : ∀ x ∈ L, ∃ (k : Nat) (z : MM), x = k ∧ m.methods[k]? = some z ∧ mths m x = z := fun x hx => by
    obtain ⟨g0, g1⟩ := inR (hLf x hx)
    obtain ⟨k, rfl⟩ := Int.eq_ofNat_of_zero_le g0
    obtain ⟨z, hz⟩ := some_of_lt (l := m.methods) (k := k) (by omega)
    exact ⟨k, z, rfl, hz, mths_at hz⟩
  have hlC : ∀ {j : Nat}, j ≤ L.length → ((L.take j).flatMap fun k => needC (mths m k)).length ≤ 2240 := fun hj => by
    have := flatMap_take_le (f := fun k => needC (mths m k)) (B := 140) (l := L) (fun x hx => by obtain ⟨k, z, _, hz, e⟩ := hLn x hx; rw [e]; exact needC_len P hz) hj
    omega
  have hlS : ∀ {j : Nat}, j ≤ L.length → ((L.take j).flatMap fun k => needS (mths m k)).length ≤ 2240 := fun hj => by
    have := flatMap_take_le (f := fun k => needS (mths m k)) (B := 140) (l := L) (fun x hx => by obtain ⟨k, z, _, hz, e⟩ := hLn x hx; rw [e]; exact needS_len P hz) hj
    omega
  refine lpk (vals := [.slice none 0 0, .slice none 0 0]) L.length 14 [12, 13] [(2, .pointer (some ⟨b1, 0, none⟩)), (10, .slice a5 L.length c5)] (fun j vals w' => ∃ a6 c6 a7 c7, vals = [.slice a6 ((L.take j).flatMap fun k => needC (mths m k)).length c6, .slice a7 ((L.take j).flatMap fun k => needS (mths m k)).length c7] ∧ OwP 1 encInt w' w5.heap.size 3 a6 c6 ((L.take j).flatMap fun k => needC (mths m k)) ∧ OwP 1 encInt w' w5.heap.size 3 a7 c7 ((L.take j).flatMap fun k => needS (mths m k)) ∧ Sep2 a6 a7 ∧ Bl w5 w')
    ⟨none, 0, none, 0, rfl, Ow.nil .., Ow.nil .., (fun _ h _ => by cases h), Bl.refl _⟩ ?_
  rintro j vals w6 hj ⟨a6, c6, a7, c7, rfl, O6, O7, hsep, B56⟩ ih
  have hl6 := hlC hj
  have hl7 := hlS hj
  have z6 := B56.size
  have x6 := Bl.box B56 x5
  have B6 := B5.trans B56
  by_cases hlt : j < L.length
  · refine brT ?_
    obtain ⟨y, by', oy, cy, hy, rfl, _, hAy, rfl⟩ := at_some (SL5.bl B56) hlt
    obtain ⟨k, z, rfl, hz, ez⟩ := hLn y (List.mem_of_getElem? hy)
    refine dh T (List.range 11) fun w7 k7 => ?_
    refine lda (k7.box x6).at ?_ (hm := trivial)
    refine ix ?_
    refine ld ((hAy.bl k7.bl) 0 _ rfl) ?_ (hm := trivial)
    refine cl (r5_needs m a P k z hz w7 (hM.bl (B6.trans k7.bl))) ?_ (hm := fun _ _ r => by obtain ⟨_, _, _, _, _, _, _, hB⟩ := r; exact mdW_bl hB)
    rintro _ w8 ⟨a8, c8, a9, c9, rfl, S8, S9, B78⟩
    have B68 := k7.bl.trans B78
    have z8 := B68.size
    have n8 := needC_len P hz
    have n9 := needS_len P hz
    have g7 := k7.bl.size
    refine apl (l1 := needC z) (O6.bl B68) (src_of S8) (by omega) fun a10 c10 w9 O10 A10 F10 => ?_
    have z9 := A10.size
    have S9' : Sl eInt (fun b => w7.heap.size ≤ b ∧ b < w8.heap.size) w9 a9 (needS z) := S9.kp (A10.kp.sub fun i hi q => by have := (O6.lt q).2; omega)
    have O7' : OwP 1 encInt w9 w5.heap.size 3 a7 c7 ((L.take j).flatMap fun k => needS (mths m k)) := (O7.bl B68).same fun g hg => A10.block g (by have := (O7.lt hg).2; omega) fun q => hsep g q hg
    refine apl (l1 := needS z) O7' (src_of S9') (by omega) fun a11 c11 w10 O11 A11 F11 => ?_
    have s10 : Sep2 a10 a7 := fun g hg hg' => by
      rcases F10 g hg with q | q
      · exact hsep g q hg'
      · have := (O7.lt hg').2; omega
    have O10' : OwP 1 encInt w10 w5.heap.size 3 a10 c10 _ := O10.same fun g hg => A11.block g (O10.lt hg).2 fun q => s10 g hg q
    have eC : (L.take (j + 1)).flatMap (fun k => needC (mths m k)) = (L.take j).flatMap (fun k => needC (mths m k)) ++ needC z := by rw [flatMap_snoc hy, ez]
    have eS : (L.take (j + 1)).flatMap (fun k => needS (mths m k)) = (L.take j).flatMap (fun k => needS (mths m k)) ++ needS z := by rw [flatMap_snoc hy, ez]
    refine ih hlt ⟨a10, c10, a11, c11, by rw [eC, eS], by rw [eC]; exact O10', by rw [eS]; exact O11, fun g hg hg' => ?_, Below.trans (Below.trans (B56.trans B68) (A10.below (by omega) fun g hg => (O6.lt hg).1)) (A11.below (by omega) fun g hg => (O7.lt hg).1)⟩
    rcases F11 g hg' with q | q
    · exact s10 g hg q
    · have := (O10.lt hg).2; omega
  refine brF ?_
  clear ih
  obtain rfl : j = L.length := by omega
  rw [List.take_length] at O6 O7 hl6 hl7 ⊢
  obtain ⟨C0, hC0⟩ : ∃ C0, C0 = L.flatMap fun k => needC (mths m k) := ⟨_, rfl⟩
  obtain ⟨S0, hS0⟩ : ∃ S0, S0 = L.flatMap fun k => needS (mths m k) := ⟨_, rfl⟩
  rw [← hC0] at O6 hl6 ⊢
  rw [← hS0] at O7 hl7 ⊢
  have hSn : ∀ x ∈ S0, ∃ (k : Nat) (t : Ty), x = k ∧ m.statics[k]? = some t ∧ staC m x = tcl t := fun x hx => by
    rw [hS0] at hx
    obtain ⟨y, hy, hx⟩ := List.mem_flatMap.1 hx
    obtain ⟨k, z, rfl, hz, ez⟩ := hLn y hy
    rw [ez] at hx
    obtain ⟨g0, g1⟩ := needS_in P hz hx
    obtain ⟨n, rfl⟩ := Int.eq_ofNat_of_zero_le g0
    obtain ⟨t, ht⟩ := some_of_lt (l := m.statics) (k := n) (by omega)
    exact ⟨n, t, rfl, ht, by unfold staC; rw [Int.toNat_natCast, ht]; rfl⟩
  have hlD : ∀ {j : Nat}, j ≤ S0.length → (C0 ++ (S0.take j).flatMap (staC m)).length ≤ 4480 := fun hj => by
    have := flatMap_take_le (f := staC m) (B := 1) (l := S0) (fun x hx => by obtain ⟨k, t, _, _, e⟩ := hSn x hx; rw [e]; exact tcl_len t) hj
    rw [List.length_append]; omega
  have MS : Sl eTy (· < w.heap.size) w a.a2 m.statics := Sl.lt (by decide) hM.sta
  refine lpk (vals := [.slice a6 C0.length c6]) S0.length 17 [12] [(2, .pointer (some ⟨b1, 0, none⟩)), (10, .slice a5 L.length c5), (13, .slice a7 S0.length c7)] (fun j vals w' => ∃ a8 c8, vals = [.slice a8 (C0 ++ (S0.take j).flatMap (staC m)).length c8] ∧ OwP 1 encInt w' w5.heap.size 3 a8 c8 (C0 ++ (S0.take j).flatMap (staC m)) ∧ OwP 1 encInt w' w5.heap.size 3 a7 c7 S0 ∧ Sep2 a8 a7 ∧ Bl w5 w')
    ⟨a6, c6, by simp, by simpa using O6, O7, hsep, B56⟩ ?_
  clear x6 B6 B56 z6
  rintro j vals w6 hj ⟨a8, c8, rfl, O8, O7, hsep, B56⟩ ih
  have hl8 := hlD hj
  have z6 := B56.size
  have x6 := Bl.box B56 x5
  have B6 := B5.trans B56
  by_cases hlt : j < S0.length
  · refine brT ?_
    have S7 : Sl eInt (fun g => ¬ a8 = some ⟨g, 0, none⟩) w6 a7 S0 := owp_sl O7 (by omega) fun g hg q => hsep g q hg
    obtain ⟨y, by', oy, cy, hy, rfl, hSy, hAy, rfl⟩ := at_some S7 hlt
    obtain ⟨k, t, rfl, ht, et⟩ := hSn y (List.mem_of_getElem? hy)
    obtain ⟨t', bt, ot, ct, ht', e9, hbt, hAt, rfl⟩ := at_some (MS.bl B6) (i := k) (List.getElem?_eq_some_iff.1 ht).1
    obtain rfl : t' = t := by rw [ht] at ht'; exact (Option.some.inj ht').symm
    have hkl := (List.getElem?_eq_some_iff.1 ht).1
    have w0 : w.heap.size ≤ w5.heap.size := B5.size
    refine dh (fun g => ¬ a8 = some ⟨g, 0, none⟩) (List.range 11) fun w7 k7 => ?_
    have g7 := k7.bl.size
    refine ld ((k7.box x6).cell rfl) ?_ (hm := fun q => by have := (O8.lt q).1; have := x2.lt; have := B3.size; have := x5.lt; have := B23.size; have := B35.size; omega)
    refine ix ?_
    refine ld ((hAy.bl k7.bl) 0 _ rfl) ?_ (hm := hSy)
    rw [e9]
    refine ix ?_
    refine lda (hAt.bl k7.bl) ?_ (hm := fun q => by have := (O8.lt q).1; omega)
    refine cl (r5_named _ t' w5.heap.size a8 c8 w7 (O8.bl k7.bl) (by omega) (by omega)) ?_ (hm := fun _ _ r => by obtain ⟨_, _, _, _, _, hC⟩ := r; exact hC.kb)
    rintro _ w8 ⟨a9, c9, rfl, O9, F9, C9⟩
    have e4 : C0 ++ (S0.take (j + 1)).flatMap (staC m) = C0 ++ (S0.take j).flatMap (staC m) ++ tcl t' := by rw [flatMap_snoc hy, et, List.append_assoc]
    refine ih hlt ⟨a9, c9, by rw [e4], by rw [e4]; exact O9, (O7.bl k7.bl).same fun g hg => C9.block g (by have := (O7.lt hg).2; omega) fun q => hsep g q hg, fun g hg hg' => ?_, Below.trans (B56.trans k7.bl) (C9.below (by omega) fun g hg => (O8.lt hg).1)⟩
    rcases F9 g hg with q | q
    · exact hsep g q hg'
    · have := (O7.lt hg').2; omega
  refine brF ?_
  clear ih
  obtain rfl : j = S0.length := by omega
  rw [List.take_length] at O8 hl8 ⊢
  obtain ⟨K, hK⟩ : ∃ K, K = C0 ++ S0.flatMap (staC m) := ⟨_, rfl⟩
  rw [← hK] at O8 hl8 ⊢
  have hway : Way m roots L K S0 := ⟨hLa, hLr, hLf, fun x hx c hc => hLc x hx (by have := (inR (hLf x hx)).1; omega) c hc, hS0, by rw [hK, hC0]⟩
  obtain ⟨f1, f2, f3⟩ := hway.meth P hrin
  have hKin : ∀ x ∈ srtI K, 0 ≤ x ∧ x < m.classes.length := fun x hx => by
    have : x ∈ clL m roots := by rw [← f2]; exact rnds_mono _ hx
    exact (mem_sel.1 this).1
  have hK10 : (srtI K).length ≤ 10 := Nat.le_trans (asc_len (srtI_asc _) hKin) hc10
  refine cl (r5_SortO K a8 c8 w6 (owp_sl O8 (by omega) fun _ _ => trivial)) ?_ (hm := fun _ _ r => by obtain ⟨_, _, _, _, hB⟩ := r; exact mdW_bl hB)
  rintro _ w7 ⟨a9, c9, rfl, O9, B67⟩
  have S7 : Sl eInt T w7 a7 S0 := (owp_sl O7 (by omega) fun _ _ => trivial).bl B67
  have L7 := SL5.bl (B56.trans B67)
  have x7 := Bl.box B67 x6
  have B7 := B6.trans B67
  refine lpk (vals := [.slice a9 (srtI K).length c9]) m.classes.length 18 [12] [(2, .pointer (some ⟨b1, 0, none⟩)), (10, .slice a5 L.length c5), (13, .slice a7 S0.length c7)] (fun r vals w' => ∃ a c, vals = [.slice a (rnds m (srtI K) r).length c] ∧ CapL w' a c (rnds m (srtI K) r) ∧ Bl w7 w') ⟨a9, c9, rfl, CapL.own O9 (show (srtI K).length ≤ 4194304 by omega), Bl.refl _⟩ ?_
  rintro r vals w8 hr ⟨a10, c10, rfl, C10, B78⟩ ih
  have x8 := Bl.box B78 x7
  have B8 := B7.trans B78
  refine ld (x8.cell rfl) ?_
  by_cases hlt : r < m.classes.length
  rotate_left
  · refine brF ?_
    obtain rfl : r = m.classes.length := by omega
    refine cl (r5_Sort S0 a7 c7 w8 (S7.bl B78)) ?_ (hm := fun _ _ r => by obtain ⟨_, _, _, _, hB⟩ := r; exact mdW_bl hB)
    rintro _ w9 ⟨a11, c11, rfl, S11, B89⟩
    refine rt (vs := [.slice a5 L.length c5, .slice a10 (rnds m (srtI K) m.classes.length).length c10, .slice a11 (srtI S0).length c11, I 0]) ⟨a5, c5, a10, c10, a11, c11, by rw [e1, e2, e3, f1, f2, f3, h1]; rfl, ?_, ?_, ?_, B8.trans B89⟩
    · rw [e1, ← f1]; exact L7.bl (B78.trans B89)
    · rw [e2, ← f2]; exact C10.1.bl B89
    · rw [e3, ← f3]; exact S11.sub fun _ _ => trivial
  refine brT ?_
  have hRin := rnds_in P hKin r
  have hRa := rnds_asc (m := m) (srtI_asc K) r
  obtain ⟨R, hRR⟩ : ∃ R, R = rnds m (srtI K) r := ⟨_, rfl⟩
  have eNext : rnds m (srtI K) (r + 1) = srtI (R ++ R.flatMap (sucC m)) := by rw [hRR]; rfl
  rw [← hRR] at C10 hRin hRa ⊢
  have hR10 : R.length ≤ 10 := Nat.le_trans (asc_len hRa hRin) hc10
  have hlB : ∀ {j : Nat}, j ≤ R.length → (R ++ (R.take j).flatMap (sucC m)).length ≤ 90 := fun hj => by
    have := flatMap_take_le (f := sucC m) (B := 8) (l := R) (fun x _ => sucC_len P x) hj
    rw [List.length_append]; omega
  refine lpk (vals := [.slice a10 R.length c10]) R.length 20 [19] [(2, .pointer (some ⟨b1, 0, none⟩)), (10, .slice a5 L.length c5), (12, .slice a10 R.length c10), (13, .slice a7 S0.length c7), (18, I r)] (fun j vals w' => ∃ a c, vals = [.slice a (R ++ (R.take j).flatMap (sucC m)).length c] ∧ CapL w' a c (R ++ (R.take j).flatMap (sucC m)) ∧ Bl w8 w') ⟨a10, c10, by simp, by simpa using C10, Bl.refl _⟩ ?_
  rintro j vals w9 hj ⟨a11, c11, rfl, C11, B89⟩ ih2
  have hl11 := hlB hj
  have x9 := Bl.box B89 x8
  have B9 := B8.trans B89
  by_cases hlj : j < R.length
  rotate_left
  · refine brF ?_
    obtain rfl : j = R.length := by omega
    rw [List.take_length] at C11 hl11 ⊢
    refine cl (r5_SortO (R ++ R.flatMap (sucC m)) a11 c11 w9 C11.1) ?_ (hm := fun _ _ r => by obtain ⟨_, _, _, _, hB⟩ := r; exact mdW_bl hB)
    rintro _ w10 ⟨a12, c12, rfl, O12, B910⟩
    have := srtI_len (R ++ R.flatMap (sucC m))
    exact ih hlt ⟨a12, c12, by rw [eNext], by rw [eNext]; exact CapL.own O12 (by omega), (B78.trans B89).trans B910⟩
  refine brT ?_
  obtain ⟨y, by', oy, cy, hy, e5, _, hAy, rfl⟩ := at_some (C10.1.bl B89) hlj
  obtain ⟨g0, g1⟩ := hRin y (List.mem_of_getElem? hy)
  obtain ⟨k, rfl⟩ := Int.eq_ofNat_of_zero_le g0
  obtain ⟨x, b, o, cs, hx, e6, _, hAt, a13, d13, a14, d14, rfl, F13, _⟩ := at_some (hM.bl B9).cls (i := k) (by omega)
  have C := P.cls k x hx
  have esuc := sucC_at hx
  refine dh (· < w9.heap.size) (List.range 10) fun w10 k10 => ?_
  have g10 : w10.heap.size = w9.heap.size := by rw [k10.heap]
  refine ld ((k10.box x9).cell rfl) ?_ (hm := x9.lt)
  rw [e5]
  refine ix ?_
  refine ld ((hAy.bl k10.bl) 0 _ rfl) ?_ (hm := cell_lt (hAy 0 _ rfl))
  rw [e6]
  refine ix ?_
  refine lda (hAt.bl k10.bl) ?_ (hm := cell_lt (hAt 0 _ rfl))
  refine al fun b12 w11 k11 => ?_
  have y11 := k11.blk
  refine sta (cs' := mccells x a13 d13 a14 d14) k11.box (fun w12 k12 x12 => ?_) (hm := by intro w' k; exact Kb.mk fun i hi _ => k.block i (by omega))
  have B912 := k10.bl.trans (k11.wr k12)
  have B12' := B9.trans B912
  have x12b := Bl.box B912 x9
  obtain ⟨B0, hB0⟩ : ∃ B0, B0 = R ++ (R.take j).flatMap (sucC m) := ⟨_, rfl⟩
  have eStep : R ++ (R.take (j + 1)).flatMap (sucC m) = B0 ++ ((if 0 ≤ x.super then [x.super] else []) ++ x.fields.flatMap tcl) := by rw [flatMap_snoc hy, esuc, hB0, List.append_assoc]
  rw [← hB0] at C11 hl11 ⊢
  have C12 := C11.bl B912
  obtain ⟨sp, hsp⟩ : ∃ sp, sp = (if 0 ≤ x.super then [x.super] else []) := ⟨_, rfl⟩
  rw [← hsp] at eStep
  refine ld (x12.cell rfl) ?_
  refine jn [19] [(2, .pointer (some ⟨b1, 0, none⟩)), (10, .slice a5 L.length c5), (12, .slice (some ⟨by', oy, none⟩) R.length c10), (13, .slice a7 S0.length c7), (18, I r), (20, I j), (21, .pointer (some ⟨b12, 0, none⟩))] (fun vals w' => ∃ a c, vals = [.slice a (B0 ++ sp).length c] ∧ CapL w' a c (B0 ++ sp) ∧ Bl w12 w') (fun h go => ?_) (fun h go => ?_) ?_
  · have h0 : 0 ≤ x.super := of_decide_eq_true h
    have es : sp = [x.super] := by rw [hsp]; exact if_pos h0
    refine dh T (List.range 11) fun w13 k13 => ?_
    refine slm 0 B0.length B0.length ?_ (h5 := C12.2.1)
    refine ld ((k13.box x12).cell rfl) ?_ (hm := trivial)
    refine bs (cs := encInt x.super) fun b14 w14 k14 => ?_
    have T8 : Eng.Src w14 (if B0.length = 0 then a11 else a11.map (·.add (0 * 1))) (B0.length - 0) (B0.flatMap encInt) := by rw [slm_a]; exact src_of ((C12.1.bl k13.bl).bl k14.bl)
    refine apg (m := 1) (cap := B0.length - 0) T8 (.inr ⟨b14, 0, rfl, k14.box.at⟩) (fun e => by
      rw [slm_a] at e
      have := C12.2.1
      have := C12.2.2 e
      omega) (by omega) (by omega) (fun a15 c15 w15 O15 B15 => ?_) (hlx := by rw [int_len]; omega) (h1 := rfl)
    have e7 : B0.flatMap encInt ++ encInt x.super = (B0 ++ sp).flatMap encInt := by rw [es]; simp
    have e8 : B0.length - 0 + 1 = (B0 ++ sp).length := by rw [es]; simp
    rw [e7, e8] at O15
    rw [e8]
    exact go ⟨a15, c15, rfl, CapL.own O15 (by omega), (k13.bl.trans k14.bl).trans B15⟩
  · have h0 : ¬ 0 ≤ x.super := of_decide_eq_false h
    have es : sp = [] := by rw [hsp]; exact if_neg h0
    exact go ⟨a11, c11, by rw [es, List.append_nil], by rw [es, List.append_nil]; exact C12, Bl.refl _⟩
  rintro _ w13 ⟨a13', c13, rfl, C13, B1213⟩
  have x13 := Bl.box B1213 x12
  have F13' := (F13.bl B912).bl B1213
  have hsl : sp.length ≤ 1 := by rw [hsp]; split <;> simp
  obtain ⟨B1, hB1⟩ : ∃ B1, B1 = B0 ++ sp := ⟨_, rfl⟩
  have hB1l : B1.length ≤ 91 := by rw [hB1, List.length_append]; omega
  rw [← List.append_assoc, ← hB1] at eStep
  rw [← hB1] at C13 ⊢
  have hfl := C.fl
  refine lpk (vals := [.slice a13' B1.length c13]) x.fields.length 22 [19] [(2, .pointer (some ⟨b1, 0, none⟩)), (10, .slice a5 L.length c5), (12, .slice (some ⟨by', oy, none⟩) R.length c10), (13, .slice a7 S0.length c7), (18, I r), (20, I j), (21, .pointer (some ⟨b12, 0, none⟩))] (fun f vals w' => ∃ a c, vals = [.slice a (B1 ++ (x.fields.take f).flatMap tcl).length c] ∧ CapL w' a c (B1 ++ (x.fields.take f).flatMap tcl) ∧ Bl w13 w') ⟨a13', c13, by simp, by simpa using C13, Bl.refl _⟩ ?_
  rintro f vals w14 hf ⟨a15, c15, rfl, C15, B1314⟩ ih3
  have hl15 : (B1 ++ (x.fields.take f).flatMap tcl).length ≤ 100 := by
    have := flatMap_take_le (f := tcl) (B := 1) (l := x.fields) (fun t _ => tcl_len t) hf
    rw [List.length_append]; omega
  have x14 := Bl.box B1314 x13
  refine ld (x14.cell rfl) ?_
  by_cases hlf : f < x.fields.length
  rotate_left
  · refine brF ?_
    obtain rfl : f = x.fields.length := by omega
    rw [List.take_length, ← eStep] at C15 ⊢
    exact ih2 hlj ⟨a15, c15, rfl, C15, (B89.trans B912).trans (B1213.trans B1314)⟩ (hsub := by rw [e5]; repeat (first | exact True.intro | (refine ⟨rfl, ?_⟩)))
  refine brT ?_
  obtain ⟨t, bt, ot, ct, ht, e9, _, hAt', rfl⟩ := at_some (F13'.bl B1314) hlf
  obtain ⟨B2, hB2⟩ : ∃ B2, B2 = B1 ++ (x.fields.take f).flatMap tcl := ⟨_, rfl⟩
  have eF : B1 ++ (x.fields.take (f + 1)).flatMap tcl = B2 ++ tcl t := by rw [flatMap_snoc ht, hB2, List.append_assoc]
  rw [← hB2] at C15 hl15 ⊢
  refine dh T (List.range 13) fun w15 k15 => ?_
  refine slm 0 B2.length B2.length ?_ (h5 := C15.2.1)
  rw [slm_a]
  refine ld ((k15.box x14).cell rfl) ?_ (hm := trivial)
  rw [e9]
  refine ix ?_
  refine lda (hAt'.bl k15.bl) ?_ (hm := trivial)
  refine cl (r5_namedF B2 t a15 w15 (C15.1.bl k15.bl) (by omega)) ?_ (hm := fun _ _ r => by obtain ⟨_, _, _, _, _, _, hB⟩ := r; exact mdW_bl hB)
  rintro _ w16 ⟨a16, c16, rfl, g2, g3, S16, B1516⟩
  exact ih3 hlf ⟨a16, c16, by rw [eF], by rw [eF]; exact ⟨S16, g2, g3⟩, (B1314.trans k15.bl).trans B1516⟩
end Go.Proofs.YtkmdfjpafkcleaaGreatDoor

/- Walks: Calls; the law LinkMethods. -/
namespace Go.Proofs.YtkmdfjpafkcleaaGreatDoor
open Eng Go.RowKit
end Go.Proofs.YtkmdfjpafkcleaaGreatDoor

/- Walks: the law LinkReaches. -/
namespace Go.Proofs.YtkmdfjpafkcleaaGreatDoor
open Eng Go.RowKit
theorem l_all (l m : List Int) (al am : Option Addr) (cl' cm : Nat) (w : World) (hl : Sl eInt T w al l) (hm' : Sl eInt T w am m) (h : ∀ x ∈ l, x ∈ m) :
    Ret Tryz.prog 43 #[.slice al l.length cl', .slice am m.length cm] w fun v w' => v = .bool true ∧ Bl w w' := by
  have q1 := hl.big
  refine entr (vs := [.slice al l.length cl', .slice am m.length cm]) [0, 1, 4, 5, 9, 18] tabok Tryz.func43 (by kernel_rfl) ?_
  refine lpk l.length 5 [] [(0, .slice al l.length cl'), (1, .slice am m.length cm)] (fun k vals w' => vals = [] ∧ Bl w w') ⟨rfl, Bl.refl _⟩ ?_
  rintro k vals w1 hk ⟨rfl, B1⟩ ih
  by_cases hlt : k < l.length
  · refine brT ?_
    obtain ⟨x, b, o, cs, hx, e, _, hAt, rfl⟩ := at_some (hl.bl B1) hlt
    rw [e]
    refine ix ?_
    refine ld (hAt 0 _ rfl) ?_
    refine cl (r5_Has m am cm x w1 (hm'.bl B1)) ?_
    rintro _ w2 ⟨rfl, B12⟩
    rw [decide_eq_true (h x (List.mem_of_getElem? hx))]
    refine brf ?_
    exact ih hlt ⟨rfl, B1.trans B12⟩ (hsub := by rw [e]; repeat (first | exact True.intro | (refine ⟨rfl, ?_⟩)))
  · refine brF ?_
    exact rt1 ⟨rfl, B1⟩
theorem ask_left {m : Mod} {n : Int} {l l' : List Int} (h : askE m n (l ++ l') = 0) : askE m n l = 0 := by
  obtain ⟨h1, h2⟩ := ask_yes h
  exact if_pos ⟨h1, fun i hi => h2 i (List.mem_append_left _ hi)⟩
theorem rch_more {m : Mod} {l l' : List Int} {x : Nd} (h : Rch m (rootsN l) x) : Rch m (rootsN (l ++ l')) x := h.mono fun _ ⟨k, hk, e⟩ => ⟨k, List.mem_append_left _ hk, e⟩
set_option maxHeartbeats 2000000 in
theorem l_LinkReaches (m : Mod) (a : MA) (roots more : List Int) (ar am : Option Addr) (cr cm : Nat) (w : World) (hM : MdR T w m a) (hS : Sl eInt T w ar roots) (hS2 : Sl eInt T w am more) (hG : Gl w) :
    Ret Tryz.prog 9 #[.agg (modcells m a).toArray, .slice ar roots.length cr, .slice am more.length cm] w fun v w' => v = .bool true ∧ Bl w w' := by
  have q1 := hS.big
  have q2 := hS2.big
  refine entr (vs := [.agg (modcells m a).toArray, .slice ar roots.length cr, .slice am more.length cm]) [0, 1, 2, 3, 6, 7, 8, 9, 10, 11, 12, 13, 14, 15, 16, 17, 18, 28, 66, 80] tabok Tryz.func9 (by kernel_rfl) ?_
  refine bx (cs := modcells m a) fun b1 w1 k1 => ?_
  have y1 := k1.blk
  have z1 := k1.size
  refine lda k1.box.at ?_
  refine cl (l_heavyM m a w1 (hM.bl k1.bl)) ?_ (hm := fun _ _ r => by obtain ⟨_, _, hB⟩ := r; exact mdW_bl hB)
  rintro _ w2 ⟨hv, rfl, B12⟩
  have B2 := k1.bl.trans B12
  have x2 := Bl.box B12 k1.box
  refine br (fun h => ?_) (fun h => ?_)
  · refine cl (l_sane w2 (hG.bl B2)) ?_
    rintro _ w3 ⟨rfl, h3⟩
    exact rt1 ⟨rfl, B2.trans h3⟩
  have hsum : roots.length + more.length ≤ 200 := by
    cases hv with
    | true => simp at h
    | false =>
      rw [wrap_fit (by omega) (by omega)] at h
      simp at h
      omega
  clear h
  refine lda x2.at ?_
  refine cl (k_Reach m a roots ar cr w2 (hM.bl B2) (hS.bl B2)) ?_ (hm := fun _ _ r => by obtain ⟨_, _, _, _, _, _, _, _, _, _, hB⟩ := r; exact mdW_bl hB)
  rintro _ w3 ⟨p1, d1, p2, d2, p3, d3, rfl, S1, S2, S3, B23⟩
  have B3 := B2.trans B23
  have x3 := Bl.box B23 x2
  refine lda x3.at ?_
  refine cl (r5_Reach m a roots ar cr w3 (hM.bl B3) (hS.bl B3)) ?_ (hm := fun _ _ r => by obtain ⟨_, _, _, _, _, _, _, _, _, _, hB⟩ := r; exact mdW_bl hB)
  rintro _ w4 ⟨p4, d4, p5, d5, p6, d6, rfl, S4, S5, S6, B34⟩
  have B4 := B3.trans B34
  have x4 := Bl.box B34 x3
  refine cl (r_Ints (meR m roots) (meR m roots) p1 p4 d1 d4 w4 (S1.bl B34) S4) ?_
  rintro _ w5 ⟨rfl, B45⟩
  rw [decide_eq_true (rfl : meR m roots = meR m roots)]
  refine spt (.bool true) ?_
  refine cl (r_Ints (clR m roots) (clR m roots) p2 p5 d2 d5 w5 ((S2.bl B34).bl B45) (S5.bl B45)) ?_
  rintro _ w6 ⟨rfl, B56⟩
  rw [decide_eq_true (rfl : clR m roots = clR m roots)]
  refine spt (.bool true) ?_
  refine cl (r_Ints (stR m roots) (stR m roots) p3 p6 d3 d6 w6 (((S3.bl B34).bl B45).bl B56) ((S6.bl B45).bl B56)) ?_
  rintro _ w7 ⟨rfl, B67⟩
  rw [decide_eq_true (rfl : stR m roots = stR m roots)]
  refine brf ?_
  have B47 := (B45.trans B56).trans B67
  have B37 := B34.trans B47
  have B7 := B4.trans B47
  have x7 := Bl.box B47 x4
  have z7 := B7.size
  refine dh (fun i => i = b1) [0, 2, 4, 1, 3, 5, 6, 7, 8, 9, 10, 11, 12, 13, 14, 15] fun w8 k8 => ?_
  have x8 := k8.box x7
  have l8 := x8.lt
  refine lda x8.at ?_ (hm := rfl)
  refine bs (cs := []) fun b9 w9 k9 => ?_
  have y9 := k9.blk
  have z9 := k9.size
  have B79 := k8.bl.trans k9.bl
  have O9 : OwP 1 encInt w9 b9 3 (some ⟨b9, 0, none⟩) 0 ([] : List Int) := Ow.made (n := 0) k9 rfl (by omega)
  refine apl (l0 := []) (l1 := roots) O9 (src_of (hS.bl (B7.trans B79))) (by omega) (fun a10 c10 w10 O10 A10 F10 => ?_) (hm := apS fun g hg q => by have := (O9.lt hg).1; omega)
  have z10 := A10.size
  have B710 : Bl w7 w10 := Below.trans B79 (A10.below (by have := k8.bl.size; omega) fun g hg => by have := (O9.lt hg).1; have := k8.bl.size; omega)
  refine apl (l0 := [] ++ roots) (l1 := more) O10 (src_of (hS2.bl (B7.trans B710))) (by omega) (fun a11 c11 w11 O11 A11 F11 => ?_) (hm := apS fun g hg q => by have := (O10.lt hg).1; omega)
  have B711 : Bl w7 w11 := Below.trans B710 (A11.below (by have := B710.size; omega) fun g hg => by have := (O10.lt hg).1; have := k8.bl.size; omega)
  rw [List.nil_append] at O11 ⊢
  have S11 : Sl eInt T w11 a11 (roots ++ more) := owp_sl O11 (by rw [List.length_append]; omega) fun _ _ => trivial
  have B11 := B7.trans B711
  refine cl (k_Reach m a (roots ++ more) a11 c11 w11 (hM.bl B11) S11) ?_ (hm := fun _ _ r => by obtain ⟨_, _, _, _, _, _, _, _, _, _, hB⟩ := r; exact mdW_bl hB)
  rintro _ w12 ⟨p7, d7, p8, d8, p9, d9, rfl, S7, S8, S9, B1112⟩
  have B12' := B11.trans B1112
  by_cases h1 : askE m m.methods.length (roots ++ more) = 0
  rotate_left
  · rw [ask_n h1]
    refine brt ?_
    refine spt (.bool true) ?_
    refine cl (l_sane w12 (hG.bl B12')) ?_
    rintro _ w13 ⟨rfl, B1213⟩
    exact rt1 ⟨rfl, B12'.trans B1213⟩
  rw [h1]
  refine brf ?_
  have h0 := ask_left h1
  have i1 : meR m roots = meL m roots := if_pos h0
  have i2 : clR m roots = clL m roots := if_pos h0
  have i3 : stR m roots = stL m roots := if_pos h0
  have j1 : meR m (roots ++ more) = meL m (roots ++ more) := if_pos h1
  have j2 : clR m (roots ++ more) = clL m (roots ++ more) := if_pos h1
  have j3 : stR m (roots ++ more) = stL m (roots ++ more) := if_pos h1
  have B412 := (B47.trans B711).trans B1112
  have B312 := B34.trans B412
  refine spt (.bool true) ?_ (hb := by rw [h0]; rfl)
  refine cl (l_all (meR m roots) (meR m (roots ++ more)) p1 p7 d1 d7 w12 (S1.bl B312) S7 fun x hx => ?_) ?_
  · rw [i1] at hx; rw [j1]
    obtain ⟨g, q⟩ := mem_sel.1 hx
    exact mem_sel.2 ⟨g, rch_more q⟩
  rintro _ w13 ⟨rfl, B1213⟩
  refine spt (.bool true) ?_
  refine cl (l_all (clR m roots) (clR m (roots ++ more)) p2 p8 d2 d8 w13 ((S2.bl B312).bl B1213) (S8.bl B1213) fun x hx => ?_) ?_
  · rw [i2] at hx; rw [j2]
    obtain ⟨g, q⟩ := mem_sel.1 hx
    exact mem_sel.2 ⟨g, rch_more q⟩
  rintro _ w14 ⟨rfl, B1314⟩
  refine spt (.bool true) ?_
  refine cl (l_all (stR m roots) (stR m (roots ++ more)) p3 p9 d3 d9 w14 (((S3.bl B312).bl B1213).bl B1314) ((S9.bl B1213).bl B1314) fun x hx => ?_) ?_
  · rw [i3] at hx; rw [j3]
    obtain ⟨g, q⟩ := mem_sel.1 hx
    exact mem_sel.2 ⟨g, rch_more q⟩
  rintro _ w15 ⟨rfl, B1415⟩
  have B15 := ((B12'.trans B1213).trans B1314).trans B1415
  refine spt (.bool true) ?_
  refine cl (l_sane w15 (hG.bl B15)) ?_
  rintro _ w16 ⟨rfl, B1516⟩
  exact rt1 ⟨by first | rfl | (rw [h0]; rfl), B15.trans B1516⟩
end Go.Proofs.YtkmdfjpafkcleaaGreatDoor
