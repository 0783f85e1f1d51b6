import Derived.Test.YtopjmiklpnejmaaGreatDoorM5
import Derived.Test.YtopjmiklpnejmaaGreatDoorM4
/- Walks: a unit copied, in the document: in rows of its own. -/
namespace Go.Proofs.YtopjmiklpnejmaaGreatDoor
open Eng Go.RowKit
theorem take_push {α : Type} {l : List α} {k : Nat} (hk : l.length = k) (x : α) (i : Nat) : ((l ++ [x]).take (k + 1))[i]? = if i = k then some x else (l.take k)[i]? := by
  subst hk
  rw [List.take_of_length_le (by simp), List.take_length]
  by_cases h : i = l.length
  · subst h; simp
  · rw [if_neg h]
    rcases Nat.lt_or_ge i l.length with q | q
    · rw [List.getElem?_append_left q]
    · rw [List.getElem?_eq_none (by simp; omega), List.getElem?_eq_none q]
/-- one more class, its fields in a row of their own -/
theorem rowN_pushC {X : UX} {k j : Nat} {x : ClR} {a : Option Addr} {c : Nat} (hk : X.cl.length = k) : setR (setR (rowN X k j) (.fld k) (rwF x)) .cls ⟨58, 3, a, (X.cl ++ [x]).length, c, (X.cl ++ [x]).flatMap encC⟩ = rowN { X with cl := X.cl ++ [x], a2 := a, c2 := c } (k + 1) j := by
  funext key
  cases key with
  | fld i =>
    simp only [setR, rowN, reduceCtorEq, if_false, Key.fld.injEq, take_push hk]
    by_cases h : i = k
    · rw [if_pos h, if_pos h]; rfl
    · rw [if_neg h, if_neg h]
  | _ => simp [setR, rowN]
theorem rowN_pushM {X : UX} {i k : Nat} {x : MtR} {a : Option Addr} {c : Nat} (hk : X.ml.length = k) : setR (setR (setR (setR (rowN X i k) (.prm k) (rwP x)) (.loc k) (rwL x)) (.cod k) (rwI x)) .mth ⟨64, 7, a, (X.ml ++ [x]).length, c, (X.ml ++ [x]).flatMap encM⟩ = rowN { X with ml := X.ml ++ [x], a4 := a, c4 := c } i (k + 1) := by
  have key3 : ∀ (j : Nat) (f : MtR → Rw), (if j = k then f x else (((X.ml.take k)[j]?).map f).getD (Rw.no 0 0)) = ((((X.ml ++ [x]).take (k + 1))[j]?).map f).getD (Rw.no 0 0) := fun j f => by
    rw [take_push hk]
    by_cases h : j = k
    · rw [if_pos h, if_pos h]; rfl
    · rw [if_neg h, if_neg h]
  funext key
  cases key with
  | prm j => simpa [setR, rowN] using key3 j rwP
  | loc j => simpa [setR, rowN] using key3 j rwL
  | cod j => simpa [setR, rowN] using key3 j rwI
  | _ => simp [setR, rowN]
/-- a row that is empty may be one of other elements -/
theorem SepR.empty {w : World} {base : Nat} {R : Key → Rw} (h : SepR w base R) (k : Key) {r : Rw} (hr : r.a = none) (hn : r.n = 0) (hc : r.cap = 0) (hs : r.cs = []) : SepR w base (setR R k r) := by
  refine h.upd k (Ap.of_bl (Bl.refl w) _) (by unfold Rw.ok; rw [hr, hn, hc, hs]; exact Ow.nil ..) fun g hg => by rw [hr] at hg; cases hg
theorem r_Copy2 (u : Unt) (a : UA) (w : World) (hU : UnR T w u a) : Ret Tryz.prog 20 #[.agg (ucells u a).toArray] w fun v w' => ∃ X, v = .agg X.cells.toArray ∧ X.u = u ∧ SepU w' w.heap.size X ∧ Bl w w' := by
  have hU0 := hU.lt
  have hp1 := hU.pool.big
  have hp2 := hU.cls.big
  have hp3 := hU.sta.big
  have hp4 := hU.mth.big
  refine entr (vs := [.agg (ucells u a).toArray]) [0, 1, 2, 3, 4, 5, 6, 7, 27, 49] tabok Tryz.func20 (by kernel_rfl) ?_
  refine bx (cs := ucells u a) fun b1 w1 h1 => ?_
  refine al fun b2 w2 h2 => ?_
  have hx12 := Bl.box h2.bl h1.box
  refine ld (hx12.cell rfl) ?_
  refine bd ?_
  refine al fun b3 w3 h3 => ?_
  refine sta h3.box fun w4 k4 hx4 => ?_
  have B24 : Bl w2 w4 := h3.wr k4
  have B04 : Bl w w4 := (h1.bl.trans h2.bl).trans B24
  have z1 := h1.size
  have z2 := h2.size
  have z3 := h3.size
  have z4 := k4.size
  have y1 := h1.blk
  have y2 := h2.blk
  have y3 := h3.blk
  have hx14 := Bl.box B24 hx12
  have hx24 := Bl.box B24 h2.box
  refine ld (hx4.cell rfl) ?_
  refine ld (hx14.cell rfl) ?_
  refine apl (enc := encStr) (base := w4.heap.size) (l0 := []) (l1 := u.pool) (Ow.nil ..) (src_of (hU.bl B04).pool) (Nat.le_refl _) (fun a5 cap5 w5 hO5 hA5 hf5 => ?_)
  have B45 : Bl w4 w5 := hA5.below (Nat.le_refl _) fun g hg => absurd hg nn
  refine st (Bl.box B45 hx4) fun w6 k6 hx6 => ?_
  refine ld (hx6.cell rfl) ?_
  have S6 : CpS w w4 b3 w6 := ((CpS.refl B04 (by omega)).bl B45).wr k6 (.inl rfl)
  have z5 := B45.size
  have z6 := k6.size
  refine ld ((S6.box hx14 (by omega)).cell rfl) ?_
  refine apl (enc := encFld) (base := w4.heap.size) (l0 := []) (l1 := u.statics) (Ow.nil ..) (src_of (hU0.below S6.below).sta) (by omega) (fun a7 cap7 w7 hO7 hA7 hf7 => ?_)
  have B67 : Bl w6 w7 := hA7.below (Nat.le_refl _) fun g hg => absurd hg nn
  refine st (Bl.box B67 hx6) fun w8 k8 hx8 => ?_
  have S8 : CpS w w4 b3 w8 := (S6.bl B67).wr k8 (.inl rfl)
  have z7 := B67.size
  have z8 := k8.size
  have hB3 : b3 < w4.heap.size := hx4.lt
  have q8 : SepR w8 w4.heap.size (rowN ⟨u.name, a5, cap5, u.pool, none, 0, [], a7, cap7, u.statics, none, 0, []⟩ 0 0) := by
    have q0 : SepR w4 w4.heap.size fun _ => Rw.no 0 0 := SepR.no _ _ _ fun _ => ⟨0, 0, rfl⟩
    have q1 := q0.upd .pool (r := ⟨9, 1, a5, u.pool.length, cap5, u.pool.flatMap encStr⟩) hA5 hO5 hf5
    have q2 := (q1.wr k6 hB3).upd .sta (r := ⟨86, 3, a7, u.statics.length, cap7, u.statics.flatMap encFld⟩) hA7 hO7 hf7
    have q3 := ((q2.wr k8 hB3).empty .cls (r := ⟨58, 3, none, 0, 0, []⟩) rfl rfl rfl rfl).empty .mth (r := ⟨64, 7, none, 0, 0, []⟩) rfl rfl rfl rfl
    refine cast (congrArg (SepR w8 w4.heap.size) (funext fun k => ?_)) q3
    cases k <;> simp [setR, rowN]
  refine lpk u.classes.length 4 [] [(1, .pointer (some ⟨b1, 0, none⟩)), (2, .pointer (some ⟨b2, 0, none⟩)), (3, .pointer (some ⟨b3, 0, none⟩))] (fun k vals w' => vals = [] ∧ CpS w w4 b3 w' ∧ ∃ ac cc, ∃ xs : List ClR, xs.map (·.c) = u.classes.take k ∧ SepR w' w4.heap.size (rowN ⟨u.name, a5, cap5, u.pool, ac, cc, xs, a7, cap7, u.statics, none, 0, []⟩ k 0) ∧
    Box w' b3 30 [.string u.name, .slice a5 u.pool.length cap5, .slice ac xs.length cc, .slice a7 u.statics.length cap7, .slice none 0 0]) ⟨rfl, S8, none, 0, [], rfl, q8, hx8⟩ ?_
  rintro k vals w9 hk ⟨rfl, S9, ac, cc, xs, exs, hS9, hx9⟩ ih
  have lxs : xs.length = k := by have := congrArg List.length exs; rw [List.length_map, List.length_take] at this; omega
  have hx19 := S9.box hx14 (by omega)
  have z9 := S9.sz
  refine ld (hx19.cell rfl) ?_
  by_cases hlt : k < u.classes.length
  · refine brT ?_
    obtain ⟨c, bs2, o2, cs, hc, e2, _, hAt, af, cf, rfl, hf⟩ := at_some (hU0.below S9.below).cls hlt
    refine ld (hx19.cell rfl) ?_
    rw [e2]
    refine ix ?_
    refine lda hAt ?_
    refine al fun b5 w10 h10 => ?_
    refine sta h10.box fun w11 k11 hx11 => ?_
    have B911 : Bl w9 w11 := h10.wr k11
    have z10 := h10.size
    have z11 := k11.size
    have y10 := h10.blk
    have hfb := hf.big
    refine ld (hx11.cell rfl) ?_
    refine apl (enc := encFld) (base := w4.heap.size) (l0 := []) (l1 := c.fields) (Ow.nil ..) (src_of (hf.bl B911)) (by omega) (fun a12 cap12 w12 hO12 hA12 hf12 => ?_)
    have B1112 : Bl w11 w12 := hA12.below (Nat.le_refl _) fun g hg => absurd hg nn
    refine st (Bl.box B1112 hx11) fun w13 k13 hx13 => ?_
    have z12 := B1112.size
    have z13 := k13.size
    have B1013 : Bl w9 w13 := (B911.trans B1112).trans_wr k13 (by omega)
    refine ld ((Bl.box B1013 hx9).cell rfl) ?_
    refine lda hx13.at ?_
    refine bs fun b14 w14 h14 => ?_
    have z14 := h14.size
    have B914 : Bl w9 w14 := B1013.trans h14.bl
    have g12 : ∀ g, a12 = some ⟨g, 0, none⟩ → w11.heap.size ≤ g := fun g hg => by
      rcases hf12 g hg with e | e
      · cases e
      · exact e
    have q14 := hS9.upd (.fld k) (r := rwF ⟨c, a12, cap12⟩) (Ap.of_bl B914 _) ((Ow.wr hO12 k13 fun g hg => by have := g12 g hg; omega).bl h14.bl) fun g hg => .inr (by have := g12 g hg; omega)
    have ho14 : OwP 3 encC w14 w4.heap.size 58 ac cc xs := q14.own .cls
    refine apl (enc := encC) (base := w4.heap.size) (l0 := xs) (l1 := [⟨c, a12, cap12⟩]) ho14 (.inr ⟨b14, 0, rfl, h14.box.at⟩) (by omega) (fun a15 cap15 w15 hO15 hA15 hf15 => ?_)
    have q15 := q14.upd .cls (r := ⟨58, 3, a15, (xs ++ [(⟨c, a12, cap12⟩ : ClR)]).length, cap15, (xs ++ [(⟨c, a12, cap12⟩ : ClR)]).flatMap encC⟩) hA15 hO15 hf15
    have hlt9 : ∀ g, ac = some ⟨g, 0, none⟩ → w4.heap.size ≤ g := fun g hg => (hS9.lt (k := .cls) hg).1
    have S15 := (S9.bl B914).ap hA15 hlt9
    refine st (hA15.box (Bl.box B914 hx9) fun e => by have := hlt9 _ e; omega) fun w16 k16 hx16 => ?_
    have hq := q15.wr k16 hB3
    rw [rowN_pushC (X := ⟨u.name, a5, cap5, u.pool, ac, cc, xs, a7, cap7, u.statics, none, 0, []⟩) lxs] at hq
    refine ih hlt ⟨rfl, S15.wr k16 (.inl rfl), a15, cap15, xs ++ [⟨c, a12, cap12⟩], by rw [List.map_append, exs, take_succ_some hc]; rfl, hq, ?_⟩
    exact hx16
  refine brF ?_
  obtain rfl : k = u.classes.length := by omega
  clear ih
  rw [List.take_length] at exs
  refine lpk u.methods.length 6 [] [(1, .pointer (some ⟨b1, 0, none⟩)), (2, .pointer (some ⟨b2, 0, none⟩)), (3, .pointer (some ⟨b3, 0, none⟩))] (fun k vals w' => vals = [] ∧ CpS w w4 b3 w' ∧ ∃ am cm, ∃ ms : List MtR, ms.map (·.m) = u.methods.take k ∧ SepR w' w4.heap.size (rowN ⟨u.name, a5, cap5, u.pool, ac, cc, xs, a7, cap7, u.statics, am, cm, ms⟩ u.classes.length k) ∧
    Box w' b3 30 [.string u.name, .slice a5 u.pool.length cap5, .slice ac xs.length cc, .slice a7 u.statics.length cap7, .slice am ms.length cm]) ⟨rfl, S9, none, 0, [], rfl, hS9, hx9⟩ ?_
  rintro k vals wA hk ⟨rfl, SA, am, cm, ms, ems, hSA, hxA⟩ ih
  have lms : ms.length = k := by have := congrArg List.length ems; rw [List.length_map, List.length_take] at this; omega
  have hx1A := SA.box hx14 (by omega)
  have zA := SA.sz
  refine ld (hx1A.cell rfl) ?_
  by_cases hlt : k < u.methods.length
  · refine brT ?_
    obtain ⟨m, bs2, o2, cs, hm, e2, _, hAt, q1, s1, q2, s2, q3, s3, rfl, f1, f2, f3⟩ := at_some (hU0.below SA.below).mth hlt
    have g1 := f1.big
    have g2 := f2.big
    have g3 := f3.big
    refine ld (hx1A.cell rfl) ?_
    rw [e2]
    refine ix ?_
    refine lda hAt ?_
    refine al fun b5 w10 h10 => ?_
    refine sta h10.box fun w11 k11 hx11 => ?_
    have BA11 : Bl wA w11 := h10.wr k11
    have z10 := h10.size
    have z11 := k11.size
    have y10 := h10.blk
    refine ld (hx11.cell rfl) ?_
    refine apl (enc := encTy) (base := w4.heap.size) (l0 := []) (l1 := m.params) (Ow.nil ..) (src_of (f1.bl BA11)) (by omega) (fun a12 cap12 w12 hO12 hA12 hf12 => ?_)
    have B1112 : Bl w11 w12 := hA12.below (Nat.le_refl _) fun g hg => absurd hg nn
    refine st (Bl.box B1112 hx11) fun w13 k13 hx13 => ?_
    have z12 := B1112.size
    have z13 := k13.size
    have BA13 : Bl wA w13 := (BA11.trans B1112).trans_wr k13 (by omega)
    refine ld (hx13.cell rfl) ?_
    refine apl (enc := encTy) (base := w4.heap.size) (l0 := []) (l1 := m.locals) (Ow.nil ..) (src_of (f2.bl BA13)) (by omega) (fun a14 cap14 w14 hO14 hA14 hf14 => ?_)
    have B1314 : Bl w13 w14 := hA14.below (Nat.le_refl _) fun g hg => absurd hg nn
    refine st (Bl.box B1314 hx13) fun w15 k15 hx15 => ?_
    have z14 := B1314.size
    have z15 := k15.size
    have BA15 : Bl wA w15 := (BA13.trans B1314).trans_wr k15 (by omega)
    refine ld (hx15.cell rfl) ?_
    refine apl (enc := encIns) (base := w4.heap.size) (l0 := []) (l1 := m.code) (Ow.nil ..) (src_of (f3.bl BA15)) (by omega) (fun a16 cap16 w16 hO16 hA16 hf16 => ?_)
    have B1516 : Bl w15 w16 := hA16.below (Nat.le_refl _) fun g hg => absurd hg nn
    refine st (Bl.box B1516 hx15) fun w17 k17 hx17 => ?_
    have z16 := B1516.size
    have z17 := k17.size
    have BA17 : Bl wA w17 := (BA15.trans B1516).trans_wr k17 (by omega)
    refine ld ((Bl.box BA17 hxA).cell rfl) ?_
    refine lda hx17.at ?_
    refine bs fun b18 w18 h18 => ?_
    have z18 := h18.size
    have BA18 : Bl wA w18 := BA17.trans h18.bl
    have fr : ∀ {x : Option Addr} {w1 : World}, (∀ g, x = some ⟨g, 0, none⟩ → (none : Option Addr) = some ⟨g, 0, none⟩ ∨ w1.heap.size ≤ g) → ∀ g, x = some ⟨g, 0, none⟩ → w1.heap.size ≤ g := fun h g hg => by
      rcases h g hg with e | e
      · cases e
      · exact e
    have g12 := fr hf12
    have g14 := fr hf14
    have g16 := fr hf16
    let x : MtR := ⟨m, a12, cap12, a14, cap14, a16, cap16⟩
    have qA : SepR w12 w4.heap.size (setR (rowN ⟨u.name, a5, cap5, u.pool, ac, cc, xs, a7, cap7, u.statics, am, cm, ms⟩ u.classes.length k) (.prm k) (rwP x)) :=
      hSA.upd (.prm k) (r := rwP x) (Ap.of_bl (BA11.trans B1112) _) hO12 fun g hg => .inr (by have := g12 g hg; omega)
    have nb : ∀ {w1 w2 : World} {R : Key → Rw}, SepR w1 w4.heap.size R → Wr w1 b5 w2 → (∀ j g, (R j).a = some ⟨g, 0, none⟩ → g ≠ b5) → SepR w2 w4.heap.size R := fun h k hn => h.ap k.ap fun j g hg e => hn j g hg (by simp only [Option.some.injEq, Addr.mk.injEq, and_true] at e; exact e.symm)
    have n0 : ∀ j g, (rowN ⟨u.name, a5, cap5, u.pool, ac, cc, xs, a7, cap7, u.statics, am, cm, ms⟩ u.classes.length k j).a = some ⟨g, 0, none⟩ → g ≠ b5 := fun j g hg => by have := (hSA.lt hg).2; omega
    have n1 : ∀ {R : Key → Rw} {j0 : Key} {r : Rw}, (∀ j g, (R j).a = some ⟨g, 0, none⟩ → g ≠ b5) → (∀ g, r.a = some ⟨g, 0, none⟩ → g ≠ b5) → ∀ j g, (setR R j0 r j).a = some ⟨g, 0, none⟩ → g ≠ b5 := fun h h2 j g hg => by
      unfold setR at hg
      split at hg
      · exact h2 g hg
      · exact h j g hg
    have nA := n1 (j0 := .prm k) (r := rwP x) n0 fun g hg => by have := g12 g hg; omega
    have qB := nb qA k13 nA
    have qC := qB.upd (.loc k) (r := rwL x) (Ap.of_bl B1314 _) hO14 fun g hg => .inr (by have := g14 g hg; omega)
    have nC := n1 (j0 := .loc k) (r := rwL x) nA fun g hg => by have := g14 g hg; omega
    have qD := nb qC k15 nC
    have qE := qD.upd (.cod k) (r := rwI x) (Ap.of_bl B1516 _) hO16 fun g hg => .inr (by have := g16 g hg; omega)
    have nE := n1 (j0 := .cod k) (r := rwI x) nC fun g hg => by have := g16 g hg; omega
    have q18 := (nb qE k17 nE).bl h18.bl
    have ho18 : OwP 7 encM w18 w4.heap.size 64 am cm ms := q18.own .mth
    refine apl (enc := encM) (base := w4.heap.size) (l0 := ms) (l1 := [x]) ho18 (.inr ⟨b18, 0, rfl, h18.box.at⟩) (by omega) (fun a19 cap19 w19 hO19 hA19 hf19 => ?_)
    have q19 := q18.upd .mth (r := ⟨64, 7, a19, (ms ++ [x]).length, cap19, (ms ++ [x]).flatMap encM⟩) hA19 hO19 hf19
    have hltA : ∀ g, am = some ⟨g, 0, none⟩ → w4.heap.size ≤ g := fun g hg => (hSA.lt (k := .mth) hg).1
    have S19 := (SA.bl BA18).ap hA19 hltA
    refine st (hA19.box (Bl.box BA18 hxA) fun e => by have := hltA _ e; omega) fun w20 k20 hx20 => ?_
    have hq := q19.wr k20 hB3
    rw [rowN_pushM (X := ⟨u.name, a5, cap5, u.pool, ac, cc, xs, a7, cap7, u.statics, am, cm, ms⟩) lms] at hq
    refine ih hlt ⟨rfl, S19.wr k20 (.inl rfl), a19, cap19, ms ++ [x], by rw [List.map_append, ems, take_succ_some hm]; rfl, hq, ?_⟩
    exact hx20
  refine brF ?_
  obtain rfl : k = u.methods.length := by omega
  rw [List.take_length] at ems
  refine lda hxA.at ?_
  refine sta (SA.box hx24 (by omega)) fun wB kB hxB => ?_
  refine rtc hxB.at ⟨⟨u.name, a5, cap5, u.pool, ac, cc, xs, a7, cap7, u.statics, am, cm, ms⟩, rfl, ?_, ?_, SA.below.trans (kB.below (by omega))⟩
  · simp only [UX.u, exs, ems]
  · unfold SepU UX.row
    rw [lxs, lms]
    exact (hSA.wr kB (by omega)).base B04.size
end Go.Proofs.YtopjmiklpnejmaaGreatDoor

/- Walks: the document's renumbering of a unit. -/
namespace Go.Proofs.YtopjmiklpnejmaaGreatDoor
open Eng Go.RowKit
namespace Eng
theorem take_ovl : ∀ {vs l : List Value} {o n : Nat}, (ovl l o vs).take n = ovl (l.take n) o vs
  | [], _, _, _ => rfl
  | v :: vs, l, o, n => by simp only [ovl]; rw [take_ovl, List.take_set]
theorem ovl_len : ∀ {vs l : List Value} {o : Nat}, (ovl l o vs).length = l.length
  | [], _, _ => rfl
  | v :: vs, l, o => by simp only [ovl]; rw [ovl_len, List.length_set]
theorem Ow.ovl {w w' : World} {base e esz : Nat} {n cap : Nat} {xs : List Value} {g : Nat} (h : Ow w base e esz (some ⟨g, 0, none⟩) n cap xs) {cur : List Value} (hb : Box w g e cur) {o : Nat} {vs : List Value} (hb' : Box w' g e (Eng.ovl cur o vs)) :
    Ow w' base e esz (some ⟨g, 0, none⟩) n cap (Eng.ovl xs o vs) := by
  obtain ⟨h1, h2⟩ := h.own
  refine ⟨⟨by rw [ovl_len]; exact h1, ?_⟩⟩
  rcases h2 with ⟨h2, _⟩ | ⟨g', cap', c2, h2, h3, h4, h5, h6, h7, h8⟩
  · cases h2
  · simp only [Value.slice.injEq, Option.some.injEq, Addr.mk.injEq, and_true, true_and] at h2
    obtain ⟨rfl, rfl⟩ := h2
    have e1 : c2.toList = cur := by
      unfold Box at hb; rw [hb] at h4
      simp only [Option.some.injEq, Obj.cells.injEq] at h4
      rw [← h4.1]
    refine .inr ⟨g, cap, (Eng.ovl cur o vs).toArray, rfl, h3, hb', h5, h6, by simp [← e1, h7, ovl_len], ?_⟩
    simp only [take_ovl, ← e1, h8]
/-- a store of several cells into a row that is not written out -/
theorem stv {C : Cx} {s : St} {w : World} {md : Option Md} {ops : Array Oper} {T : TypeId} {x y : Operand} {ty : TypeId} {pos : String} {af : Array Edge} {g : Option (Nat × Bool)} {rest : List Oper} {k : List Item} {l : Env} {c : CEnv} {tk : TK} {sz : Nat} {ag : Bool} {zr : List Value} {b o : Nat} {t : TypeId} {vs cs : List Value}
    (hb : Box w b t cs) (h : ∀ w', Wr w b w' → Box w' b t (ovl cs o vs) → Wk C (.reg md ops rest k l c) w')
    (hs : adv C.tab C.n C.ks 400 s = .opn md ops ⟨none, .store T x y, ty, pos, af, g⟩ rest k l c [] := by rfl) (ht : C.tab.at T = some ⟨tk, sz, ag, zr⟩ := by rfl)
    (hx : evc l c [] x = some (.pointer (some ⟨b, o, none⟩)) := by rfl) (hy : evc l c [] y = some (.agg vs.toArray) := by rfl) (hv : vs.all Value.oneCell' = true := by rfl) (hl : vs.length = sz := by rfl)
    (ho : o + vs.length ≤ cs.length := by omega) (hm : ∀ w', Wr w b w' → mdW md w w' := by intros; exact True.intro) (hnt : notT md = true := by rfl) : Wk C s w :=
  op_unit (okW_of rfl hnt) (hm _ (setCells_ok hb).1) (w' := setCells w b o vs) (fun hT a hA => by
    have hz := (ti_agg (tab_at hT ht) w).2
    simp only [execOp, evc_ok hA.k hA.kc.c (p := []) trivial hx, evc_ok hA.k hA.kc.c (p := []) trivial hy, Instr.storeAt, Instr.sureAddr]
    refine (run_bind_ok (P := C.P) (x := ()) (w' := setCells w b o vs) ?_).trans rfl
    show (storeVar T ⟨b, o, none⟩ (.agg vs.toArray)).run C.P w = _
    unfold storeVar
    rw [run_bind_ok hz, if_neg (by simp [Value.cells, hl])]
    exact storeCells_run (vs := vs) (i := 0) hb ho hv)
    (h _ (setCells_ok hb).1 (setCells_ok (o := o) (vs := vs) hb).2) hs rfl
end Eng
theorem fld_ovl {l : List Fld} {k : Nat} {x y : Fld} (hx : l[k]? = some x) : ovl (l.flatMap encFld) (0 + k * 3) (encFld y) = (l.set k y).flatMap encFld := by
  have hk := (List.getElem?_eq_some_iff.1 hx).1
  show ((((l.flatMap encFld).set (0 + k * 3) (I y.name)).set (0 + k * 3 + 1) (I y.ty.kind)).set (0 + k * 3 + 1 + 1) (I y.ty.cls)) = _
  rw [Nat.zero_add]
  have e0 := flat_set (sz := 3) (enc := encFld) (fun _ => rfl) hx (y := ⟨y.name, x.ty⟩) (j := 0) (v := I y.name) (by omega) rfl
  have h1 : (l.set k ⟨y.name, x.ty⟩)[k]? = some ⟨y.name, x.ty⟩ := List.getElem?_set_self hk
  have e1 := flat_set (sz := 3) (enc := encFld) (fun _ => rfl) h1 (y := ⟨y.name, ⟨y.ty.kind, x.ty.cls⟩⟩) (j := 1) (v := I y.ty.kind) (by omega) rfl
  rw [List.set_set] at e1
  have h2 : (l.set k ⟨y.name, ⟨y.ty.kind, x.ty.cls⟩⟩)[k]? = some ⟨y.name, ⟨y.ty.kind, x.ty.cls⟩⟩ := List.getElem?_set_self hk
  have e2 := flat_set (sz := 3) (enc := encFld) (fun _ => rfl) h2 (y := y) (j := 2) (v := I y.ty.cls) (by omega) rfl
  rw [List.set_set] at e2
  rw [← e2, ← e1, ← e0]; rfl
/-- a table of places: what it says, and of which numbers -/
structure Pl (f : Int → Int) (P : List Int) : Prop where
  le : P.length ≤ 4194304
  at' : ∀ i : Int, 0 ≤ i → i < P.length → P[i.toNat]? = some (f i)
  neg : ∀ i : Int, i < 0 → f i = i
theorem pl_at {f : Int → Int} {P : List Int} (h : Pl f P) {w : World} {ap : Option Addr} (hS : Sl eInt T w ap P) {i : Int} (h0 : 0 ≤ i) (h1 : i < P.length) : ∃ b o, ap = some ⟨b, o, none⟩ ∧ w.cell? ⟨b, o + i.toNat * 1, none⟩ = some (I (f i)) ∧ i = ((i.toNat : Nat) : Int) ∧ i.toNat < P.length := by
  obtain ⟨x, b, o, cs, hx, e, _, hA, rfl⟩ := at_some hS (i := i.toNat) (by omega)
  rw [h.at' i h0 h1] at hx
  cases hx
  exact ⟨b, o, e, hA 0 _ rfl, by omega, by omega⟩
theorem r_moved {f : Int → Int} {P : List Int} (h : Pl f P) (ap : Option Addr) (cp : Nat) (i : Int) (hi : i < P.length) (w : World) (hS : Sl eInt T w ap P) : Ret Tryz.prog 161 #[.slice ap P.length cp, I i] w fun v w' => v = I (f i) ∧ Bl w w' := by
  refine entr (vs := [.slice ap P.length cp, I i]) [0, 1, 4, 6] tabok Tryz.func161 (by kernel_rfl) ?_
  refine br (t := decide (i < 0)) (fun h0 => ?_) (fun h0 => ?_)
  · have h0 := of_decide_eq_true h0
    exact rt1 ⟨by rw [h.neg i h0], Bl.refl _⟩
  · have h0 : 0 ≤ i := by have := of_decide_eq_false h0; omega
    obtain ⟨b, o, rfl, hc, he, hl⟩ := pl_at h hS h0 hi
    refine ix (hij := he) ?_
    refine ld hc ?_
    exact rt1 ⟨rfl, Bl.refl _⟩
def mvT' (f : Int → Int) (t : Ty) : Ty := ⟨t.kind, f t.cls⟩
def mvF' (f : Int → Int) (x : Fld) : Fld := ⟨f x.name, mvT' f x.ty⟩
theorem r_field {f : Int → Int} {P : List Int} (h : Pl f P) (ap : Option Addr) (cp : Nat) (x : Fld) (h0 : 0 ≤ x.name) (h1 : x.name < P.length) (h2 : x.ty.cls < P.length) (w : World) (hS : Sl eInt T w ap P) : Ret Tryz.prog 162 #[.slice ap P.length cp, .agg (encFld x).toArray] w fun v w' => v = .agg (encFld (mvF' f x)).toArray ∧ Bl w w' := by
  refine entr (vs := [.slice ap P.length cp, .agg (encFld x).toArray]) [0, 1, 3, 4] tabok Tryz.func162 (by kernel_rfl) ?_
  refine bx (cs := encFld x) fun b3 w1 k1 => ?_
  refine al fun b4 w2 k2 => ?_
  have z1 := k1.size
  have z2 := k2.size
  have y1 := k1.blk
  have y2 := k2.blk
  have x3 := Bl.box k2.bl k1.box
  have B02 := k1.bl.trans k2.bl
  obtain ⟨b, o, ea, hc, he, hl⟩ := pl_at h (hS.bl B02) h0 h1
  refine ld (x3.cell rfl) ?_
  rw [ea]
  refine ix (hij := he) ?_
  refine ld hc ?_
  refine st x3 fun w3 k3 x3' => ?_
  rw [← ea]
  have z3 := k3.size
  have B03 := B02.trans_wr k3 (by omega)
  refine ld (x3'.cell rfl) ?_
  refine cl (r_moved h ap cp x.ty.cls h2 w3 (hS.bl B03)) ?_
  rintro _ w4 ⟨rfl, B34⟩
  refine st (Bl.box B34 x3') fun w5 k5 x5 => ?_
  have z4 := B34.size
  have z5 := k5.size
  refine lda x5.at ?_
  refine sta (Bl.box B34 (k3.box k2.box (by omega)) |> fun q => k5.box q (by omega)) fun w6 k6 x6 => ?_
  exact rtc x6.at ⟨rfl, ((B03.trans B34).trans_wr k5 (by omega)).trans_wr k6 (by omega)⟩
end Go.Proofs.YtopjmiklpnejmaaGreatDoor

/- Walks: the document's renumbering of a whole unit. -/
namespace Go.Proofs.YtopjmiklpnejmaaGreatDoor
open Eng Go.RowKit
theorem idx_lt {u : Unt} (hC : CkU u) {r : Rf} (hr : r ∈ allRefs u) : r.at' < u.pool.length := by
  rcases Int.lt_or_le r.at' 0 with h | h
  · omega
  · exact (all_in hC hr h).1
theorem code_in {u : Unt} (hC : CkU u) {m : Mth} (hm : m ∈ u.methods) {i : Ins} (hi : i ∈ m.code) : ((named i).1 = 1 → 0 ≤ i.a ∧ i.a < u.pool.length) ∧ ((named i).1 = 2 → 0 ≤ i.b ∧ i.b < u.pool.length) := by
  have key : ∀ x, operand i = (x, (named i).2) → 0 < (named i).2 → 0 ≤ x ∧ x < u.pool.length := fun x e hp => by
    have hp' : 0 < (operand i).2 := by rw [e]; exact hp
    have h0 := operand_ge i (code_valid hC hm hi) hp'
    have h1 := idx_lt hC (mem_refs_op hm hi hp')
    rw [e] at h0 h1
    exact ⟨h0, h1⟩
  refine ⟨fun h => key _ (by unfold operand; rw [if_pos h]) (named_pos (.inl h)), fun h => key _ (by unfold operand; rw [if_neg (by omega), if_pos h]) (named_pos (.inr h))⟩
def mvC' (f : Int → Int) (x : ClR) : ClR := ⟨⟨f x.c.name, f x.c.super, x.c.fields.map (mvF' f)⟩, x.a, x.q⟩
def mvM' (f : Int → Int) (x : MtR) : MtR := { x with m := ⟨f x.m.name, f x.m.cls, x.m.params.map (mvT' f), x.m.locals.map (mvT' f), mvT' f x.m.result, x.m.code.map (mvIns f)⟩ }
def mvX' (f : Int → Int) (X : UX) : UX := { X with cl := X.cl.map (mvC' f), sta := X.sta.map (mvF' f), ml := X.ml.map (mvM' f) }
section
variable {f : Int → Int} {P : List Int}
/-- where the walk stands: the unit's rows, and all else as it was -/
structure Rn (Q : Nat → Prop) (w5 : World) (base : Nat) (X : UX) (w' : World) : Prop where
  q : Qf Q w5 w'
  s : SepU w' base X
theorem Rn.bl {Q : Nat → Prop} {w5 w' w'' : World} {base : Nat} {X : UX} (h : Rn Q w5 base X w') (k : Bl w' w'') : Rn Q w5 base X w'' := ⟨h.q.bl k, SepR.bl h.s k⟩
theorem Rn.qw {Q : Nat → Prop} {w5 w' w'' : World} (h : Qf Q w5 w') {b : Nat} (k : Wr w' b w'') (hb : Q b) : Qf Q w5 w'' := h.ap (Ap.wr k) fun g e => by
  simp only [Option.some.injEq, Addr.mk.injEq, and_true] at e
  subst e; exact .inl hb
end
end Go.Proofs.YtopjmiklpnejmaaGreatDoor

/- Walks: the document's renumbering of a whole unit: classes. -/
namespace Go.Proofs.YtopjmiklpnejmaaGreatDoor
open Eng Go.RowKit
set_option maxHeartbeats 4000000 in
theorem r_renumbered {f : Int → Int} {P : List Int} (hPl : Pl f P) (u : Unt) (hC : CkU u) (hn : P.length = u.pool.length) (bq cp : Nat) (a : UA) (w : World) (hU : UnR T w u a) (hS : Sl eInt T w (some ⟨bq, 0, none⟩) P) :
    Ret Tryz.prog 114 #[.agg (ucells u a).toArray, .slice (some ⟨bq, 0, none⟩) P.length cp] w fun v w' => ∃ X, v = .agg (mvX' f X).cells.toArray ∧ X.u = u ∧ SepU w' w.heap.size (mvX' f X) ∧ Bl w w' := by
  refine entr (vs := [.agg (ucells u a).toArray, .slice (some ⟨bq, 0, none⟩) P.length cp]) [0, 1, 2, 4, 5, 6, 7, 8, 9, 10, 11, 12, 13, 21, 59, 85, 103, 156, 188, 220, 237, 261] tabok Tryz.func114 (by kernel_rfl) ?_
  have hzu := hU.siz
  refine bx (cs := ucells u a) fun b2 w1 h1 => ?_
  refine al fun b4 w2 h2 => ?_
  have B02 := h1.bl.trans h2.bl
  refine lda (Bl.box h2.bl h1.box).at ?_
  refine cl (r_Copy2 u a w2 (hU.bl B02)) ?_
  rintro _ w3 ⟨X, rfl, rfl, hS3, B23⟩
  refine al fun b5 w4 h4 => ?_
  refine sta (cs' := X.cells) h4.box fun w5 k5 x5 => ?_
  have B35 := h4.wr k5
  have B25 := B23.trans B35
  have B05 := B02.trans B25
  have z1 := h1.size
  have z2 := h2.size
  have z3 := B23.size
  have z4 := h4.size
  have z5 := k5.size
  have y4 := h4.blk
  have y2 := h2.blk
  have n1 : X.cl.length ≤ 4194304 := by simpa [UX.u] using hzu.cls
  have n2 : X.sta.length ≤ 4194304 := hzu.sta
  have n3 : X.ml.length ≤ 4194304 := by simpa [UX.u] using hzu.mth
  let Q : Nat → Prop := fun b => w2.heap.size ≤ b ∧ b < w3.heap.size
  have hQ5 : ¬ Q b5 := by simp only [Q]; omega
  have hQ4 : ¬ Q b4 := by simp only [Q]; omega
  have hQr : ∀ k g, (X.row k).a = some ⟨g, 0, none⟩ → Q g := fun k g hg => SepR.lt hS3 hg
  have HX : ∀ {w'}, Qf Q w5 w' → Box w' b5 30 X.cells := fun q => q.box x5 hQ5
  have BW : ∀ {w'}, Qf Q w5 w' → Bl w w' := fun q => Below.trans B05 (q.below (B := w.heap.size) (by have := B05.size; omega) fun b hb => by have := hb.1; have := B02.size; omega)
  have HP : ∀ {w'}, Qf Q w5 w' → Sl eInt T w' (some ⟨bq, 0, none⟩) P := fun q => hS.bl (BW q)
  have PA : ∀ {w'}, Qf Q w5 w' → ∀ i : Int, 0 ≤ i → i < P.length → w'.cell? ⟨bq, 0 + i.toNat * 1, none⟩ = some (I (f i)) := fun q i h0 h1 => by
    obtain ⟨b, o, e, hc, _, _⟩ := pl_at hPl (HP q) h0 h1
    cases e; exact hc
  have R0 : Rn Q w5 w2.heap.size X w5 := ⟨Qf.refl _ _, SepR.bl hS3 B35⟩
  refine lpk X.cl.length 6 [] [(1, .slice (some ⟨bq, 0, none⟩) P.length cp), (4, .pointer (some ⟨b4, 0, none⟩)), (5, .pointer (some ⟨b5, 0, none⟩))] (fun k vals w' => vals = [] ∧ Rn Q w5 w2.heap.size { X with cl := mixL (mvC' f) X.cl k } w') ⟨rfl, by rw [mixL_zero]; exact R0⟩ ?_
  rintro k vals w6 hk ⟨rfl, q6, S6⟩ ih
  refine ld ((HX q6).cell rfl) ?_
  by_cases hlt : k < X.cl.length
  · refine brT ?_
    obtain ⟨x, hx⟩ := some_of_lt hlt
    have hm : x.c ∈ X.u.classes := List.mem_map.2 ⟨x, List.mem_of_getElem? hx, rfl⟩
    have hgs : ∀ y, ((mixL (mvC' f) X.cl k).set k y)[k]? = some y := fun y => List.getElem?_set_self (by rw [mixL_len]; exact hlt)
    have hx6 := mixL_get (mvC' f) hx
    have O6 : OwP 3 encC w6 w2.heap.size 58 X.a2 X.c2 (mixL (mvC' f) X.cl k) := S6.own .cls
    obtain ⟨b, ea⟩ := ow_some O6 (by rw [mixL_len]; omega)
    have hQb := hQr .cls b ea
    have HD : ∀ {w'}, Qf Q w5 w' → w'.cell? ⟨b5, 2, none⟩ = some (.slice (some ⟨b, 0, none⟩) X.cl.length X.c2) := fun q => by rw [← ea]; exact (HX q).cell rfl
    have nmi := name_in hC (i := x.c.name) (List.mem_append_left _ (List.mem_append_left _ (List.mem_flatMap.2 ⟨_, hm, by simp [cref]⟩)))
    have hi1 : x.c.name < P.length := by rw [hn]; exact idx_lt hC (mem_refs_cls hm (r := ⟨x.c.name, 1, false⟩) (by simp [cref]))
    have hi2 : x.c.super < P.length := by rw [hn]; exact idx_lt hC (mem_refs_cls hm (r := ⟨x.c.super, 2, true⟩) (by simp [cref]))
    refine dt 1 fun w7 h7 => ?_
    have q7 := q6.bl h7.bl
    have S7 := SepR.bl S6 h7.bl
    have O7 : OwP 3 encC w7 w2.heap.size 58 X.a2 X.c2 (mixL (mvC' f) X.cl k) := S7.own .cls
    refine ld (HD q7) ?_
    refine ld (HD q7) ?_
    refine ix ?_
    refine ld (at_elem (enc := encC) (sz := 3) (O7.at ea) hx6 (fun _ => rfl) 0 _ rfl) ?_
    refine ix (hij := int_nat nmi.1) ?_
    refine ld (PA q7 _ nmi.1 hi1) ?_
    refine ix ?_
    have O7' := O7
    rw [ea] at O7'
    obtain ⟨cur7, hb7, hl7, _, _, hl7'⟩ := Eng.Ow.box O7'
    rw [mixL_len] at hl7'
    refine stx hb7 (fun w8 k8 hb8 => ?_) (ho := by omega)
    obtain ⟨y8, ey8⟩ : ∃ y : ClR, y = ⟨⟨f x.c.name, x.c.super, x.c.fields⟩, x.a, x.q⟩ := ⟨_, rfl⟩
    have O8 := row_set (enc := encC) (fun _ => rfl) O7' hb7 hx6 (j := 0) (y := y8) (by omega) (by subst ey8; rfl) hb8
    rw [← ea] at O8
    have A8 : Ap w7 X.a2 w8 := by rw [ea]; exact Ap.wr k8
    have S8 : SepU w8 w2.heap.size { X with cl := (mixL (mvC' f) X.cl k).set k y8 } := SepU.setC (X := { X with cl := mixL (mvC' f) X.cl k }) S7 hx6 (by subst ey8; rfl) A8 O8
    have q8 := Rn.qw q7 k8 hQb
    refine dht 3 T (List.range 11) fun w9 h9 => ?_
    have q9 := q8.bl h9.bl
    have S9 := SepR.bl S8 h9.bl
    have O9 : OwP 3 encC w9 w2.heap.size 58 X.a2 X.c2 ((mixL (mvC' f) X.cl k).set k y8) := S9.own .cls
    refine ld (HD q9) ?_ (hm := by exact trivial)
    refine ld (HD q9) ?_ (hm := by exact trivial)
    refine ix ?_
    refine ld (at_elem (enc := encC) (sz := 3) (O9.at ea) (hgs y8) (fun _ => rfl) 1 (I x.c.super) (by subst ey8; rfl)) ?_ (hm := by exact trivial)
    refine cl (r_moved hPl _ cp x.c.super hi2 w9 (HP q9)) ?_
    rintro _ w10 ⟨rfl, B910⟩
    have q10 := q9.bl B910
    have S10 := SepR.bl S9 B910
    have O10 : OwP 3 encC w10 w2.heap.size 58 (some ⟨b, 0, none⟩) X.c2 ((mixL (mvC' f) X.cl k).set k y8) := by rw [← ea]; exact S10.own .cls
    obtain ⟨cur10, hb10, hl10, _, _, hl10'⟩ := Eng.Ow.box O10
    rw [List.length_set, mixL_len] at hl10'
    refine ix ?_
    refine stx hb10 (fun w11 k11 hb11 => ?_) (ho := by omega)
    obtain ⟨y11, ey11⟩ : ∃ y : ClR, y = ⟨⟨f x.c.name, f x.c.super, x.c.fields⟩, x.a, x.q⟩ := ⟨_, rfl⟩
    have O11 := row_set (enc := encC) (fun _ => rfl) O10 hb10 (hgs y8) (j := 1) (y := y11) (by omega) (by subst ey8 ey11; rfl) hb11
    rw [List.set_set, ← ea] at O11
    have A11 : Ap w10 X.a2 w11 := by rw [ea]; exact Ap.wr k11
    have S11 : SepU w11 w2.heap.size { X with cl := (mixL (mvC' f) X.cl k).set k y11 } := by
      have := SepU.setC (X := { X with cl := (mixL (mvC' f) X.cl k).set k y8 }) (y := y11) S10 (hgs y8) (by subst ey8 ey11; rfl) A11 (by rw [List.set_set]; exact O11)
      simp only [List.set_set] at this; exact this
    have q11 := Rn.qw q10 k11 hQb
    obtain ⟨yj, eyj⟩ : ∃ yj : Nat → ClR, yj = fun j => ⟨⟨f x.c.name, f x.c.super, mixL (mvF' f) x.c.fields j⟩, x.a, x.q⟩ := ⟨_, rfl⟩
    have hy0 : yj 0 = y11 := by subst eyj ey11; simp only [mixL_zero]
    rw [← hy0] at S11
    have nf := hzu.flds _ hm
    have cel2 : ∀ j, (encC (yj j))[2]? = some (.slice x.a x.c.fields.length x.q) := fun j => by subst eyj; show some (Value.slice x.a (mixL (mvF' f) x.c.fields j).length x.q) = _; rw [mixL_len]
    have OWF : ∀ {w' j}, SepU w' w2.heap.size { X with cl := (mixL (mvC' f) X.cl k).set k (yj j) } → OwP 3 encFld w' w2.heap.size 86 x.a x.q (mixL (mvF' f) x.c.fields j) := fun {w' j} h => by
      have := h.own (.fld k)
      rw [row_fld (X := { X with cl := (mixL (mvC' f) X.cl k).set k (yj j) }) (hgs (yj j))] at this
      subst eyj; exact this
    have RC : ∀ {w' j}, SepU w' w2.heap.size { X with cl := (mixL (mvC' f) X.cl k).set k (yj j) } → w'.cell? ⟨b, 0 + k * 3 + 2, none⟩ = some (.slice x.a x.c.fields.length x.q) := fun {w' j} h => by
      have O : OwP 3 encC w' w2.heap.size 58 X.a2 X.c2 ((mixL (mvC' f) X.cl k).set k (yj j)) := h.own .cls
      exact at_elem (enc := encC) (sz := 3) (O.at ea) (hgs (yj j)) (fun _ => rfl) 2 _ (cel2 j)
    refine lpk x.c.fields.length 7 [] [(1, .slice (some ⟨bq, 0, none⟩) P.length cp), (4, .pointer (some ⟨b4, 0, none⟩)), (5, .pointer (some ⟨b5, 0, none⟩)), (6, I k)] (fun j vals w' => vals = [] ∧ Qf Q w5 w' ∧ SepU w' w2.heap.size { X with cl := (mixL (mvC' f) X.cl k).set k (yj j) }) ⟨rfl, q11, S11⟩ ?_
    rintro j vals w12 hj ⟨rfl, q12, S12⟩ ih2
    refine ld (HD q12) ?_
    refine ix ?_
    refine ld (RC S12) ?_
    by_cases hltj : j < x.c.fields.length
    · refine brT ?_
      obtain ⟨fl, hf⟩ := some_of_lt hltj
      have hfm := List.mem_of_getElem? hf
      have O12 := OWF S12
      obtain ⟨bf, ef⟩ := ow_some O12 (by rw [mixL_len]; omega)
      have hQf : Q bf := hQr (.fld k) bf (by rw [row_fld hx]; exact ef)
      have RC' : ∀ {w'}, SepU w' w2.heap.size { X with cl := (mixL (mvC' f) X.cl k).set k (yj j) } → w'.cell? ⟨b, 0 + k * 3 + 2, none⟩ = some (.slice (some ⟨bf, 0, none⟩) x.c.fields.length x.q) := fun h => by rw [← ef]; exact RC h
      refine dht 2 T (List.range 18) fun w13 h13 => ?_
      have q13 := q12.bl h13.bl
      have S13 := SepR.bl S12 h13.bl
      refine ld (HD q13) ?_ (hm := by exact trivial)
      refine ix ?_
      refine ld (RC' S13) ?_ (hm := by exact trivial)
      refine ld (HD q13) ?_ (hm := by exact trivial)
      refine ix ?_
      refine ld (RC' S13) ?_ (hm := by exact trivial)
      refine ix ?_
      have O13 := OWF S13
      have hfx := mixL_get (mvF' f) hf
      refine lda (at_elem (enc := encFld) (sz := 3) (O13.at ef) hfx (fun _ => rfl)) ?_ (hm := by exact trivial)
      have r1 := name_in hC (i := fl.name) (List.mem_append_left _ (List.mem_append_left _ (List.mem_flatMap.2 ⟨_, hm, List.mem_append_right _ (List.mem_flatMap.2 ⟨fl, hfm, by simp [fref]⟩)⟩)))
      have r2 : fl.name < P.length := by rw [hn]; exact idx_lt hC (mem_refs_fld hm hfm (r := ⟨fl.name, 1, false⟩) (by simp [fref]))
      have r3 : fl.ty.cls < P.length := by rw [hn]; exact idx_lt hC (mem_refs_fld hm hfm (r := typed fl.ty) (by simp [fref]))
      refine cl (r_field hPl _ cp fl r1.1 r2 r3 w13 (HP q13)) ?_
      rintro _ w14 ⟨rfl, B1314⟩
      have q14 := q13.bl B1314
      have S14 := SepR.bl S13 B1314
      have O14 := OWF S14
      rw [ef] at O14
      obtain ⟨cur, hb, hl, _, _, hl'⟩ := Eng.Ow.box O14
      rw [mixL_len] at hl'
      refine ix ?_
      refine stv hb (fun w15 k15 hb15 => ?_) (ho := by show 0 + j * 3 + 3 ≤ _; omega)
      have O15 := Eng.Ow.ovl O14 hb hb15
      rw [fld_ovl hfx, mixL_set (mvF' f) hf, mixL_len] at O15
      have O15 : OwP 3 encFld w15 w2.heap.size 86 (some ⟨bf, 0, none⟩) x.q (mixL (mvF' f) x.c.fields (j + 1)) := by unfold OwP; rw [mixL_len]; exact O15
      rw [← ef] at O15
      have A15 : Ap w14 (yj j).a w15 := by subst eyj; show Ap w14 x.a w15; rw [ef]; exact Ap.wr k15
      have S15 : SepU w15 w2.heap.size { X with cl := (mixL (mvC' f) X.cl k).set k (yj (j + 1)) } := by
        have := SepU.setF (X := { X with cl := (mixL (mvC' f) X.cl k).set k (yj j) }) (y := yj (j + 1)) S14 (hgs (yj j)) (by subst eyj; simp only [encC, ccells, mixL_len]) (by subst eyj; rfl) A15 (by subst eyj; exact O15)
        simp only [List.set_set] at this; exact this
      exact ih2 hltj ⟨rfl, Rn.qw q14 k15 hQf, S15⟩
    refine brF ?_
    obtain rfl : j = x.c.fields.length := by omega
    have he : yj x.c.fields.length = mvC' f x := by subst eyj; simp only [mixL_end, mvC']
    rw [he, mixL_set (mvC' f) hx] at S12
    exact ih hlt ⟨rfl, q12, S12⟩
  refine brF ?_
  obtain rfl : k = X.cl.length := by omega
  clear ih
  rw [mixL_end] at S6
  refine lpk X.sta.length 8 [] [(1, .slice (some ⟨bq, 0, none⟩) P.length cp), (4, .pointer (some ⟨b4, 0, none⟩)), (5, .pointer (some ⟨b5, 0, none⟩))] (fun k vals w' => vals = [] ∧ Qf Q w5 w' ∧ SepU w' w2.heap.size { X with cl := X.cl.map (mvC' f), sta := mixL (mvF' f) X.sta k }) ⟨rfl, q6, by rw [mixL_zero]; exact S6⟩ ?_
  clear S6 q6 hlt hk
  rintro k vals w6 hk ⟨rfl, q6, S6⟩ ih
  refine ld ((HX q6).cell rfl) ?_
  by_cases hlt : k < X.sta.length
  · refine brT ?_
    obtain ⟨fl, hf⟩ := some_of_lt hlt
    have hfm : fl ∈ X.u.statics := List.mem_of_getElem? hf
    have O6 : OwP 3 encFld w6 w2.heap.size 86 X.a3 X.c3 (mixL (mvF' f) X.sta k) := S6.own .sta
    obtain ⟨bf, ef⟩ := ow_some O6 (by rw [mixL_len]; omega)
    have hQf : Q bf := hQr .sta bf ef
    have HD : ∀ {w'}, Qf Q w5 w' → w'.cell? ⟨b5, 3, none⟩ = some (.slice (some ⟨bf, 0, none⟩) X.sta.length X.c3) := fun q => by rw [← ef]; exact (HX q).cell rfl
    refine dht 2 T (List.range 10) fun w7 h7 => ?_
    have q7 := q6.bl h7.bl
    have S7 := SepR.bl S6 h7.bl
    have O7 : OwP 3 encFld w7 w2.heap.size 86 X.a3 X.c3 (mixL (mvF' f) X.sta k) := S7.own .sta
    refine ld (HD q7) ?_ (hm := by exact trivial)
    refine ld (HD q7) ?_ (hm := by exact trivial)
    refine ix ?_
    have hfx := mixL_get (mvF' f) hf
    refine lda (at_elem (enc := encFld) (sz := 3) (O7.at ef) hfx (fun _ => rfl)) ?_ (hm := by exact trivial)
    have r1 := name_in hC (i := fl.name) (List.mem_append_left _ (List.mem_append_right _ (List.mem_flatMap.2 ⟨fl, hfm, by simp [fref]⟩)))
    have r2 : fl.name < P.length := by rw [hn]; exact idx_lt hC (mem_refs_sta hfm (r := ⟨fl.name, 1, false⟩) (by simp [fref]))
    have r3 : fl.ty.cls < P.length := by rw [hn]; exact idx_lt hC (mem_refs_sta hfm (r := typed fl.ty) (by simp [fref]))
    refine cl (r_field hPl _ cp fl r1.1 r2 r3 w7 (HP q7)) ?_
    rintro _ w8 ⟨rfl, B78⟩
    have q8 := q7.bl B78
    have S8 := SepR.bl S7 B78
    have O8 : OwP 3 encFld w8 w2.heap.size 86 X.a3 X.c3 (mixL (mvF' f) X.sta k) := S8.own .sta
    rw [ef] at O8
    obtain ⟨cur, hb, hl, _, _, hl'⟩ := Eng.Ow.box O8
    rw [mixL_len] at hl'
    refine ix ?_
    refine stv hb (fun w9 k9 hb9 => ?_) (ho := by show 0 + k * 3 + 3 ≤ _; omega)
    have O9 := Eng.Ow.ovl O8 hb hb9
    rw [fld_ovl hfx, mixL_set (mvF' f) hf, mixL_len] at O9
    have O9 : OwP 3 encFld w9 w2.heap.size 86 (some ⟨bf, 0, none⟩) X.c3 (mixL (mvF' f) X.sta (k + 1)) := by unfold OwP; rw [mixL_len]; exact O9
    rw [← ef] at O9
    have A9 : Ap w8 X.a3 w9 := by rw [ef]; exact Ap.wr k9
    have S9 : SepU w9 w2.heap.size { X with cl := X.cl.map (mvC' f), sta := mixL (mvF' f) X.sta (k + 1) } := SepU.setS (X := { X with cl := X.cl.map (mvC' f), sta := mixL (mvF' f) X.sta k }) S8 A9 O9
    exact ih hlt ⟨rfl, Rn.qw q8 k9 hQf, S9⟩
  refine brF ?_
  obtain rfl : k = X.sta.length := by omega
  clear ih
  rw [mixL_end] at S6
  refine lpk X.ml.length 9 [] [(1, .slice (some ⟨bq, 0, none⟩) P.length cp), (4, .pointer (some ⟨b4, 0, none⟩)), (5, .pointer (some ⟨b5, 0, none⟩))] (fun k vals w' => vals = [] ∧ Qf Q w5 w' ∧ SepU w' w2.heap.size { X with cl := X.cl.map (mvC' f), sta := X.sta.map (mvF' f), ml := mixL (mvM' f) X.ml k }) ⟨rfl, q6, by rw [mixL_zero]; exact S6⟩ ?_
  clear S6 q6 hlt hk
  rintro k vals w6 hk ⟨rfl, q6, S6⟩ ih
  refine ld ((HX q6).cell rfl) ?_
  by_cases hlt : k < X.ml.length
  · refine brT ?_
    obtain ⟨x, hx⟩ := some_of_lt hlt
    have hm : x.m ∈ X.u.methods := List.mem_map.2 ⟨x, List.mem_of_getElem? hx, rfl⟩
    have hgs : ∀ y, ((mixL (mvM' f) X.ml k).set k y)[k]? = some y := fun y => List.getElem?_set_self (by rw [mixL_len]; exact hlt)
    have hx6 := mixL_get (mvM' f) hx
    have O6 : OwP 7 encM w6 w2.heap.size 64 X.a4 X.c4 (mixL (mvM' f) X.ml k) := S6.own .mth
    obtain ⟨b, ea⟩ := ow_some O6 (by rw [mixL_len]; omega)
    have hQb := hQr .mth b ea
    obtain ⟨XM, eXM⟩ : ∃ XM : MtR → UX, XM = fun y => { X with cl := X.cl.map (mvC' f), sta := X.sta.map (mvF' f), ml := (mixL (mvM' f) X.ml k).set k y } := ⟨_, rfl⟩
    have HD : ∀ {w'}, Qf Q w5 w' → w'.cell? ⟨b5, 4, none⟩ = some (.slice (some ⟨b, 0, none⟩) X.ml.length X.c4) := fun q => by rw [← ea]; exact (HX q).cell rfl
    have S6 : SepU w6 w2.heap.size (XM x) := by
      subst eXM
      obtain ⟨hk2, e3⟩ := List.getElem?_eq_some_iff.1 hx6
      have e4 : (mixL (mvM' f) X.ml k).set k x = mixL (mvM' f) X.ml k := by
        have := @List.set_getElem_self _ (mixL (mvM' f) X.ml k) k hk2
        rw [e3] at this; exact this
      simp only [e4]; exact S6
    have OM : ∀ {w' y}, SepU w' w2.heap.size (XM y) → OwP 7 encM w' w2.heap.size 64 X.a4 X.c4 ((mixL (mvM' f) X.ml k).set k y) := fun h => by subst eXM; exact h.own .mth
    have MC : ∀ {w' y} (j : Nat) (v : Value), SepU w' w2.heap.size (XM y) → (encM y)[j]? = some v → w'.cell? ⟨b, 0 + k * 7 + j, none⟩ = some v := fun j v h hj => at_elem (enc := encM) (sz := 7) ((OM h).at ea) (hgs _) (fun _ => rfl) j v hj
    have WM : ∀ {w' w'' y} (y' : MtR) (j : Nat) {v : Value} {cur : List Value}, SepU w' w2.heap.size (XM y) → j < 7 → encM y' = (encM y).set j v → rwP y' = rwP y → rwL y' = rwL y → rwI y' = rwI y → Box w' b 64 cur → Wr w' b w'' → Box w'' b 64 (cur.set (0 + k * 7 + j) v) → SepU w'' w2.heap.size (XM y') := fun {w' w'' y} y' j {v cur} h hj he e1 e2 e3 hb kk hb' => by
      have O := OM h
      rw [ea] at O
      have O' := row_set (enc := encM) (fun _ => rfl) O hb (hgs y) (j := j) (y := y') hj he hb'
      rw [List.set_set, ← ea] at O'
      have A : Ap w' X.a4 w'' := by rw [ea]; exact Ap.wr kk
      subst eXM
      have := SepU.setM (X := { X with cl := X.cl.map (mvC' f), sta := X.sta.map (mvF' f), ml := (mixL (mvM' f) X.ml k).set k y }) (y := y') h (hgs y) e1 e2 e3 A (by rw [List.set_set]; exact O')
      simp only [List.set_set] at this; exact this
    have BM : ∀ {w' y}, SepU w' w2.heap.size (XM y) → ∃ cur, Box w' b 64 cur ∧ X.ml.length * 7 ≤ cur.length := fun h => by
      have O := OM h
      rw [ea] at O
      obtain ⟨cur, hb, hl, _, _, hl'⟩ := Eng.Ow.box O
      rw [List.length_set, mixL_len] at hl'
      exact ⟨cur, hb, hl'⟩
    have nmi := name_in hC (i := x.m.name) (List.mem_append_right _ (List.mem_flatMap.2 ⟨_, hm, by simp [mref]⟩))
    have hi1 : x.m.name < P.length := by rw [hn]; exact idx_lt hC (mem_refs_mth hm (r := ⟨x.m.name, 1, false⟩) (by simp [mref]))
    have hi2 : x.m.cls < P.length := by rw [hn]; exact idx_lt hC (mem_refs_mth hm (r := ⟨x.m.cls, 2, true⟩) (by simp [mref]))
    have hi3 : x.m.result.cls < P.length := by rw [hn]; exact idx_lt hC (mem_refs_mth hm (r := typed x.m.result) (by simp [mref]))
    refine dt 1 fun w7 h7 => ?_
    have q7 := q6.bl h7.bl
    have S7 := SepR.bl S6 h7.bl
    refine ld (HD q7) ?_
    refine ld (HD q7) ?_
    refine ix ?_
    refine ld (MC 0 (I x.m.name) S7 rfl) ?_
    refine ix (hij := int_nat nmi.1) ?_
    refine ld (PA q7 _ nmi.1 hi1) ?_
    refine ix ?_
    obtain ⟨cur7, hb7, hl7⟩ := BM S7
    refine stx hb7 (fun w8 k8 hb8 => ?_) (ho := by omega)
    obtain ⟨y8, ey8⟩ : ∃ y : MtR, y = { x with m := { x.m with name := f x.m.name } } := ⟨_, rfl⟩
    have S8 := WM y8 0 S7 (by omega) (by subst ey8; rfl) (by subst ey8; rfl) (by subst ey8; rfl) (by subst ey8; rfl) hb7 k8 hb8
    have q8 := Rn.qw q7 k8 hQb
    refine dht 3 T (List.range 11) fun w9 h9 => ?_
    have q9 := q8.bl h9.bl
    have S9 := SepR.bl S8 h9.bl
    refine ld (HD q9) ?_ (hm := by exact trivial)
    refine ld (HD q9) ?_ (hm := by exact trivial)
    refine ix ?_
    refine ld (MC 1 (I x.m.cls) S9 (by subst ey8; rfl)) ?_ (hm := by exact trivial)
    refine cl (r_moved hPl _ cp x.m.cls hi2 w9 (HP q9)) ?_
    rintro _ w10 ⟨rfl, B910⟩
    have q10 := q9.bl B910
    have S10 := SepR.bl S9 B910
    obtain ⟨cur10, hb10, hl10⟩ := BM S10
    refine ix ?_
    refine stx hb10 (fun w11 k11 hb11 => ?_) (ho := by omega)
    obtain ⟨y11, ey11⟩ : ∃ y : MtR, y = { x with m := { x.m with name := f x.m.name, cls := f x.m.cls } } := ⟨_, rfl⟩
    have S11 := WM y11 1 S10 (by omega) (by subst ey8 ey11; rfl) (by subst ey8 ey11; rfl) (by subst ey8 ey11; rfl) (by subst ey8 ey11; rfl) hb10 k11 hb11
    have q11 := Rn.qw q10 k11 hQb
    refine dht 4 T (List.range 12) fun w12 h12 => ?_
    have q12 := q11.bl h12.bl
    have S12 := SepR.bl S11 h12.bl
    refine ld (HD q12) ?_ (hm := by exact trivial)
    refine ld (HD q12) ?_ (hm := by exact trivial)
    refine ix ?_
    refine ld (MC 5 (I x.m.result.cls) S12 (by subst ey11; rfl)) ?_ (hm := by exact trivial)
    refine cl (r_moved hPl _ cp x.m.result.cls hi3 w12 (HP q12)) ?_
    rintro _ w13 ⟨rfl, B1213⟩
    have q13 := q12.bl B1213
    have S13 := SepR.bl S12 B1213
    obtain ⟨cur13, hb13, hl13⟩ := BM S13
    refine ix ?_
    refine stx hb13 (fun w14 k14 hb14 => ?_) (ho := by omega)
    obtain ⟨yy, eyy⟩ : ∃ yy : List Ty → List Ty → List Ins → MtR, yy = fun p l c => { x with m := ⟨f x.m.name, f x.m.cls, p, l, mvT' f x.m.result, c⟩ } := ⟨_, rfl⟩
    have S14 := WM (yy x.m.params x.m.locals x.m.code) 5 S13 (by omega) (by subst ey11 eyy; rfl) (by subst ey11 eyy; rfl) (by subst ey11 eyy; rfl) (by subst ey11 eyy; rfl) hb13 k14 hb14
    have q14 := Rn.qw q13 k14 hQb
    have g1 := hzu.prms _ hm
    have g2 := hzu.locs _ hm
    have g3 := hzu.cods _ hm
    refine lpk x.m.params.length 10 [] [(1, .slice (some ⟨bq, 0, none⟩) P.length cp), (4, .pointer (some ⟨b4, 0, none⟩)), (5, .pointer (some ⟨b5, 0, none⟩)), (9, I k)] (fun j vals w' => vals = [] ∧ Qf Q w5 w' ∧ SepU w' w2.heap.size (XM (yy (mixL (mvT' f) x.m.params j) x.m.locals x.m.code))) ⟨rfl, q14, by rw [mixL_zero]; exact S14⟩ ?_
    clear S6 S7 S8 S9 S10 S11 S12 S13
    rintro j vals w15 hj ⟨rfl, q15, S15⟩ ih2
    refine ld (HD q15) ?_
    refine ix ?_
    have cel : ∀ j, (encM (yy (mixL (mvT' f) x.m.params j) x.m.locals x.m.code))[2]? = some (.slice x.a1 x.m.params.length x.c1) := fun j => by subst eyy; show some (Value.slice x.a1 (mixL (mvT' f) x.m.params j).length x.c1) = _; rw [mixL_len]
    refine ld (MC 2 _ S15 (cel j)) ?_
    by_cases hltj : j < x.m.params.length
    · refine brT ?_
      obtain ⟨t, ht⟩ := some_of_lt hltj
      have htm := List.mem_of_getElem? ht
      have OT : ∀ {w' j}, SepU w' w2.heap.size (XM (yy (mixL (mvT' f) x.m.params j) x.m.locals x.m.code)) → OwP 2 encTy w' w2.heap.size 61 x.a1 x.c1 (mixL (mvT' f) x.m.params j) := fun {w' j} h => by
        subst eXM
        have := h.own (.prm k)
        rw [row_prm (X := { X with cl := X.cl.map (mvC' f), sta := X.sta.map (mvF' f), ml := (mixL (mvM' f) X.ml k).set k (yy (mixL (mvT' f) x.m.params j) x.m.locals x.m.code) }) (hgs _)] at this
        subst eyy; exact this
      obtain ⟨bf, ef⟩ := ow_some (OT S15) (by rw [mixL_len]; omega)
      have hQf : Q bf := hQr (.prm k) bf (by rw [row_prm hx]; exact ef)
      have cel' : (encM (yy (mixL (mvT' f) x.m.params j) x.m.locals x.m.code))[2]? = some (.slice (some ⟨bf, 0, none⟩) x.m.params.length x.c1) := by rw [← ef]; exact cel j
      refine dht 3 T (List.range 19) fun w16 h16 => ?_
      have q16 := q15.bl h16.bl
      have S16 := SepR.bl S15 h16.bl
      refine ld (HD q16) ?_ (hm := by exact trivial)
      refine ix ?_
      refine ld (MC 2 _ S16 cel') ?_ (hm := by exact trivial)
      refine ld (HD q16) ?_ (hm := by exact trivial)
      refine ix ?_
      refine ld (MC 2 _ S16 cel') ?_ (hm := by exact trivial)
      refine ix ?_
      have htx := mixL_get (mvT' f) ht
      refine ld (at_elem (enc := encTy) (sz := 2) ((OT S16).at ef) htx (fun _ => rfl) 1 _ rfl) ?_ (hm := by exact trivial)
      have r3 : t.cls < P.length := by rw [hn]; exact idx_lt hC (mem_refs_mth hm (r := typed t) (by simp only [mref, List.mem_append, List.mem_map]; exact .inl (.inl (.inr ⟨t, htm, rfl⟩))))
      refine cl (r_moved hPl _ cp t.cls r3 w16 (HP q16)) ?_
      rintro _ w17 ⟨rfl, B1617⟩
      have q17 := q16.bl B1617
      have S17 := SepR.bl S16 B1617
      have O17 := OT S17
      rw [ef] at O17
      obtain ⟨cur, hb, hl, _, _, hl'⟩ := Eng.Ow.box O17
      rw [mixL_len] at hl'
      refine ix ?_
      refine stx hb (fun w18 k18 hb18 => ?_) (ho := by omega)
      have O18 := row_set (enc := encTy) (fun _ => rfl) O17 hb htx (j := 1) (y := mvT' f t) (by omega) rfl hb18
      rw [mixL_set (mvT' f) ht, ← ef] at O18
      have A18 : Ap w17 (yy (mixL (mvT' f) x.m.params j) x.m.locals x.m.code).a1 w18 := by subst eyy; show Ap w17 x.a1 w18; rw [ef]; exact Ap.wr k18
      have S18 : SepU w18 w2.heap.size (XM (yy (mixL (mvT' f) x.m.params (j + 1)) x.m.locals x.m.code)) := by
        subst eXM
        have := SepU.setP (X := { X with cl := X.cl.map (mvC' f), sta := X.sta.map (mvF' f), ml := (mixL (mvM' f) X.ml k).set k (yy (mixL (mvT' f) x.m.params j) x.m.locals x.m.code) }) (y := yy (mixL (mvT' f) x.m.params (j + 1)) x.m.locals x.m.code) S17 (hgs _) (by subst eyy; simp only [encM, mcells, mixL_len]) (by subst eyy; rfl) (by subst eyy; rfl) (by subst eyy; rfl) A18 (by subst eyy; exact O18)
        simp only [List.set_set] at this; exact this
      exact ih2 hltj ⟨rfl, Rn.qw q17 k18 hQf, S18⟩
    refine brF ?_
    obtain rfl : j = x.m.params.length := by omega
    rw [mixL_end] at S15
    clear cel
    refine lpk x.m.locals.length 11 [] [(1, .slice (some ⟨bq, 0, none⟩) P.length cp), (4, .pointer (some ⟨b4, 0, none⟩)), (5, .pointer (some ⟨b5, 0, none⟩)), (9, I k)] (fun j vals w' => vals = [] ∧ Qf Q w5 w' ∧ SepU w' w2.heap.size (XM (yy (x.m.params.map (mvT' f)) (mixL (mvT' f) x.m.locals j) x.m.code))) ⟨rfl, q15, by rw [mixL_zero]; exact S15⟩ ?_
    clear S14 q14 hltj hj ih2
    rintro j vals w15 hj ⟨rfl, q15, S15⟩ ih2
    refine ld (HD q15) ?_
    refine ix ?_
    have cel : ∀ j, (encM (yy (x.m.params.map (mvT' f)) (mixL (mvT' f) x.m.locals j) x.m.code))[3]? = some (.slice x.a2 x.m.locals.length x.c2) := fun j => by subst eyy; show some (Value.slice x.a2 (mixL (mvT' f) x.m.locals j).length x.c2) = _; rw [mixL_len]
    refine ld (MC 3 _ S15 (cel j)) ?_
    by_cases hltj : j < x.m.locals.length
    · refine brT ?_
      obtain ⟨t, ht⟩ := some_of_lt hltj
      have htm := List.mem_of_getElem? ht
      have OT : ∀ {w' j}, SepU w' w2.heap.size (XM (yy (x.m.params.map (mvT' f)) (mixL (mvT' f) x.m.locals j) x.m.code)) → OwP 2 encTy w' w2.heap.size 61 x.a2 x.c2 (mixL (mvT' f) x.m.locals j) := fun {w' j} h => by
        subst eXM
        have := h.own (.loc k)
        rw [row_loc (X := { X with cl := X.cl.map (mvC' f), sta := X.sta.map (mvF' f), ml := (mixL (mvM' f) X.ml k).set k (yy (x.m.params.map (mvT' f)) (mixL (mvT' f) x.m.locals j) x.m.code) }) (hgs _)] at this
        subst eyy; exact this
      obtain ⟨bf, ef⟩ := ow_some (OT S15) (by rw [mixL_len]; omega)
      have hQf : Q bf := hQr (.loc k) bf (by rw [row_loc hx]; exact ef)
      have cel' : (encM (yy (x.m.params.map (mvT' f)) (mixL (mvT' f) x.m.locals j) x.m.code))[3]? = some (.slice (some ⟨bf, 0, none⟩) x.m.locals.length x.c2) := by rw [← ef]; exact cel j
      refine dht 3 T (List.range 19) fun w16 h16 => ?_
      have q16 := q15.bl h16.bl
      have S16 := SepR.bl S15 h16.bl
      refine ld (HD q16) ?_ (hm := by exact trivial)
      refine ix ?_
      refine ld (MC 3 _ S16 cel') ?_ (hm := by exact trivial)
      refine ld (HD q16) ?_ (hm := by exact trivial)
      refine ix ?_
      refine ld (MC 3 _ S16 cel') ?_ (hm := by exact trivial)
      refine ix ?_
      have htx := mixL_get (mvT' f) ht
      refine ld (at_elem (enc := encTy) (sz := 2) ((OT S16).at ef) htx (fun _ => rfl) 1 _ rfl) ?_ (hm := by exact trivial)
      have r3 : t.cls < P.length := by rw [hn]; exact idx_lt hC (mem_refs_mth hm (r := typed t) (by simp only [mref, List.mem_append, List.mem_map]; exact .inl (.inr ⟨t, htm, rfl⟩)))
      refine cl (r_moved hPl _ cp t.cls r3 w16 (HP q16)) ?_
      rintro _ w17 ⟨rfl, B1617⟩
      have q17 := q16.bl B1617
      have S17 := SepR.bl S16 B1617
      have O17 := OT S17
      rw [ef] at O17
      obtain ⟨cur, hb, hl, _, _, hl'⟩ := Eng.Ow.box O17
      rw [mixL_len] at hl'
      refine ix ?_
      refine stx hb (fun w18 k18 hb18 => ?_) (ho := by omega)
      have O18 := row_set (enc := encTy) (fun _ => rfl) O17 hb htx (j := 1) (y := mvT' f t) (by omega) rfl hb18
      rw [mixL_set (mvT' f) ht, ← ef] at O18
      have A18 : Ap w17 (yy (x.m.params.map (mvT' f)) (mixL (mvT' f) x.m.locals j) x.m.code).a2 w18 := by subst eyy; show Ap w17 x.a2 w18; rw [ef]; exact Ap.wr k18
      have S18 : SepU w18 w2.heap.size (XM (yy (x.m.params.map (mvT' f)) (mixL (mvT' f) x.m.locals (j + 1)) x.m.code)) := by
        subst eXM
        have := SepU.setL (X := { X with cl := X.cl.map (mvC' f), sta := X.sta.map (mvF' f), ml := (mixL (mvM' f) X.ml k).set k (yy (x.m.params.map (mvT' f)) (mixL (mvT' f) x.m.locals j) x.m.code) }) (y := yy (x.m.params.map (mvT' f)) (mixL (mvT' f) x.m.locals (j + 1)) x.m.code) S17 (hgs _) (by subst eyy; simp only [encM, mcells, mixL_len]) (by subst eyy; rfl) (by subst eyy; rfl) (by subst eyy; rfl) A18 (by subst eyy; exact O18)
        simp only [List.set_set] at this; exact this
      exact ih2 hltj ⟨rfl, Rn.qw q17 k18 hQf, S18⟩
    refine brF ?_
    obtain rfl : j = x.m.locals.length := by omega
    rw [mixL_end] at S15
    clear cel
    refine lpk x.m.code.length 12 [] [(1, .slice (some ⟨bq, 0, none⟩) P.length cp), (4, .pointer (some ⟨b4, 0, none⟩)), (5, .pointer (some ⟨b5, 0, none⟩)), (9, I k)] (fun j vals w' => vals = [] ∧ Qf Q w5 w' ∧ SepU w' w2.heap.size (XM (yy (x.m.params.map (mvT' f)) (x.m.locals.map (mvT' f)) (mixL (mvIns f) x.m.code j)))) ⟨rfl, q15, by rw [mixL_zero]; exact S15⟩ ?_
    clear hltj hj ih2
    rintro j vals w15 hj ⟨rfl, q15, S15⟩ ih2
    refine ld (HD q15) ?_
    refine ix ?_
    have cel : ∀ l : List Ins, l.length = x.m.code.length → (encM (yy (x.m.params.map (mvT' f)) (x.m.locals.map (mvT' f)) l))[6]? = some (.slice x.a3 x.m.code.length x.c3) := fun l hl => by subst eyy; show some (Value.slice x.a3 l.length x.c3) = _; rw [hl]
    refine ld (MC 6 _ S15 (cel _ (mixL_len ..))) ?_
    by_cases hltj : j < x.m.code.length
    · refine brT ?_
      obtain ⟨i, hi⟩ := some_of_lt hltj
      have him := List.mem_of_getElem? hi
      have hci := code_in hC hm him
      have OT : ∀ {w' l}, SepU w' w2.heap.size (XM (yy (x.m.params.map (mvT' f)) (x.m.locals.map (mvT' f)) l)) → OwP 3 encIns w' w2.heap.size 89 x.a3 x.c3 l := fun {w' l} h => by
        subst eXM
        have := h.own (.cod k)
        rw [row_cod (X := { X with cl := X.cl.map (mvC' f), sta := X.sta.map (mvF' f), ml := (mixL (mvM' f) X.ml k).set k (yy (x.m.params.map (mvT' f)) (x.m.locals.map (mvT' f)) l) }) (hgs _)] at this
        subst eyy; exact this
      obtain ⟨bf, ef⟩ := ow_some (OT S15) (by rw [mixL_len]; omega)
      have hQf : Q bf := hQr (.cod k) bf (by rw [row_cod hx]; exact ef)
      have cel' : ∀ l : List Ins, l.length = x.m.code.length → (encM (yy (x.m.params.map (mvT' f)) (x.m.locals.map (mvT' f)) l))[6]? = some (.slice (some ⟨bf, 0, none⟩) x.m.code.length x.c3) := fun l hl => by rw [← ef]; exact cel l hl
      have WI : ∀ {w' w'' : World} {l : List Ins} (y : Ins) (o : Nat) {z : Ins} {v : Value} {cur : List Value}, SepU w' w2.heap.size (XM (yy (x.m.params.map (mvT' f)) (x.m.locals.map (mvT' f)) l)) → l.length = x.m.code.length → l[j]? = some z → o < 3 → encIns y = (encIns z).set o v → Box w' bf 89 cur → Wr w' bf w'' → Box w'' bf 89 (cur.set (0 + j * 3 + o) v) → SepU w'' w2.heap.size (XM (yy (x.m.params.map (mvT' f)) (x.m.locals.map (mvT' f)) (l.set j y))) := fun {w' w'' l} y o {z v cur} h hl hz ho he hb kk hb' => by
        have O := OT h
        rw [ef] at O
        have O' := row_set (enc := encIns) (fun _ => rfl) O hb hz (j := o) (y := y) ho he hb'
        rw [← ef] at O'
        have A : Ap w' (yy (x.m.params.map (mvT' f)) (x.m.locals.map (mvT' f)) l).a3 w'' := by subst eyy; show Ap w' x.a3 w''; rw [ef]; exact Ap.wr kk
        subst eXM
        have := SepU.setI (X := { X with cl := X.cl.map (mvC' f), sta := X.sta.map (mvF' f), ml := (mixL (mvM' f) X.ml k).set k (yy (x.m.params.map (mvT' f)) (x.m.locals.map (mvT' f)) l) }) (y := yy (x.m.params.map (mvT' f)) (x.m.locals.map (mvT' f)) (l.set j y)) h (hgs _) (by subst eyy; simp only [encM, mcells, List.length_set]) (by subst eyy; rfl) (by subst eyy; rfl) (by subst eyy; rfl) A (by subst eyy; exact O')
        simp only [List.set_set] at this; exact this
      have BI : ∀ {w' : World} {l : List Ins}, SepU w' w2.heap.size (XM (yy (x.m.params.map (mvT' f)) (x.m.locals.map (mvT' f)) l)) → l.length = x.m.code.length → ∃ cur, Box w' bf 89 cur ∧ x.m.code.length * 3 ≤ cur.length := fun {w' l} h hl => by
        have O := OT h
        rw [ef] at O
        obtain ⟨cur, hb, _, _, _, hl'⟩ := Eng.Ow.box O
        exact ⟨cur, hb, by rw [← hl]; exact hl'⟩
      have hix := mixL_get (mvIns f) hi
      have ml0 := mixL_len (mvIns f) x.m.code j
      refine ld (HD q15) ?_
      refine ix ?_
      refine ld (MC 6 _ S15 (cel' _ ml0)) ?_
      refine ix ?_
      refine lda (at_elem (enc := encIns) (sz := 3) ((OT S15).at ef) hix (fun _ => rfl)) ?_
      refine cl (r_Named i w15) ?_
      rintro _ w16 ⟨rfl, B1516⟩
      have q16 := q15.bl B1516
      have S16 := SepR.bl S15 B1516
      refine br (t := decide ((named i).1 = 1)) (fun h1 => ?_) (fun h1 => ?_)
      · have h1 := of_decide_eq_true h1
        obtain ⟨p0, p1⟩ := hci.1 h1
        refine dt 1 fun w17 h17 => ?_
        have q17 := q16.bl h17.bl
        have S17 := SepR.bl S16 h17.bl
        refine ld (HD q17) ?_
        refine ix ?_
        refine ld (MC 6 _ S17 (cel' _ ml0)) ?_
        refine ld (HD q17) ?_
        refine ix ?_
        refine ld (MC 6 _ S17 (cel' _ ml0)) ?_
        refine ix ?_
        refine ld (at_elem (enc := encIns) (sz := 3) ((OT S17).at ef) hix (fun _ => rfl) 1 _ rfl) ?_
        refine ix (hij := int_nat p0) ?_
        refine ld (PA q17 _ p0 (by rw [hn]; exact p1)) ?_
        refine ix ?_
        obtain ⟨cur, hb, hl⟩ := BI S17 ml0
        refine stx hb (fun w18 k18 hb18 => ?_) (ho := by omega)
        have em : mvIns f i = ⟨i.op, f i.a, i.b⟩ := by unfold mvIns; rw [if_pos h1]
        have S18 := WI (mvIns f i) 1 S17 ml0 hix (by omega) (by rw [em]; rfl) hb k18 hb18
        rw [mixL_set (mvIns f) hi] at S18
        refine brF ?_ (hp := by rw [h1]; decide)
        exact ih2 hltj ⟨rfl, Rn.qw q17 k18 hQf, S18⟩
      have h1 := of_decide_eq_false h1
      refine br (t := decide ((named i).1 = 2)) (fun h2 => ?_) (fun h2 => ?_)
      · have h2 := of_decide_eq_true h2
        obtain ⟨p0, p1⟩ := hci.2 h2
        refine dt 1 fun w17 h17 => ?_
        have q17 := q16.bl h17.bl
        have S17 := SepR.bl S16 h17.bl
        refine ld (HD q17) ?_
        refine ix ?_
        refine ld (MC 6 _ S17 (cel' _ ml0)) ?_
        refine ld (HD q17) ?_
        refine ix ?_
        refine ld (MC 6 _ S17 (cel' _ ml0)) ?_
        refine ix ?_
        refine ld (at_elem (enc := encIns) (sz := 3) ((OT S17).at ef) hix (fun _ => rfl) 2 _ rfl) ?_
        refine ix (hij := int_nat p0) ?_
        refine ld (PA q17 _ p0 (by rw [hn]; exact p1)) ?_
        refine ix ?_
        obtain ⟨cur, hb, hl⟩ := BI S17 ml0
        refine stx hb (fun w18 k18 hb18 => ?_) (ho := by omega)
        have em : mvIns f i = ⟨i.op, i.a, f i.b⟩ := by unfold mvIns; rw [if_neg h1, if_pos h2]
        have S18 := WI (mvIns f i) 2 S17 ml0 hix (by omega) (by rw [em]; rfl) hb k18 hb18
        rw [mixL_set (mvIns f) hi] at S18
        exact ih2 hltj ⟨rfl, Rn.qw q17 k18 hQf, S18⟩
      have h2 := of_decide_eq_false h2
      have em : mvIns f i = i := by unfold mvIns; rw [if_neg h1, if_neg h2]
      have es : mixL (mvIns f) x.m.code (j + 1) = mixL (mvIns f) x.m.code j := by
        rw [← mixL_set (mvIns f) hi, em]
        obtain ⟨hk2, e3⟩ := List.getElem?_eq_some_iff.1 hix
        have := @List.set_getElem_self _ (mixL (mvIns f) x.m.code j) j hk2
        rw [e3] at this; exact this
      exact ih2 hltj ⟨rfl, q16, by rw [es]; exact S16⟩
    refine brF ?_
    obtain rfl : j = x.m.code.length := by omega
    rw [mixL_end] at S15
    have ee : yy (x.m.params.map (mvT' f)) (x.m.locals.map (mvT' f)) (x.m.code.map (mvIns f)) = mvM' f x := by subst eyy; rfl
    rw [ee] at S15
    refine ih hlt ⟨rfl, q15, ?_⟩
    subst eXM
    simp only [mixL_set (mvM' f) hx] at S15
    exact S15
  refine brF ?_
  obtain rfl : k = X.ml.length := by omega
  clear ih
  rw [mixL_end] at S6
  refine lda (HX q6).at ?_
  refine sta (q6.box (Bl.box (B23.trans B35) h2.box) hQ4) fun w7 k7 x7 => ?_
  refine rtc x7.at ⟨X, ?_, rfl, ?_, (BW q6).trans_wr k7 (by omega)⟩
  · simp only [mvX', UX.cells, List.length_map]
  · exact (SepR.wr S6 k7 (by omega)).base (by omega)
end Go.Proofs.YtopjmiklpnejmaaGreatDoor

/- Walks: a unit stripped by the document. -/
namespace Go.Proofs.YtopjmiklpnejmaaGreatDoor
open Eng Go.RowKit
theorem mvT_eq {f : Int → Int} (hf : f (-1) = -1) {t : Ty} (h : bare t = true) : mvT' f t = mvTy f t := by
  unfold mvT' mvTy
  by_cases h2 : tcls t = true
  · rw [if_pos h2]
  · rw [if_neg h2]
    have : t.cls = -1 := by simpa [bare, h2] using h
    obtain ⟨kd, c⟩ := t
    have this : c = -1 := this
    subst this
    show Ty.mk kd (f (-1)) = Ty.mk kd (-1)
    rw [hf]
theorem mvX_u' {f : Int → Int} (hf : f (-1) = -1) (X : UX) (h : classless X.u = true) : (mvX' f X).u = mvU f X.name X.pool X.u := by
  simp only [classless, Bool.and_eq_true, List.all_eq_true] at h
  obtain ⟨⟨h1, h2⟩, h3⟩ := h
  have hF : ∀ x : Fld, bare x.ty = true → mvF' f x = mvFld f x := fun x hx => by unfold mvF' mvFld; rw [mvT_eq hf hx]
  have e1 : (X.cl.map (mvC' f)).map (·.c) = X.u.classes.map (mvCls f) := by
    simp only [UX.u, List.map_map]
    refine List.map_congr_left fun x hx => ?_
    have hb := h1 x.c (List.mem_map.2 ⟨x, hx, rfl⟩)
    simp only [bcls, List.all_eq_true] at hb
    simp only [Function.comp, mvC', mvCls]
    rw [List.map_congr_left fun y hy => hF y (hb y hy)]
  have e2 : X.sta.map (mvF' f) = X.u.statics.map (mvFld f) := List.map_congr_left fun x hx => hF x (h2 x hx)
  have e3 : (X.ml.map (mvM' f)).map (·.m) = X.u.methods.map (mvMth f) := by
    simp only [UX.u, List.map_map]
    refine List.map_congr_left fun x hx => ?_
    have hb := h3 x.m (List.mem_map.2 ⟨x, hx, rfl⟩)
    simp only [bmth, Bool.and_eq_true, List.all_eq_true] at hb
    simp only [Function.comp, mvM', mvMth]
    rw [mvT_eq hf hb.1.1, List.map_congr_left fun y hy => mvT_eq hf (hb.1.2 y hy), List.map_congr_left fun y hy => mvT_eq hf (hb.2 y hy)]
  show Unt.mk X.name X.pool _ _ _ = Unt.mk X.name X.pool _ _ _
  rw [show ((mvX' f X).cl.map (·.c)) = _ from e1, show (mvX' f X).sta = _ from e2, show ((mvX' f X).ml.map (·.m)) = _ from e3]
set_option maxHeartbeats 2000000 in
theorem r_Strip (u : Unt) (a : UA) (w : World) (hU : UnR T w u a) : Ret Tryz.prog 41 #[.agg (ucells u a).toArray] w (StrR u w) := by
  refine entr (vs := [.agg (ucells u a).toArray]) [0, 1, 2, 3, 4, 5, 6, 7, 8, 9, 13, 26, 37] tabok Tryz.func41 (by kernel_rfl) ?_
  refine bx (cs := ucells u a) fun b1 w1 h1 => ?_
  refine al fun b2 w2 h2 => ?_
  have B02 := h1.bl.trans h2.bl
  have z1 := h1.size
  have z2 := h2.size
  have y1 := h1.blk
  have y2 := h2.blk
  have hx1 := Bl.box h2.bl h1.box
  have hx2 := h2.box
  refine lda hx1.at ?_
  refine cl (r_Check u a w2 (hU.bl B02)) ?_
  rintro _ w3 ⟨rfl, B23⟩
  have B03 := B02.trans B23
  replace hx1 := Bl.box B23 hx1
  replace hx2 := Bl.box B23 hx2
  have z3 := B23.size
  refine br (t := decide (¬ checkE u = 0)) (fun h => ?_) (fun h => ?_)
  · have h0 := of_decide_eq_true h
    refine bd ?_
    refine sta hx2 fun w4 k4 hx4 => ?_
    exact rtc2 hx4.at (str_err h0 (B03.trans_wr k4 (by omega)))
  have h0 : checkE u = 0 := Classical.not_not.1 (of_decide_eq_false h)
  have hC := (ckU_iff u).1 h0
  have hzu := hU.siz
  have hpl := (lim_of hC.lim).pool
  refine lda hx1.at ?_
  refine cl (r_marks u a w3 (hU.bl B03) hC) ?_
  rintro _ w4 ⟨a3, c3, rfl, hM, B34⟩
  have B04 := B03.trans B34
  replace hx1 := Bl.box B34 hx1
  replace hx2 := Bl.box B34 hx2
  have z4 := B34.size
  refine ld (hx1.cell rfl) ?_
  refine mk fun bq w5 h5 => ?_
  have z5 := h5.size
  have y5 := h5.blk
  have B05 := B04.trans h5.bl
  have hx5 := Bl.box h5.bl hx1
  have hx25 := Bl.box h5.bl hx2
  have M5 := hM.bl h5.bl
  have P5 : OwP 1 encInt w5 w4.heap.size 3 (some ⟨bq, 0, none⟩) u.pool.length (plL u 0) := by
    have := (Ow.made (n := u.pool.length) h5 (by rw [rep_length]) (by omega)).base (base' := w4.heap.size) (by omega)
    unfold OwP
    rw [plL_len, plL_zero]
    exact this
  refine lpk (vals := [.slice none 0 0]) u.pool.length 8 [7] [(1, .pointer (some ⟨b1, 0, none⟩)), (2, .pointer (some ⟨b2, 0, none⟩)), (5, .slice a3 u.pool.length c3), (6, .slice (some ⟨bq, 0, none⟩) u.pool.length u.pool.length)] (fun k vals w' => ∃ a6 c6, vals = [.slice a6 (pickK u (mkd u) k).length c6] ∧ OwP 1 encStr w' w5.heap.size 9 a6 c6 (pickK u (mkd u) k) ∧ OwP 1 encInt w' w4.heap.size 3 (some ⟨bq, 0, none⟩) u.pool.length (plL u k) ∧ CpS w4 w5 bq w') ⟨none, 0, rfl, Ow.nil .., P5, CpS.refl h5.bl (by omega)⟩ ?_
  rintro k vals w6 hk ⟨a6, c6, rfl, hO6, P6, cp6⟩ ih
  have hle := pickK_len u (mkd u) k
  have z6 := cp6.sz
  have B46 := cp6.below
  have hx6 := Bl.box B46 hx1
  refine ld (hx6.cell rfl) ?_
  by_cases hlt : k < u.pool.length
  · refine brT ?_
    obtain ⟨s, b, o, cs, hs, e2, _, hAt, rfl⟩ := at_some (hU.bl (B04.trans B46)).pool hlt
    have es : nm u (k : Int) = s := nm_at hs
    have e1 := pickK_succ u (mkd u) k
    refine ix ?_
    obtain ⟨cur, hb, hcl, _, _, hcl2⟩ := Eng.Ow.box P6
    rw [plL_len] at hcl2
    refine stx hb (fun w7 k7 hb7 => ?_) (ho := by omega)
    have z7 := k7.size
    have P7 : OwP 1 encInt w7 w4.heap.size 3 (some ⟨bq, 0, none⟩) u.pool.length (plL u (k + 1)) := by
      have := Eng.Ow.set P6 hb hb7
      rw [Nat.zero_add, Nat.mul_one, cnt_pick, flat_int, plL_set hlt] at this
      unfold OwP
      rw [plL_len] at this ⊢
      exact this
    have cp7 := cp6.wr k7 (.inl rfl)
    have hO7 : OwP 1 encStr w7 w5.heap.size 9 a6 c6 (pickK u (mkd u) k) := hO6.wr k7 fun g hg => by have := (hO6.lt hg).1; omega
    obtain ⟨fl, b9, o9, cs, hf, e9, _, hAt9, rfl⟩ := at_some (hM.bl cp7.below) (i := k) (by rw [mkL_len]; exact hlt)
    obtain rfl := mkL_at hf
    rw [e9]
    refine ix ?_
    refine ld (hAt9 0 _ rfl) ?_
    refine br (t := mkd u k) (fun hm => ?_) (fun hm => ?_)
    · rw [if_pos hm, es] at e1
      refine ld ((Bl.box cp7.below hx1).cell rfl) ?_
      obtain ⟨s', b', o', cs', hs', e2', _, hAt', rfl⟩ := at_some (hU.bl (B04.trans cp7.below)).pool hlt
      rw [hs] at hs'
      cases hs'
      rw [e2']
      refine ix ?_
      refine ld (hAt' 0 _ rfl) ?_
      refine bs fun b8 w8 h8 => ?_
      have z8 := h8.size
      refine apl (enc := encStr) (l1 := [s]) (hO7.bl h8.bl) (.inr ⟨b8, 0, rfl, h8.box.at⟩) (by omega) (fun a10 c10 w10 hO10 hA10 hf10 => ?_) (hb := by rw [List.length_singleton]; omega) (hn := by rw [List.length_singleton]; omega)
      have hlo : ∀ g, a6 = some ⟨g, 0, none⟩ → w5.heap.size ≤ g := fun g hg => (hO7.lt hg).1
      refine ih hlt ⟨a10, c10, by rw [e1], by rw [e1]; exact hO10, ?_, (cp7.bl h8.bl).ap hA10 hlo⟩ (hsub := by simp only [e9]; repeat (first | exact True.intro | (refine ⟨rfl, ?_⟩)))
      exact (P7.bl h8.bl).same fun g hg => hA10.block g (by have := ((P7.bl h8.bl).lt hg).2; omega) fun e => by have := hlo g e; cases hg; omega
    · rw [if_neg (by rw [hm]; simp), List.append_nil] at e1
      exact ih hlt ⟨a6, c6, by rw [e1], by rw [e1]; exact hO7, P7, cp7⟩ (hsub := by simp only [e9]; repeat (first | exact True.intro | (refine ⟨rfl, ?_⟩)))
  refine brF ?_
  obtain rfl : k = u.pool.length := by omega
  clear ih
  have hPl : Pl (plcU u) (plL u u.pool.length) := ⟨by rw [plL_len]; omega, fun i h0 hi => plL_end h0 (by rw [plL_len] at hi; exact hi), fun i hi => by unfold plcU; rw [if_neg (by omega)]⟩
  have hPS : Sl eInt T w6 (some ⟨bq, 0, none⟩) (plL u u.pool.length) := owp_sl (enc := encInt) P6 (by rw [plL_len]; omega) fun _ _ => trivial
  have B06 := B04.trans B46
  have hr := r_renumbered hPl u hC (plL_len u _) bq u.pool.length a w6 (hU.bl B06) hPS
  rw [plL_len] at hr
  refine lda hx6.at ?_
  refine cl hr ?_
  rintro _ w7 ⟨X, rfl, rfl, S7, B67⟩
  have B07 := B06.trans B67
  refine al fun b9 w8 h8 => ?_
  refine sta (cs' := (mvX' (plcU X.u) X).cells) h8.box fun w9 k9 x9 => ?_
  have B79 := h8.wr k9
  have z7 := B67.size
  have z8 := h8.size
  have z9 := k9.size
  have y8 := h8.blk
  refine st x9 fun w10 k10 x10 => ?_
  have z10 := k10.size
  have B710 : Bl w7 w10 := B79.trans_wr k10 (by omega)
  refine lda x10.at ?_
  have hx210 := Bl.box B710 (Bl.box B67 (Bl.box B46 hx2))
  refine sta hx210 fun w11 k11 x11 => ?_
  have B011 := (B07.trans B710).trans_wr k11 (by omega)
  have S11 := (SepR.bl S7 B710).wr k11 (by omega)
  have hlo : ∀ g, a6 = some ⟨g, 0, none⟩ → w5.heap.size ≤ g := fun g hg => (hO6.lt hg).1
  have hO11 : OwP 1 encStr w11 w5.heap.size 9 a6 c6 (pickK X.u (mkd X.u) X.u.pool.length) := ((hO6.bl B67).bl B710).wr k11 fun g hg => by have := hlo g hg; omega
  have hf1 : plcU X.u (-1) = -1 := (plc_neg X.u (-1)).2 rfl
  have hzm : Siz (mvX' (plcU X.u) X).u := by rw [mvX_u' hf1 X hC.cl]; exact siz_mv hzu _
  have U11 := SepU.unr S11 hzm
  rw [mvX_u' hf1 X hC.cl] at U11
  have eS : strE X.u = strU X.u := by unfold strE; rw [if_pos h0]
  refine rtc2 x11.at ⟨⟨a6, c6, X.a2, X.c2, X.a3, X.c3, X.a4, X.c4⟩, ?_, ?_, B011⟩
  · rw [eS, h0]
    simp only [ucells, strU, mvU, List.length_map, UX.u, mvX']
    rfl
  · rw [eS]
    have hsub : ∀ i, (w6.heap.size ≤ i ∧ i < w11.heap.size) → w.heap.size ≤ i := fun i hi => by have := B06.size; omega
    exact ⟨hzu.nm, fun s hs => hzu.ps s (strP_mem hs), owp_sl (enc := encStr) (l := strP X.u) hO11 (by have := strP_len X.u; omega) fun g hg => by have := hlo g hg; have := B05.size; omega, U11.cls.sub hsub, U11.sta.sub hsub, U11.mth.sub hsub⟩
end Go.Proofs.YtopjmiklpnejmaaGreatDoor

/- Walks: the document's comparison of any two units. -/
namespace Go.Proofs.YtopjmiklpnejmaaGreatDoor
open Eng Go.RowKit
theorem sameU_no {u v : Unt} (h : ¬ (u.name = v.name ∧ u.pool = v.pool ∧ u.classes = v.classes ∧ u.statics = v.statics ∧ u.methods = v.methods)) : sameU u v = false := by
  rw [← Bool.not_eq_true]
  intro h2
  simp only [sameU, Bool.and_eq_true, decide_eq_true_eq] at h2
  exact h ⟨h2.1.1.1.1, h2.1.1.1.2, h2.1.1.2, h2.1.2, h2.2⟩
theorem r_Same (u v : Unt) (a b : UA) (w : World) (hU : UnR T w u a) (hV : UnR T w v b) : Ret Tryz.prog 23 #[.agg (ucells u a).toArray, .agg (ucells v b).toArray] w fun x w' => x = .bool (sameU u v) ∧ Bl w w' := by
  refine entr (vs := [.agg (ucells u a).toArray, .agg (ucells v b).toArray]) [0, 1, 2, 3, 4, 5, 6, 7, 8, 9, 10, 49, 54, 86, 91, 146] tabok Tryz.func23 (by kernel_rfl) ?_
  have hp2 := hU.cls.big
  have hp4 := hU.mth.big
  have hp2' := hV.cls.big
  have hp4' := hV.mth.big
  refine bx (cs := ucells u a) fun b1 w1 h1 => ?_
  refine bx (cs := ucells v b) fun b2 w2 h2 => ?_
  have B02 : Bl w w2 := h1.bl.trans h2.bl
  have hx1 := Bl.box h2.bl h1.box
  have hx2 := h2.box
  refine ld (hx1.cell rfl) ?_
  refine ld (hx2.cell rfl) ?_
  refine ldg (fun _ => hx1.cell rfl) ?_
  refine ldg (fun _ => hx2.cell rfl) ?_
  refine sp (.bool true) (fun k1 => ?_) (fun k1 => ?_)
  rotate_left
  · refine ldg (fun _ => hx1.cell rfl) ?_
    refine ldg (fun _ => hx2.cell rfl) ?_
    refine ldg (fun _ => hx1.cell rfl) ?_
    refine ldg (fun _ => hx2.cell rfl) ?_
    refine ldg (fun _ => hx1.cell rfl) ?_
    refine ldg (fun _ => hx2.cell rfl) ?_
    refine spn (.bool true) ?_
    refine br (fun _ => ?_) (fun k3 => ?_)
    rotate_left
    · exfalso; simp_all
    refine rt1 ⟨vb (sameU_no fun q => ?_).symm, B02⟩
    simp_all
  refine cl (r_SameStrings u.pool v.pool a.a1 b.a1 a.c1 b.c1 w2 (hU.bl B02).pool (hV.bl B02).pool) ?_
  rintro _ w3 ⟨rfl, h3⟩
  replace hx1 := Bl.box h3 hx1
  replace hx2 := Bl.box h3 hx2
  have B03 := B02.trans h3
  refine ldg (fun _ => hx1.cell rfl) ?_
  refine ldg (fun _ => hx2.cell rfl) ?_
  refine ldg (fun _ => hx1.cell rfl) ?_
  refine ldg (fun _ => hx2.cell rfl) ?_
  refine ldg (fun _ => hx1.cell rfl) ?_
  refine ldg (fun _ => hx2.cell rfl) ?_
  refine sp (.bool true) (fun k2 => ?_) (fun k2 => ?_)
  rotate_left
  · refine br (fun _ => ?_) (fun k3 => ?_)
    rotate_left
    · exfalso; simp_all
    refine rt1 ⟨vb (sameU_no fun q => ?_).symm, B03⟩
    simp_all
  refine cl (r_sameFields u.statics v.statics a.a3 b.a3 a.c3 b.c3 w3 (hU.bl B03).sta (hV.bl B03).sta) ?_
  rintro _ w4 ⟨rfl, h4⟩
  replace hx1 := Bl.box h4 hx1
  replace hx2 := Bl.box h4 hx2
  have B04 := B03.trans h4
  refine br (fun k3 => ?_) (fun k3 => ?_)
  · refine rt1 ⟨vb (sameU_no fun q => ?_).symm, B04⟩
    simp_all
  have k5 : u.name = v.name ∧ u.pool = v.pool ∧ u.classes.length = v.classes.length ∧ u.methods.length = v.methods.length ∧ u.statics = v.statics := by
    simp_all
    omega
  clear k1 k2 k3
  obtain ⟨n1, n2, n3, n4, n5⟩ := k5
  refine lpk u.classes.length 5 [] [(2, .pointer (some ⟨b1, 0, none⟩)), (3, .pointer (some ⟨b2, 0, none⟩))] (fun k vals w' => vals = [] ∧ u.classes.take k = v.classes.take k ∧ Bl w4 w') ⟨rfl, rfl, Bl.refl _⟩ ?_
  rintro k vals w5 hk ⟨rfl, ha, hB⟩ ih
  have hy1 := Bl.box hB hx1
  have hy2 := Bl.box hB hx2
  have B05 := B04.trans hB
  refine ld (hy1.cell rfl) ?_
  by_cases hlt : k < u.classes.length
  · refine brT ?_
    obtain ⟨c, bs, o, cs, hc, e2, _, hAt, af, cf, rfl, hf⟩ := at_some (hU.bl B05).cls hlt
    obtain ⟨d, bs', o', cs', hd, e2', _, hAt', af', cf', rfl, hf'⟩ := at_some (hV.bl B05).cls (i := k) (by omega)
    have hcd : c ≠ d → sameU u v = false := fun hne => sameU_no fun q => of_decide_eq_false (same_no hc hd hne) q.2.2.1
    refine ld (hy1.cell rfl) ?_
    rw [e2]
    refine ix ?_
    refine lda hAt ?_
    refine al fun b6 w6 h6 => ?_
    refine sta h6.box fun w7 k7 hx7 => ?_
    have B57 : Bl w5 w7 := h6.wr k7
    refine ld ((Bl.box B57 hy2).cell rfl) ?_
    rw [e2']
    refine ix ?_
    refine lda (hAt'.bl B57) ?_
    refine al fun b8 w8 h8 => ?_
    refine sta h8.box fun w9 k9 hx9 => ?_
    have B79 : Bl w7 w9 := h8.wr k9
    have hz7 := Bl.box B79 hx7
    have B59 := B57.trans B79
    refine ld (hz7.cell rfl) ?_
    refine ld (hx9.cell rfl) ?_
    refine ldg (fun _ => hz7.cell rfl) ?_
    refine ldg (fun _ => hx9.cell rfl) ?_
    refine ldg (fun _ => hz7.cell rfl) ?_
    refine ldg (fun _ => hx9.cell rfl) ?_
    refine sp (.bool true) (fun k1 => ?_) (fun k1 => ?_)
    rotate_left
    · refine br (fun _ => ?_) (fun k3 => ?_)
      rotate_left
      · exfalso; simp_all
      refine rt1 ⟨vb (hcd fun q => ?_).symm, B05.trans B59⟩
      rw [cls_eq] at q
      simp_all
    refine cl (r_sameFields c.fields d.fields af af' cf cf' w9 (hf.bl B59) (hf'.bl B59)) ?_
    rintro _ w10 ⟨rfl, h10⟩
    refine br (fun k3 => ?_) (fun k3 => ?_)
    · refine rt1 ⟨vb (hcd fun q => ?_).symm, (B05.trans B59).trans h10⟩
      rw [cls_eq] at q
      simp_all
    · refine ih hlt ⟨rfl, same_go hc hd ?_ ha, (hB.trans B59).trans h10⟩
      rw [cls_eq]
      simp_all
  refine brF ?_
  have eC : u.classes = v.classes := of_decide_eq_true (same_end (by omega) ha (by omega))
  clear ih hy1 hy2
  refine lpk u.methods.length 8 [] [(2, .pointer (some ⟨b1, 0, none⟩)), (3, .pointer (some ⟨b2, 0, none⟩))] (fun k vals w' => vals = [] ∧ u.methods.take k = v.methods.take k ∧ Bl w4 w') ⟨rfl, rfl, hB⟩ ?_
  clear hB B05 ha
  rintro k vals w5 hk ⟨rfl, ha, hB⟩ ih
  have hy1 := Bl.box hB hx1
  have hy2 := Bl.box hB hx2
  have B05 := B04.trans hB
  refine ld (hy1.cell rfl) ?_
  by_cases hlt : k < u.methods.length
  · refine brT ?_
    obtain ⟨c, bs, o, cs, hc, e2, _, hAt, q1, s1, q2, s2, q3, s3, rfl, f1, f2, f3⟩ := at_some (hU.bl B05).mth hlt
    obtain ⟨d, bs', o', cs', hd, e2', _, hAt', q1', s1', q2', s2', q3', s3', rfl, f1', f2', f3'⟩ := at_some (hV.bl B05).mth (i := k) (by omega)
    have hcd : c ≠ d → sameU u v = false := fun hne => sameU_no fun q => of_decide_eq_false (same_no hc hd hne) q.2.2.2.2
    refine ld (hy1.cell rfl) ?_
    rw [e2]
    refine ix ?_
    refine lda hAt ?_
    refine al fun b6 w6 h6 => ?_
    refine sta h6.box fun w7 k7 hx7 => ?_
    have B57 : Bl w5 w7 := h6.wr k7
    refine ld ((Bl.box B57 hy2).cell rfl) ?_
    rw [e2']
    refine ix ?_
    refine lda (hAt'.bl B57) ?_
    refine al fun b8 w8 h8 => ?_
    refine sta h8.box fun w9 k9 hx9 => ?_
    have B79 : Bl w7 w9 := h8.wr k9
    have hz7 := Bl.box B79 hx7
    have B59 := B57.trans B79
    refine ld (hz7.cell rfl) ?_
    refine ld (hx9.cell rfl) ?_
    refine ldg (fun _ => hz7.cell rfl) ?_
    refine ldg (fun _ => hx9.cell rfl) ?_
    refine sp (.agg (encTy c.result).toArray) (fun k1 => ?_) (fun k1 => ?_)
    rotate_left
    · refine spn (.agg (encTy d.result).toArray) ?_
      refine spn (.bool true) ?_
      refine ldg (fun _ => hz7.cell rfl) ?_
      refine ldg (fun _ => hx9.cell rfl) ?_
      refine spn (.bool true) ?_
      refine ldg (fun _ => hz7.cell rfl) ?_
      refine ldg (fun _ => hx9.cell rfl) ?_
      refine spn (.bool true) ?_
      refine ldg (fun _ => hz7.cell rfl) ?_
      refine ldg (fun _ => hx9.cell rfl) ?_
      refine spn (.bool true) ?_
      refine br (fun _ => ?_) (fun k3 => ?_)
      rotate_left
      · exfalso; simp_all
      refine rt1 ⟨vb (hcd fun q => ?_).symm, B05.trans B59⟩
      rw [mth_eq] at q
      simp_all
    refine lda (At.left (cs := encTy c.result) hz7.at.tail.tail.tail.tail) ?_
    refine spt (.bool true) ?_
    refine lda (At.left (cs := encTy d.result) hx9.at.tail.tail.tail.tail) ?_
    refine spt (.bool true) ?_
    refine neA (fun w => eq_ty c.result d.result) ?_
    refine ldg (fun _ => hz7.cell rfl) ?_
    refine ldg (fun _ => hx9.cell rfl) ?_
    refine sp (.bool true) (fun k2 => ?_) (fun k2 => ?_)
    rotate_left
    · refine ldg (fun _ => hz7.cell rfl) ?_
      refine ldg (fun _ => hx9.cell rfl) ?_
      refine spn (.bool true) ?_
      refine ldg (fun _ => hz7.cell rfl) ?_
      refine ldg (fun _ => hx9.cell rfl) ?_
      refine spn (.bool true) ?_
      refine br (fun _ => ?_) (fun k3 => ?_)
      rotate_left
      · exfalso; simp_all
      refine rt1 ⟨vb (hcd fun q => ?_).symm, B05.trans B59⟩
      rw [mth_eq] at q
      simp_all
    refine cl (r_sameTypes c.params d.params q1 q1' s1 s1' w9 (f1.bl B59) (f1'.bl B59)) ?_
    rintro _ w10 ⟨rfl, h10⟩
    have B510 := B59.trans h10
    replace hz7 := Bl.box h10 hz7
    replace hx9 := Bl.box h10 hx9
    refine ldg (fun _ => hz7.cell rfl) ?_
    refine ldg (fun _ => hx9.cell rfl) ?_
    refine sp (.bool true) (fun k3 => ?_) (fun k3 => ?_)
    rotate_left
    · refine ldg (fun _ => hz7.cell rfl) ?_
      refine ldg (fun _ => hx9.cell rfl) ?_
      refine spn (.bool true) ?_
      refine br (fun _ => ?_) (fun k4 => ?_)
      rotate_left
      · exfalso; simp_all
      refine rt1 ⟨vb (hcd fun q => ?_).symm, B05.trans B510⟩
      rw [mth_eq] at q
      simp_all
    refine cl (r_sameTypes c.locals d.locals q2 q2' s2 s2' w10 (f2.bl B510) (f2'.bl B510)) ?_
    rintro _ w11 ⟨rfl, h11⟩
    have B511 := B510.trans h11
    replace hz7 := Bl.box h11 hz7
    replace hx9 := Bl.box h11 hx9
    refine ldg (fun _ => hz7.cell rfl) ?_
    refine ldg (fun _ => hx9.cell rfl) ?_
    refine sp (.bool true) (fun k4 => ?_) (fun k4 => ?_)
    rotate_left
    · refine br (fun _ => ?_) (fun k5 => ?_)
      rotate_left
      · exfalso; simp_all
      refine rt1 ⟨vb (hcd fun q => ?_).symm, B05.trans B511⟩
      rw [mth_eq] at q
      simp_all
    refine cl (r_SameCode c.code d.code q3 q3' s3 s3' w11 (f3.bl B511) (f3'.bl B511)) ?_
    rintro _ w12 ⟨rfl, h12⟩
    refine br (fun k5 => ?_) (fun k5 => ?_)
    · refine rt1 ⟨vb (hcd fun q => ?_).symm, (B05.trans B511).trans h12⟩
      rw [mth_eq] at q
      simp_all
    · refine ih hlt ⟨rfl, same_go hc hd ?_ ha, (hB.trans B511).trans h12⟩
      rw [mth_eq]
      simp_all
  refine brF ?_
  have eM : u.methods = v.methods := of_decide_eq_true (same_end (by omega) ha (by omega))
  refine rt1 ⟨vb ?_, B05⟩
  simp [sameU, n1, n2, n5, eC, eM]
end Go.Proofs.YtopjmiklpnejmaaGreatDoor

/- Walks: the law UnitCompares. -/
namespace Go.Proofs.YtopjmiklpnejmaaGreatDoor
open Eng Go.RowKit
theorem sameU_refl (u : Unt) : sameU u u = true := by simp [sameU]
theorem l_Compares (u v : Unt) (a b : UA) (w : World) (hU : UnR T w u a) (hV : UnR T w v b) (hG : Gl w) : Ret Tryz.prog 6 #[.agg (ucells u a).toArray, .agg (ucells v b).toArray] w fun x w' => x = .bool true ∧ Bl w w' := by
  refine entr (vs := [.agg (ucells u a).toArray, .agg (ucells v b).toArray]) [0, 1, 2, 3, 4, 10] tabok Tryz.func6 (by kernel_rfl) ?_
  refine bx (cs := ucells u a) fun b1 w1 h1 => ?_
  refine bx (cs := ucells v b) fun b2 w2 h2 => ?_
  have B02 := h1.bl.trans h2.bl
  have hx1 := Bl.box h2.bl h1.box
  have hx2 := h2.box
  refine lda hx1.at ?_
  refine cl (l_heavy u a w2 (hU.bl B02)) ?_
  rintro _ w3 ⟨hv, rfl, B23⟩
  have B03 := B02.trans B23
  replace hx1 := Bl.box B23 hx1
  replace hx2 := Bl.box B23 hx2
  cases hv with
  | true =>
    refine spn (.agg (ucells v b).toArray) ?_
    refine spn (.bool true) ?_
    refine br (fun _ => ?_) (fun q => ?_)
    · refine cl (l_sane w3 (hG.bl B03)) ?_
      rintro _ w4 ⟨rfl, h4⟩
      exact rt1 ⟨rfl, B03.trans h4⟩
    · cases q
  | false =>
    refine spt (.agg (ucells v b).toArray) ?_
    refine lda hx2.at ?_
    refine spt (.bool true) ?_
    refine cl (l_heavy v b w3 (hV.bl B03)) ?_
    rintro _ w4 ⟨hv, rfl, B34⟩
    have B04 := B03.trans B34
    replace hx1 := Bl.box B34 hx1
    replace hx2 := Bl.box B34 hx2
    cases hv with
    | true =>
      refine br (fun _ => ?_) (fun q => ?_)
      · refine cl (l_sane w4 (hG.bl B04)) ?_
        rintro _ w5 ⟨rfl, h5⟩
        exact rt1 ⟨rfl, B04.trans h5⟩
      · cases q
    | false =>
    refine br (fun q => ?_) (fun _ => ?_)
    · cases q
    refine dh T [0, 1, 3, 4, 2, 5, 6, 7, 8, 9, 10, 11, 12, 13, 14, 15, 16] fun w5 h5 => ?_
    have B05 := B04.trans h5.bl
    replace hx1 := Bl.box h5.bl hx1
    replace hx2 := Bl.box h5.bl hx2
    refine lda hx1.at ?_ (hm := trivial)
    refine lda hx2.at ?_ (hm := trivial)
    refine lda hx1.at ?_ (hm := trivial)
    refine lda hx2.at ?_ (hm := trivial)
    refine cl (u_Same u v a b w5 (hU.bl B05) (hV.bl B05)) ?_
    rintro _ w6 ⟨rfl, B56⟩
    have B06 := B05.trans B56
    replace hx1 := Bl.box B56 hx1
    replace hx2 := Bl.box B56 hx2
    refine cl (r_Same u v a b w6 (hU.bl B06) (hV.bl B06)) ?_
    rintro _ w7 ⟨rfl, B67⟩
    have B07 := B06.trans B67
    replace hx1 := Bl.box B67 hx1
    refine beb ?_
    rw [beq_self_eq_true]
    refine spt (.agg (ucells u a).toArray) ?_
    refine lda hx1.at ?_ (hm := trivial)
    refine spt (.agg (ucells u a).toArray) ?_
    refine lda hx1.at ?_ (hm := trivial)
    refine spt (.agg (ucells u a).toArray) ?_
    refine cl (r_Copy u a w7 (hU.bl B07)) ?_ (hm := fun _ _ r => mdW_bl r.choose_spec.2.2)
    rintro _ w8 ⟨a', rfl, hC, B78⟩
    have B08 := B07.trans B78
    refine spt (.bool true) ?_
    refine cl (u_Same u u a a' w8 (hU.bl B08) hC.all) ?_
    rintro _ w9 ⟨rfl, B89⟩
    have B09 := B08.trans B89
    rw [sameU_refl]
    refine spt (.bool true) ?_
    refine cl (l_sane w9 (hG.bl B09)) ?_
    rintro _ w10 ⟨rfl, B910⟩
    exact rt1 ⟨by first | rfl | simp, B09.trans B910⟩
end Go.Proofs.YtopjmiklpnejmaaGreatDoor

/- Walks: the law UnitStrips. -/
namespace Go.Proofs.YtopjmiklpnejmaaGreatDoor
open Eng Go.RowKit
set_option maxHeartbeats 2000000 in
theorem l_Strips (u : Unt) (a : UA) (w : World) (hU : UnR T w u a) (hG : Gl w) : Ret Tryz.prog 11 #[.agg (ucells u a).toArray] w fun x w' => x = .bool true ∧ Bl w w' := by
  refine entr (vs := [.agg (ucells u a).toArray]) [0, 1, 2, 3, 4, 5, 6, 7, 8, 9, 10, 11, 12, 13, 14, 15, 16, 17, 19, 47, 49, 110] tabok Tryz.func11 (by kernel_rfl) ?_
  refine bx (cs := ucells u a) fun b1 w1 h1 => ?_
  have B01 := h1.bl
  refine lda h1.box.at ?_
  refine cl (l_heavy u a w1 (hU.bl B01)) ?_
  rintro _ w2 ⟨hv, rfl, B12⟩
  have B02 := B01.trans B12
  have x2 := Bl.box B12 h1.box
  cases hv with
  | true =>
    refine brt ?_
    refine cl (l_sane w2 (hG.bl B02)) ?_
    rintro _ w3 ⟨rfl, h3⟩
    exact rt1 ⟨rfl, B02.trans h3⟩
  | false =>
  refine brf ?_
  refine lda x2.at ?_
  refine cl (r_Copy u a w2 (hU.bl B02)) ?_
  rintro _ w3 ⟨a3, rfl, hV, B23⟩
  refine al fun b4 w4 h4 => ?_
  refine sta h4.box fun w5 k5 x5 => ?_
  have B35 := h4.wr k5
  have B05 := (B02.trans B23).trans B35
  have y1 := Bl.box (B23.trans B35) x2
  have U5 : UnR T w5 u a3 := (hV.bl B35).all
  refine lda x5.at ?_
  refine cl (u_Strip u a3 w5 U5 (hG.bl B05)) ?_
  rintro _ w6 ⟨a6, rfl, U6, B56⟩
  refine al fun b7 w7 h7 => ?_
  refine sta (cs' := ucells (strE u) a6) h7.box fun w8 k8 x8 => ?_
  have B68 := h7.wr k8
  have B58 := B56.trans B68
  have B08 := B05.trans B58
  have y18 := Bl.box B58 y1
  have x58 := Bl.box B58 x5
  have V8 : UnR T w8 (strE u) a6 := (U6.bl B68).all
  refine lda y18.at ?_
  refine cl (r_Strip u a w8 (hU.bl B08)) ?_
  rintro _ w9 ⟨a9, rfl, U9, B89⟩
  refine al fun b10 w10 h10 => ?_
  refine sta (cs' := ucells (strE u) a9) h10.box fun w11 k11 x11 => ?_
  have B911 := h10.wr k11
  have B811 := B89.trans B911
  have B011 := B08.trans B811
  have y111 := Bl.box B811 y18
  have x511 := Bl.box B811 x58
  have x811 := Bl.box B811 x8
  have V11 := V8.bl B811
  have W11 : UnR T w11 (strE u) a9 := (U9.bl B911).all
  refine spt (.agg (ucells u a).toArray) ?_
  refine lda x811.at ?_
  refine spt (.agg (ucells u a).toArray) ?_
  refine lda x11.at ?_
  refine spt (.bool false) ?_
  refine cl (r_Same (strE u) (strE u) a6 a9 w11 V11 W11) ?_
  rintro _ w12 ⟨rfl, B1112⟩
  rw [sameU_refl]
  refine spt (.agg (ucells u a).toArray) ?_
  refine lda (Bl.box B1112 x511).at ?_
  refine spt (.agg (ucells u a).toArray) ?_
  refine lda (Bl.box B1112 y111).at ?_
  refine spt (.bool false) ?_
  have B012 := B011.trans B1112
  refine cl (r_Same u u a3 a w12 ((U5.bl B58).bl (B811.trans B1112)) (hU.bl B012)) ?_
  rintro _ w13 ⟨rfl, B1213⟩
  rw [sameU_refl]
  have B013 := B012.trans B1213
  have B1113 := B1112.trans B1213
  refine brf ?_
  by_cases h0 : checkE u = 0
  · refine brT ?_ (hp := by exact h0)
    have eS : strE u = strU u := by unfold strE; rw [if_pos h0]
    have hc := str_check h0
    have e2 : strE (strU u) = strU u := by unfold strE; rw [if_pos hc, str_twice h0]
    have x813 := Bl.box B1113 x811
    rw [eS] at V11 x813
    have V13 := V11.bl B1113
    refine lda x813.at ?_
    refine cl (u_Strip (strU u) a6 w13 V13 (hG.bl B013)) ?_
    rintro _ w14 ⟨a14, rfl, U14, B1314⟩
    rw [e2] at U14 ⊢
    rw [hc]
    refine al fun b15 w15 h15 => ?_
    refine sta (cs' := ucells (strU u) a14) h15.box fun w16 k16 x16 => ?_
    have B1416 := h15.wr k16
    have B1316 := B1314.trans B1416
    have B016 := B013.trans B1316
    have y16 := Bl.box (B1113.trans B1316) y111
    have x816 := Bl.box B1316 x813
    have V16 := V13.bl B1316
    have W16 : UnR T w16 (strU u) a14 := (U14.bl B1416).all
    refine lda y16.at ?_
    refine cl (u_Uses u a w16 (hU.bl B016) (hG.bl B016)) ?_
    intro v w17 hT
    obtain ⟨o1, a1, c1, rfl, S1, B1617, A1⟩ := tell_any hT
    clear hT
    rw [if_pos h0] at A1
    rw [h0]
    have B017 := B016.trans B1617
    refine lda (Bl.box B1617 x816).at ?_
    refine cl (u_Uses (strU u) a6 w17 (V16.bl B1617) (hG.bl B017)) ?_
    intro v w18 hT
    obtain ⟨o2, a2, c2, rfl, S2, B1718, A2⟩ := tell_any hT
    clear hT
    rw [if_pos hc] at A2
    rw [hc]
    obtain rfl := A1.eq A2 fun x => (str_use h0 x).symm
    have B1618 := B1617.trans B1718
    have B018 := B017.trans B1718
    refine lda (Bl.box B1618 y16).at ?_
    refine cl (u_Defines u a w18 (hU.bl B018) (hG.bl B018)) ?_
    intro v w19 hT
    obtain ⟨o3, a3', c3, rfl, S3, B1819, A3⟩ := tell_any hT
    clear hT
    rw [if_pos h0] at A3
    rw [h0]
    have B019 := B018.trans B1819
    have B1619 := B1618.trans B1819
    refine lda (Bl.box B1619 x816).at ?_
    refine cl (u_Defines (strU u) a6 w19 (V16.bl B1619) (hG.bl B019)) ?_
    intro v w20 hT
    obtain ⟨o4, a4, c4, rfl, S4, B1920, A4⟩ := tell_any hT
    clear hT
    rw [if_pos hc] at A4
    rw [hc]
    obtain rfl := A3.eq A4 fun x => by rw [str_def h0]
    have B1620 := B1619.trans B1920
    have B020 := B019.trans B1920
    refine spt (.agg (ucells u a).toArray) ?_
    refine lda (Bl.box B1620 x16).at ?_
    refine spt (.agg (ucells u a).toArray) ?_
    refine lda (Bl.box B1620 x816).at ?_
    refine spt (.bool false) ?_
    refine cl (r_Same (strU u) (strU u) a14 a6 w20 (W16.bl B1620) (V16.bl B1620)) ?_
    rintro _ w21 ⟨rfl, B2021⟩
    rw [sameU_refl]
    have B021 := B020.trans B2021
    have T1 := ((B1718.trans B1819).trans B1920).trans B2021
    have T2 := (B1819.trans B1920).trans B2021
    refine spt (.bool false) ?_
    refine cl (r_SameStrings o1 o1 a1 a2 c1 c2 w21 (S1.bl T1) (S2.bl T2)) ?_
    rintro _ w22 ⟨rfl, B2122⟩
    have B022 := B021.trans B2122
    rw [decide_eq_true (rfl : o1 = o1)]
    refine spt (.bool false) ?_
    refine cl (r_SameStrings o3 o3 a3' a4 c3 c4 w22 (S3.bl ((B1920.trans B2021).trans B2122)) (S4.bl (B2021.trans B2122))) ?_
    rintro _ w23 ⟨rfl, B2223⟩
    have B023 := B022.trans B2223
    rw [decide_eq_true (rfl : o3 = o3)]
    refine brf ?_
    refine cl (l_sane w23 (hG.bl B023)) ?_
    rintro _ w24 ⟨rfl, h24⟩
    exact rt1 ⟨rfl, B023.trans h24⟩
  · refine brF ?_ (hp := by exact h0)
    refine cl (l_sane w13 (hG.bl B013)) ?_
    rintro _ w14 ⟨rfl, h14⟩
    exact rt1 ⟨rfl, B013.trans h14⟩
end Go.Proofs.YtopjmiklpnejmaaGreatDoor
