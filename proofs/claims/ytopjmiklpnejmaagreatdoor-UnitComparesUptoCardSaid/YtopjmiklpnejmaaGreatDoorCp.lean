/- Walks: a unit copied, in the document; whether a unit is too large to look at. -/
import Derived.Test.YtopjmiklpnejmaaGreatDoorCh
namespace Go.Proofs.YtopjmiklpnejmaaGreatDoor
open Eng Go.RowKit
theorem flatten_get {sz : Nat} : ∀ {xs : List (List Value)} (_ : ∀ c ∈ xs, c.length = sz) {i : Nat} {c : List Value}, xs[i]? = some c → ∀ j, j < sz → xs.flatten[i * sz + j]? = c[j]?
  | [], _, i, c, hx, _, _ => by simp at hx
  | y :: l, h, 0, c, hx, j, hj => by
    simp at hx; subst hx
    rw [List.flatten_cons, Nat.zero_mul, Nat.zero_add, List.getElem?_append_left (by rw [h _ (List.mem_cons_self ..)]; exact hj)]
  | y :: l, h, i + 1, c, hx, j, hj => by
    have hy := h y (List.mem_cons_self ..)
    have := flatten_get (xs := l) (fun c hc => h c (List.mem_cons_of_mem _ hc)) (i := i) (by simpa using hx) j hj
    rw [List.flatten_cons, List.getElem?_append_right (by rw [hy, Nat.succ_mul]; omega), hy, ← this]
    congr 1; rw [Nat.succ_mul]; omega
theorem flatten_len {sz : Nat} : ∀ {xs : List (List Value)} (_ : ∀ c ∈ xs, c.length = sz), xs.flatten.length = xs.length * sz
  | [], _ => by simp
  | y :: l, h => by
    have hy := h y (List.mem_cons_self ..)
    have := flatten_len (xs := l) fun c hc => h c (List.mem_cons_of_mem _ hc)
    simp only [List.flatten_cons, List.length_append, List.length_cons, hy, this, Nat.succ_mul]; omega
/-- a row of the call's own, whose elements lie in blocks that hold R and are not the row's -/
structure OwC {α : Type} (E : El α) (R : Nat → Prop) (w : World) (base e : Nat) (a : Option Addr) (cap : Nat) (l : List α) : Prop where
  row : ∃ xs : List (List Value), xs.length = l.length ∧ (∀ c ∈ xs, c.length = E.sz) ∧ Ow w base e E.sz a l.length cap xs.flatten ∧
    ∀ (i : Nat) (cs : List Value) (x : α), xs[i]? = some cs → l[i]? = some x → E.rel (fun b => R b ∧ a ≠ some ⟨b, 0, none⟩ ∧ b < w.heap.size) w cs x
theorem OwC.nil {α : Type} (E : El α) (R : Nat → Prop) (w : World) (base e : Nat) : OwC E R w base e none 0 ([] : List α) :=
  ⟨[], rfl, (fun _ h => by simp at h), Ow.nil .., (fun i cs x h => by simp at h)⟩
theorem OwC.bl {α : Type} {E : El α} {R : Nat → Prop} {w w' : World} {base e cap : Nat} {a : Option Addr} {l : List α} (h : OwC E R w base e a cap l) (k : Bl w w') : OwC E R w' base e a cap l := by
  obtain ⟨xs, h1, h2, h3, h4⟩ := h.row
  exact ⟨xs, h1, h2, h3.bl k, fun i cs x hi hl => E.sub (fun b hb => ⟨hb.1, hb.2.1, Nat.lt_of_lt_of_le hb.2.2 k.size⟩) (E.kp (k.kp _) (h4 i cs x hi hl))⟩
theorem OwC.wr {α : Type} {E : El α} {R : Nat → Prop} {w w' : World} {base e cap : Nat} {a : Option Addr} {l : List α} (h : OwC E R w base e a cap l) {b : Nat} (k : Wr w b w') (hb : b < base) (hR : ∀ i, R i → i ≠ b) : OwC E R w' base e a cap l := by
  obtain ⟨xs, h1, h2, h3, h4⟩ := h.row
  exact ⟨xs, h1, h2, h3.wr k fun g hg => by have := (h3.lt hg).1; omega, fun i cs x hi hl => E.sub (fun b hb => ⟨hb.1, hb.2.1, by rw [k.size]; exact hb.2.2⟩) (E.kp (k.kp fun i hi => hR i hi.1) (h4 i cs x hi hl))⟩
theorem OwC.ow {α : Type} {E : El α} {R : Nat → Prop} {w : World} {base e cap : Nat} {a : Option Addr} {l : List α} (h : OwC E R w base e a cap l) : ∃ xs, Ow w base e E.sz a l.length cap xs := by
  obtain ⟨xs, h1, h2, h3, h4⟩ := h.row
  exact ⟨_, h3⟩
theorem OwC.lt {α : Type} {E : El α} {R : Nat → Prop} {w : World} {base e cap : Nat} {a : Option Addr} {l : List α} (h : OwC E R w base e a cap l) {g : Nat} (hg : a = some ⟨g, 0, none⟩) : base ≤ g ∧ g < w.heap.size := by
  obtain ⟨xs, h3⟩ := h.ow
  exact h3.lt hg
theorem OwC.push {α : Type} {E : El α} {R : Nat → Prop} {w w' : World} {base e cap' : Nat} {a a' : Option Addr} {l : List α} {x : α} {cs : List Value} {xs : List (List Value)} (h1 : xs.length = l.length) (h2 : ∀ c ∈ xs, c.length = E.sz)
    (h4 : ∀ (i : Nat) (cs : List Value) (x : α), xs[i]? = some cs → l[i]? = some x → E.rel (fun b => R b ∧ a ≠ some ⟨b, 0, none⟩ ∧ b < w.heap.size) w cs x)
    (hO : Ow w' base e E.sz a' (l.length + 1) cap' (xs.flatten ++ cs)) (hA : Ap w a w') (hf : ∀ g, a' = some ⟨g, 0, none⟩ → a = some ⟨g, 0, none⟩ ∨ w.heap.size ≤ g)
    (hr : E.rel (fun b => R b ∧ a ≠ some ⟨b, 0, none⟩ ∧ b < w.heap.size) w cs x) : OwC E R w' base e a' cap' (l ++ [x]) := by
  have hsub : ∀ b, (R b ∧ a ≠ some ⟨b, 0, none⟩ ∧ b < w.heap.size) → (R b ∧ a' ≠ some ⟨b, 0, none⟩ ∧ b < w'.heap.size) := fun b ⟨q1, q2, q3⟩ => by
    refine ⟨q1, fun e => ?_, Nat.lt_of_lt_of_le q3 hA.size⟩
    rcases hf b e with h | h
    · exact q2 h
    · omega
  have hkp : Kp (fun b => R b ∧ a ≠ some ⟨b, 0, none⟩ ∧ b < w.heap.size) w w' := hA.kp.sub fun i hi => hi.2.1
  refine ⟨xs ++ [cs], by simp [h1], fun c hc => ?_, by rw [List.length_append, List.flatten_append]; simpa using hO, fun i c y hi hl => ?_⟩
  · rcases List.mem_append.1 hc with hc | hc
    · exact h2 c hc
    · rw [List.mem_singleton.1 hc]; exact E.len hr
  · rcases Nat.lt_or_ge i l.length with hlt | hge
    · rw [List.getElem?_append_left (by omega)] at hi
      rw [List.getElem?_append_left hlt] at hl
      exact E.sub hsub (E.kp hkp (h4 i c y hi hl))
    · rw [List.getElem?_append_right (by omega), h1] at hi
      rw [List.getElem?_append_right hge] at hl
      rcases Nat.eq_zero_or_pos (i - l.length) with h0 | h0
      · rw [h0] at hi hl
        simp at hi hl
        subst hi hl
        exact E.sub hsub (E.kp hkp hr)
      · rw [List.getElem?_eq_none (by simp; omega)] at hi
        cases hi
theorem OwC.sl2 {α : Type} {E : El α} {w : World} {base e cap : Nat} {a : Option Addr} {l : List α} (h : OwC E (fun b => base ≤ b) w base e a cap l) (hl : l.length ≤ 4194304) : Sl E (fun b => base ≤ b ∧ b < w.heap.size) w a l := by
  obtain ⟨xs, h1, h2, h3, h4⟩ := h.row
  refine ⟨hl, fun i x hx => ?_⟩
  have hi : i < l.length := (List.getElem?_eq_some_iff.1 hx).1
  obtain ⟨cs, hc⟩ := some_of_lt (l := xs) (k := i) (by omega)
  have hcl := h2 cs (List.mem_of_getElem? hc)
  rcases h3.shape with ⟨_, h0, _⟩ | ⟨g, cur, rfl, _⟩
  · omega
  · refine ⟨g, 0, cs, rfl, h3.lt rfl, fun j v hj => ?_, E.sub (fun b hb => ⟨hb.1, hb.2.2⟩) (h4 i cs x hc hx)⟩
    have hj' : j < E.sz := by rw [← hcl]; exact (List.getElem?_eq_some_iff.1 hj).1
    have := h3.at rfl (i * E.sz + j) v (by rw [flatten_get h2 hc j hj']; exact hj)
    rw [Nat.zero_add] at this
    rw [Nat.zero_add]; exact this
theorem Bl.trans_wr {w w' w'' : World} {b : Nat} (h : Bl w w') (k : Wr w' b w'') (hb : w.heap.size ≤ b) : Bl w w'' := Below.trans h (k.below hb)
/-- the law looks at units of some size only -/
theorem l_heavy (u : Unt) (a : UA) (w : World) (hU : UnR T w u a) : Ret Tryz.prog 19 #[.agg (ucells u a).toArray] w fun v w' => ∃ b, v = .bool b ∧ Bl w w' := by
  refine entr (vs := [.agg (ucells u a).toArray]) [0, 1, 2, 3, 4, 5, 22, 27, 43] tabok Tryz.func19 (by kernel_rfl) ?_
  have hbc := hU.cls.big
  have hbm := hU.mth.big
  refine bx (cs := ucells u a) fun b w1 hn => ?_
  refine ld (hn.box.cell rfl) ?_
  refine ld (hn.box.cell rfl) ?_
  refine ld (hn.box.cell rfl) ?_
  refine ld (hn.box.cell rfl) ?_
  refine br (fun h => ?_) (fun h => ?_)
  · exact rt1 ⟨true, rfl, hn.bl⟩
  refine lpk u.classes.length 4 [3] [(1, .pointer (some ⟨b, 0, none⟩))] (fun k vals w' => ∃ n, vals = [I n] ∧ w1 = w') ⟨_, rfl, rfl⟩ ?_
  rintro k vals _ hk ⟨n, rfl, rfl⟩ ih
  refine ld (hn.box.cell rfl) ?_
  by_cases hlt : k < u.classes.length
  · refine brT ?_
    obtain ⟨c, b2, o2, cs, hc, e2, _, hAt, ac, cap, rfl, hf⟩ := at_some (hU.bl hn.bl).cls hlt
    refine ld (hn.box.cell rfl) ?_
    rw [e2]
    refine ix ?_
    refine ld (hAt 2 _ rfl) ?_
    exact ih hlt ⟨_, rfl, rfl⟩
  refine brF ?_
  clear ih
  refine lpk u.methods.length 5 [3] [(1, .pointer (some ⟨b, 0, none⟩))] (fun k vals w' => ∃ n, vals = [I n] ∧ Bl w1 w') ⟨_, rfl, Bl.refl _⟩ ?_
  rintro k vals w2 hk ⟨n, rfl, hB⟩ ih
  have hx := Bl.box hB hn.box
  refine ld (hx.cell rfl) ?_
  by_cases hlt : k < u.methods.length
  · refine brT ?_
    obtain ⟨m, b2, o2, cs, hm, e2, _, hAt, a1, c1, a2, c2, a3, c3, rfl, h1, h2, h3⟩ := at_some (hU.bl (hn.bl.trans hB)).mth hlt
    refine dh T (List.range 26) fun w8 h8 => ?_
    have hx9 := h8.box hx
    have hAt8 := hAt.bl h8.bl
    refine ld (hx9.cell rfl) ?_ (hm := trivial)
    rw [e2]
    refine ix ?_
    refine ld (hAt8 6 _ rfl) ?_ (hm := trivial)
    refine ld (hx9.cell rfl) ?_ (hm := trivial)
    rw [e2]
    refine ix ?_
    refine ld (hAt8 2 _ rfl) ?_ (hm := trivial)
    refine ld (hx9.cell rfl) ?_ (hm := trivial)
    rw [e2]
    refine ix ?_
    refine ld (hAt8 3 _ rfl) ?_ (hm := trivial)
    exact ih hlt ⟨_, rfl, hB.trans h8.bl⟩
  refine brF ?_
  exact rt1 ⟨_, rfl, hn.bl.trans hB⟩
/-- since wQ: nothing but block b3 and newer ones has turned -/
structure CpS (w wQ : World) (b3 : Nat) (w' : World) : Prop where
  h0 : w.heap.size ≤ wQ.heap.size
  h3 : w.heap.size ≤ b3
  below : Below w.heap.size w w'
  sz : wQ.heap.size ≤ w'.heap.size
  blk : ∀ b, b < wQ.heap.size → b ≠ b3 → w'.heap[b]? = wQ.heap[b]?
theorem CpS.refl {w wQ : World} {b3 : Nat} (h : Bl w wQ) (h3 : w.heap.size ≤ b3) : CpS w wQ b3 wQ := ⟨h.size, h3, h, Nat.le_refl _, fun _ _ _ => rfl⟩
theorem CpS.bl {w wQ w' w'' : World} {b3 : Nat} (h : CpS w wQ b3 w') (k : Bl w' w'') : CpS w wQ b3 w'' :=
  ⟨h.h0, h.h3, h.below.trans (k.mono (Nat.le_trans h.h0 h.sz)), Nat.le_trans h.sz k.size, fun b hb hn => (k.block b (Nat.lt_of_lt_of_le hb h.sz)).trans (h.blk b hb hn)⟩
theorem CpS.wr {w wQ w' w'' : World} {b3 b : Nat} (h : CpS w wQ b3 w') (k : Wr w' b w'') (hb : b = b3 ∨ wQ.heap.size ≤ b) : CpS w wQ b3 w'' :=
  ⟨h.h0, h.h3, h.below.trans (k.below (by have := h.h0; have := h.h3; omega)), by rw [k.size]; exact h.sz, fun i hi hn => (k.block i (by omega)).trans (h.blk i hi hn)⟩
theorem CpS.ap {w wQ w' w'' : World} {b3 : Nat} {a : Option Addr} (h : CpS w wQ b3 w') (k : Ap w' a w'') (ha : ∀ g, a = some ⟨g, 0, none⟩ → wQ.heap.size ≤ g) : CpS w wQ b3 w'' :=
  ⟨h.h0, h.h3, h.below.trans (k.below (Nat.le_trans h.h0 h.sz) fun g hg => Nat.le_trans h.h0 (ha g hg)), Nat.le_trans h.sz k.size, fun i hi hn => (k.block i (Nat.lt_of_lt_of_le hi h.sz) fun e => by have := ha i e; omega).trans (h.blk i hi hn)⟩
theorem CpS.box {w wQ w' : World} {b3 : Nat} (h : CpS w wQ b3 w') {b : Nat} {t : TypeId} {cs : List Value} (hb : Box wQ b t cs) (hn : b ≠ b3) : Box w' b t cs := by unfold Box; rw [h.blk b hb.lt hn]; exact hb
theorem CpS.kp {w wQ w' : World} {b3 : Nat} (h : CpS w wQ b3 w') : Kp (fun b => b < wQ.heap.size ∧ b ≠ b3) wQ w' := fun b o v s x => by rw [World.cell?_of_block (w := wQ) (h.blk b s.1 s.2)]; exact x
theorem nn {g : Nat} : (none : Option Addr) ≠ some ⟨g, 0, none⟩ := fun h => by cases h
theorem r_Copy (u : Unt) (a : UA) (w : World) (hU : UnR T w u a) : Ret Tryz.prog 20 #[.agg (ucells u a).toArray] w fun v w' => ∃ a', v = .agg (ucells u a').toArray ∧ UnR (fun b => w.heap.size ≤ b) w' u a' ∧ Bl w w' := by
  have hU0 := hU.lt
  have hp1 := hU.pool.big
  have hp2 := hU.cls.big
  have hp3 := hU.sta.big
  have hp4 := hU.mth.big
  refine entr (vs := [.agg (ucells u a).toArray]) [0, 1, 2, 3, 4, 5, 6, 7, 27, 49] tabok Tryz.func20 (by kernel_rfl) ?_
  refine bx (cs := ucells u a) fun b1 w1 h1 => ?_
  refine al fun b2 w2 h2 => ?_
  have hx12 := Bl.box h2.bl h1.box
  refine ld (hx12.cell rfl) ?_
  refine bd ?_
  refine al fun b3 w3 h3 => ?_
  refine sta h3.box fun w4 k4 hx4 => ?_
  have B24 : Bl w2 w4 := h3.wr k4
  have B04 : Bl w w4 := (h1.bl.trans h2.bl).trans B24
  have z1 := h1.size
  have z2 := h2.size
  have z3 := h3.size
  have z4 := k4.size
  have y1 := h1.blk
  have y2 := h2.blk
  have y3 := h3.blk
  have hx14 := Bl.box B24 hx12
  have hx24 := Bl.box B24 h2.box
  refine ld (hx4.cell rfl) ?_
  refine ld (hx14.cell rfl) ?_
  refine apl (enc := encStr) (base := w4.heap.size) (l0 := []) (l1 := u.pool) (Ow.nil ..) (src_of (hU.bl B04).pool) (Nat.le_refl _) (fun a5 cap5 w5 hO5 hA5 hf5 => ?_)
  have B45 : Bl w4 w5 := hA5.below (Nat.le_refl _) fun g hg => absurd hg nn
  refine st (Bl.box B45 hx4) fun w6 k6 hx6 => ?_
  refine ld (hx6.cell rfl) ?_
  have S6 : CpS w w4 b3 w6 := ((CpS.refl B04 (by omega)).bl B45).wr k6 (.inl rfl)
  refine ld ((S6.box hx14 (by omega)).cell rfl) ?_
  refine apl (enc := encFld) (base := w6.heap.size) (l0 := []) (l1 := u.statics) (Ow.nil ..) (src_of (hU0.below S6.below).sta) (Nat.le_refl _) (fun a7 cap7 w7 hO7 hA7 hf7 => ?_)
  have B67 : Bl w6 w7 := hA7.below (Nat.le_refl _) fun g hg => absurd hg nn
  refine st (Bl.box B67 hx6) fun w8 k8 hx8 => ?_
  have S8 : CpS w w4 b3 w8 := (S6.bl B67).wr k8 (.inl rfl)
  have z5 := B45.size
  have z6 := k6.size
  have z7 := B67.size
  have z8 := k8.size
  have hpool : Sl eStr (fun b => w4.heap.size ≤ b ∧ b < w8.heap.size) w8 a5 u.pool := by
    have q : Sl eStr (fun b => w4.heap.size ≤ b ∧ b < w8.heap.size) w5 a5 u.pool := owp_sl (enc := encStr) hO5 hp1 fun g hg => by have := hO5.lt hg; omega
    exact ((q.kp (k6.kp fun i hi => by omega)).bl B67).kp (k8.kp fun i hi => by omega)
  have hsta : Sl eFld (fun b => w4.heap.size ≤ b ∧ b < w8.heap.size) w8 a7 u.statics := by
    have q : Sl eFld (fun b => w4.heap.size ≤ b ∧ b < w8.heap.size) w7 a7 u.statics := owp_sl (enc := encFld) hO7 hp3 fun g hg => by have := hO7.lt hg; omega
    exact q.kp (k8.kp fun i hi => by omega)
  have R8 : CpS w w8 b3 w8 := ⟨by omega, by omega, S8.below, Nat.le_refl _, fun _ _ _ => rfl⟩
  have hx18 := S8.box hx14 (by omega)
  have hx28 := S8.box hx24 (by omega)
  refine lpk u.classes.length 4 [] [(1, .pointer (some ⟨b1, 0, none⟩)), (2, .pointer (some ⟨b2, 0, none⟩)), (3, .pointer (some ⟨b3, 0, none⟩))] (fun k vals w' => vals = [] ∧ CpS w w8 b3 w' ∧ ∃ ac cc, OwC eCls (fun b => w8.heap.size ≤ b) w' w8.heap.size 58 ac cc (u.classes.take k) ∧
    Box w' b3 30 [.string u.name, .slice a5 u.pool.length cap5, .slice ac (u.classes.take k).length cc, .slice a7 u.statics.length cap7, .slice none 0 0]) ⟨rfl, R8, none, 0, OwC.nil .., hx8⟩ ?_
  rintro k vals w9 hk ⟨rfl, S9, ac, cc, hO9, hx9⟩ ih
  have hx19 := S9.box hx18 (by omega)
  have z9 := S9.sz
  refine ld (hx19.cell rfl) ?_
  by_cases hlt : k < u.classes.length
  · refine brT ?_
    obtain ⟨c, bs2, o2, cs, hc, e2, _, hAt, af, cf, rfl, hf⟩ := at_some (hU0.below S9.below).cls hlt
    refine ld (hx19.cell rfl) ?_
    rw [e2]
    refine ix ?_
    refine lda hAt ?_
    refine al fun b5 w10 h10 => ?_
    refine sta h10.box fun w11 k11 hx11 => ?_
    have B911 : Bl w9 w11 := h10.wr k11
    have z10 := h10.size
    have z11 := k11.size
    have y10 := h10.blk
    have hfb := hf.big
    refine ld (hx11.cell rfl) ?_
    refine apl (enc := encFld) (base := w11.heap.size) (l0 := []) (l1 := c.fields) (Ow.nil ..) (src_of (hf.bl B911)) (Nat.le_refl _) (fun a12 cap12 w12 hO12 hA12 hf12 => ?_)
    have B1112 : Bl w11 w12 := hA12.below (Nat.le_refl _) fun g hg => absurd hg nn
    refine st (Bl.box B1112 hx11) fun w13 k13 hx13 => ?_
    have z12 := B1112.size
    have z13 := k13.size
    have B1013 : Bl w9 w13 := (B911.trans B1112).trans_wr k13 (by omega)
    refine ld ((Bl.box B1013 hx9).cell rfl) ?_
    refine lda hx13.at ?_
    refine bs fun b14 w14 h14 => ?_
    have z14 := h14.size
    have B914 : Bl w9 w14 := B1013.trans h14.bl
    obtain ⟨xs, e1, e3, hOx, e4⟩ := (hO9.bl B914).row
    have hl9 : (u.classes.take k).length ≤ 4194304 := by rw [List.length_take]; omega
    refine ap hOx (.inr ⟨b14, 0, rfl, h14.box.at⟩) (by omega) (fun a15 cap15 w15 hO15 hA15 hf15 => ?_)
    have hrel : eCls.rel (fun b => w8.heap.size ≤ b ∧ ac ≠ some ⟨b, 0, none⟩ ∧ b < w14.heap.size) w14 [I c.name, I c.super, .slice a12 c.fields.length cap12] c := by
      refine ⟨a12, cap12, rfl, ?_⟩
      have q : Sl eFld (fun b => w8.heap.size ≤ b ∧ ac ≠ some ⟨b, 0, none⟩ ∧ b < w14.heap.size ∧ b ≠ b5) w12 a12 c.fields := owp_sl (enc := encFld) hO12 hfb fun g hg => by
        have q1 := hO12.lt hg
        exact ⟨by omega, fun e => by have := (hO9.lt e).2; omega, by omega, by omega⟩
      exact ((q.kp (k13.kp fun i hi => hi.2.2.2)).bl h14.bl).sub fun i hi => ⟨hi.1, hi.2.1, hi.2.2.1⟩
    have hO15' := OwC.push e1 e3 e4 hO15 hA15 hf15 hrel
    have S15 := (S9.bl B914).ap hA15 fun g hg => (hO9.lt hg).1
    refine st (hA15.box (Bl.box B914 hx9) fun e => by have := (hO9.lt e).1; have := hx8.lt; omega) fun w16 k16 hx16 => ?_
    have e5 : (u.classes.take k).length + 1 = (u.classes.take (k + 1)).length := by rw [take_succ_some hc]; simp
    rw [← take_succ_some hc] at hO15'
    refine ih hlt ⟨rfl, S15.wr k16 (.inl rfl), a15, cap15, hO15'.wr k16 (by have := hx8.lt; omega) (fun i hi => by have := hx8.lt; omega), ?_⟩
    rw [← e5]; exact hx16
  refine brF ?_
  obtain rfl : k = u.classes.length := by omega
  clear ih
  rw [List.take_length] at hO9 hx9
  have hb3 := hx8.lt
  have hcls : Sl eCls (fun b => w8.heap.size ≤ b ∧ b < w9.heap.size) w9 ac u.classes := by
    exact OwC.sl2 hO9 hp2
  have R9 : CpS w w9 b3 w9 := ⟨by omega, by omega, S9.below, Nat.le_refl _, fun _ _ _ => rfl⟩
  have hx29 := S9.box hx28 (by omega)
  have hpool9 := hpool.kp (S9.kp.sub fun i hi => ⟨hi.2, by omega⟩)
  have hsta9 := hsta.kp (S9.kp.sub fun i hi => ⟨hi.2, by omega⟩)
  refine lpk u.methods.length 6 [] [(1, .pointer (some ⟨b1, 0, none⟩)), (2, .pointer (some ⟨b2, 0, none⟩)), (3, .pointer (some ⟨b3, 0, none⟩))] (fun k vals w' => vals = [] ∧ CpS w w9 b3 w' ∧ ∃ am cm, OwC eMth (fun b => w9.heap.size ≤ b) w' w9.heap.size 64 am cm (u.methods.take k) ∧
    Box w' b3 30 [.string u.name, .slice a5 u.pool.length cap5, .slice ac u.classes.length cc, .slice a7 u.statics.length cap7, .slice am (u.methods.take k).length cm]) ⟨rfl, R9, none, 0, OwC.nil .., hx9⟩ ?_
  rintro k vals wA hk ⟨rfl, SA, am, cm, hOA, hxA⟩ ih
  have hx1A := SA.box hx19 (by omega)
  have zA := SA.sz
  refine ld (hx1A.cell rfl) ?_
  by_cases hlt : k < u.methods.length
  · refine brT ?_
    obtain ⟨m, bs2, o2, cs, hm, e2, _, hAt, q1, s1, q2, s2, q3, s3, rfl, f1, f2, f3⟩ := at_some (hU0.below SA.below).mth hlt
    have g1 := f1.big
    have g2 := f2.big
    have g3 := f3.big
    refine ld (hx1A.cell rfl) ?_
    rw [e2]
    refine ix ?_
    refine lda hAt ?_
    refine al fun b5 w10 h10 => ?_
    refine sta h10.box fun w11 k11 hx11 => ?_
    have BA11 : Bl wA w11 := h10.wr k11
    have z10 := h10.size
    have z11 := k11.size
    have y10 := h10.blk
    refine ld (hx11.cell rfl) ?_
    refine apl (enc := encTy) (base := w11.heap.size) (l0 := []) (l1 := m.params) (Ow.nil ..) (src_of (f1.bl BA11)) (Nat.le_refl _) (fun a12 cap12 w12 hO12 hA12 hf12 => ?_)
    have B1112 : Bl w11 w12 := hA12.below (Nat.le_refl _) fun g hg => absurd hg nn
    refine st (Bl.box B1112 hx11) fun w13 k13 hx13 => ?_
    have z12 := B1112.size
    have z13 := k13.size
    have BA13 : Bl wA w13 := (BA11.trans B1112).trans_wr k13 (by omega)
    refine ld (hx13.cell rfl) ?_
    refine apl (enc := encTy) (base := w13.heap.size) (l0 := []) (l1 := m.locals) (Ow.nil ..) (src_of (f2.bl BA13)) (Nat.le_refl _) (fun a14 cap14 w14 hO14 hA14 hf14 => ?_)
    have B1314 : Bl w13 w14 := hA14.below (Nat.le_refl _) fun g hg => absurd hg nn
    refine st (Bl.box B1314 hx13) fun w15 k15 hx15 => ?_
    have z14 := B1314.size
    have z15 := k15.size
    have BA15 : Bl wA w15 := (BA13.trans B1314).trans_wr k15 (by omega)
    refine ld (hx15.cell rfl) ?_
    refine apl (enc := encIns) (base := w15.heap.size) (l0 := []) (l1 := m.code) (Ow.nil ..) (src_of (f3.bl BA15)) (Nat.le_refl _) (fun a16 cap16 w16 hO16 hA16 hf16 => ?_)
    have B1516 : Bl w15 w16 := hA16.below (Nat.le_refl _) fun g hg => absurd hg nn
    refine st (Bl.box B1516 hx15) fun w17 k17 hx17 => ?_
    have z16 := B1516.size
    have z17 := k17.size
    have BA17 : Bl wA w17 := (BA15.trans B1516).trans_wr k17 (by omega)
    refine ld ((Bl.box BA17 hxA).cell rfl) ?_
    refine lda hx17.at ?_
    refine bs fun b18 w18 h18 => ?_
    have z18 := h18.size
    have BA18 : Bl wA w18 := BA17.trans h18.bl
    obtain ⟨xs, e1, e3, hOx, e4⟩ := (hOA.bl BA18).row
    have hl9 : (u.methods.take k).length ≤ 4194304 := by rw [List.length_take]; omega
    refine ap hOx (.inr ⟨b18, 0, rfl, h18.box.at⟩) (by omega) (fun a19 cap19 w19 hO19 hA19 hf19 => ?_)
    have hrel : eMth.rel (fun b => w9.heap.size ≤ b ∧ am ≠ some ⟨b, 0, none⟩ ∧ b < w18.heap.size) w18 (mcells m a12 cap12 a14 cap14 a16 cap16) m := by
      have p1 : Sl eTy (fun b => w9.heap.size ≤ b ∧ am ≠ some ⟨b, 0, none⟩ ∧ b < w18.heap.size ∧ b ≠ b5) w12 a12 m.params := owp_sl (enc := encTy) hO12 g1 fun g hg => by
        have q1 := hO12.lt hg
        exact ⟨by omega, fun e => by have := (hOA.lt e).2; omega, by omega, by omega⟩
      have p2 : Sl eTy (fun b => w9.heap.size ≤ b ∧ am ≠ some ⟨b, 0, none⟩ ∧ b < w18.heap.size ∧ b ≠ b5) w14 a14 m.locals := owp_sl (enc := encTy) hO14 g2 fun g hg => by
        have q1 := hO14.lt hg
        exact ⟨by omega, fun e => by have := (hOA.lt e).2; omega, by omega, by omega⟩
      have p3 : Sl eIns (fun b => w9.heap.size ≤ b ∧ am ≠ some ⟨b, 0, none⟩ ∧ b < w18.heap.size ∧ b ≠ b5) w16 a16 m.code := owp_sl (enc := encIns) hO16 g3 fun g hg => by
        have q1 := hO16.lt hg
        exact ⟨by omega, fun e => by have := (hOA.lt e).2; omega, by omega, by omega⟩
      refine ⟨a12, cap12, a14, cap14, a16, cap16, rfl, ?_, ?_, ?_⟩
      · exact ((((((p1.kp (k13.kp fun i hi => hi.2.2.2)).bl B1314).kp (k15.kp fun i hi => hi.2.2.2)).bl B1516).kp (k17.kp fun i hi => hi.2.2.2)).bl h18.bl).sub fun i hi => ⟨hi.1, hi.2.1, hi.2.2.1⟩
      · exact ((((p2.kp (k15.kp fun i hi => hi.2.2.2)).bl B1516).kp (k17.kp fun i hi => hi.2.2.2)).bl h18.bl).sub fun i hi => ⟨hi.1, hi.2.1, hi.2.2.1⟩
      · exact ((p3.kp (k17.kp fun i hi => hi.2.2.2)).bl h18.bl).sub fun i hi => ⟨hi.1, hi.2.1, hi.2.2.1⟩
    have hO19' := OwC.push e1 e3 e4 hO19 hA19 hf19 hrel
    have S19 := (SA.bl BA18).ap hA19 fun g hg => (hOA.lt hg).1
    refine st (hA19.box (Bl.box BA18 hxA) fun e => by have := (hOA.lt e).1; omega) fun w20 k20 hx20 => ?_
    have e5 : (u.methods.take k).length + 1 = (u.methods.take (k + 1)).length := by rw [take_succ_some hm]; simp
    rw [← take_succ_some hm] at hO19'
    refine ih hlt ⟨rfl, S19.wr k20 (.inl rfl), a19, cap19, hO19'.wr k20 (by omega) (fun i hi => by omega), ?_⟩
    rw [← e5]; exact hx20
  refine brF ?_
  obtain rfl : k = u.methods.length := by omega
  rw [List.take_length] at hOA hxA
  refine lda hxA.at ?_
  refine sta (SA.box hx29 (by omega)) fun wB kB hxB => ?_
  refine rtc hxB.at ⟨⟨a5, cap5, ac, cc, a7, cap7, am, cm⟩, rfl, ⟨hU.nm, hU.ps, ?_, ?_, ?_, ?_⟩, SA.below.trans (kB.below (by omega))⟩
  · exact ((hpool9.kp (SA.kp.sub fun i hi => ⟨by omega, by omega⟩)).kp (kB.kp fun i hi => by omega)).sub fun i hi => by omega
  · exact ((hcls.kp (SA.kp.sub fun i hi => ⟨by omega, by omega⟩)).kp (kB.kp fun i hi => by omega)).sub fun i hi => by omega
  · exact ((hsta9.kp (SA.kp.sub fun i hi => ⟨by omega, by omega⟩)).kp (kB.kp fun i hi => by omega)).sub fun i hi => by omega
  · exact ((OwC.sl2 hOA hp4).kp (kB.kp fun i hi => by omega)).sub fun i hi => by omega
end Go.Proofs.YtopjmiklpnejmaaGreatDoor
