/- Walks: the document's Check, its parts that read a unit. -/
import Derived.Test.YtopjmiklpnejmaaGreatDoorWb
import Derived.Test.YtopjmiklpnejmaaGreatDoorMd
namespace Go.Proofs.YtopjmiklpnejmaaGreatDoor
open Eng Go.RowKit
theorem r_limits (u : Unt) (a : UA) (w : World) (hU : UnR T w u a) : Ret Tryz.prog 57 #[.agg (ucells u a).toArray] w fun v w' => v = .bool (limits u) ∧ Bl w w' := by
  refine entr (vs := [.agg (ucells u a).toArray]) [0, 1, 2, 3, 4, 5, 6, 28, 33, 43, 48, 65, 75] tabok Tryz.func57 (by kernel_rfl) ?_
  have hbc := hU.cls.big
  have hbm := hU.mth.big
  refine bx (cs := ucells u a) fun b w1 hn => ?_
  refine ld (hn.box.cell rfl) ?_
  refine ldg (fun _ => hn.box.cell rfl) ?_
  refine ldg (fun _ => hn.box.cell rfl) ?_
  refine ldg (fun _ => hn.box.cell rfl) ?_
  refine br (fun h => ?_) (fun h => ?_)
  · refine rt1 ⟨vb ?_, hn.bl⟩
    simp only [Bool.or_eq_true, decide_eq_true_eq] at h
    symm
    simp only [limits, Bool.and_eq_false_iff, decide_eq_false_iff_not]
    omega
  simp only [Bool.or_eq_false_iff, decide_eq_false_iff_not] at h
  have hl : limits u = (u.classes.all lcls && u.methods.all lmth) := by
    unfold limits
    rw [decide_eq_true (by omega), decide_eq_true (by omega), decide_eq_true (by omega), decide_eq_true (by omega)]; rfl
  refine lpk u.classes.length 3 [] [(1, .pointer (some ⟨b, 0, none⟩))] (fun k vals w' => vals = [] ∧ (u.classes.take k).all lcls = true ∧ w1 = w') ⟨rfl, rfl, rfl⟩ ?_
  rintro k vals _ hk ⟨rfl, ha, rfl⟩ ih
  refine ld (hn.box.cell rfl) ?_
  by_cases hlt : k < u.classes.length
  · refine brT ?_
    obtain ⟨c, b2, o2, cs, hc, e2, _, hAt, ac, cap, rfl, hf⟩ := at_some (hU.bl hn.bl).cls hlt
    refine ld (hn.box.cell rfl) ?_
    rw [e2]
    refine ix ?_
    refine ld (hAt 2 _ rfl) ?_
    refine br (fun h1 => ?_) (fun h1 => ?_)
    · have := of_decide_eq_true h1
      refine rt1 ⟨vb ?_, hn.bl⟩
      rw [hl, all_miss hc (decide_eq_false (by omega))]; rfl
    · have := of_decide_eq_false h1
      exact ih hlt ⟨rfl, all_snoc' hc ha (decide_eq_true (by omega)), rfl⟩
  refine brF ?_
  obtain rfl : k = u.classes.length := by omega
  rw [all_end ha, Bool.true_and] at hl
  refine lpk u.methods.length 4 [] [(1, .pointer (some ⟨b, 0, none⟩))] (fun k vals w' => vals = [] ∧ (u.methods.take k).all lmth = true ∧ Bl w1 w') ⟨rfl, rfl, Bl.refl _⟩ ?_
  rintro k vals w2 hk ⟨rfl, ha, hB⟩ ih
  have hx := Bl.box hB hn.box
  refine ld (hx.cell rfl) ?_
  by_cases hlt : k < u.methods.length
  · refine brT ?_
    refine ld (hx.cell rfl) ?_
    obtain ⟨m, b2, o2, cs, hm, e2, _, hAt, a1, c1, a2, c2, a3, c3, rfl, h1, h2, h3⟩ := at_some (hU.bl (hn.bl.trans hB)).mth hlt
    have hb1 := h1.big
    have hb2 := h2.big
    rw [e2]
    refine ix ?_
    refine lda hAt ?_
    refine al fun b5 w3 h5 => ?_
    refine sta h5.box fun w4 h6 hbx => ?_
    refine ld (hbx.cell rfl) ?_
    refine ld (hbx.cell rfl) ?_
    refine ld (hbx.cell rfl) ?_
    have hB4 : Bl w2 w4 := h5.wr h6
    have hslots : IntKind.i64.wrap ((m.params.length : Int) + m.locals.length) = (m.params.length : Int) + m.locals.length := wrap_fit (by omega) (by omega)
    have hslots1 : IntKind.i64.wrap ((m.params.length : Int) + m.locals.length + 1) = (m.params.length : Int) + m.locals.length + 1 := wrap_fit (by omega) (by omega)
    have fin : ∀ {x y : Int}, x = m.params.length → y = mslots m → lmth m = !(decide (x > 4) || decide (y > 10)) := by
      rintro x y rfl rfl
      unfold lmth
      by_cases h1 : m.params.length ≤ 4 <;> by_cases h2 : mslots m ≤ 10 <;> simp [h1, h2] <;> omega
    refine br (fun hc => ?_) (fun hc => ?_)
    · have hc' := of_decide_eq_true hc
      have hy : IntKind.i64.wrap (IntKind.i64.wrap ((m.params.length : Int) + m.locals.length) + 1) = mslots m := by rw [hslots, hslots1]; simp [mslots, hc']
      refine ld (hbx.cell rfl) ?_
      refine br (fun h => ?_) (fun h => ?_)
      · exact rt1 ⟨vb (by rw [hl, all_miss hm (by rw [fin rfl hy]; exact congrArg (fun x => !x) h)]), hn.bl.trans (hB.trans hB4)⟩
      · exact ih hlt ⟨rfl, all_snoc' hm ha (by rw [fin rfl hy]; exact congrArg (fun x => !x) h), hB.trans hB4⟩
    · have hc' := of_decide_eq_false hc
      have hy : IntKind.i64.wrap ((m.params.length : Int) + m.locals.length) = mslots m := by rw [hslots]; simp only [mslots]; rw [if_pos (Classical.not_not.1 hc')]; omega
      refine ld (hbx.cell rfl) ?_
      refine br (fun h => ?_) (fun h => ?_)
      · exact rt1 ⟨vb (by rw [hl, all_miss hm (by rw [fin rfl hy]; exact congrArg (fun x => !x) h)]), hn.bl.trans (hB.trans hB4)⟩
      · exact ih hlt ⟨rfl, all_snoc' hm ha (by rw [fin rfl hy]; exact congrArg (fun x => !x) h), hB.trans hB4⟩
  refine brF ?_
  obtain rfl : k = u.methods.length := by omega
  rw [all_end ha] at hl
  exact rt1 ⟨vb hl.symm, hn.bl.trans hB⟩
theorem u_long1 (c : Cls) (cs : List Value) (S : Nat → Prop) (w : World) (hr : eCls.rel S w cs c) : Ret Tryz.prog 118 #[asV cs] w fun v w' => v = .bool (!lcls c) ∧ Bl w w' := by
  obtain ⟨a, cap, rfl, hf⟩ := hr
  refine entr (vs := [asV [I c.name, I c.super, .slice a c.fields.length cap]]) [0, 1, 2] tabok Tryz.func118 (by kernel_rfl) ?_
  refine bx (cs := [I c.name, I c.super, .slice a c.fields.length cap]) fun b w1 hn => ?_
  refine ld (hn.box.cell rfl) ?_
  refine rt1 ⟨vb ?_, hn.bl⟩
  unfold lcls
  by_cases h : c.fields.length ≤ 7 <;> simp [h] <;> omega
theorem u_long2 (m : Mth) (cs : List Value) (S : Nat → Prop) (w : World) (hr : eMth.rel S w cs m) : Ret Tryz.prog 119 #[asV cs] w fun v w' => v = .bool (!lmth m) ∧ Bl w w' := by
  obtain ⟨a1, c1, a2, c2, a3, c3, rfl, h1, h2, h3⟩ := hr
  have hb1 := h1.big
  have hb2 := h2.big
  refine entr (vs := [asV [I m.name, I m.cls, .slice a1 m.params.length c1, .slice a2 m.locals.length c2, I m.result.kind, I m.result.cls, .slice a3 m.code.length c3]]) [0, 1, 2, 3, 13] tabok Tryz.func119 (by kernel_rfl) ?_
  refine bx (cs := [I m.name, I m.cls, .slice a1 m.params.length c1, .slice a2 m.locals.length c2, I m.result.kind, I m.result.cls, .slice a3 m.code.length c3]) fun b w1 hn => ?_
  have hslots : IntKind.i64.wrap ((m.params.length : Int) + m.locals.length) = (m.params.length : Int) + m.locals.length := wrap_fit (by omega) (by omega)
  have hslots1 : IntKind.i64.wrap ((m.params.length : Int) + m.locals.length + 1) = (m.params.length : Int) + m.locals.length + 1 := wrap_fit (by omega) (by omega)
  have fin : ∀ {x y : Int}, x = m.params.length → y = mslots m → lmth m = !(decide (x > 4) || decide (y > 10)) := by
    rintro x y rfl rfl
    unfold lmth
    by_cases h1 : m.params.length ≤ 4 <;> by_cases h2 : mslots m ≤ 10 <;> simp [h1, h2] <;> omega
  refine ld (hn.box.cell rfl) ?_
  refine ld (hn.box.cell rfl) ?_
  refine ld (hn.box.cell rfl) ?_
  refine br (fun hc => ?_) (fun hc => ?_)
  · have hc' := of_decide_eq_true hc
    have hy : IntKind.i64.wrap (IntKind.i64.wrap ((m.params.length : Int) + m.locals.length) + 1) = mslots m := by rw [hslots, hslots1]; simp [mslots, hc']
    refine ld (hn.box.cell rfl) ?_
    exact rt1 ⟨vb (by rw [fin rfl hy, Bool.not_not]), hn.bl⟩
  · have hc' := of_decide_eq_false hc
    have hy : IntKind.i64.wrap ((m.params.length : Int) + m.locals.length) = mslots m := by rw [hslots]; simp only [mslots]; rw [if_pos (Classical.not_not.1 hc')]; omega
    refine ld (hn.box.cell rfl) ?_
    exact rt1 ⟨vb (by rw [fin rfl hy, Bool.not_not]), hn.bl⟩
theorem any_not {α : Type} (p : α → Bool) (l : List α) : (l.any fun x => !p x) = !(l.all p) := by induction l with
  | nil => rfl
  | cons x l ih => simp [ih]
theorem limits_not (u : Unt) : limits u = (!(decide (60 < (u.pool.length : Int)) || decide (10 < (u.classes.length : Int)) || decide (10 < (u.statics.length : Int)) || decide (16 < (u.methods.length : Int))) && u.classes.all lcls && u.methods.all lmth) := by
  unfold limits
  have e : ∀ n k : Nat, decide (n ≤ k) = !decide ((k : Int) < n) := fun n k => by by_cases h : n ≤ k <;> simp [h] <;> omega
  rw [e, e, e, e]
  simp only [Bool.not_or]; rfl
theorem u_long (u : Unt) (a : UA) (b : Nat) (w : World) (hx : At w b 0 (ucells u a)) (hU : UnR T w u a) : Ret Tryz.prog 50 #[.pointer (some ⟨b, 0, none⟩)] w fun v w' => v = .bool (!limits u) ∧ Bl w w' := by
  refine entr (vs := [.pointer (some ⟨b, 0, none⟩)]) [0, 2, 3, 4] tabok Tryz.func50 (by kernel_rfl) ?_
  have c1 := hx 1 _ rfl
  have c2 := hx 2 _ rfl
  have c3 := hx 3 _ rfl
  have c4 := hx 4 _ rfl
  rw [Nat.zero_add] at c1 c2 c3 c4
  refine ld c1 ?_
  refine ldg (fun _ => c2) ?_
  refine ldg (fun _ => c3) ?_
  refine ldg (fun _ => c4) ?_
  refine ldg (fun _ => c2) ?_
  refine sp (.bool true) (fun h1 => ?_) (fun h1 => ?_)
  · refine cl (ContainsFunc_cls u.classes _ _ 118 [] (fun x => !lcls x) T w hU.cls ?_) ?_
    · exact fun x cs _ w' _ hr => u_long1 x cs T w' hr
    rintro _ w1 ⟨rfl, hB⟩
    have c4' := hB.kp T _ _ _ trivial c4
    refine ldg (fun _ => c4') ?_
    refine sp (.bool true) (fun h2 => ?_) (fun h2 => ?_)
    · refine cl (ContainsFunc_mth u.methods _ _ 119 [] (fun x => !lmth x) T w1 (hU.bl hB).mth ?_) ?_
      · exact fun x cs _ w' _ hr => u_long2 x cs T w' hr
      rintro _ w2 ⟨rfl, hB2⟩
      refine rt1 ⟨vb ?_, hB.trans hB2⟩
      rw [any_not, Bool.false_or] at h2 ⊢
      rw [limits_not, h1]; revert h2; cases u.classes.all lcls <;> cases u.methods.all lmth <;> simp
    · refine rt1 ⟨vb ?_, hB⟩
      rw [any_not, Bool.false_or] at h2
      rw [limits_not, h1]; revert h2; cases u.classes.all lcls <;> simp
  · refine ldg (fun _ => c4) ?_
    refine sp (.bool true) (fun h2 => ?_) (fun h2 => ?_)
    · rw [h1] at h2; cases h2
    refine rt1 ⟨vb ?_, Bl.refl _⟩
    rw [limits_not, h1]; simp
end Go.Proofs.YtopjmiklpnejmaaGreatDoor
/- Walks: kinds of types, in the document. -/
namespace Go.Proofs.YtopjmiklpnejmaaGreatDoor
open Eng Go.RowKit
theorem r_bare (t : Ty) (w : World) : Ret Tryz.prog 178 #[.agg #[I t.kind, I t.cls]] w fun v w' => v = .bool (bare t) ∧ Bl w w' := by
  refine entr (vs := [.agg #[I t.kind, I t.cls]]) [0, 1, 2] tabok Tryz.func178 (by kernel_rfl) ?_
  refine bx (cs := [I t.kind, I t.cls]) fun b w1 hn => ?_
  refine ld (hn.box.cell rfl) ?_
  refine ldg (fun _ => hn.box.cell rfl) ?_
  refine ldg (fun _ => hn.box.cell rfl) ?_
  exact rt1 ⟨rfl, hn.bl⟩
theorem kin_not (t : Ty) : (decide (t.kind < 1) || decide (4 < t.kind)) = !kin t := by
  unfold kin
  by_cases h1 : 1 ≤ t.kind <;> by_cases h2 : t.kind ≤ 4 <;> simp [h1, h2] <;> omega
theorem kout_not (t : Ty) : (decide (t.kind < 0) || decide (4 < t.kind)) = !kout t := by
  unfold kout
  by_cases h1 : 0 ≤ t.kind <;> by_cases h2 : t.kind ≤ 4 <;> simp [h1, h2] <;> omega
theorem r_kinds (u : Unt) (a : UA) (w : World) (hU : UnR T w u a) (hL : Lim u) : Ret Tryz.prog 59 #[.agg (ucells u a).toArray] w fun v w' => v = .bool (kinds u) ∧ Bl w w' := by
  refine entr (vs := [.agg (ucells u a).toArray]) [0, 1, 2, 3, 4, 5, 6, 7, 8, 9, 10, 11, 16, 27, 46, 51, 66, 71, 88, 104, 114] tabok Tryz.func59 (by kernel_rfl) ?_
  have hbc := hU.cls.big
  have hbm := hU.mth.big
  have hbs := hU.sta.big
  refine bx (cs := ucells u a) fun b w1 hn => ?_
  refine lpk u.classes.length 3 [] [(1, .pointer (some ⟨b, 0, none⟩))] (fun k vals w' => vals = [] ∧ (u.classes.take k).all kcls = true ∧ w1 = w') ⟨rfl, rfl, rfl⟩ ?_
  rintro k vals _ hk ⟨rfl, ha, rfl⟩ ih
  refine ld (hn.box.cell rfl) ?_
  by_cases hlt : k < u.classes.length
  · refine brT ?_
    obtain ⟨c, b2, o2, cs, hc, e2, _, hAt, ac, cap, rfl, hf⟩ := at_some (hU.bl hn.bl).cls hlt
    have hbf := hf.big
    refine lpk c.fields.length 4 [] [(1, .pointer (some ⟨b, 0, none⟩)), (3, I k)] (fun k vals w' => vals = [] ∧ ((c.fields.take k).all fun f => kin f.ty) = true ∧ w1 = w') ⟨rfl, rfl, rfl⟩ ?_
    rintro j vals _ hj ⟨rfl, hb, rfl⟩ ih2
    refine ld (hn.box.cell rfl) ?_
    rw [e2]
    refine ix ?_
    refine ld (hAt 2 _ rfl) ?_
    by_cases hlt2 : j < c.fields.length
    · refine brT ?_
      obtain ⟨f, b3, o3, cs3, hf3, e3, _, hAt3, rfl⟩ := at_some hf hlt2
      refine ld (hn.box.cell rfl) ?_
      rw [e2]
      refine ix ?_
      refine ld (hAt 2 _ rfl) ?_
      rw [e3]
      refine ix ?_
      refine ld (hAt3 1 _ rfl) ?_
      refine br (t := decide (f.ty.kind < 1) || decide (4 < f.ty.kind)) (fun h1 => ?_) (fun h1 => ?_)
      · rw [kin_not] at h1
        refine rt1 ⟨vb ?_, hn.bl⟩
        unfold kinds
        rw [all_miss hc (all_miss hf3 (by simpa using h1))]; rfl
      · rw [kin_not] at h1
        exact ih2 hlt2 ⟨rfl, all_snoc' hf3 hb (by simpa using h1), rfl⟩
    · refine brF ?_
      obtain rfl : j = c.fields.length := by omega
      exact ih hlt ⟨rfl, all_snoc' hc ha (all_end hb), rfl⟩
  refine brF ?_
  obtain rfl : k = u.classes.length := by omega
  have hk1 := all_end ha
  refine lpk u.statics.length 6 [] [(1, .pointer (some ⟨b, 0, none⟩))] (fun k vals w' => vals = [] ∧ ((u.statics.take k).all fun f => kin f.ty) = true ∧ w1 = w') ⟨rfl, rfl, rfl⟩ ?_
  rintro k vals _ hk ⟨rfl, ha2, rfl⟩ ih2
  refine ld (hn.box.cell rfl) ?_
  by_cases hlt2 : k < u.statics.length
  · refine brT ?_
    obtain ⟨f, b3, o3, cs3, hf3, e3, _, hAt3, rfl⟩ := at_some (hU.bl hn.bl).sta hlt2
    refine ld (hn.box.cell rfl) ?_
    rw [e3]
    refine ix ?_
    refine ld (hAt3 1 _ rfl) ?_
    refine br (t := decide (f.ty.kind < 1) || decide (4 < f.ty.kind)) (fun h1 => ?_) (fun h1 => ?_)
    · rw [kin_not] at h1
      refine rt1 ⟨vb ?_, hn.bl⟩
      unfold kinds
      rw [all_miss hf3 (p := fun f => kin f.ty) (by simpa using h1)]; simp
    · rw [kin_not] at h1
      exact ih2 hlt2 ⟨rfl, all_snoc' hf3 ha2 (by simpa using h1), rfl⟩
  refine brF ?_
  obtain rfl : k = u.statics.length := by omega
  have hk2 := all_end ha2
  have hk3 : kinds u = u.methods.all kmth := by unfold kinds; rw [hk1, hk2]; rfl
  refine lpk u.methods.length 8 [] [(1, .pointer (some ⟨b, 0, none⟩))] (fun k vals w' => vals = [] ∧ (u.methods.take k).all kmth = true ∧ Bl w1 w') ⟨rfl, rfl, Bl.refl _⟩ ?_
  rintro k vals w2 hk ⟨rfl, ha3, hB⟩ ih3
  have hx := Bl.box hB hn.box
  refine ld (hx.cell rfl) ?_
  by_cases hlt3 : k < u.methods.length
  · refine brT ?_
    refine ld (hx.cell rfl) ?_
    obtain ⟨m, b2, o2, cs, hm, e2, _, hAt, a1, c1, a2, c2, a3, c3, rfl, h1, h2, h3⟩ := at_some (hU.bl (hn.bl.trans hB)).mth hlt3
    have hb1 := h1.big
    have hb2 := h2.big
    rw [e2]
    refine ix ?_
    refine lda hAt ?_
    refine al fun b5 w3 h5 => ?_
    refine sta h5.box fun w4 h6 hbx => ?_
    have hB4 : Bl w2 w4 := h5.wr h6
    refine dh (fun i => i < w4.heap.size) [0, 1, 3, 4, 2, 5, 6] fun w5 h7 => ?_
    have hB5 := hB4.trans h7.bl
    have hbx5 := h7.box hbx
    have hl4 := hbx.lt
    have hz : w5.heap.size = w4.heap.size := by rw [h7.heap]
    refine ld (hbx5.cell rfl) ?_
    refine ld (hbx5.cell rfl) ?_
    have h15 := h1.bl hB5
    have h25 := h2.bl hB5
    refine apl (enc := encTy) (l0 := []) (Ow.nil w5 w4.heap.size 61 2) (src_of h15) (by omega) (fun a6 cap6 w6 hO6 hA6 hf6 => ?_) (hm := apS (fun g hg => by cases hg))
    have hl6 : ∀ g, a6 = some ⟨g, 0, none⟩ → ¬ g < w4.heap.size := fun g hg => by
      rcases hf6 g hg with h | h
      · cases h
      · omega
    have hB6 : Bl w2 w6 := Below.trans hB5 (hA6.below (by have := hB5.size; omega) fun g hg => by cases hg)
    have hz6 : w5.heap.size ≤ w6.heap.size := hA6.size
    have h26 := h25.kp (hA6.kp.sub (S' := T) fun i _ e => by cases e)
    refine apl (enc := encTy) (l0 := [] ++ m.params) hO6 (src_of h26) (by omega) (fun a7 cap7 w7 hO7 hA7 hf7 => ?_) (hm := apS hl6)
    have hB7 : Bl w2 w7 := Below.trans hB6 (hA7.below (by have := hB4.size; omega) fun g hg => by have := hl6 g hg; have := hB4.size; omega)
    have hbx7 : Box w7 b5 64 [I m.name, I m.cls, .slice a1 m.params.length c1, .slice a2 m.locals.length c2, I m.result.kind, I m.result.cls, .slice a3 m.code.length c3] := hA7.box (hA6.box hbx5 (by simp)) fun e => hl6 _ e hl4
    have hml := hL.locs m (List.mem_of_getElem? hm)
    have hS7 : Sl eTy T w7 a7 (([] ++ m.params) ++ m.locals) := owp_sl hO7 (by simp; omega) (fun _ _ => trivial)
    have hbn := hS7.big
    have hall : (([] ++ m.params) ++ m.locals).all kin = (m.params.all kin && m.locals.all kin) := by rw [List.nil_append, List.all_append]
    generalize ([] ++ m.params) ++ m.locals = ts at hS7 hbn hall
    refine lpk ts.length 11 [] [(1, .pointer (some ⟨b, 0, none⟩)), (8, I k), (9, .pointer (some ⟨b5, 0, none⟩)), (10, .slice a7 ts.length cap7)] (fun k vals w' => vals = [] ∧ (ts.take k).all kin = true ∧ w7 = w') ⟨rfl, rfl, rfl⟩ ?_
    rintro j vals _ hj ⟨rfl, hb, rfl⟩ ih4
    by_cases hlt4 : j < ts.length
    · refine brT ?_
      obtain ⟨t, b8, o8, cs8, ht, rfl, _, hAt8, rfl⟩ := at_some hS7 hlt4
      refine ix ?_
      refine ld (hAt8 0 _ rfl) ?_
      refine ixg (fun _ => hlt4) ?_
      refine ldg (fun _ => hAt8 0 _ rfl) ?_
      refine br (t := decide (t.kind < 1) || decide (4 < t.kind)) (fun h1 => ?_) (fun h1 => ?_)
      · rw [kin_not] at h1
        refine rt1 ⟨vb ?_, hn.bl.trans (hB.trans hB7)⟩
        rw [hk3, all_miss hm]
        unfold kmth
        rw [← hall, all_miss ht (by simpa using h1)]; rfl
      · rw [kin_not] at h1
        exact ih4 hlt4 ⟨rfl, all_snoc' ht hb (by simpa using h1), rfl⟩
    refine brF ?_
    obtain rfl : j = ts.length := by omega
    rw [all_end hb] at hall
    refine ld (hbx7.cell rfl) ?_
    refine ldg (fun _ => hbx7.cell rfl) ?_
    refine br (t := decide (m.result.kind < 0) || decide (4 < m.result.kind)) (fun h1 => ?_) (fun h1 => ?_)
    · rw [kout_not] at h1
      refine rt1 ⟨vb ?_, hn.bl.trans (hB.trans hB7)⟩
      rw [hk3, all_miss hm]
      unfold kmth
      rw [← hall]; simpa using h1
    · rw [kout_not] at h1
      refine ih3 hlt3 ⟨rfl, all_snoc' hm ha3 ?_, hB.trans hB7⟩
      unfold kmth
      rw [← hall]; simpa using h1
  refine brF ?_
  obtain rfl : k = u.methods.length := by omega
  rw [all_end ha3] at hk3
  exact rt1 ⟨vb hk3.symm, hn.bl.trans hB⟩
end Go.Proofs.YtopjmiklpnejmaaGreatDoor
/- Walks: what a unit refers to, in the document. -/
namespace Go.Proofs.YtopjmiklpnejmaaGreatDoor
open Eng Go.RowKit
theorem r_typed (t : Ty) (w : World) : Ret Tryz.prog 131 #[.agg #[I t.kind, I t.cls]] w fun v w' => v = .agg (encRf (typed t)).toArray ∧ Bl w w' := by
  refine entr (vs := [.agg #[I t.kind, I t.cls]]) [0, 1, 2] tabok Tryz.func131 (by kernel_rfl) ?_
  refine bx (cs := [I t.kind, I t.cls]) fun b w1 hn => ?_
  refine al fun b2 w2 h2 => ?_
  have hb := Bl.box h2.bl hn.box
  refine ld (hb.cell rfl) ?_
  refine ld (hb.cell rfl) ?_
  refine ldg (fun _ => hb.cell rfl) ?_
  refine bd ?_
  refine sta h2.box fun w3 h3 hb3 => ?_
  refine rtc hb3.at ⟨?_, hn.bl.trans (h2.wr h3)⟩
  unfold typed tcls
  by_cases h1 : t.kind = 2 <;> by_cases h2 : t.kind = 4 <;> simp [h1, h2, encRf]
theorem cref_len {u : Unt} (hL : Lim u) : ∀ c ∈ u.classes, (cref c).length ≤ 16 := fun c hc => by
  have := hL.flds c hc
  have h2 := flatMap_le (f := fref) (B := 2) (l := c.fields) fun f _ => Nat.le_refl _
  simp only [cref, List.length_append, List.length_cons, List.length_nil]; omega
theorem mref_len {u : Unt} (hL : Lim u) : ∀ m ∈ u.methods, (mref m).length ≤ 13 := fun m hm => by
  have := hL.locs m hm
  simp only [mref, List.length_append, List.length_cons, List.length_nil, List.length_map]; omega
theorem r_Refs (u : Unt) (a : UA) (w : World) (hU : UnR T w u a) (hL : Lim u) : Ret Tryz.prog 58 #[.agg (ucells u a).toArray] w fun v w' => ∃ a' cap, v = .slice a' (refs u).length cap ∧ Sl eRf T w' a' (refs u) ∧ Bl w w' := by
  have hU0 := hU.lt
  have hl1 := hL.cls
  have hl2 := hL.sta
  have hl3 := hL.mth
  refine entr (vs := [.agg (ucells u a).toArray]) [0, 1, 2, 3, 4, 5, 6, 7, 8, 9, 10, 11, 16, 37, 61, 85, 106, 122] tabok Tryz.func58 (by kernel_rfl) ?_
  refine bx (cs := ucells u a) fun b w1 hn => ?_
  refine lpk u.classes.length 4 [3] [(1, .pointer (some ⟨b, 0, none⟩))] (fun k vals w' => ∃ a1 n cap, vals = [.slice a1 n cap] ∧ n = ((u.classes.take k).flatMap cref).length ∧ OwP 3 encRf w' w1.heap.size 78 a1 cap ((u.classes.take k).flatMap cref) ∧ Bl w1 w') ⟨none, 0, 0, rfl, rfl, Ow.nil .., Bl.refl _⟩ ?_
  rintro k vals w2 hk ⟨a1, _, cap1, rfl, rfl, hO, hB⟩ ih
  have hlen := flatMap_take_le (cref_len hL) hk
  have hx := Bl.box hB hn.box
  refine ld (hx.cell rfl) ?_
  by_cases hlt : k < u.classes.length
  · refine brT ?_
    obtain ⟨c, b2, o2, cs, hc, e2, _, hAt, ac, cap, rfl, hf⟩ := at_some (hU0.below (hn.bl.trans hB)).cls hlt
    refine ld (hx.cell rfl) ?_
    rw [e2]
    refine ix ?_
    refine lda hAt ?_
    refine al fun b5 w3 h5 => ?_
    refine sta h5.box fun w4 h6 hbx => ?_
    have hB4 := hB.trans (h5.wr h6)
    refine ld (hbx.cell rfl) ?_
    refine bd ?_
    refine ld (hbx.cell rfl) ?_
    refine bd ?_
    refine bs fun b7 w5 h7 => ?_
    have hsz : w1.heap.size ≤ w5.heap.size := by have := hB4.size; have := h7.bl.size; omega
    refine apl (enc := encRf) (l1 := [⟨c.name, 1, false⟩, ⟨c.super, 2, true⟩]) (hO.bl ((h5.wr h6).trans h7.bl)) (.inr ⟨b7, 0, rfl, h7.box.at⟩) hsz (fun a6 cap6 w6 hO6 hA6 hf6 => ?_)
    have hB6 := hB4.trans (h7.bl)
    have hne6 : a6 ≠ some ⟨b5, 0, none⟩ := fun e => by
      rcases hf6 _ e with h | h
      · have := (hO.lt h).2; have := h5.blk; omega
      · have := hbx.lt; have := h7.bl.size; omega
    have hB6' : Bl w1 w6 := (hO.bl ((h5.wr h6).trans h7.bl)).below hA6 hB6 hsz
    have hB26 : Below w1.heap.size w2 w6 := (hO.bl ((h5.wr h6).trans h7.bl)).below hA6 (((h5.wr h6).trans h7.bl).mono hB.size) hsz
    have hx6 : Box w6 b5 58 [I c.name, I c.super, .slice ac c.fields.length cap] := hA6.box (Bl.box h7.bl hbx) fun e => by have := (hO.lt e).2; have := h5.blk; omega
    have hlc := hL.flds c (List.mem_of_getElem? hc)
    generalize hLL : (u.classes.take k).flatMap cref ++ [⟨c.name, 1, false⟩, ⟨c.super, 2, true⟩] = LL at hO6
    have hLlen : LL.length ≤ u.classes.length * 16 + 2 := by rw [← hLL]; simp only [List.length_append, List.length_cons, List.length_nil]; omega
    refine lpk c.fields.length 6 [3] [(1, .pointer (some ⟨b, 0, none⟩)), (4, I k), (5, .pointer (some ⟨b5, 0, none⟩))] (fun j vals w' => ∃ a1 n q, vals = [.slice a1 n q] ∧ n = (LL ++ (c.fields.take j).flatMap fref).length ∧
      OwP 3 encRf w' w1.heap.size 78 a1 q (LL ++ (c.fields.take j).flatMap fref) ∧ Below w1.heap.size w2 w' ∧ Box w' b5 58 [I c.name, I c.super, .slice ac c.fields.length cap] ∧ a1 ≠ some ⟨b5, 0, none⟩) ⟨a6, LL.length, cap6, rfl, by simp, by simpa using hO6, hB26, hx6, hne6⟩ ?_
    rintro j vals w7 hj ⟨a8, _, cap8, rfl, rfl, hO8, hB27, hx8, hne8⟩ ih2
    have hB8' : Below w1.heap.size w1 w7 := Below.trans hB hB27
    refine ld (hx8.cell rfl) ?_
    by_cases hlt2 : j < c.fields.length
    · refine brT ?_
      have hlen2 := flatMap_take_le (f := fref) (B := 2) (fun f _ => Nat.le_refl _) hj
      have hnj : (LL ++ (c.fields.take j).flatMap fref).length ≤ 200 := by rw [List.length_append]; omega
      obtain ⟨f, b3, o3, cs3, hf3, e3, hS3, hAt3, rfl⟩ := at_some (hf.kp (Below.kp (hB27.mono (by have := hn.bl.size; have := hB.size; omega)))) hlt2
      have hne3 : a8 ≠ some ⟨b3, 0, none⟩ := fun e => by have := (hO8.lt e).1; have := hn.bl.size; omega
      refine dh (fun i => a8 ≠ some ⟨i, 0, none⟩) (List.range 18) fun w8 h8 => ?_
      have hx9 := h8.box hx8
      refine ld (hx9.cell rfl) ?_
      rw [e3]
      refine ix ?_
      have hAt8 := hAt3.bl h8.bl
      refine ld (hAt8 0 _ rfl) ?_
      refine bd ?_
      refine ld (hx9.cell rfl) ?_
      rw [e3]
      refine ix ?_
      refine lda hAt8.tail ?_
      refine cl (r_typed f.ty _) ?_
      rintro _ w9 ⟨rfl, h9⟩
      refine bs fun b10 w10 h10 => ?_
      have hB10 := (h8.bl.trans h9).trans h10.bl
      have hsz10 : w1.heap.size ≤ w10.heap.size := by have := hB8'.size; have := hB10.size; omega
      have hff : (fref f).length = 2 := rfl
      refine apl (enc := encRf) (l1 := fref f) (hO8.bl hB10) (.inr ⟨b10, 0, rfl, h10.box.at⟩) hsz10 (fun a11 cap11 w11 hO11 hA11 hf11 => ?_) (hm := apS (S := fun i => a8 ≠ some ⟨i, 0, none⟩) fun g hg h => h hg)
      have e : (LL ++ (c.fields.take j).flatMap fref) ++ fref f = LL ++ (c.fields.take (j + 1)).flatMap fref := by rw [flatMap_snoc hf3, List.append_assoc]
      rw [e] at hO11
      refine ih2 hlt2 ⟨a11, _, cap11, rfl, congrArg List.length e, hO11, ?_, ?_, ?_⟩
      · exact (hO8.bl hB10).below hA11 (Below.trans hB27 (hB10.mono hB8'.size)) hsz10
      · exact hA11.box (Bl.box h10.bl (Bl.box h9 hx9)) hne8
      · intro e
        rcases hf11 _ e with h | h
        · exact hne8 h
        · have := hx9.lt; have := h9.size; have := h10.bl.size; omega
    · refine brF ?_
      obtain rfl : j = c.fields.length := by omega
      have e : LL ++ (c.fields.take c.fields.length).flatMap fref = (u.classes.take (k + 1)).flatMap cref := by rw [flatMap_snoc hc, ← hLL, List.take_length, cref, List.append_assoc]
      rw [e] at hO8
      exact ih hlt ⟨a8, _, cap8, rfl, congrArg List.length e, hO8, hB8'⟩
  refine brF ?_
  obtain rfl : k = u.classes.length := by omega
  rw [List.take_length] at hO hlen ⊢
  clear ih hx
  refine lpk u.statics.length 7 [3] [(1, .pointer (some ⟨b, 0, none⟩))] (fun k vals w' => ∃ a1 n q, vals = [.slice a1 n q] ∧ n = (u.classes.flatMap cref ++ (u.statics.take k).flatMap fref).length ∧ OwP 3 encRf w' w1.heap.size 78 a1 q (u.classes.flatMap cref ++ (u.statics.take k).flatMap fref) ∧ Bl w1 w') ⟨a1, (u.classes.flatMap cref).length, cap1, rfl, by simp, by simpa using hO, hB⟩ ?_
  clear hO hB
  rintro k vals w2 hk ⟨a1, _, cap1, rfl, rfl, hO, hB⟩ ih
  have hlen2 := flatMap_take_le (f := fref) (B := 2) (fun f _ => Nat.le_refl _) hk
  have hx := Bl.box hB hn.box
  refine ld (hx.cell rfl) ?_
  by_cases hlt : k < u.statics.length
  · refine brT ?_
    have hnj : (u.classes.flatMap cref ++ (u.statics.take k).flatMap fref).length ≤ 200 := by rw [List.length_append]; omega
    obtain ⟨f, b3, o3, cs3, hf3, e3, hS3, hAt3, rfl⟩ := at_some (hU0.below (hn.bl.trans hB)).sta hlt
    have hne3 : a1 ≠ some ⟨b3, 0, none⟩ := fun e => by have := (hO.lt e).1; have := hn.bl.size; omega
    have hneb : a1 ≠ some ⟨b, 0, none⟩ := fun e => by have := (hO.lt e).1; have := hn.box.lt; omega
    refine dh (fun i => a1 ≠ some ⟨i, 0, none⟩) (List.range 18) fun w8 h8 => ?_
    have hx9 := h8.box hx
    refine ld (hx9.cell rfl) ?_
    rw [e3]
    refine ix ?_
    have hAt8 := hAt3.bl h8.bl
    refine ld (hAt8 0 _ rfl) ?_
    refine bd ?_
    refine ld (hx9.cell rfl) ?_
    rw [e3]
    refine ix ?_
    refine lda hAt8.tail ?_
    refine cl (r_typed f.ty _) ?_
    rintro _ w9 ⟨rfl, h9⟩
    refine bs fun b10 w10 h10 => ?_
    have hB10 := (h8.bl.trans h9).trans h10.bl
    have hsz10 : w1.heap.size ≤ w10.heap.size := by have := hB.size; have := hB10.size; omega
    have hff : (fref f).length = 2 := rfl
    refine apl (enc := encRf) (l1 := fref f) (hO.bl hB10) (.inr ⟨b10, 0, rfl, h10.box.at⟩) hsz10 (fun a11 cap11 w11 hO11 hA11 hf11 => ?_) (hm := apS (S := fun i => a1 ≠ some ⟨i, 0, none⟩) fun g hg h => h hg)
    have e : (u.classes.flatMap cref ++ (u.statics.take k).flatMap fref) ++ fref f = u.classes.flatMap cref ++ (u.statics.take (k + 1)).flatMap fref := by rw [flatMap_snoc hf3, List.append_assoc]
    rw [e] at hO11
    exact ih hlt ⟨a11, _, cap11, rfl, congrArg List.length e, hO11, (hO.bl hB10).below hA11 (hB.trans hB10) hsz10⟩
  refine brF ?_
  obtain rfl : k = u.statics.length := by omega
  rw [List.take_length] at hO hlen2 ⊢
  clear ih hx
  generalize hQ : u.classes.flatMap cref ++ u.statics.flatMap fref = Q at hO ⊢
  have hQl : Q.length ≤ 200 := by rw [← hQ, List.length_append]; omega
  refine lpk u.methods.length 8 [3] [(1, .pointer (some ⟨b, 0, none⟩))] (fun k vals w' => ∃ a1 n q, vals = [.slice a1 n q] ∧ n = (Q ++ (u.methods.take k).flatMap mref).length ∧ OwP 3 encRf w' w1.heap.size 78 a1 q (Q ++ (u.methods.take k).flatMap mref) ∧ Bl w1 w') ⟨a1, Q.length, cap1, rfl, by simp, by simpa using hO, hB⟩ ?_
  clear hO hB
  rintro k vals w2 hk ⟨a1, _, cap1, rfl, rfl, hO, hB⟩ ih
  have hlen3 := flatMap_take_le (mref_len hL) hk
  have hx := Bl.box hB hn.box
  refine ld (hx.cell rfl) ?_
  by_cases hlt : k < u.methods.length
  · refine brT ?_
    obtain ⟨m, b2, o2, cs, hm, e2, _, hAt, am1, cm1, am2, cm2, am3, cm3, rfl, h1, h2, h3⟩ := at_some (hU0.below (hn.bl.trans hB)).mth hlt
    refine ld (hx.cell rfl) ?_
    rw [e2]
    refine ix ?_
    refine lda hAt ?_
    refine al fun b5 w3 h5 => ?_
    refine sta h5.box fun w4 h6 hbx => ?_
    have hB4 := hB.trans (h5.wr h6)
    refine ld (hbx.cell rfl) ?_
    refine bd ?_
    refine ld (hbx.cell rfl) ?_
    refine bd ?_
    refine bs fun b7 w5 h7 => ?_
    have hsz : w1.heap.size ≤ w5.heap.size := by have := hB4.size; have := h7.bl.size; omega
    have hnk : (Q ++ (u.methods.take k).flatMap mref).length ≤ 500 := by rw [List.length_append]; omega
    refine apl (enc := encRf) (l1 := [⟨m.name, 1, false⟩, ⟨m.cls, 2, true⟩]) (hO.bl ((h5.wr h6).trans h7.bl)) (.inr ⟨b7, 0, rfl, h7.box.at⟩) hsz (fun a6 cap6 w6 hO6 hA6 hf6 => ?_)
    have hB6 := hB4.trans (h7.bl)
    have hne6 : a6 ≠ some ⟨b5, 0, none⟩ := fun e => by
      rcases hf6 _ e with h | h
      · have := (hO.lt h).2; have := h5.blk; omega
      · have := hbx.lt; have := h7.bl.size; omega
    have hB26 : Below w1.heap.size w2 w6 := (hO.bl ((h5.wr h6).trans h7.bl)).below hA6 (((h5.wr h6).trans h7.bl).mono hB.size) hsz
    have hx6 : Box w6 b5 64 (mcells m am1 cm1 am2 cm2 am3 cm3) := hA6.box (Bl.box h7.bl hbx) fun e => by have := (hO.lt e).2; have := h5.blk; omega
    have hlc := hL.locs m (List.mem_of_getElem? hm)
    generalize hLL : (Q ++ (u.methods.take k).flatMap mref) ++ [⟨m.name, 1, false⟩, ⟨m.cls, 2, true⟩] = LL at hO6
    have hLlen : LL.length ≤ 502 := by rw [← hLL]; simp only [List.length_append, List.length_cons, List.length_nil] at hnk ⊢; omega
    refine lpk m.params.length 10 [3] [(1, .pointer (some ⟨b, 0, none⟩)), (8, I k), (9, .pointer (some ⟨b5, 0, none⟩))] (fun j vals w' => ∃ a1 n q, vals = [.slice a1 n q] ∧ n = (LL ++ (m.params.take j).map typed).length ∧
      OwP 3 encRf w' w1.heap.size 78 a1 q (LL ++ (m.params.take j).map typed) ∧ Below w1.heap.size w2 w' ∧ Box w' b5 64 (mcells m am1 cm1 am2 cm2 am3 cm3) ∧ a1 ≠ some ⟨b5, 0, none⟩) ⟨a6, LL.length, cap6, rfl, by simp, by simpa using hO6, hB26, hx6, hne6⟩ ?_
    rintro j vals w7 hj ⟨a8, _, cap8, rfl, rfl, hO8, hB27, hx8, hne8⟩ ih2
    have hB8' : Below w1.heap.size w1 w7 := Below.trans hB hB27
    refine ld (hx8.cell rfl) ?_
    by_cases hlt2 : j < m.params.length
    · refine brT ?_
      have hnj : (LL ++ (m.params.take j).map typed).length ≤ 600 := by rw [List.length_append, List.length_map, List.length_take]; omega
      obtain ⟨t, b3, o3, cs3, hf3, e3, hS3, hAt3, rfl⟩ := at_some (h1.kp (Below.kp (hB27.mono (by have := hn.bl.size; have := hB.size; omega)))) hlt2
      refine ld (hx8.cell rfl) ?_
      rw [e3]
      refine ix ?_
      refine lda hAt3 ?_
      refine cl (r_typed t _) ?_
      rintro _ w9 ⟨rfl, h9⟩
      refine bs fun b10 w10 h10 => ?_
      have hB10 := h9.trans h10.bl
      have hsz10 : w1.heap.size ≤ w10.heap.size := by have := hB8'.size; have := hB10.size; omega
      have h1l : ([typed t] : List Rf).length = 1 := rfl
      refine apl (enc := encRf) (l1 := [typed t]) (hO8.bl hB10) (.inr ⟨b10, 0, rfl, h10.box.at⟩) hsz10 (fun a11 cap11 w11 hO11 hA11 hf11 => ?_)
      have e : (LL ++ (m.params.take j).map typed) ++ [typed t] = LL ++ (m.params.take (j + 1)).map typed := by rw [map_snoc hf3, List.append_assoc]
      rw [e] at hO11
      refine ih2 hlt2 ⟨a11, _, cap11, rfl, congrArg List.length e, hO11, ?_, ?_, ?_⟩
      · exact (hO8.bl hB10).below hA11 (Below.trans hB27 (hB10.mono hB8'.size)) hsz10
      · exact hA11.box (Bl.box hB10 hx8) hne8
      · intro e
        rcases hf11 _ e with h | h
        · exact hne8 h
        · have := hx8.lt; have := h9.size; have := h10.bl.size; omega
    refine brF ?_
    obtain rfl : j = m.params.length := by omega
    rw [List.take_length] at hO8
    rw [List.take_length]
    clear ih2
    have hLlen2 : (LL ++ m.params.map typed).length ≤ 520 := by rw [List.length_append, List.length_map]; omega
    generalize hL2 : LL ++ m.params.map typed = LM at hO8 hLlen2 ⊢
    refine lpk m.locals.length 11 [3] [(1, .pointer (some ⟨b, 0, none⟩)), (8, I k), (9, .pointer (some ⟨b5, 0, none⟩))] (fun j vals w' => ∃ a1 n q, vals = [.slice a1 n q] ∧ n = (LM ++ (m.locals.take j).map typed).length ∧
      OwP 3 encRf w' w1.heap.size 78 a1 q (LM ++ (m.locals.take j).map typed) ∧ Below w1.heap.size w2 w' ∧ Box w' b5 64 (mcells m am1 cm1 am2 cm2 am3 cm3) ∧ a1 ≠ some ⟨b5, 0, none⟩) ⟨a8, LM.length, cap8, rfl, by simp, by simpa using hO8, hB27, hx8, hne8⟩ ?_
    clear hO8 hB27 hx8 hne8 hB8'
    rintro j vals w7 hj ⟨a8, _, cap8, rfl, rfl, hO8, hB27, hx8, hne8⟩ ih2
    have hB8' : Below w1.heap.size w1 w7 := Below.trans hB hB27
    refine ld (hx8.cell rfl) ?_
    by_cases hlt2 : j < m.locals.length
    · refine brT ?_
      have hnj : (LM ++ (m.locals.take j).map typed).length ≤ 600 := by rw [List.length_append, List.length_map, List.length_take]; omega
      obtain ⟨t, b3, o3, cs3, hf3, e3, hS3, hAt3, rfl⟩ := at_some (h2.kp (Below.kp (hB27.mono (by have := hn.bl.size; have := hB.size; omega)))) hlt2
      refine ld (hx8.cell rfl) ?_
      rw [e3]
      refine ix ?_
      refine lda hAt3 ?_
      refine cl (r_typed t _) ?_
      rintro _ w9 ⟨rfl, h9⟩
      refine bs fun b10 w10 h10 => ?_
      have hB10 := h9.trans h10.bl
      have hsz10 : w1.heap.size ≤ w10.heap.size := by have := hB8'.size; have := hB10.size; omega
      have h1l : ([typed t] : List Rf).length = 1 := rfl
      refine apl (enc := encRf) (l1 := [typed t]) (hO8.bl hB10) (.inr ⟨b10, 0, rfl, h10.box.at⟩) hsz10 (fun a11 cap11 w11 hO11 hA11 hf11 => ?_)
      have e : (LM ++ (m.locals.take j).map typed) ++ [typed t] = LM ++ (m.locals.take (j + 1)).map typed := by rw [map_snoc hf3, List.append_assoc]
      rw [e] at hO11
      refine ih2 hlt2 ⟨a11, _, cap11, rfl, congrArg List.length e, hO11, ?_, ?_, ?_⟩
      · exact (hO8.bl hB10).below hA11 (Below.trans hB27 (hB10.mono hB8'.size)) hsz10
      · exact hA11.box (Bl.box hB10 hx8) hne8
      · intro e
        rcases hf11 _ e with h | h
        · exact hne8 h
        · have := hx8.lt; have := h9.size; have := h10.bl.size; omega
    refine brF ?_
    obtain rfl : j = m.locals.length := by omega
    rw [List.take_length] at hO8
    rw [List.take_length]
    clear ih2
    have hLlen3 : (LM ++ m.locals.map typed).length ≤ 540 := by rw [List.length_append, List.length_map]; omega
    refine lda (At.left (cs := [I m.result.kind, I m.result.cls]) hx8.at.tail.tail.tail.tail) ?_
    refine cl (r_typed m.result _) ?_
    rintro _ w9 ⟨rfl, h9⟩
    refine bs fun b10 w10 h10 => ?_
    have hB10 := h9.trans h10.bl
    have hsz10 : w1.heap.size ≤ w10.heap.size := by have := hB8'.size; have := hB10.size; omega
    have h1l : ([typed m.result] : List Rf).length = 1 := rfl
    refine apl (enc := encRf) (l1 := [typed m.result]) (hO8.bl hB10) (.inr ⟨b10, 0, rfl, h10.box.at⟩) hsz10 (fun a11 cap11 w11 hO11 hA11 hf11 => ?_)
    have e : (LM ++ m.locals.map typed) ++ [typed m.result] = Q ++ (u.methods.take (k + 1)).flatMap mref := by
      rw [flatMap_snoc hm, ← hL2, ← hLL]; simp only [mref, List.append_assoc]
    rw [e] at hO11
    exact ih hlt ⟨a11, _, cap11, rfl, congrArg List.length e, hO11, Below.trans hB ((hO8.bl hB10).below hA11 (Below.trans hB27 (hB10.mono hB8'.size)) hsz10)⟩
  refine brF ?_
  obtain rfl : k = u.methods.length := by omega
  rw [List.take_length] at hO hlen3
  rw [List.take_length]
  have e : Q ++ u.methods.flatMap mref = refs u := by rw [← hQ]; rfl
  rw [e] at hO ⊢
  refine rt1 ⟨a1, cap1, rfl, owp_sl hO ?_ (fun _ _ => trivial), hn.bl.trans hB⟩
  rw [← e, List.length_append]; omega
end Go.Proofs.YtopjmiklpnejmaaGreatDoor
/- Walks: the places, the doubled names of a unit, in the document. -/
namespace Go.Proofs.YtopjmiklpnejmaaGreatDoor
open Eng Go.RowKit
theorem r_classless (u : Unt) (a : UA) (w : World) (hU : UnR T w u a) (hL : Lim u) : Ret Tryz.prog 132 #[.agg (ucells u a).toArray] w fun v w' => v = .bool (classless u) ∧ Bl w w' := by
  refine entr (vs := [.agg (ucells u a).toArray]) [0, 1, 2, 3, 4, 5, 6, 7, 8, 9, 14, 25, 39, 44, 54, 59, 79, 87] tabok Tryz.func132 (by kernel_rfl) ?_
  have hbc := hU.cls.big
  have hbm := hU.mth.big
  have hbs := hU.sta.big
  refine bx (cs := ucells u a) fun b w1 hn => ?_
  refine lpk u.classes.length 3 [] [(1, .pointer (some ⟨b, 0, none⟩))] (fun k vals w' => vals = [] ∧ (u.classes.take k).all bcls = true ∧ Bl w1 w') ⟨rfl, rfl, Bl.refl _⟩ ?_
  rintro k vals w2 hk ⟨rfl, ha, hB⟩ ih
  have hx := Bl.box hB hn.box
  refine ld (hx.cell rfl) ?_
  by_cases hlt : k < u.classes.length
  · refine brT ?_
    obtain ⟨c, b2, o2, cs, hc, e2, _, hAt, ac, cap, rfl, hf⟩ := at_some (hU.bl (hn.bl.trans hB)).cls hlt
    have hbf := hf.big
    refine lpk c.fields.length 4 [] [(1, .pointer (some ⟨b, 0, none⟩)), (3, I k)] (fun k vals w' => vals = [] ∧ ((c.fields.take k).all fun f => bare f.ty) = true ∧ Bl w2 w') ⟨rfl, rfl, Bl.refl _⟩ ?_
    rintro j vals w3 hj ⟨rfl, hb, hB3⟩ ih2
    have hx3 := Bl.box hB3 hx
    have hAt3 := hAt.bl hB3
    refine ld (hx3.cell rfl) ?_
    rw [e2]
    refine ix ?_
    refine ld (hAt3 2 _ rfl) ?_
    by_cases hlt2 : j < c.fields.length
    · refine brT ?_
      obtain ⟨f, b3, o3, cs3, hf3, e3, _, hAt4, rfl⟩ := at_some (hf.bl hB3) hlt2
      refine ld (hx3.cell rfl) ?_
      rw [e2]
      refine ix ?_
      refine ld (hAt3 2 _ rfl) ?_
      rw [e3]
      refine ix ?_
      refine lda hAt4.tail ?_
      refine cl (r_bare f.ty _) ?_
      rintro _ w4 ⟨rfl, hB4⟩
      refine br (t := !bare f.ty) (fun h1 => ?_) (fun h1 => ?_)
      · refine rt1 ⟨vb ?_, hn.bl.trans (hB.trans (hB3.trans hB4))⟩
        unfold classless
        rw [all_miss hc (all_miss hf3 (p := fun f => bare f.ty) (by simpa using h1))]; rfl
      · exact ih2 hlt2 ⟨rfl, all_snoc' hf3 hb (by simpa using h1), hB3.trans hB4⟩
    · refine brF ?_
      obtain rfl : j = c.fields.length := by omega
      exact ih hlt ⟨rfl, all_snoc' hc ha (all_end hb), hB.trans hB3⟩
  refine brF ?_
  obtain rfl : k = u.classes.length := by omega
  have hk1 := all_end ha
  have hB1 := hB
  clear ih
  refine lpk u.statics.length 5 [] [(1, .pointer (some ⟨b, 0, none⟩))] (fun k vals w' => vals = [] ∧ ((u.statics.take k).all fun f => bare f.ty) = true ∧ Bl w1 w') ⟨rfl, rfl, hB⟩ ?_
  rintro k vals w3 hk ⟨rfl, ha2, hB⟩ ih2
  have hx := Bl.box hB hn.box
  refine ld (hx.cell rfl) ?_
  by_cases hlt2 : k < u.statics.length
  · refine brT ?_
    obtain ⟨f, b3, o3, cs3, hf3, e3, _, hAt3, rfl⟩ := at_some (hU.bl (hn.bl.trans hB)).sta hlt2
    refine ld (hx.cell rfl) ?_
    rw [e3]
    refine ix ?_
    refine lda hAt3.tail ?_
    refine cl (r_bare f.ty _) ?_
    rintro _ w4 ⟨rfl, hB4⟩
    refine br (t := !bare f.ty) (fun h1 => ?_) (fun h1 => ?_)
    · refine rt1 ⟨vb ?_, hn.bl.trans (hB.trans hB4)⟩
      unfold classless
      rw [all_miss hf3 (p := fun f => bare f.ty) (by simpa using h1)]; simp
    · exact ih2 hlt2 ⟨rfl, all_snoc' hf3 ha2 (by simpa using h1), hB.trans hB4⟩
  refine brF ?_
  obtain rfl : k = u.statics.length := by omega
  have hk2 := all_end ha2
  have hk3 : classless u = u.methods.all bmth := by unfold classless; rw [hk1, hk2]; rfl
  clear ih2
  refine lpk u.methods.length 6 [] [(1, .pointer (some ⟨b, 0, none⟩))] (fun k vals w' => vals = [] ∧ (u.methods.take k).all bmth = true ∧ Bl w1 w') ⟨rfl, rfl, hB⟩ ?_
  rintro k vals w2 hk ⟨rfl, ha3, hB⟩ ih3
  have hx := Bl.box hB hn.box
  refine ld (hx.cell rfl) ?_
  by_cases hlt3 : k < u.methods.length
  · refine brT ?_
    refine ld (hx.cell rfl) ?_
    obtain ⟨m, b2, o2, cs, hm, e2, _, hAt, a1, c1, a2, c2, a3, c3, rfl, h1, h2, h3⟩ := at_some (hU.bl (hn.bl.trans hB)).mth hlt3
    have hml := hL.locs m (List.mem_of_getElem? hm)
    rw [e2]
    refine ix ?_
    refine lda hAt ?_
    refine al fun b5 w3 h5 => ?_
    refine sta h5.box fun w4 h6 hbx => ?_
    have hB4 : Bl w2 w4 := h5.wr h6
    refine dh (fun i => i < w4.heap.size) [0, 1, 3, 4, 6, 7, 2, 5, 8, 9] fun w5 h7 => ?_
    have hB5 := hB4.trans h7.bl
    have hbx5 : Box w5 b5 64 (mcells m a1 c1 a2 c2 a3 c3) := h7.box hbx
    have hl4 := hbx.lt
    have hz : w5.heap.size = w4.heap.size := by rw [h7.heap]
    refine lda (At.left (cs := [I m.result.kind, I m.result.cls]) hbx5.at.tail.tail.tail.tail) ?_
    refine ld (hbx5.cell rfl) ?_
    refine ld (hbx5.cell rfl) ?_
    refine bs fun b6 w6 h8 => ?_
    have hb6 := h8.blk
    have hB6 := hB5.trans h8.bl
    have hO6 : OwP 2 encTy w6 b6 61 (some ⟨b6, 0, none⟩) 1 [m.result] := Ow.made (n := 1) h8 rfl (by omega)
    refine apl (enc := encTy) (l0 := [m.result]) hO6 (src_of (h1.bl hB6)) (by have := h8.size; omega) (fun a7 cap7 w7 hO7 hA7 hf7 => ?_) (hm := apS fun g hg => by simp at hg; subst hg; show ¬ b6 < _; omega)
    have hB7 : Bl w2 w7 := Below.trans hB6 (hA7.below (by have := hB6.size; omega) fun g hg => by simp at hg; subst hg; have := hB5.size; omega)
    have hz7 := hA7.size
    have hl7 : ∀ g, a7 = some ⟨g, 0, none⟩ → w4.heap.size ≤ g := fun g hg => by
      rcases hf7 g hg with h | h
      · simp at h; omega
      · have := h8.size; omega
    refine apl (enc := encTy) (l0 := [m.result] ++ m.params) hO7 (src_of (h2.bl hB7)) (by have := h8.size; omega) (fun a8 cap8 w8 hO8 hA8 hf8 => ?_) (hm := apS fun g hg => by have := hl7 g hg; show ¬ g < _; omega)
    have hB8 : Bl w2 w8 := Below.trans hB7 (hA8.below hB7.size fun g hg => by have := hl7 g hg; have := hB4.size; omega)
    have hS7 : Sl eTy T w8 a8 (([m.result] ++ m.params) ++ m.locals) := owp_sl hO8 (by simp; omega) (fun _ _ => trivial)
    have hbn := hS7.big
    have hall : (([m.result] ++ m.params) ++ m.locals).all bare = bmth m := by rw [List.all_append, List.all_append]; simp [bmth]
    generalize ([m.result] ++ m.params) ++ m.locals = ts at hS7 hbn hall
    refine lpk ts.length 9 [] [(1, .pointer (some ⟨b, 0, none⟩)), (6, I k), (8, .slice a8 ts.length cap8)] (fun k vals w' => vals = [] ∧ (ts.take k).all bare = true ∧ Bl w8 w') ⟨rfl, rfl, Bl.refl _⟩ ?_
    rintro j vals w9 hj ⟨rfl, hb, hB9⟩ ih4
    by_cases hlt4 : j < ts.length
    · refine brT ?_
      obtain ⟨t, b8, o8, cs8, ht, rfl, _, hAt8, rfl⟩ := at_some (hS7.bl hB9) hlt4
      refine ix ?_
      refine lda hAt8 ?_
      refine cl (r_bare t _) ?_
      rintro _ w10 ⟨rfl, hB10⟩
      refine br (t := !bare t) (fun h1 => ?_) (fun h1 => ?_)
      · refine rt1 ⟨vb ?_, hn.bl.trans (hB.trans (hB8.trans (hB9.trans hB10)))⟩
        rw [hk3, all_miss hm]
        rw [← hall, all_miss ht (by simpa using h1)]
      · exact ih4 hlt4 ⟨rfl, all_snoc' ht hb (by simpa using h1), hB9.trans hB10⟩
    refine brF ?_
    obtain rfl : j = ts.length := by omega
    rw [all_end hb] at hall
    exact ih3 hlt3 ⟨rfl, all_snoc' hm ha3 hall.symm, hB.trans (hB8.trans hB9)⟩
  refine brF ?_
  obtain rfl : k = u.methods.length := by omega
  rw [all_end ha3] at hk3
  exact rt1 ⟨vb hk3.symm, hn.bl.trans hB⟩
theorem r_places (u : Unt) (a : UA) (rs : List Rf) (ar : Option Addr) (cr : Nat) (w : World) (hU : UnR T w u a) (hL : Lim u) (hR : Sl eRf T w ar rs) : Ret Tryz.prog 60 #[.agg (ucells u a).toArray, .slice ar rs.length cr] w fun v w' => v = .bool (rs.all (refOk u.pool.length) && classless u) ∧ Bl w w' := by
  refine entr (vs := [.agg (ucells u a).toArray, .slice ar rs.length cr]) [0, 1, 2, 4, 5, 6, 10, 26, 35] tabok Tryz.func60 (by kernel_rfl) ?_
  have hbr := hR.big
  refine bx (cs := ucells u a) fun b w1 hn => ?_
  refine lpk rs.length 5 [] [(1, .slice ar rs.length cr), (2, .pointer (some ⟨b, 0, none⟩))] (fun k vals w' => vals = [] ∧ (rs.take k).all (refOk u.pool.length) = true ∧ w1 = w') ⟨rfl, rfl, rfl⟩ ?_
  rintro k vals _ hk ⟨rfl, ha, rfl⟩ ih
  by_cases hlt : k < rs.length
  · refine brT ?_
    obtain ⟨r, b2, o2, cs, hr, rfl, _, hAt, rfl⟩ := at_some (hR.bl hn.bl) hlt
    refine ix ?_
    refine ld (hAt 0 _ rfl) ?_
    refine ixg (fun _ => hlt) ?_
    refine ldg (fun _ => hAt 2 _ rfl) ?_
    refine br (t := decide (r.at' = -1) && r.opt) (fun h1 => ?_) (fun h1 => ?_)
    · exact ih hlt ⟨rfl, all_snoc' hr ha (by unfold refOk; rw [h1]; rfl), rfl⟩
    · refine ldg (fun _ => hn.box.cell rfl) ?_
      refine br (t := decide (r.at' < 0) || decide (r.at' ≥ u.pool.length)) (fun h2 => ?_) (fun h2 => ?_)
      · refine rt1 ⟨vb ?_, hn.bl⟩
        rw [all_miss hr (by unfold refOk; rw [h1, h2]; rfl)]; rfl
      · exact ih hlt ⟨rfl, all_snoc' hr ha (by unfold refOk; rw [h1, h2]; rfl), rfl⟩
  refine brF ?_
  obtain rfl : k = rs.length := by omega
  refine lda hn.box.at ?_
  refine cl (r_classless u a _ (hU.bl hn.bl) hL) ?_
  rintro _ w2 ⟨rfl, hB⟩
  exact rt1 ⟨vb (by rw [all_end ha, Bool.true_and]), hn.bl.trans hB⟩
end Go.Proofs.YtopjmiklpnejmaaGreatDoor
/- Walks: doubled names; the codes' names, in the document. -/
namespace Go.Proofs.YtopjmiklpnejmaaGreatDoor
open Eng Go.RowKit
theorem r_twice (l : List ByteArray) (a : Option Addr) (cap : Nat) (S : Nat → Prop) (w : World) (hS : Sl eStr S w a l) : Ret Tryz.prog 71 #[.slice a l.length cap] w fun v w' => v = .bool (dup l) ∧ Bl w w' := by
  refine entr (vs := [.slice a l.length cap]) [0, 2, 3, 4, 8, 13, 24] tabok Tryz.func71 (by kernel_rfl) ?_
  have hbig := hS.big
  refine lpk l.length 3 [] [(0, .slice a l.length cap)] (fun k vals w' => vals = [] ∧ (∀ i j x, j < i → i < k → l[i]? = some x → l[j]? ≠ some x) ∧ Bl w w') ⟨rfl, by omega, Bl.refl _⟩ ?_
  rintro k vals w1 hk ⟨rfl, ha, hB⟩ ih
  by_cases hlt : k < l.length
  · refine brT ?_
    obtain ⟨x, b, o, cs, hx, rfl, hSb, hAt, rfl⟩ := at_some (hS.bl hB) hlt
    refine lpk k 4 [] [(0, .slice (some ⟨b, o, none⟩) l.length cap), (3, I k)] (fun k2 vals w' => vals = [] ∧ (∀ j, j < k2 → l[j]? ≠ some x) ∧ Bl w1 w') ⟨rfl, by omega, Bl.refl _⟩ ?_
    rintro j vals w2 hj ⟨rfl, hb, hB2⟩ ih2
    by_cases hlt2 : j < k
    · refine brT ?_
      refine ds fun w3 h3 => ?_
      obtain ⟨y, b2, o2, cs2, hy, e2, hSb2, hAt2, rfl⟩ := at_some (hS.bl ((hB.trans hB2).trans h3.bl)) (show j < l.length by omega)
      simp only [Option.some.injEq, Addr.mk.injEq, and_true] at e2
      obtain ⟨rfl, rfl⟩ := e2
      refine ix ?_
      refine ld (hAt.bl (hB2.trans h3.bl) 0 _ rfl) ?_
      refine ix ?_
      refine ld (hAt2 0 _ rfl) ?_
      refine br (fun h => ?_) (fun h => ?_)
      · have e := of_decide_eq_true h
        subst e
        exact rt1 ⟨vb (dup_iff.2 ⟨k, j, hlt2, x, hx, hy⟩).symm, hB.trans (hB2.trans h3.bl)⟩
      · have e := of_decide_eq_false h
        refine ih2 hlt2 ⟨rfl, fun j' hj' => ?_, hB2.trans h3.bl⟩
        by_cases h5 : j' = j
        · subst h5; rw [hy]; exact fun h6 => e (Option.some.inj h6).symm
        · exact hb j' (by omega)
    refine brF ?_
    obtain rfl : j = k := by omega
    refine ih hlt ⟨rfl, fun i' j' x' h1 h2 h3 => ?_, hB.trans hB2⟩
    by_cases h5 : i' = j
    · subst h5; rw [hx] at h3; simp only [Option.some.injEq] at h3; subst h3; exact hb j' h1
    · exact ha i' j' x' h1 (by omega) h3
  refine brF ?_
  obtain rfl : k = l.length := by omega
  refine rt1 ⟨vb ?_, hB⟩
  symm; rw [← Bool.not_eq_true]
  intro h
  obtain ⟨i, j, hij, x, h1, h2⟩ := dup_iff.1 h
  exact ha i j x hij (List.getElem?_eq_some_iff.1 h1).1 h1 h2
theorem r_Named (i : Ins) (w : World) : Ret Tryz.prog 163 #[.agg #[I i.op, I i.a, I i.b]] w fun v w' => v = .tuple #[I (named i).1, I (named i).2] ∧ Bl w w' := by
  refine entr (vs := [.agg #[I i.op, I i.a, I i.b]]) [0, 1, 2, 3, 5, 6, 9, 15, 17, 19, 28] tabok Tryz.func163 (by kernel_rfl) ?_
  refine bx (cs := [I i.op, I i.a, I i.b]) fun b w1 hn => ?_
  refine ld (hn.box.cell rfl) ?_
  have fin : ∀ {p : Int × Int}, named i = p → Value.tuple #[I p.1, I p.2] = .tuple #[I (named i).1, I (named i).2] := fun e => by rw [e]
  refine br (t := decide (i.op = 17)) (fun h17 => ?_) (fun h17 => ?_)
  · refine brt ?_ (hp := h17)
    have := of_decide_eq_true h17
    exact rt2 ⟨fin (p := (1, 3)) (by simp [named, this]), hn.bl⟩
  have n17 := of_decide_eq_false h17
  refine br (t := decide (i.op = 18)) (fun h => ?_) (fun h => ?_)
  · have := of_decide_eq_true h
    exact rt2 ⟨fin (p := (1, 3)) (by simp [named, this]), hn.bl⟩
  have n18 := of_decide_eq_false h
  refine br (t := decide (i.op = 14)) (fun h => ?_) (fun h => ?_)
  · refine brt ?_ (hp := h)
    have := of_decide_eq_true h
    exact rt2 ⟨fin (p := (1, 2)) (by simp [named, this]), hn.bl⟩
  have n14 := of_decide_eq_false h
  refine br (t := decide (i.op = 24)) (fun h => ?_) (fun h => ?_)
  · refine brt ?_ (hp := h)
    have := of_decide_eq_true h
    exact rt2 ⟨fin (p := (1, 2)) (by simp [named, this]), hn.bl⟩
  have n24 := of_decide_eq_false h
  refine br (t := decide (i.op = 22)) (fun h => ?_) (fun h => ?_)
  · refine brt ?_ (hp := h)
    have := of_decide_eq_true h
    exact rt2 ⟨fin (p := (1, 2)) (by simp [named, this]), hn.bl⟩
  have n22 := of_decide_eq_false h
  refine br (t := decide (i.op = 23)) (fun h => ?_) (fun h => ?_)
  · refine brt ?_ (hp := h)
    have := of_decide_eq_true h
    exact rt2 ⟨fin (p := (1, 2)) (by simp [named, this]), hn.bl⟩
  have n23 := of_decide_eq_false h
  refine br (t := decide (i.op = 25)) (fun h => ?_) (fun h => ?_)
  · have := of_decide_eq_true h
    exact rt2 ⟨fin (p := (1, 2)) (by simp [named, this]), hn.bl⟩
  have n25 := of_decide_eq_false h
  refine br (t := decide (i.op = 26)) (fun h => ?_) (fun h => ?_)
  · have := of_decide_eq_true h
    exact rt2 ⟨fin (p := (1, 1)) (by simp [named, this]), hn.bl⟩
  have n26 := of_decide_eq_false h
  refine br (t := decide (i.op = 16)) (fun h => ?_) (fun h => ?_)
  · have := of_decide_eq_true h
    exact rt2 ⟨fin (p := (2, 2)) (by simp [named, this]), hn.bl⟩
  have n16 := of_decide_eq_false h
  refine br (t := decide (i.op = 12)) (fun h => ?_) (fun h => ?_)
  · have h12 := of_decide_eq_true h
    refine ld (hn.box.cell rfl) ?_
    refine ldg (fun _ => hn.box.cell rfl) ?_
    refine br (t := decide (i.a = 2) || decide (i.a = 4)) (fun h => ?_) (fun h => ?_)
    · simp only [Bool.or_eq_true, decide_eq_true_eq] at h
      exact rt2 ⟨fin (p := (2, 2)) (by simp [named, h12, h]), hn.bl⟩
    · simp only [Bool.or_eq_false_iff, decide_eq_false_iff_not] at h
      exact rt2 ⟨fin (p := (0, 0)) (by simp [named, h12, h]), hn.bl⟩
  · have n12 := of_decide_eq_false h
    exact rt2 ⟨fin (p := (0, 0)) (by simp [named, n17, n18, n14, n24, n22, n23, n25, n26, n16, n12]), hn.bl⟩
theorem r_Operand (i : Ins) (w : World) : Ret Tryz.prog 135 #[.agg #[I i.op, I i.a, I i.b]] w fun v w' => v = .tuple #[I (operand i).1, I (operand i).2] ∧ Bl w w' := by
  refine entr (vs := [.agg #[I i.op, I i.a, I i.b]]) [0, 1, 2, 3, 4, 5, 12, 17] tabok Tryz.func135 (by kernel_rfl) ?_
  refine bx (cs := [I i.op, I i.a, I i.b]) fun b w1 hn => ?_
  refine lda hn.box.at ?_
  refine cl (r_Named i _) ?_
  rintro _ w2 ⟨rfl, hB⟩
  have hx := Bl.box hB hn.box
  refine br (fun h => ?_) (fun h => ?_)
  · have := of_decide_eq_true h
    refine ld (hx.cell rfl) ?_
    exact rt2 ⟨by unfold operand; rw [if_pos this], hn.bl.trans hB⟩
  have h1 := of_decide_eq_false h
  refine br (fun h => ?_) (fun h => ?_)
  · have := of_decide_eq_true h
    refine ld (hx.cell rfl) ?_
    exact rt2 ⟨by unfold operand; rw [if_neg h1, if_pos this], hn.bl.trans hB⟩
  · have h2 := of_decide_eq_false h
    exact rt2 ⟨by unfold operand; rw [if_neg h1, if_neg h2], hn.bl.trans hB⟩
end Go.Proofs.YtopjmiklpnejmaaGreatDoor
/- Walks: the codes of a unit, in the document. -/
namespace Go.Proofs.YtopjmiklpnejmaaGreatDoor
open Eng Go.RowKit
theorem nm_at {u : Unt} {i : Int} {x : ByteArray} (h : u.pool[i.toNat]? = some x) : nm u i = x := by unfold nm; rw [List.getD_eq_getElem?_getD, h]; rfl
theorem int_nat {i : Int} (h : 0 ≤ i) : i = ((i.toNat : Nat) : Int) := by omega
theorem r_codes (u : Unt) (a : UA) (w : World) (hU : UnR T w u a) (hV : ∀ m ∈ u.methods, ∀ i ∈ m.code, 0 < (operand i).2 → 0 ≤ (operand i).1) : Ret Tryz.prog 63 #[.agg (ucells u a).toArray] w fun v w' => v = .bool (codesOk u) ∧ Bl w w' := by
  refine entr (vs := [.agg (ucells u a).toArray]) [0, 1, 2, 3, 4, 5, 6, 11, 22, 56] tabok Tryz.func63 (by kernel_rfl) ?_
  have hbm := hU.mth.big
  refine bx (cs := ucells u a) fun b w1 hn => ?_
  refine lpk u.methods.length 3 [] [(1, .pointer (some ⟨b, 0, none⟩))] (fun k vals w' => vals = [] ∧ ((u.methods.take k).all fun m => m.code.all (insOk u)) = true ∧ Bl w1 w') ⟨rfl, rfl, Bl.refl _⟩ ?_
  rintro k vals w2 hk ⟨rfl, ha, hB⟩ ih
  have hx := Bl.box hB hn.box
  refine ld (hx.cell rfl) ?_
  by_cases hlt : k < u.methods.length
  · refine brT ?_
    obtain ⟨m, b2, o2, cs, hm, e2, _, hAt, a1, c1, a2, c2, a3, c3, rfl, h1, h2, h3⟩ := at_some (hU.bl (hn.bl.trans hB)).mth hlt
    have hbk := h3.big
    refine lpk m.code.length 4 [] [(1, .pointer (some ⟨b, 0, none⟩)), (3, I k)] (fun k vals w' => vals = [] ∧ (m.code.take k).all (insOk u) = true ∧ Bl w2 w') ⟨rfl, rfl, Bl.refl _⟩ ?_
    rintro j vals w3 hj ⟨rfl, hb, hB3⟩ ih2
    have hx3 := Bl.box hB3 hx
    refine ld (hx3.cell rfl) ?_
    rw [e2]
    refine ix ?_
    refine ld (hAt.bl hB3 6 _ rfl) ?_
    by_cases hlt2 : j < m.code.length
    · refine brT ?_
      obtain ⟨i, b3, o3, cs3, hi, e3, _, hAt3, rfl⟩ := at_some (h3.bl hB3) hlt2
      refine ld (hx3.cell rfl) ?_
      rw [e2]
      refine ix ?_
      refine ld (hAt.bl hB3 6 _ rfl) ?_
      rw [e3]
      refine ix ?_
      refine lda hAt3 ?_
      refine cl (r_Operand i _) ?_
      rintro _ w4 ⟨rfl, hB4⟩
      have hx4 := Bl.box hB4 hx3
      refine ldg (fun _ => hx4.cell rfl) ?_
      refine ldg2 (fun _ _ => hx4.cell rfl) ?_
      have hv := hV m (List.mem_of_getElem? hm) i (List.mem_of_getElem? hi)
      have hB24 := hB.trans (hB3.trans hB4)
      refine sp2 (.pointer (some ⟨0, 0, none⟩)) (fun p1 p2 => ?_) (fun p1 => ?_)
      · have q1 := of_decide_eq_true p1
        have q2 := of_decide_eq_false p2
        have q0 := hv q1
        obtain ⟨s, b5, o5, cs5, hs, e5, _, hAt5, rfl⟩ := at_some (hU.bl (hn.bl.trans hB24)).pool (show (operand i).1.toNat < u.pool.length by omega)
        rw [e5]
        refine ix (hij := int_nat q0) ?_
        refine ldg (fun _ => hAt5 0 _ rfl) ?_
        refine sp (I 0) (fun _ => ?_) (fun p => ?_)
        · refine cl (r_Path s _ (hU.ps s (List.mem_of_getElem? hs))) ?_
          rintro _ w5 ⟨rfl, hB5⟩
          refine br (t := decide ((path s : Int) ≠ (operand i).2)) (fun h => ?_) (fun h => ?_)
          · have e : insOk u i = false := by unfold insOk; rw [nm_at hs, p1, p2, h]; rfl
            refine rt1 ⟨vb ?_, hn.bl.trans (hB24.trans hB5)⟩
            unfold codesOk
            rw [all_miss hm (all_miss hi e)]
          · have e : insOk u i = true := by unfold insOk; rw [nm_at hs, p1, p2, h]; rfl
            exact ih2 hlt2 ⟨rfl, all_snoc' hi hb e, hB3.trans (hB4.trans hB5)⟩
        · cases p
      · refine ldg2 (v := .string ⟨#[]⟩) (fun e1 e2 => (p1 ⟨e1, e2⟩).elim) ?_
        refine sp2 (I 0) (fun e1 e2 => (p1 ⟨e1, e2⟩).elim) (fun _ => ?_)
        have hB4' := hn.bl.trans hB24
        refine br (t := decide (0 < (operand i).2) && (decide ((u.pool.length : Int) ≤ (operand i).1) || decide (¬ (0 : Int) = (operand i).2))) (fun h => ?_) (fun h => ?_)
        · have e : insOk u i = false := by
            unfold insOk
            revert p1 h
            simp only [ge_iff_le]
            cases decide (0 < (operand i).2) <;> cases decide ((u.pool.length : Int) ≤ (operand i).1) <;> simp
          refine rt1 ⟨vb ?_, hB4'⟩
          unfold codesOk
          rw [all_miss hm (all_miss hi e)]
        · have e : insOk u i = true := by
            unfold insOk
            revert p1 h
            simp only [ge_iff_le]
            cases decide (0 < (operand i).2) <;> cases decide ((u.pool.length : Int) ≤ (operand i).1) <;> simp
          exact ih2 hlt2 ⟨rfl, all_snoc' hi hb e, hB3.trans hB4⟩
    · refine brF ?_
      obtain rfl : j = m.code.length := by omega
      exact ih hlt ⟨rfl, all_snoc' hm ha (all_end hb), hB.trans hB3⟩
  refine brF ?_
  obtain rfl : k = u.methods.length := by omega
  exact rt1 ⟨vb (all_end ha).symm, hn.bl.trans hB⟩
end Go.Proofs.YtopjmiklpnejmaaGreatDoor
/- Walks: the doubled names of a unit, in the document. -/
namespace Go.Proofs.YtopjmiklpnejmaaGreatDoor
open Eng Go.RowKit
theorem pool_at {S : Nat → Prop} {w : World} {u : Unt} {a : UA} (h : UnR S w u a) {i : Int} (hi : inP u i) : ∃ b o, a.a1 = some ⟨b, o, none⟩ ∧ S b ∧ w.cell? ⟨b, o + i.toNat * 1, none⟩ = some (.string (nm u i)) ∧ (nm u i).size ≤ 1048576 ∧ i = ((i.toNat : Nat) : Int) ∧ i.toNat < u.pool.length := by
  obtain ⟨h1, h2⟩ := hi
  have h3 : i.toNat < u.pool.length := by omega
  obtain ⟨s, b, o, cs, hs, e, hS, hAt, rfl⟩ := at_some h.pool h3
  refine ⟨b, o, e, hS, ?_, ?_, by omega, h3⟩
  · rw [nm_at hs]; exact hAt 0 _ rfl
  · rw [nm_at hs]; exact h.ps s (List.mem_of_getElem? hs)
theorem r_doubled (u : Unt) (a : UA) (w : World) (hU : UnR T w u a) (hL : Lim u) (hP : Plc u) : Ret Tryz.prog 61 #[.agg (ucells u a).toArray] w fun v w' => v = .bool (doubled u) ∧ Bl w w' := by
  refine entr (vs := [.agg (ucells u a).toArray]) [0, 1, 2, 3, 4, 5, 6, 7, 8, 9, 10, 13, 18, 42, 63, 68, 88, 107] tabok Tryz.func61 (by kernel_rfl) ?_
  have hU0 := hU.lt
  have hl1 := hL.cls
  have hl2 := hL.sta
  have hl3 := hL.mth
  refine bx (cs := ucells u a) fun b w1 hn => ?_
  have hbl := hn.box.lt
  have hww : w.heap.size ≤ w1.heap.size := hn.bl.size
  refine ld (hn.box.cell rfl) ?_
  refine cl (r_twice u.pool _ _ T _ (hU.bl hn.bl).pool) ?_
  rintro _ w2 ⟨rfl, hB⟩
  refine br (fun h => ?_) (fun hd => ?_)
  · exact rt1 (v := .bool true) ⟨vb (by unfold doubled; simp [h]), hn.bl.trans hB⟩
  refine lpk u.classes.length 5 [3] [(1, .pointer (some ⟨b, 0, none⟩)), (4, .slice none 0 0)] (fun k vals w' => ∃ a1 n q, vals = [.slice a1 n q] ∧ n = ((u.classes.take k).map fun c => nm u c.name).length ∧ OwP 1 encStr w' w1.heap.size 9 a1 q ((u.classes.take k).map fun c => nm u c.name) ∧ (u.classes.take k).any (cdup u) = false ∧ Bl w1 w') ⟨none, 0, 0, rfl, rfl, Ow.nil .., rfl, hB⟩ ?_
  clear hB
  rintro k vals w2 hk ⟨a1, _, cap1, rfl, rfl, hO, hc0, hB⟩ ih
  have hx := Bl.box hB hn.box
  have hBs : w1.heap.size ≤ w2.heap.size := hB.size
  refine ld (hx.cell rfl) ?_
  by_cases hlt : k < u.classes.length
  · refine brT ?_
    have hUk := hU0.below (hn.bl.trans hB)
    obtain ⟨c, b2, o2, cs, hc, e2, hS2, hAt, ac, cap, rfl, hf⟩ := at_some hUk.cls hlt
    obtain ⟨b3, o3, e3, hS3, hc3, hz3, hi3, hp3⟩ := pool_at hUk (hP.cn c (List.mem_of_getElem? hc))
    have hkl : ((u.classes.take k).map fun c => nm u c.name).length ≤ 10 := by rw [List.length_map, List.length_take]; omega
    refine dh (fun i => i < w1.heap.size) (List.range 14) fun w3 h3 => ?_
    have hx3 := h3.box hx
    refine ld (hx3.cell rfl) ?_
    refine ld (hx3.cell rfl) ?_
    rw [e2]
    refine ix ?_
    refine ld (hAt.bl h3.bl 0 _ rfl) ?_
    rw [e3]
    refine ix (hij := hi3) ?_
    refine ld (h3.bl.kp T _ _ _ trivial hc3) ?_
    refine bs fun b4 w4 h4 => ?_
    have hB24 := h3.bl.trans h4.bl
    have hsz4 : w1.heap.size ≤ w4.heap.size := by have := hB24.size; omega
    have h1l : ([nm u c.name] : List ByteArray).length = 1 := rfl
    refine apl (enc := encStr) (l1 := [nm u c.name]) (hO.bl hB24) (.inr ⟨b4, 0, rfl, h4.box.at⟩) hsz4 (fun a5 cap5 w5 hO5 hA5 hf5 => ?_) (hm := apS (S := fun i => i < w1.heap.size) fun g hg => by have := (hO.lt hg).1; omega)
    have e : ((u.classes.take k).map fun c => nm u c.name) ++ [nm u c.name] = (u.classes.take (k + 1)).map fun c => nm u c.name := (map_snoc (f := fun c => nm u c.name) hc).symm
    rw [e] at hO5 ⊢
    have hB15 : Bl w1 w5 := (hO.bl hB24).below hA5 (hB.trans hB24) hsz4
    have hx5 := Bl.box hB15 hn.box
    have hlc := hL.flds c (List.mem_of_getElem? hc)
    refine lpk c.fields.length 7 [6] [(1, .pointer (some ⟨b, 0, none⟩)), (3, .slice a5 ((u.classes.take (k + 1)).map fun c => nm u c.name).length cap5), (4, .slice none 0 0), (5, I k)] (fun j vals w' => ∃ a1 n q, vals = [.slice a1 n q] ∧ n = ((c.fields.take j).map fun f => nm u f.name).length ∧ OwP 1 encStr w' w5.heap.size 9 a1 q ((c.fields.take j).map fun f => nm u f.name) ∧ Bl w5 w') ⟨none, 0, 0, rfl, rfl, Ow.nil .., Bl.refl _⟩ ?_
    rintro j vals w6 hj ⟨a6, _, cap6, rfl, rfl, hO6, hB6⟩ ih2
    have hx6 := Bl.box hB6 hx5
    have hB16 := hB15.trans hB6
    have hs56 : w5.heap.size ≤ w6.heap.size := hB6.size
    have hs15 : w1.heap.size ≤ w5.heap.size := hB15.size
    have hU6 := hU0.below (hn.bl.trans hB16)
    obtain ⟨c', b2', o2', cs', hc', e2', hS2', hAt', ac', cap', rfl, hf'⟩ := at_some hU6.cls hlt
    rw [hc] at hc'
    obtain rfl := Option.some.inj hc'
    refine ld (hx6.cell rfl) ?_
    rw [e2']
    refine ix ?_
    refine ld (hAt' 2 _ rfl) ?_
    by_cases hlt2 : j < c.fields.length
    · refine brT ?_
      obtain ⟨f, b7, o7, cs7, hf7, e7, hS7, hAt7, rfl⟩ := at_some hf' hlt2
      obtain ⟨b8, o8, e8, hS8, hc8, hz8, hi8, hp8⟩ := pool_at hU6 (hP.fn c (List.mem_of_getElem? hc) f (List.mem_of_getElem? hf7))
      have hjl : ((c.fields.take j).map fun f => nm u f.name).length ≤ 10 := by rw [List.length_map, List.length_take]; omega
      refine dh (fun i => i < w1.heap.size) (List.range 18) fun w7 h7 => ?_
      have hx7 := h7.box hx6
      refine ld (hx7.cell rfl) ?_
      refine ld (hx7.cell rfl) ?_
      rw [e2']
      refine ix ?_
      refine ld (hAt'.bl h7.bl 2 _ rfl) ?_
      rw [e7]
      refine ix ?_
      refine ld (hAt7.bl h7.bl 0 _ rfl) ?_
      rw [e8]
      refine ix (hij := hi8) ?_
      refine ld (h7.bl.kp T _ _ _ trivial hc8) ?_
      refine bs fun b9 w9 h9 => ?_
      have hB79 := h7.bl.trans h9.bl
      have hsz9 : w5.heap.size ≤ w9.heap.size := by have := hB79.size; omega
      have h1l : ([nm u f.name] : List ByteArray).length = 1 := rfl
      refine apl (enc := encStr) (l1 := [nm u f.name]) (hO6.bl hB79) (.inr ⟨b9, 0, rfl, h9.box.at⟩) hsz9 (fun a10 cap10 w10 hO10 hA10 hf10 => ?_) (hm := apS (S := fun i => i < w1.heap.size) fun g hg => by have := (hO6.lt hg).1; omega)
      have e' : ((c.fields.take j).map fun f => nm u f.name) ++ [nm u f.name] = (c.fields.take (j + 1)).map fun f => nm u f.name := (map_snoc (f := fun f => nm u f.name) hf7).symm
      rw [e'] at hO10
      exact ih2 hlt2 ⟨a10, _, cap10, rfl, congrArg List.length e', hO10, (hO6.bl hB79).below hA10 (hB6.trans hB79) hsz9⟩
    refine brF ?_
    obtain rfl : j = c.fields.length := by omega
    rw [List.take_length] at hO6 ⊢
    have hS6 : Sl eStr T w6 a6 (c.fields.map fun f => nm u f.name) := owp_sl hO6 (by rw [List.length_map]; omega) (fun _ _ => trivial)
    refine cl (r_twice _ _ _ T _ hS6) ?_
    rintro _ w11 ⟨rfl, hB11⟩
    refine br (fun h => ?_) (fun h => ?_)
    · refine rt1 ⟨vb ?_, hn.bl.trans (hB16.trans hB11)⟩
      unfold doubled
      rw [any_hit hc (p := cdup u) h]; simp
    · exact ih hlt ⟨a5, _, cap5, rfl, rfl, hO5.bl (hB6.trans hB11), any_snoc hc hc0 h, hB16.trans hB11⟩
  refine brF ?_
  obtain rfl : k = u.classes.length := by omega
  have hdc := any_end hc0
  clear ih hx hc0
  rw [List.take_length] at hO ⊢
  generalize hM : (u.classes.map fun c => nm u c.name) = M at hO ⊢
  have hMl : M.length ≤ 10 := by rw [← hM, List.length_map]; exact hl1
  refine lpk u.statics.length 8 [3] [(1, .pointer (some ⟨b, 0, none⟩)), (4, .slice none 0 0)] (fun k vals w' => ∃ a1 n q, vals = [.slice a1 n q] ∧ n = (M ++ (u.statics.take k).map fun c => nm u c.name).length ∧ OwP 1 encStr w' w1.heap.size 9 a1 q (M ++ (u.statics.take k).map fun c => nm u c.name) ∧ Bl w1 w') ⟨a1, M.length, cap1, rfl, by simp, by simpa using hO, hB⟩ ?_
  clear hO hB hBs
  rintro k vals w2 hk ⟨a1, _, cap1, rfl, rfl, hO, hB⟩ ih
  have hx := Bl.box hB hn.box
  have hBs : w1.heap.size ≤ w2.heap.size := hB.size
  refine ld (hx.cell rfl) ?_
  by_cases hlt : k < u.statics.length
  · refine brT ?_
    have hUk := hU0.below (hn.bl.trans hB)
    obtain ⟨c, b2, o2, cs, hc, e2, hS2, hAt, rfl⟩ := at_some hUk.sta hlt
    obtain ⟨b3, o3, e3, hS3, hc3, hz3, hi3, hp3⟩ := pool_at hUk (hP.sn c (List.mem_of_getElem? hc))
    have hkl : (M ++ (u.statics.take k).map fun c => nm u c.name).length ≤ 20 := by rw [List.length_append, List.length_map, List.length_take]; omega
    refine dh (fun i => i < w1.heap.size) (List.range 14) fun w3 h3 => ?_
    have hx3 := h3.box hx
    refine ld (hx3.cell rfl) ?_
    refine ld (hx3.cell rfl) ?_
    rw [e2]
    refine ix ?_
    refine ld (hAt.bl h3.bl 0 _ rfl) ?_
    rw [e3]
    refine ix (hij := hi3) ?_
    refine ld (h3.bl.kp T _ _ _ trivial hc3) ?_
    refine bs fun b4 w4 h4 => ?_
    have hB24 := h3.bl.trans h4.bl
    have hsz4 : w1.heap.size ≤ w4.heap.size := by have := hB24.size; omega
    have h1l : ([nm u c.name] : List ByteArray).length = 1 := rfl
    refine apl (enc := encStr) (l1 := [nm u c.name]) (hO.bl hB24) (.inr ⟨b4, 0, rfl, h4.box.at⟩) hsz4 (fun a5 cap5 w5 hO5 hA5 hf5 => ?_) (hm := apS (S := fun i => i < w1.heap.size) fun g hg => by have := (hO.lt hg).1; omega)
    have e : (M ++ (u.statics.take k).map fun c => nm u c.name) ++ [nm u c.name] = M ++ (u.statics.take (k + 1)).map fun c => nm u c.name := by rw [map_snoc (f := fun c => nm u c.name) hc, List.append_assoc]
    rw [e] at hO5
    exact ih hlt ⟨a5, _, cap5, rfl, congrArg List.length e, hO5, (hO.bl hB24).below hA5 (hB.trans hB24) hsz4⟩
  refine brF ?_
  obtain rfl : k = u.statics.length := by omega
  clear ih hx
  rw [List.take_length] at hO ⊢
  generalize hM2 : (M ++ u.statics.map fun c => nm u c.name) = M2 at hO ⊢
  have hMl2 : M2.length ≤ 20 := by rw [← hM2, List.length_append, List.length_map]; omega
  let hf : List Mth → List ByteArray := fun l => (l.filter fun m => decide (m.cls = -1)).map fun m => nm u m.name
  let ff : List Mth → List ByteArray := fun l => (l.filter fun m => !decide (m.cls = -1)).map fun m => dots (nm u m.cls) (nm u m.name)
  have hfl : ∀ l, (hf l).length ≤ l.length := fun l => by simp only [hf, List.length_map]; exact List.length_filter_le _ _
  have ffl : ∀ l, (ff l).length ≤ l.length := fun l => by simp only [ff, List.length_map]; exact List.length_filter_le _ _
  refine lpk u.methods.length 9 [3, 4] [(1, .pointer (some ⟨b, 0, none⟩))] (fun k vals w' => ∃ a1 n q a2 n2 q2, vals = [.slice a1 n q, .slice a2 n2 q2] ∧ n = (M2 ++ hf (u.methods.take k)).length ∧ n2 = (ff (u.methods.take k)).length ∧
    OwP 1 encStr w' w1.heap.size 9 a1 q (M2 ++ hf (u.methods.take k)) ∧ OwP 1 encStr w' w1.heap.size 9 a2 q2 (ff (u.methods.take k)) ∧ (∀ g, a1 = some ⟨g, 0, none⟩ → a2 ≠ some ⟨g, 0, none⟩) ∧ Bl w1 w') ⟨a1, M2.length, cap1, none, 0, 0, rfl, by simp [hf], rfl, by simpa [hf] using hO, Ow.nil .., fun _ _ => by simp, hB⟩ ?_
  clear hO hB hBs
  rintro k vals w2 hk ⟨a1, _, cap1, a2, _, cap2, rfl, rfl, rfl, hO, hO2, hd12, hB⟩ ih
  have hx := Bl.box hB hn.box
  have hBs : w1.heap.size ≤ w2.heap.size := hB.size
  refine ld (hx.cell rfl) ?_
  by_cases hlt : k < u.methods.length
  · refine brT ?_
    have hUk := hU0.below (hn.bl.trans hB)
    obtain ⟨m, b2, o2, cs, hm, e2, hS2, hAt, am1, cm1, am2, cm2, am3, cm3, rfl, h1, h2, h3⟩ := at_some hUk.mth hlt
    obtain ⟨b3, o3, e3, hS3, hc3, hz3, hi3, hp3⟩ := pool_at hUk (hP.mn m (List.mem_of_getElem? hm))
    have hkl : (M2 ++ hf (u.methods.take k)).length ≤ 40 := by have := hfl (u.methods.take k); rw [List.length_append]; rw [List.length_take] at this; omega
    have hkl2 : (ff (u.methods.take k)).length ≤ 20 := by have := ffl (u.methods.take k); rw [List.length_take] at this; omega
    refine ds fun w3 h3 => ?_
    have hx3 := h3.box hx
    refine ld (hx3.cell rfl) ?_
    refine ld (hx3.cell rfl) ?_
    rw [e2]
    refine ix ?_
    refine ld (hAt.bl h3.bl 0 _ rfl) ?_
    rw [e3]
    refine ix (hij := hi3) ?_
    refine ld (h3.bl.kp T _ _ _ trivial hc3) ?_
    refine ld (hx3.cell rfl) ?_
    rw [e2]
    refine ix ?_
    refine ld (hAt.bl h3.bl 1 _ rfl) ?_
    refine br (fun h => ?_) (fun h => ?_)
    · have hcl := of_decide_eq_true h
      have ef : ff (u.methods.take (k + 1)) = ff (u.methods.take k) := by simp [ff, take_succ_some hm, hcl]
      have eh : (M2 ++ hf (u.methods.take k)) ++ [nm u m.name] = M2 ++ hf (u.methods.take (k + 1)) := by simp [hf, take_succ_some hm, hcl]
      refine bs fun b4 w4 h4 => ?_
      have hB24 := h3.bl.trans h4.bl
      have hsz4 : w1.heap.size ≤ w4.heap.size := by have := hB24.size; omega
      have h1l : ([nm u m.name] : List ByteArray).length = 1 := rfl
      refine apl (enc := encStr) (l1 := [nm u m.name]) (hO.bl hB24) (.inr ⟨b4, 0, rfl, h4.box.at⟩) hsz4 (fun a5 cap5 w5 hO5 hA5 hf5 => ?_)
      rw [eh] at hO5
      have hO25 : OwP 1 encStr w5 w1.heap.size 9 a2 cap2 (ff (u.methods.take k)) := (hO2.bl hB24).same fun g hg => hA5.block g ((hO2.bl hB24).lt hg).2 fun e => hd12 g e hg
      refine ih hlt ⟨a5, _, cap5, a2, _, cap2, rfl, congrArg List.length eh, by rw [ef], hO5, by rw [ef]; exact hO25, fun g hg e => ?_, (hO.bl hB24).below hA5 (hB.trans hB24) hsz4⟩
      rcases hf5 g hg with h6 | h6
      · exact hd12 g h6 e
      · have := ((hO2.bl hB24).lt e).2; omega
    · have hcl := of_decide_eq_false h
      obtain ⟨b6, o6, e6, hS6, hc6, hz6, hi6, hp6⟩ := pool_at hUk ((hP.mc m (List.mem_of_getElem? hm)).resolve_left hcl)
      have eh : hf (u.methods.take (k + 1)) = hf (u.methods.take k) := by simp [hf, take_succ_some hm, hcl]
      have ef : ff (u.methods.take k) ++ [dots (nm u m.cls) (nm u m.name)] = ff (u.methods.take (k + 1)) := by simp [ff, take_succ_some hm, hcl]
      have hs13 : w1.heap.size ≤ w3.heap.size := by have := h3.bl.size; omega
      refine dh (fun i => i < w1.heap.size) (List.range 17) fun w7 h7 => ?_
      have hx7 := h7.box hx3
      have hB27 := h3.bl.trans h7.bl
      refine ld (hx7.cell rfl) ?_
      refine ld (hx7.cell rfl) ?_
      rw [e2]
      refine ix ?_
      refine ld (hAt.bl hB27 1 _ rfl) ?_
      rw [e6]
      refine ix (hij := hi6) ?_
      refine ld (hB27.kp T _ _ _ trivial hc6) ?_
      refine cat ?_ (hab := by rw [show ByteArray.size ⟨#[46]⟩ = 1 from rfl]; omega)
      refine cat ?_ (hab := by rw [ByteArray.size_append, show ByteArray.size ⟨#[46]⟩ = 1 from rfl]; omega)
      refine bs fun b4 w4 h4 => ?_
      have hB24 := hB27.trans h4.bl
      have hsz4 : w1.heap.size ≤ w4.heap.size := by have := hB24.size; omega
      have h1l : ([dots (nm u m.cls) (nm u m.name)] : List ByteArray).length = 1 := rfl
      refine apl (enc := encStr) (l1 := [dots (nm u m.cls) (nm u m.name)]) (hO2.bl hB24) (.inr ⟨b4, 0, rfl, h4.box.at⟩) hsz4 (fun a5 cap5 w5 hO5 hA5 hf5 => ?_) (hm := apS (S := fun i => i < w1.heap.size) fun g hg => by have := (hO2.lt hg).1; omega)
      rw [ef] at hO5
      have hO25 : OwP 1 encStr w5 w1.heap.size 9 a1 cap1 (M2 ++ hf (u.methods.take k)) := (hO.bl hB24).same fun g hg => hA5.block g ((hO.bl hB24).lt hg).2 fun e => hd12 g hg e
      refine ih hlt ⟨a1, _, cap1, a5, _, cap5, rfl, by rw [eh], congrArg List.length ef, by rw [eh]; exact hO25, hO5, fun g hg e => ?_, (hO2.bl hB24).below hA5 (hB.trans hB24) hsz4⟩
      rcases hf5 g e with h6 | h6
      · exact hd12 g hg h6
      · have := ((hO.bl hB24).lt hg).2; omega
  refine brF ?_
  obtain rfl : k = u.methods.length := by omega
  rw [List.take_length] at hO hO2 ⊢
  have hh : M2 ++ hf u.methods = heads u := by rw [← hM2, ← hM]; rfl
  have hff : ff u.methods = fulls u := rfl
  rw [hh] at hO ⊢
  rw [hff] at hO2 ⊢
  have l1 : (heads u).length ≤ 36 := by have := hfl u.methods; rw [← hh, List.length_append]; omega
  have l2 : (fulls u).length ≤ 16 := by have := ffl u.methods; rw [← hff]; omega
  have hS1 : Sl eStr T w2 a1 (heads u) := owp_sl hO (by omega) (fun _ _ => trivial)
  refine cl (r_twice _ _ _ T _ hS1) ?_
  rintro _ w3 ⟨rfl, hB3⟩
  have hdb : doubled u = (dup (heads u) || dup (fulls u)) := by unfold doubled; rw [hd, hdc]; rfl
  refine sp (.bool true) (fun p => ?_) (fun p => ?_)
  · have hS2 : Sl eStr T w3 a2 (fulls u) := owp_sl (hO2.bl hB3) (by omega) (fun _ _ => trivial)
    refine cl (r_twice _ _ _ T _ hS2) ?_
    rintro _ w4 ⟨rfl, hB4⟩
    refine rt1 ⟨vb ?_, hn.bl.trans (hB.trans (hB3.trans hB4))⟩
    rw [hdb, p]
  · refine rt1 ⟨vb ?_, hn.bl.trans (hB.trans hB3)⟩
    rw [hdb, p]; rfl
end Go.Proofs.YtopjmiklpnejmaaGreatDoor
