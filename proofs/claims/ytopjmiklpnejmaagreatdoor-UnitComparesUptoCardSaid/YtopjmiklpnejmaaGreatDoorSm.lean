/- Walks: the document's comparison of units. -/
import Derived.Test.YtopjmiklpnejmaaGreatDoorCp
import Derived.Laws.StructEq
namespace Go.Proofs.YtopjmiklpnejmaaGreatDoor
open Eng Go.RowKit
theorem part_cell {P : Program} {w : World} {t : TypeId} {tk : TK} {sz : Nat} {zr : List Value} {xs : Array Value} {off : Nat} {v : Value} (h : tiOk P t ⟨tk, sz, false, zr⟩ = true) (hv : xs[off]? = some v) : (part t xs off).run P w = .ok v w := by
  unfold part
  rw [run_bind_ok (ti_agg h w).1]
  simp only [hv]; rfl
theorem part_agg {P : Program} {w : World} {t : TypeId} {tk : TK} {sz : Nat} {zr : List Value} {xs : Array Value} {off : Nat} (h : tiOk P t ⟨tk, sz, true, zr⟩ = true) : (part t xs off).run P w = .ok (.agg (xs.extract off (off + sz))) w := by
  unfold part
  rw [run_bind_ok (ti_agg h w).1]
  simp only [if_true]
  rw [run_bind_ok (ti_agg h w).2]; rfl
/-- fields of these types at these places -/
def shp : List Field → List (Nat × Nat) → Bool
  | [], [] => true
  | f :: fs, (t, o) :: ts => decide (f.name ≠ "_") && decide (f.type = t) && decide (f.offset = o) && shp fs ts
  | _, _ => false
theorem eqf_gen {P : Program} {w : World} {d : Nat} {t o : Nat} {ts : List (Nat × Nat)} {fs : List Field} {xs ys : Array Value} {vx vy : Value} {r : Bool} (h : shp fs ((t, o) :: ts) = true)
    (hx : (part t xs o).run P w = .ok vx w) (hy : (part t ys o).run P w = .ok vy w) (he : (Op.equalIn d t vx vy).run P w = .ok r w) : ∃ fs', shp fs' ts = true ∧ (Op.eqFields d xs ys fs).run P w = if r = true then (Op.eqFields d xs ys fs').run P w else .ok false w := by
  cases fs with
  | nil => simp [shp] at h
  | cons f fs =>
    simp only [shp, Bool.and_eq_true, decide_eq_true_eq] at h
    obtain ⟨⟨⟨h1, rfl⟩, rfl⟩, h4⟩ := h
    refine ⟨fs, h4, ?_⟩
    rw [Op.eqFields, if_pos h1, run_bind_ok hx, run_bind_ok hy, run_bind_ok he]
    cases r <;> rfl
theorem eqf_nil {P : Program} {w : World} {d : Nat} {fs : List Field} {xs ys : Array Value} (h : shp fs [] = true) : (Op.eqFields d xs ys fs).run P w = .ok true w := by
  cases fs with
  | nil => rfl
  | cons f fs => simp [shp] at h
theorem ti_i : tiOk Tryz.prog 3 ⟨.other, 1, false, [.int .i64 0]⟩ = true := tab_at tabok rfl
theorem eq_i {w : World} {d : Nat} (a b : Int) : (Op.equalIn (d + 1) 3 (I a) (I b)).run Tryz.prog w = .ok (a == b) w := run_equalIn_int w d _ .i64 .i64 _ _ (by kernel_rfl)
theorem eq_ty {w : World} {d : Nat} (x y : Ty) : (Op.equalIn (d + 2) 61 (.agg (encTy x).toArray) (.agg (encTy y).toArray)).run Tryz.prog w = .ok (decide (x = y)) w := by
  rw [run_equalIn_struct w (d + 1) _ _ _ (by kernel_rfl) (by kernel_rfl)]
  obtain ⟨f1, h1, e1⟩ := eqf_gen (P := Tryz.prog) (w := w) (d := d + 1) (ts := [(3, 1)]) (xs := (encTy x).toArray) (ys := (encTy y).toArray) (show shp (Tryz.prog.fieldsOf 61).toList [(3, 0), (3, 1)] = true by kernel_rfl) (part_cell ti_i rfl) (part_cell ti_i rfl) (eq_i x.kind y.kind)
  obtain ⟨f2, h2, e2⟩ := eqf_gen (P := Tryz.prog) (w := w) (d := d + 1) (xs := (encTy x).toArray) (ys := (encTy y).toArray) h1 (part_cell ti_i rfl) (part_cell ti_i rfl) (eq_i x.cls y.cls)
  rw [e1, e2, eqf_nil h2]
  obtain ⟨a, b⟩ := x
  obtain ⟨c, e⟩ := y
  by_cases p : a = c <;> by_cases q : b = e <;> simp [p, q]
theorem eq_fld {w : World} {d : Nat} (x y : Fld) : (Op.equalIn (d + 3) 86 (.agg (encFld x).toArray) (.agg (encFld y).toArray)).run Tryz.prog w = .ok (decide (x = y)) w := by
  rw [run_equalIn_struct w (d + 2) _ _ _ (by kernel_rfl) (by kernel_rfl)]
  obtain ⟨f1, h1, e1⟩ := eqf_gen (P := Tryz.prog) (w := w) (d := d + 2) (ts := [(61, 1)]) (xs := (encFld x).toArray) (ys := (encFld y).toArray) (show shp (Tryz.prog.fieldsOf 86).toList [(3, 0), (61, 1)] = true by kernel_rfl) (part_cell ti_i rfl) (part_cell ti_i rfl) (eq_i (d := d + 1) x.name y.name)
  obtain ⟨f2, h2, e2⟩ := eqf_gen (P := Tryz.prog) (w := w) (d := d + 2) (xs := (encFld x).toArray) (ys := (encFld y).toArray) h1 (part_agg (tab_at tabok rfl)) (part_agg (tab_at tabok rfl)) (eq_ty (d := d) x.ty y.ty)
  rw [e1, e2, eqf_nil h2]
  obtain ⟨a, b⟩ := x
  obtain ⟨c, e⟩ := y
  by_cases p : a = c <;> by_cases q : b = e <;> simp [p, q]
theorem eq_ins {w : World} {d : Nat} (x y : Ins) : (Op.equalIn (d + 2) 89 (.agg (encIns x).toArray) (.agg (encIns y).toArray)).run Tryz.prog w = .ok (decide (x = y)) w := by
  rw [run_equalIn_struct w (d + 1) _ _ _ (by kernel_rfl) (by kernel_rfl)]
  obtain ⟨f1, h1, e1⟩ := eqf_gen (P := Tryz.prog) (w := w) (d := d + 1) (ts := [(3, 1), (3, 2)]) (xs := (encIns x).toArray) (ys := (encIns y).toArray) (show shp (Tryz.prog.fieldsOf 89).toList [(3, 0), (3, 1), (3, 2)] = true by kernel_rfl) (part_cell ti_i rfl) (part_cell ti_i rfl) (eq_i x.op y.op)
  obtain ⟨f2, h2, e2⟩ := eqf_gen (P := Tryz.prog) (w := w) (d := d + 1) (xs := (encIns x).toArray) (ys := (encIns y).toArray) h1 (part_cell ti_i rfl) (part_cell ti_i rfl) (eq_i x.a y.a)
  obtain ⟨f3, h3, e3⟩ := eqf_gen (P := Tryz.prog) (w := w) (d := d + 1) (xs := (encIns x).toArray) (ys := (encIns y).toArray) h2 (part_cell ti_i rfl) (part_cell ti_i rfl) (eq_i x.b y.b)
  rw [e1, e2, e3, eqf_nil h3]
  obtain ⟨a, b, c⟩ := x
  obtain ⟨a', b', c'⟩ := y
  by_cases p : a = a' <;> by_cases q : b = b' <;> by_cases r : c = c' <;> simp [p, q, r]
/-- != on two values of a struct -/
theorem Eng.neA {C : Cx} {s : St} {w : World} {md : Option Md} {ops : Array Oper} {T T' : TypeId} {x y : Operand} {d : Nat} {ty : TypeId} {pos : String} {af : Array Edge} {g : Option (Nat × Bool)} {rest : List Oper} {k : List Item} {l : Env} {c : CEnv} {a b : List Value} {r : Bool}
    (he : ∀ w', (Op.equalIn 10000 T (.agg a.toArray) (.agg b.toArray)).run C.P w' = .ok r w') (h : Wk C (.reg md ops rest k ((d, .bool (!r)) :: l) c) w)
    (hs : adv C.tab C.n C.ks 400 s = .opn md ops ⟨some d, .binOp .neq T x y T', ty, pos, af, g⟩ rest k l c [] := by rfl) (hx : evc l c [] x = some (.agg a.toArray) := by rfl) (hy : evc l c [] y = some (.agg b.toArray) := by rfl) (hg : C.P.eqGuardType C.P.depth T = false := by kernel_rfl) (hf : fresh d l c [] = true := by rfl) : Wk C s w :=
  rd (p := []) (fun _ _ hA hp w' _ => by
    simp only [execOp, evc_ok hA.k hA.kc.c hp hx, evc_ok hA.k hA.kc.c hp hy]
    have hb : (binOp .neq T (.agg a.toArray) (.agg b.toArray)).run C.P w' = .ok (.bool (!r)) w' := by rw [run_neq_struct, he]; rfl
    exact run_bind_ok (run_bind_ok (run_eqGuard_agg _ _ _ _ _ _ _ hg) |>.trans hb) |>.trans rfl) h hs rfl hf (okR_no rfl)
theorem same_no {α : Type} [DecidableEq α] {l m : List α} {k : Nat} {x y : α} (hx : l[k]? = some x) (hy : m[k]? = some y) (h : x ≠ y) : decide (l = m) = false := by
  rw [decide_eq_false_iff_not]
  rintro rfl
  rw [hx] at hy
  exact h (Option.some.inj hy)
theorem same_len {α : Type} [DecidableEq α] {l m : List α} (h : (l.length : Int) ≠ m.length) : decide (l = m) = false := by
  rw [decide_eq_false_iff_not]
  rintro rfl
  exact h rfl
theorem same_go {α : Type} {l m : List α} {k : Nat} {x y : α} (hx : l[k]? = some x) (hy : m[k]? = some y) (h : x = y) (hk : l.take k = m.take k) : l.take (k + 1) = m.take (k + 1) := by
  rw [take_succ_some hx, take_succ_some hy, hk, h]
theorem same_end {α : Type} [DecidableEq α] {l m : List α} {k : Nat} (hl : (l.length : Int) = m.length) (h : l.take k = m.take k) (hk : k = l.length) : decide (l = m) = true := by
  subst hk
  rw [List.take_length, List.take_of_length_le (by omega)] at h
  exact decide_eq_true h
theorem r_SameStrings (l m : List ByteArray) (a1 a2 : Option Addr) (c1 c2 : Nat) (w : World) (h1 : Sl eStr T w a1 l) (h2 : Sl eStr T w a2 m) : Ret Tryz.prog 26 #[.slice a1 l.length c1, .slice a2 m.length c2] w fun v w' => v = .bool (decide (l = m)) ∧ Bl w w' := by
  refine entr (vs := [.slice a1 l.length c1, .slice a2 m.length c2]) [0, 1, 4, 5, 10, 14, 25] tabok Tryz.func26 (by kernel_rfl) ?_
  have hb1 := h1.big
  have hb2 := h2.big
  refine br (fun h => ?_) (fun h => ?_)
  · exact rt1 ⟨vb (same_len (of_decide_eq_true h)).symm, Bl.refl _⟩
  have hl := Classical.not_not.1 (of_decide_eq_false h)
  refine lpk l.length 5 [] [(0, .slice a1 l.length c1), (1, .slice a2 m.length c2)] (fun k vals w' => vals = [] ∧ l.take k = m.take k ∧ Bl w w') ⟨rfl, rfl, Bl.refl _⟩ ?_
  rintro k vals w2 hk ⟨rfl, ha, hB⟩ ih
  by_cases hlt : k < l.length
  · refine brT ?_
    obtain ⟨x, b, o, cs, hx, rfl, _, hAt, rfl⟩ := at_some (h1.bl hB) hlt
    obtain ⟨y, b', o', cs', hy, rfl, _, hAt', rfl⟩ := at_some (h2.bl hB) (i := k) (by omega)
    refine dh T (List.range 9) fun w8 h8 => ?_
    have hC := hAt.bl h8.bl
    have hC' := hAt'.bl h8.bl
    refine ix ?_
    refine ld (hC 0 _ rfl) ?_ (hm := trivial)
    refine ix ?_
    refine ld (hC' 0 _ rfl) ?_ (hm := trivial)
    skip
    refine br (fun h => ?_) (fun h => ?_)
    · exact rt1 ⟨vb (same_no hx hy (of_decide_eq_true h)).symm, hB.trans h8.bl⟩
    · exact ih hlt ⟨rfl, same_go hx hy (Classical.not_not.1 (of_decide_eq_false h)) ha, hB.trans h8.bl⟩
  refine brF ?_
  exact rt1 ⟨vb (same_end hl ha (by omega)).symm, hB⟩
theorem r_sameFields (l m : List Fld) (a1 a2 : Option Addr) (c1 c2 : Nat) (w : World) (h1 : Sl eFld T w a1 l) (h2 : Sl eFld T w a2 m) : Ret Tryz.prog 64 #[.slice a1 l.length c1, .slice a2 m.length c2] w fun v w' => v = .bool (decide (l = m)) ∧ Bl w w' := by
  refine entr (vs := [.slice a1 l.length c1, .slice a2 m.length c2]) [0, 1, 4, 5, 10, 14, 25] tabok Tryz.func64 (by kernel_rfl) ?_
  have hb1 := h1.big
  have hb2 := h2.big
  refine br (fun h => ?_) (fun h => ?_)
  · exact rt1 ⟨vb (same_len (of_decide_eq_true h)).symm, Bl.refl _⟩
  have hl := Classical.not_not.1 (of_decide_eq_false h)
  refine lpk l.length 5 [] [(0, .slice a1 l.length c1), (1, .slice a2 m.length c2)] (fun k vals w' => vals = [] ∧ l.take k = m.take k ∧ Bl w w') ⟨rfl, rfl, Bl.refl _⟩ ?_
  rintro k vals w2 hk ⟨rfl, ha, hB⟩ ih
  by_cases hlt : k < l.length
  · refine brT ?_
    obtain ⟨x, b, o, cs, hx, rfl, _, hAt, rfl⟩ := at_some (h1.bl hB) hlt
    obtain ⟨y, b', o', cs', hy, rfl, _, hAt', rfl⟩ := at_some (h2.bl hB) (i := k) (by omega)
    refine dh T (List.range 9) fun w8 h8 => ?_
    have hC := hAt.bl h8.bl
    have hC' := hAt'.bl h8.bl
    refine ix ?_
    refine lda hC ?_ (hm := trivial)
    refine ix ?_
    refine lda hC' ?_ (hm := trivial)
    refine neA (fun w => eq_fld x y) ?_
    refine br (fun h => ?_) (fun h => ?_)
    · exact rt1 ⟨vb (same_no hx hy (fun e => by rw [decide_eq_true e] at h; cases h)).symm, hB.trans h8.bl⟩
    · exact ih hlt ⟨rfl, same_go hx hy (Classical.byContradiction fun e => by rw [decide_eq_false e] at h; cases h) ha, hB.trans h8.bl⟩
  refine brF ?_
  exact rt1 ⟨vb (same_end hl ha (by omega)).symm, hB⟩
theorem r_sameTypes (l m : List Ty) (a1 a2 : Option Addr) (c1 c2 : Nat) (w : World) (h1 : Sl eTy T w a1 l) (h2 : Sl eTy T w a2 m) : Ret Tryz.prog 65 #[.slice a1 l.length c1, .slice a2 m.length c2] w fun v w' => v = .bool (decide (l = m)) ∧ Bl w w' := by
  refine entr (vs := [.slice a1 l.length c1, .slice a2 m.length c2]) [0, 1, 4, 5, 10, 14, 25] tabok Tryz.func65 (by kernel_rfl) ?_
  have hb1 := h1.big
  have hb2 := h2.big
  refine br (fun h => ?_) (fun h => ?_)
  · exact rt1 ⟨vb (same_len (of_decide_eq_true h)).symm, Bl.refl _⟩
  have hl := Classical.not_not.1 (of_decide_eq_false h)
  refine lpk l.length 5 [] [(0, .slice a1 l.length c1), (1, .slice a2 m.length c2)] (fun k vals w' => vals = [] ∧ l.take k = m.take k ∧ Bl w w') ⟨rfl, rfl, Bl.refl _⟩ ?_
  rintro k vals w2 hk ⟨rfl, ha, hB⟩ ih
  by_cases hlt : k < l.length
  · refine brT ?_
    obtain ⟨x, b, o, cs, hx, rfl, _, hAt, rfl⟩ := at_some (h1.bl hB) hlt
    obtain ⟨y, b', o', cs', hy, rfl, _, hAt', rfl⟩ := at_some (h2.bl hB) (i := k) (by omega)
    refine dh T (List.range 9) fun w8 h8 => ?_
    have hC := hAt.bl h8.bl
    have hC' := hAt'.bl h8.bl
    refine ix ?_
    refine lda hC ?_ (hm := trivial)
    refine ix ?_
    refine lda hC' ?_ (hm := trivial)
    refine neA (fun w => eq_ty x y) ?_
    refine br (fun h => ?_) (fun h => ?_)
    · exact rt1 ⟨vb (same_no hx hy (fun e => by rw [decide_eq_true e] at h; cases h)).symm, hB.trans h8.bl⟩
    · exact ih hlt ⟨rfl, same_go hx hy (Classical.byContradiction fun e => by rw [decide_eq_false e] at h; cases h) ha, hB.trans h8.bl⟩
  refine brF ?_
  exact rt1 ⟨vb (same_end hl ha (by omega)).symm, hB⟩
theorem r_SameCode (l m : List Ins) (a1 a2 : Option Addr) (c1 c2 : Nat) (w : World) (h1 : Sl eIns T w a1 l) (h2 : Sl eIns T w a2 m) : Ret Tryz.prog 66 #[.slice a1 l.length c1, .slice a2 m.length c2] w fun v w' => v = .bool (decide (l = m)) ∧ Bl w w' := by
  refine entr (vs := [.slice a1 l.length c1, .slice a2 m.length c2]) [0, 1, 4, 5, 10, 14, 25] tabok Tryz.func66 (by kernel_rfl) ?_
  have hb1 := h1.big
  have hb2 := h2.big
  refine br (fun h => ?_) (fun h => ?_)
  · exact rt1 ⟨vb (same_len (of_decide_eq_true h)).symm, Bl.refl _⟩
  have hl := Classical.not_not.1 (of_decide_eq_false h)
  refine lpk l.length 5 [] [(0, .slice a1 l.length c1), (1, .slice a2 m.length c2)] (fun k vals w' => vals = [] ∧ l.take k = m.take k ∧ Bl w w') ⟨rfl, rfl, Bl.refl _⟩ ?_
  rintro k vals w2 hk ⟨rfl, ha, hB⟩ ih
  by_cases hlt : k < l.length
  · refine brT ?_
    obtain ⟨x, b, o, cs, hx, rfl, _, hAt, rfl⟩ := at_some (h1.bl hB) hlt
    obtain ⟨y, b', o', cs', hy, rfl, _, hAt', rfl⟩ := at_some (h2.bl hB) (i := k) (by omega)
    refine dh T (List.range 9) fun w8 h8 => ?_
    have hC := hAt.bl h8.bl
    have hC' := hAt'.bl h8.bl
    refine ix ?_
    refine lda hC ?_ (hm := trivial)
    refine ix ?_
    refine lda hC' ?_ (hm := trivial)
    refine neA (fun w => eq_ins x y) ?_
    refine br (fun h => ?_) (fun h => ?_)
    · exact rt1 ⟨vb (same_no hx hy (fun e => by rw [decide_eq_true e] at h; cases h)).symm, hB.trans h8.bl⟩
    · exact ih hlt ⟨rfl, same_go hx hy (Classical.byContradiction fun e => by rw [decide_eq_false e] at h; cases h) ha, hB.trans h8.bl⟩
  refine brF ?_
  exact rt1 ⟨vb (same_end hl ha (by omega)).symm, hB⟩
/-- a guard that says yes -/
theorem Eng.spt {C : Cx} {s : St} {w : World} {md : Option Md} {ops : Array Oper} {o : Oper} {rest : List Oper} {k : List Item} {l : Env} {c : CEnv} {gs : Nat} {gb gt : Bool} {d : Nat} (u : Value)
    (h1 : Wk C (.opn md ops o rest k (bools [(gs, gb)] (settleL [(gs, gb)] c l)) (settleC [(gs, gb)] c) []) w)
    (hs : adv C.tab C.n C.ks 400 s = .opn md ops o rest k l c [(gs, gb)] := by rfl) (hg : evc l c [] (.tmp gs) = some (.bool gt) := by rfl) (hd : o.dst = some d := by rfl) (hf : fresh d l c [(gs, gb)] = true := by rfl) (hb : gt = gb := by first | rfl | simp) : Wk C s w :=
  sp u (fun _ => h1) (fun q => by rw [hb] at q; cases gb <;> cases q) hs hg hd hf
/-- a unit is the same as itself, wherever both lie -/
theorem r_Same_eq (u : Unt) (a b : UA) (w : World) (hU : UnR T w u a) (hV : UnR T w u b) : Ret Tryz.prog 23 #[.agg (ucells u a).toArray, .agg (ucells u b).toArray] w fun v w' => v = .bool true ∧ Bl w w' := by
  refine entr (vs := [.agg (ucells u a).toArray, .agg (ucells u b).toArray]) [0, 1, 2, 3, 4, 5, 6, 7, 8, 9, 10, 49, 54, 86, 91, 146] tabok Tryz.func23 (by kernel_rfl) ?_
  have hp2 := hU.cls.big
  have hp4 := hU.mth.big
  refine bx (cs := ucells u a) fun b1 w1 h1 => ?_
  refine bx (cs := ucells u b) fun b2 w2 h2 => ?_
  have B02 : Bl w w2 := h1.bl.trans h2.bl
  have hx1 := Bl.box h2.bl h1.box
  have hx2 := h2.box
  refine ld (hx1.cell rfl) ?_
  refine ld (hx2.cell rfl) ?_
  refine ldg (fun _ => hx1.cell rfl) ?_
  refine ldg (fun _ => hx2.cell rfl) ?_
  refine spt (.bool true) ?_
  refine cl (r_SameStrings u.pool u.pool a.a1 b.a1 a.c1 b.c1 w2 (hU.bl B02).pool (hV.bl B02).pool) ?_
  rintro _ w3 ⟨rfl, h3⟩
  rw [decide_eq_true (rfl : u.pool = u.pool)]
  replace hx1 := Bl.box h3 hx1
  replace hx2 := Bl.box h3 hx2
  have B03 := B02.trans h3
  refine ldg (fun _ => hx1.cell rfl) ?_
  refine ldg (fun _ => hx2.cell rfl) ?_
  refine ldg (fun _ => hx1.cell rfl) ?_
  refine ldg (fun _ => hx2.cell rfl) ?_
  refine ldg (fun _ => hx1.cell rfl) ?_
  refine ldg (fun _ => hx2.cell rfl) ?_
  refine spt (.bool true) ?_
  refine cl (r_sameFields u.statics u.statics a.a3 b.a3 a.c3 b.c3 w3 (hU.bl B03).sta (hV.bl B03).sta) ?_
  rintro _ w4 ⟨rfl, h4⟩
  rw [decide_eq_true (rfl : u.statics = u.statics)]
  replace hx1 := Bl.box h4 hx1
  replace hx2 := Bl.box h4 hx2
  have B04 := B03.trans h4
  refine brf ?_
  refine lpk u.classes.length 5 [] [(2, .pointer (some ⟨b1, 0, none⟩)), (3, .pointer (some ⟨b2, 0, none⟩))] (fun k vals w' => vals = [] ∧ Bl w4 w') ⟨rfl, Bl.refl _⟩ ?_
  rintro k vals w5 hk ⟨rfl, hB⟩ ih
  have hy1 := Bl.box hB hx1
  have hy2 := Bl.box hB hx2
  have B05 := B04.trans hB
  refine ld (hy1.cell rfl) ?_
  by_cases hlt : k < u.classes.length
  · refine brT ?_
    obtain ⟨c, bs, o, cs, hc, e2, _, hAt, af, cf, rfl, hf⟩ := at_some (hU.bl B05).cls hlt
    obtain ⟨c', bs', o', cs', hc', e2', _, hAt', af', cf', rfl, hf'⟩ := at_some (hV.bl B05).cls hlt
    obtain rfl : c = c' := by rw [hc] at hc'; exact Option.some.inj hc'
    refine ld (hy1.cell rfl) ?_
    rw [e2]
    refine ix ?_
    refine lda hAt ?_
    refine al fun b6 w6 h6 => ?_
    refine sta h6.box fun w7 k7 hx7 => ?_
    have B57 : Bl w5 w7 := h6.wr k7
    refine ld ((Bl.box B57 hy2).cell rfl) ?_
    rw [e2']
    refine ix ?_
    refine lda (hAt'.bl B57) ?_
    refine al fun b8 w8 h8 => ?_
    refine sta h8.box fun w9 k9 hx9 => ?_
    have B79 : Bl w7 w9 := h8.wr k9
    have hz7 := Bl.box B79 hx7
    refine ld (hz7.cell rfl) ?_
    refine ld (hx9.cell rfl) ?_
    refine ldg (fun _ => hz7.cell rfl) ?_
    refine ldg (fun _ => hx9.cell rfl) ?_
    refine ldg (fun _ => hz7.cell rfl) ?_
    refine ldg (fun _ => hx9.cell rfl) ?_
    refine spt (.bool true) ?_
    refine cl (r_sameFields c.fields c.fields af af' cf cf' w9 (hf.bl (B57.trans B79)) (hf'.bl (B57.trans B79))) ?_
    rintro _ w10 ⟨rfl, h10⟩
    rw [decide_eq_true (rfl : c.fields = c.fields)]
    refine brf ?_
    exact ih hlt ⟨rfl, ((hB.trans B57).trans B79).trans h10⟩
  refine brF ?_
  clear ih hy1 hy2
  refine lpk u.methods.length 8 [] [(2, .pointer (some ⟨b1, 0, none⟩)), (3, .pointer (some ⟨b2, 0, none⟩))] (fun k vals w' => vals = [] ∧ Bl w4 w') ⟨rfl, hB⟩ ?_
  clear hB B05
  rintro k vals w5 hk ⟨rfl, hB⟩ ih
  have hy1 := Bl.box hB hx1
  have hy2 := Bl.box hB hx2
  have B05 := B04.trans hB
  refine ld (hy1.cell rfl) ?_
  by_cases hlt : k < u.methods.length
  · refine brT ?_
    obtain ⟨m, bs, o, cs, hm, e2, _, hAt, q1, s1, q2, s2, q3, s3, rfl, f1, f2, f3⟩ := at_some (hU.bl B05).mth hlt
    obtain ⟨m', bs', o', cs', hm', e2', _, hAt', q1', s1', q2', s2', q3', s3', rfl, f1', f2', f3'⟩ := at_some (hV.bl B05).mth hlt
    obtain rfl : m = m' := by rw [hm] at hm'; exact Option.some.inj hm'
    refine ld (hy1.cell rfl) ?_
    rw [e2]
    refine ix ?_
    refine lda hAt ?_
    refine al fun b6 w6 h6 => ?_
    refine sta h6.box fun w7 k7 hx7 => ?_
    have B57 : Bl w5 w7 := h6.wr k7
    refine ld ((Bl.box B57 hy2).cell rfl) ?_
    rw [e2']
    refine ix ?_
    refine lda (hAt'.bl B57) ?_
    refine al fun b8 w8 h8 => ?_
    refine sta h8.box fun w9 k9 hx9 => ?_
    have B79 : Bl w7 w9 := h8.wr k9
    have hz7 := Bl.box B79 hx7
    have B59 := B57.trans B79
    refine ld (hz7.cell rfl) ?_
    refine ld (hx9.cell rfl) ?_
    refine ldg (fun _ => hz7.cell rfl) ?_
    refine ldg (fun _ => hx9.cell rfl) ?_
    refine spt (.bool true) ?_
    refine lda (At.left (cs := encTy m.result) hz7.at.tail.tail.tail.tail) ?_
    refine spt (.bool true) ?_
    refine lda (At.left (cs := encTy m.result) hx9.at.tail.tail.tail.tail) ?_
    refine spt (.bool true) ?_
    refine neA (fun w => eq_ty m.result m.result) ?_
    rw [decide_eq_true (rfl : m.result = m.result)]
    refine ldg (fun _ => hz7.cell rfl) ?_
    refine ldg (fun _ => hx9.cell rfl) ?_
    refine spt (.bool true) ?_
    refine cl (r_sameTypes m.params m.params q1 q1' s1 s1' w9 (f1.bl B59) (f1'.bl B59)) ?_
    rintro _ w10 ⟨rfl, h10⟩
    rw [decide_eq_true (rfl : m.params = m.params)]
    replace hz7 := Bl.box h10 hz7
    replace hx9 := Bl.box h10 hx9
    refine ldg (fun _ => hz7.cell rfl) ?_
    refine ldg (fun _ => hx9.cell rfl) ?_
    refine spt (.bool true) ?_
    refine cl (r_sameTypes m.locals m.locals q2 q2' s2 s2' w10 (f2.bl (B59.trans h10)) (f2'.bl (B59.trans h10))) ?_
    rintro _ w11 ⟨rfl, h11⟩
    rw [decide_eq_true (rfl : m.locals = m.locals)]
    replace hz7 := Bl.box h11 hz7
    replace hx9 := Bl.box h11 hx9
    have B511 := (B59.trans h10).trans h11
    refine ldg (fun _ => hz7.cell rfl) ?_
    refine ldg (fun _ => hx9.cell rfl) ?_
    refine spt (.bool true) ?_
    refine cl (r_SameCode m.code m.code q3 q3' s3 s3' w11 (f3.bl B511) (f3'.bl B511)) ?_
    rintro _ w12 ⟨rfl, h12⟩
    rw [decide_eq_true (rfl : m.code = m.code)]
    refine brf ?_
    exact ih hlt ⟨rfl, (hB.trans B511).trans h12⟩
  refine brF ?_
  exact rt1 ⟨rfl, B05⟩
end Go.Proofs.YtopjmiklpnejmaaGreatDoor
