/- Walks: the program's comparison of units. -/
import Derived.Test.YtopjmiklpnejmaaGreatDoorEq
namespace Go.Proofs.YtopjmiklpnejmaaGreatDoor
open Eng Go.RowKit
/-- == on two values of a struct -/
theorem Eng.eqA {C : Cx} {s : St} {w : World} {md : Option Md} {ops : Array Oper} {T T' : TypeId} {x y : Operand} {d : Nat} {ty : TypeId} {pos : String} {af : Array Edge} {g : Option (Nat × Bool)} {rest : List Oper} {k : List Item} {l : Env} {c : CEnv} {a b : List Value} {r : Bool}
    (he : ∀ w', (Op.equalIn 10000 T (.agg a.toArray) (.agg b.toArray)).run C.P w' = .ok r w') (h : Wk C (.reg md ops rest k ((d, .bool r) :: l) c) w)
    (hs : adv C.tab C.n C.ks 400 s = .opn md ops ⟨some d, .binOp .eql T x y T', ty, pos, af, g⟩ rest k l c [] := by rfl) (hx : evc l c [] x = some (.agg a.toArray) := by rfl) (hy : evc l c [] y = some (.agg b.toArray) := by rfl) (hg : C.P.eqGuardType C.P.depth T = false := by kernel_rfl) (hf : fresh d l c [] = true := by rfl) : Wk C s w :=
  rd (p := []) (fun _ _ hA hp w' _ => by
    simp only [execOp, evc_ok hA.k hA.kc.c hp hx, evc_ok hA.k hA.kc.c hp hy]
    have hb : (binOp .eql T (.agg a.toArray) (.agg b.toArray)).run C.P w' = .ok (.bool r) w' := by rw [run_eql_struct, he]; rfl
    exact run_bind_ok (run_bind_ok (run_eqGuard_agg _ _ _ _ _ _ _ hg) |>.trans hb) |>.trans rfl) h hs rfl hf (okR_no rfl)
/-- a guard that says no -/
theorem Eng.spn {C : Cx} {s : St} {w : World} {md : Option Md} {ops : Array Oper} {o : Oper} {rest : List Oper} {k : List Item} {l : Env} {c : CEnv} {gs : Nat} {gb gt : Bool} {d : Nat} (u : Value)
    (h2 : Wk C (.reg md ops rest k l ((d, [(gs, gb)], u) :: c)) w)
    (hs : adv C.tab C.n C.ks 400 s = .opn md ops o rest k l c [(gs, gb)] := by rfl) (hg : evc l c [] (.tmp gs) = some (.bool gt) := by rfl) (hd : o.dst = some d := by rfl) (hf : fresh d l c [(gs, gb)] = true := by rfl) (hb : gt = (!gb) := by first | rfl | simp_all) : Wk C s w :=
  sp u (fun q => by rw [q] at hb; cases gb <;> cases hb) (fun _ => h2) hs hg hd hf
theorem cls_eq (c d : Cls) : c = d ↔ c.name = d.name ∧ c.super = d.super ∧ c.fields = d.fields := by
  obtain ⟨a, b, e⟩ := c
  obtain ⟨a', b', e'⟩ := d
  simp
theorem mth_eq (c d : Mth) : c = d ↔ c.name = d.name ∧ c.cls = d.cls ∧ c.result = d.result ∧ c.params = d.params ∧ c.locals = d.locals ∧ c.code = d.code := by
  obtain ⟨a, b, e, f, g, h⟩ := c
  obtain ⟨a', b', e', f', g', h'⟩ := d
  simp only [Mth.mk.injEq]
  constructor
  · rintro ⟨h1, h2, h3, h4, h5, h6⟩; exact ⟨h1, h2, h5, h3, h4, h6⟩
  · rintro ⟨h1, h2, h3, h4, h5, h6⟩; exact ⟨h1, h2, h4, h5, h3, h6⟩
def sameU (u v : Unt) : Bool := decide (u.name = v.name) && decide (u.pool = v.pool) && decide (u.classes = v.classes) && decide (u.statics = v.statics) && decide (u.methods = v.methods)
theorem u_Same1 (c d : Cls) (cs ds : List Value) (w : World) (hc : eCls.rel T w cs c) (hd : eCls.rel T w ds d) : Ret Tryz.prog 72 #[asV cs, asV ds] w fun v w' => v = .bool (decide (c = d)) ∧ Bl w w' := by
  obtain ⟨a, cap, rfl, hf⟩ := hc
  obtain ⟨a', cap', rfl, hf'⟩ := hd
  refine entr (vs := [asV [I c.name, I c.super, .slice a c.fields.length cap], asV [I d.name, I d.super, .slice a' d.fields.length cap']]) [0, 1, 2, 3, 4] tabok Tryz.func72 (by kernel_rfl) ?_
  refine bx (cs := [I c.name, I c.super, .slice a c.fields.length cap]) fun b1 w1 h1 => ?_
  refine bx (cs := [I d.name, I d.super, .slice a' d.fields.length cap']) fun b2 w2 h2 => ?_
  have hx1 := Bl.box h2.bl h1.box
  have hx2 := h2.box
  have B := h1.bl.trans h2.bl
  refine ld (hx1.cell rfl) ?_
  refine ld (hx2.cell rfl) ?_
  refine ldg (fun _ => hx1.cell rfl) ?_
  refine ldg (fun _ => hx2.cell rfl) ?_
  refine ldg (fun _ => hx1.cell rfl) ?_
  refine ldg (fun _ => hx2.cell rfl) ?_
  refine sp (.bool false) (fun q => ?_) (fun q => ?_)
  · refine cl (c_EqFld c.fields d.fields a a' cap cap' w2 (hf.bl B) (hf'.bl B)) ?_
    rintro _ w3 ⟨rfl, h3⟩
    refine rt1 ⟨vb ?_, B.trans h3⟩
    simp_all [cls_eq]
  · refine rt1 ⟨vb ?_, B⟩
    simp_all [cls_eq]
theorem u_Same2 (c d : Mth) (cs ds : List Value) (w : World) (hc : eMth.rel T w cs c) (hd : eMth.rel T w ds d) : Ret Tryz.prog 74 #[asV cs, asV ds] w fun v w' => v = .bool (decide (c = d)) ∧ Bl w w' := by
  obtain ⟨q1, s1, q2, s2, q3, s3, rfl, f1, f2, f3⟩ := hc
  obtain ⟨q1', s1', q2', s2', q3', s3', rfl, f1', f2', f3'⟩ := hd
  refine entr (vs := [asV (mcells c q1 s1 q2 s2 q3 s3), asV (mcells d q1' s1' q2' s2' q3' s3')]) [0, 1, 2, 3, 4] tabok Tryz.func74 (by kernel_rfl) ?_
  refine bx (cs := mcells c q1 s1 q2 s2 q3 s3) fun b1 w1 h1 => ?_
  refine bx (cs := mcells d q1' s1' q2' s2' q3' s3') fun b2 w2 h2 => ?_
  have hx1 := Bl.box h2.bl h1.box
  have hx2 := h2.box
  have B := h1.bl.trans h2.bl
  refine ld (hx1.cell rfl) ?_
  refine ld (hx2.cell rfl) ?_
  refine ldg (fun _ => hx1.cell rfl) ?_
  refine ldg (fun _ => hx2.cell rfl) ?_
  refine sp (.agg (encTy c.result).toArray) (fun q => ?_) (fun q => ?_)
  rotate_left
  · refine spn (.agg (encTy d.result).toArray) ?_
    refine spn (.bool false) ?_
    refine ldg (fun _ => hx1.cell rfl) ?_
    refine ldg (fun _ => hx2.cell rfl) ?_
    refine spn (.bool false) ?_
    refine ldg (fun _ => hx1.cell rfl) ?_
    refine ldg (fun _ => hx2.cell rfl) ?_
    refine spn (.bool false) ?_
    refine ldg (fun _ => hx1.cell rfl) ?_
    refine ldg (fun _ => hx2.cell rfl) ?_
    refine spn (.bool false) ?_
    refine rt1 ⟨vb ?_, B⟩
    simp_all [mth_eq]
  refine lda (At.left (cs := encTy c.result) hx1.at.tail.tail.tail.tail) ?_
  refine spt (.agg (encTy d.result).toArray) ?_
  refine lda (At.left (cs := encTy d.result) hx2.at.tail.tail.tail.tail) ?_
  refine spt (.bool false) ?_
  refine eqA (fun w => eq_ty c.result d.result) ?_
  refine ldg (fun _ => hx1.cell rfl) ?_
  refine ldg (fun _ => hx2.cell rfl) ?_
  refine sp (.bool false) (fun k2 => ?_) (fun k2 => ?_)
  rotate_left
  · refine ldg (fun _ => hx1.cell rfl) ?_
    refine ldg (fun _ => hx2.cell rfl) ?_
    refine spn (.bool false) ?_
    refine ldg (fun _ => hx1.cell rfl) ?_
    refine ldg (fun _ => hx2.cell rfl) ?_
    refine spn (.bool false) ?_
    refine rt1 ⟨vb ?_, B⟩
    simp_all [mth_eq]
  refine cl (c_EqTy c.params d.params q1 q1' s1 s1' w2 (f1.bl B) (f1'.bl B)) ?_
  rintro _ w3 ⟨rfl, h3⟩
  have B3 := B.trans h3
  replace hx1 := Bl.box h3 hx1
  replace hx2 := Bl.box h3 hx2
  refine ldg (fun _ => hx1.cell rfl) ?_
  refine ldg (fun _ => hx2.cell rfl) ?_
  refine sp (.bool false) (fun k3 => ?_) (fun k3 => ?_)
  rotate_left
  · refine ldg (fun _ => hx1.cell rfl) ?_
    refine ldg (fun _ => hx2.cell rfl) ?_
    refine spn (.bool false) ?_
    refine rt1 ⟨vb ?_, B3⟩
    simp_all [mth_eq]
  refine cl (c_EqTy c.locals d.locals q2 q2' s2 s2' w3 (f2.bl B3) (f2'.bl B3)) ?_
  rintro _ w4 ⟨rfl, h4⟩
  have B4 := B3.trans h4
  replace hx1 := Bl.box h4 hx1
  replace hx2 := Bl.box h4 hx2
  refine ldg (fun _ => hx1.cell rfl) ?_
  refine ldg (fun _ => hx2.cell rfl) ?_
  refine sp (.bool false) (fun k4 => ?_) (fun k4 => ?_)
  rotate_left
  · refine rt1 ⟨vb ?_, B4⟩
    simp_all [mth_eq]
  refine cl (c_EqIns c.code d.code q3 q3' s3 s3' w4 (f3.bl B4) (f3'.bl B4)) ?_
  rintro _ w5 ⟨rfl, h5⟩
  refine rt1 ⟨vb ?_, B4.trans h5⟩
  simp_all [mth_eq]
theorem u_Same (u v : Unt) (a b : UA) (w : World) (hU : UnR T w u a) (hV : UnR T w v b) : Ret Tryz.prog 27 #[.agg (ucells u a).toArray, .agg (ucells v b).toArray] w fun x w' => x = .bool (sameU u v) ∧ Bl w w' := by
  refine entr (vs := [.agg (ucells u a).toArray, .agg (ucells v b).toArray]) [0, 1, 2, 3, 4, 5, 6] tabok Tryz.func27 (by kernel_rfl) ?_
  refine bx (cs := ucells u a) fun b1 w1 h1 => ?_
  refine bx (cs := ucells v b) fun b2 w2 h2 => ?_
  have hx1 := Bl.box h2.bl h1.box
  have hx2 := h2.box
  have B := h1.bl.trans h2.bl
  refine ld (hx1.cell rfl) ?_
  refine ld (hx2.cell rfl) ?_
  refine ldg (fun _ => hx1.cell rfl) ?_
  refine ldg (fun _ => hx2.cell rfl) ?_
  refine sp (.bool false) (fun k1 => ?_) (fun k1 => ?_)
  rotate_left
  · refine ldg (fun _ => hx1.cell rfl) ?_
    refine ldg (fun _ => hx2.cell rfl) ?_
    refine spn (.bool false) ?_
    refine ldg (fun _ => hx1.cell rfl) ?_
    refine ldg (fun _ => hx2.cell rfl) ?_
    refine spn (.bool false) ?_
    refine ldg (fun _ => hx1.cell rfl) ?_
    refine ldg (fun _ => hx2.cell rfl) ?_
    refine spn (.bool false) ?_
    refine rt1 ⟨vb ?_, B⟩
    simp_all [sameU]
  refine cl (c_EqStr u.pool v.pool a.a1 b.a1 a.c1 b.c1 w2 (hU.bl B).pool (hV.bl B).pool) ?_
  rintro _ w3 ⟨rfl, h3⟩
  have B3 := B.trans h3
  replace hx1 := Bl.box h3 hx1
  replace hx2 := Bl.box h3 hx2
  refine ldg (fun _ => hx1.cell rfl) ?_
  refine ldg (fun _ => hx2.cell rfl) ?_
  refine sp (.bool false) (fun k2 => ?_) (fun k2 => ?_)
  rotate_left
  · refine ldg (fun _ => hx1.cell rfl) ?_
    refine ldg (fun _ => hx2.cell rfl) ?_
    refine spn (.bool false) ?_
    refine ldg (fun _ => hx1.cell rfl) ?_
    refine ldg (fun _ => hx2.cell rfl) ?_
    refine spn (.bool false) ?_
    refine rt1 ⟨vb ?_, B3⟩
    simp_all [sameU]
  refine cl (c_EqCls u.classes v.classes a.a2 b.a2 a.c2 b.c2 72 [] w3 (hU.bl B3).cls (hV.bl B3).cls (fun x y cs ds w' _ hc hd => u_Same1 x y cs ds w' hc hd)) ?_
  rintro _ w4 ⟨rfl, h4⟩
  have B4 := B3.trans h4
  replace hx1 := Bl.box h4 hx1
  replace hx2 := Bl.box h4 hx2
  refine ldg (fun _ => hx1.cell rfl) ?_
  refine ldg (fun _ => hx2.cell rfl) ?_
  refine sp (.bool false) (fun k3 => ?_) (fun k3 => ?_)
  rotate_left
  · refine ldg (fun _ => hx1.cell rfl) ?_
    refine ldg (fun _ => hx2.cell rfl) ?_
    refine spn (.bool false) ?_
    refine rt1 ⟨vb ?_, B4⟩
    simp_all [sameU]
  refine cl (c_EqFld u.statics v.statics a.a3 b.a3 a.c3 b.c3 w4 (hU.bl B4).sta (hV.bl B4).sta) ?_
  rintro _ w5 ⟨rfl, h5⟩
  have B5 := B4.trans h5
  replace hx1 := Bl.box h5 hx1
  replace hx2 := Bl.box h5 hx2
  refine ldg (fun _ => hx1.cell rfl) ?_
  refine ldg (fun _ => hx2.cell rfl) ?_
  refine sp (.bool false) (fun k4 => ?_) (fun k4 => ?_)
  rotate_left
  · refine rt1 ⟨vb ?_, B5⟩
    simp_all [sameU]
  refine cl (c_EqMth u.methods v.methods a.a4 b.a4 a.c4 b.c4 74 [] w5 (hU.bl B5).mth (hV.bl B5).mth (fun x y cs ds w' _ hc hd => u_Same2 x y cs ds w' hc hd)) ?_
  rintro _ w6 ⟨rfl, h6⟩
  refine rt1 ⟨vb ?_, B5.trans h6⟩
  simp_all [sameU]
end Go.Proofs.YtopjmiklpnejmaaGreatDoor
