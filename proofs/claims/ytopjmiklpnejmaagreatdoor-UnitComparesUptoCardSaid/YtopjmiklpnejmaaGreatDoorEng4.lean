/- The engine, fifth part: steps that make or write memory; calls. -/
import Derived.Test.YtopjmiklpnejmaaGreatDoorEng3
namespace Go.Proofs.YtopjmiklpnejmaaGreatDoor.Eng
open Go Go.RowKit
def forceL {α : Type} : List α → (List α → Option (List α)) → Option (List α)
  | [], k => k []
  | x :: xs, k => forceL xs (fun ys => k (x :: ys))
theorem forceL_eq {α : Type} : ∀ (l : List α) (k : List α → Option (List α)), forceL l k = k l
  | [], _ => rfl
  | x :: xs, k => by rw [forceL, forceL_eq xs]
def frc {α : Type} (l : List α) : Option (List α) := forceL l some
theorem frc_eq {α : Type} {l m : List α} (h : frc l = some m) : m = l := by rw [frc, forceL_eq] at h; exact (Option.some.inj h).symm

/-- block b is just these cells, free to be written -/
def Box (w : World) (b : Nat) (t : TypeId) (cs : List Value) : Prop := w.heap[b]? = some (.cells cs.toArray t (0, 0))
theorem Box.lt {w : World} {b : Nat} {t : TypeId} {cs : List Value} (h : Box w b t cs) : b < w.heap.size := (Array.getElem?_eq_some_iff.1 h).1
theorem Box.cell {w : World} {b : Nat} {t : TypeId} {cs : List Value} (h : Box w b t cs) {o : Nat} {v : Value} (hv : cs[o]? = some v) : w.cell? ⟨b, o, none⟩ = some v := by
  unfold Box at h
  simp [World.cell?, h, hv]
theorem Box.at {w : World} {b : Nat} {t : TypeId} {cs : List Value} (h : Box w b t cs) : At w b 0 cs := fun j v hv => by rw [Nat.zero_add]; exact h.cell hv
theorem Box.frozen {w : World} {b : Nat} {t : TypeId} {cs : List Value} (h : Box w b t cs) (o : Nat) : w.frozen? ⟨b, o, none⟩ = false := by
  unfold Box at h
  simp [World.frozen?, h]
/-- nothing but block b has turned -/
structure Wr (w : World) (b : Nat) (w' : World) : Prop where
  os : w'.os = w.os
  tape : w'.tape = w.tape
  output : w'.output = w.output
  size : w'.heap.size = w.heap.size
  block : ∀ k, k ≠ b → w'.heap[k]? = w.heap[k]?
theorem Wr.trans {w w1 w2 : World} {b : Nat} (h : Wr w b w1) (k : Wr w1 b w2) : Wr w b w2 :=
  ⟨k.os.trans h.os, k.tape.trans h.tape, k.output.trans h.output, k.size.trans h.size, fun i hi => (k.block i hi).trans (h.block i hi)⟩
theorem Wr.below {w w' : World} {b B : Nat} (h : Wr w b w') (hB : B ≤ b) : Below B w w' := ⟨h.os, h.tape, h.output, by rw [h.size]; exact Nat.le_refl _, fun k hk => h.block k (by omega)⟩
theorem Wr.kp {w w' : World} {b : Nat} (h : Wr w b w') {S : Nat → Prop} (hS : ∀ i, S i → i ≠ b) : Kp S w w' := fun i o v s x => by
  rw [World.cell?_of_block (w := w) (h.block i (hS i s))]; exact x
theorem Wr.box {w w' : World} {b b' : Nat} (h : Wr w b w') {t : TypeId} {cs : List Value} (hb : Box w b' t cs) (hne : b' ≠ b) : Box w' b' t cs := by unfold Box; rw [h.block b' hne]; exact hb
theorem Bl.box {w w' : World} (h : Bl w w') {b : Nat} {t : TypeId} {cs : List Value} (hb : Box w b t cs) : Box w' b t cs := by unfold Box; rw [h.block b hb.lt]; exact hb
theorem Below.box {B : Nat} {w w' : World} (h : Below B w w') {b : Nat} {t : TypeId} {cs : List Value} (hb : Box w b t cs) (hB : b < B) : Box w' b t cs := by unfold Box; rw [h.block b hB]; exact hb
/-- a new block -/
structure New (w : World) (b : Nat) (t : TypeId) (cs : List Value) (w' : World) : Prop where
  blk : b = w.heap.size
  eq : w' = w.alloc (.cells cs.toArray t)
theorem New.bl {w w' : World} {b : Nat} {t : TypeId} {cs : List Value} (h : New w b t cs w') : Bl w w' := by rw [h.eq]; exact (Below.refl _ _).alloc (Nat.le_refl _) _
theorem New.size {w w' : World} {b : Nat} {t : TypeId} {cs : List Value} (h : New w b t cs w') : w'.heap.size = w.heap.size + 1 := by rw [h.eq]; show (w.heap.push _).size = _; simp
theorem New.box {w w' : World} {b : Nat} {t : TypeId} {cs : List Value} (h : New w b t cs w') : Box w' b t cs := by
  rw [h.eq, h.blk]; show (w.heap.push _)[w.heap.size]? = _; simp
theorem Below.new {B : Nat} {w0 w w' : World} {b : Nat} {t : TypeId} {cs : List Value} (h : Below B w0 w) (hB : B ≤ w.heap.size) (n : New w b t cs w') : Below B w0 w' := h.trans (n.bl.mono hB)
/-- a draw -/
structure Dr (w w' : World) : Prop where
  eq : w' = w.drew
theorem Dr.bl {w w' : World} (h : Dr w w') : Bl w w' := by rw [h.eq]; exact (Below.refl _ _).drew
theorem Dr.heap {w w' : World} (h : Dr w w') : w'.heap = w.heap := by rw [h.eq]; rfl
theorem Dr.box {w w' : World} (h : Dr w w') {b : Nat} {t : TypeId} {cs : List Value} (hb : Box w b t cs) : Box w' b t cs := by unfold Box; rw [h.heap]; exact hb

section
variable {C : Cx} {s : St} {w : World}
theorem listS_eff {md : Option Md} {ops : Array Oper} {k : List Item} {o : Oper} {rest : List Oper} {a : Act} (ho : okW md o = true) (hw : Region.wanted o (yielded ops a.tmps) = true)
    (h : o.wp C.P a w (fun a' w' => mdW md w w' ∧ listS C md ops k rest a' w') (nq C k)) : listS C md ops k (o :: rest) a w := by
  cases md with
  | none =>
    show wpList C.P ops (nq C k) (o :: rest) a w
    unfold wpList
    rw [if_pos hw]
    exact .inl (Oper.wp_mono (fun _ _ h => h.2) h)
  | some m => cases m with
    | t n => simp [okW] at ho
    | h S t =>
      show heldS C.P ops (nq C k) S (wpList C.P ops (nq C k) (ops.toList.drop (ops.size - t))) (o :: rest) a w
      simp only [okW] at ho
      simp only [heldS, ho]
      rw [if_pos hw]
      exact h
/-- an operation that gives a value and may turn the world -/
theorem op_val0 {md : Option Md} {ops : Array Oper} {o : Oper} {rest : List Oper} {k : List Item} {l : Env} {c : CEnv} {d : Nat} {v : Value} {w' : World} (ho : okW md o = true) (hm : mdW md w w')
    (hr : tabOk C.P C.tab = true → ∀ a, OkA C a l c → (execOp a.eval o).run C.P w = .ok (.value v) w') (h : Wk C (.reg md ops rest k ((d, v) :: l) c) w')
    (hd : o.dst = some d) (hf : fresh d l c [] = true) : Wk C (.opn md ops o rest k l c []) w := by
  refine ⟨fun ht hfn hdk a hA hw => ?_⟩
  rw [hd] at hdk
  refine listS_eff ho (hw.2 trivial) ?_
  unfold Oper.wp
  rw [hr ht a hA]
  show mdW md w w' ∧ listS C md ops k rest (a.put o.dst v) w'
  rw [hd]
  exact ⟨hm, h.run ht hfn _ ((ok_put (v := v) (u := v) (p := []) hA hdk hf).1 rfl)⟩
theorem op_val {md : Option Md} {ops : Array Oper} {o : Oper} {rest : List Oper} {k : List Item} {l : Env} {c : CEnv} {d : Nat} {v : Value} {w' : World} (ho : okW md o = true) (hm : mdW md w w')
    (hr : tabOk C.P C.tab = true → ∀ a, OkA C a l c → (execOp a.eval o).run C.P w = .ok (.value v) w') (h : Wk C (.reg md ops rest k ((d, v) :: l) c) w')
    (hs : adv C.tab C.n C.ks 400 s = .opn md ops o rest k l c []) (hd : o.dst = some d) (hf : fresh d l c [] = true) : Wk C s w :=
  by_adv hs (op_val0 ho hm hr h hd hf)
/-- an operation that gives nothing and may turn the world -/
theorem op_unit {md : Option Md} {ops : Array Oper} {o : Oper} {rest : List Oper} {k : List Item} {l : Env} {c : CEnv} {w' : World} (ho : okW md o = true) (hm : mdW md w w')
    (hr : tabOk C.P C.tab = true → ∀ a, OkA C a l c → (execOp a.eval o).run C.P w = .ok .skip w') (h : Wk C (.reg md ops rest k l c) w')
    (hs : adv C.tab C.n C.ks 400 s = .opn md ops o rest k l c []) (hd : o.dst = none) : Wk C s w := by
  refine by_adv hs ⟨fun ht hfn hdk a hA hw => ?_⟩
  refine listS_eff ho (hw.2 trivial) ?_
  unfold Oper.wp
  rw [hr ht a hA]
  show mdW md w w' ∧ listS C md ops k rest (a.put o.dst undef) w'
  rw [hd]
  exact ⟨hm, h.run ht hfn a hA⟩
/-- a value parameter, a local variable with a value, is laid in a new block -/
theorem bx {md : Option Md} {ops : Array Oper} {T : TypeId} {x : Operand} {d : Nat} {ty : TypeId} {pos : String} {af : Array Edge} {g : Option (Nat × Bool)} {rest : List Oper} {k : List Item} {l : Env} {c : CEnv} {v : Value} {cs : List Value}
    (h : ∀ b w', New w b T cs w' → Wk C (.reg md ops rest k ((d, .pointer (some ⟨b, 0, none⟩)) :: l) c) w')
    (hs : adv C.tab C.n C.ks 400 s = .opn md ops ⟨some d, .box T x, ty, pos, af, g⟩ rest k l c [] := by rfl) (hx : evc l c [] x = some v := by rfl) (hc : v.cells = cs.toArray := by rfl) (hf : fresh d l c [] = true := by rfl) (hnt : notT md = true := by rfl) : Wk C s w :=
  op_val (okW_of rfl hnt) (mdW_bl (New.bl ⟨rfl, rfl⟩)) (w' := w.alloc (.cells cs.toArray T)) (fun _ a hA => by
    simp only [execOp, evc_ok hA.k hA.kc.c (p := []) trivial hx, Instr.box, newVar, newRow, hc]; rfl) (h _ _ ⟨rfl, rfl⟩) hs rfl hf
theorem zero_run {P : Program} {t : TypeId} {i : TI} (h : tiOk P t i = true) (w : World) : ∃ z, (zeroValue t).run P w = .ok z w ∧ z.cells = i.zero.toArray := by
  obtain ⟨d, x, z, hT⟩ := tiOk_und h
  refine ⟨z, ?_, by rw [← hT.zeros, Array.toArray_toList]⟩
  unfold zeroValue
  rw [run_bind_ok (info_run hT.info w), hT.zero]; rfl
/-- a local variable without a value -/
theorem al {md : Option Md} {ops : Array Oper} {T : TypeId} {d : Nat} {ty : TypeId} {pos : String} {af : Array Edge} {g : Option (Nat × Bool)} {rest : List Oper} {k : List Item} {l : Env} {c : CEnv} {tk : TK} {sz : Nat} {ag : Bool} {zr : List Value}
    (h : ∀ b w', New w b T zr w' → Wk C (.reg md ops rest k ((d, .pointer (some ⟨b, 0, none⟩)) :: l) c) w')
    (hs : adv C.tab C.n C.ks 400 s = .opn md ops ⟨some d, .alloc T, ty, pos, af, g⟩ rest k l c [] := by rfl) (ht : C.tab.at T = some ⟨tk, sz, ag, zr⟩ := by rfl) (hf : fresh d l c [] = true := by rfl) (hnt : notT md = true := by rfl) : Wk C s w :=
  op_val (okW_of rfl hnt) (mdW_bl (New.bl ⟨rfl, rfl⟩)) (w' := w.alloc (.cells zr.toArray T)) (fun hT a _ => by
    obtain ⟨z, hz, hc⟩ := zero_run (tab_at hT ht) w
    simp only [execOp]
    refine (run_bind_ok (P := C.P) (x := .pointer (some ⟨w.heap.size, 0, none⟩)) (w' := w.alloc (.cells zr.toArray T)) ?_).trans rfl
    unfold Instr.alloc
    rw [run_bind_ok hz]
    simp only [newVar, newRow, hc]; rfl) (h _ _ ⟨rfl, rfl⟩) hs rfl hf
theorem setCell_wr (w : World) (b o : Nat) (v : Value) : Wr w b (w.setCell ⟨b, o, none⟩ v) :=
  ⟨rfl, rfl, rfl, by simp [World.setCell], fun k hk => Below.heap_setCell _ _ _ _ hk⟩
theorem setCell_box {w : World} {b o : Nat} {t : TypeId} {cs : List Value} (h : Box w b t cs) (v : Value) : Box (w.setCell ⟨b, o, none⟩ v) b t (cs.set o v) := by
  unfold Box at *
  simp only [World.setCell, Array.getElem?_modify, h, if_true, Option.map_some]
  simp
theorem store_run {P : Program} {w : World} {b o : Nat} {t : TypeId} {cs : List Value} (h : Box w b t cs) (ho : o < cs.length) {v : Value} (hv : v.oneCell' = true) : (store ⟨b, o, none⟩ v).run P w = .ok () (w.setCell ⟨b, o, none⟩ v) := by
  obtain ⟨u, hu⟩ := some_of_lt ho
  have hc := h.cell hu
  have hf := h.frozen o
  cases v <;> first
    | (simp [Value.oneCell'] at hv; done)
    | simp [store, Sem.run, hc, hf]
/-- a store of one cell -/
theorem st {md : Option Md} {ops : Array Oper} {T : TypeId} {x y : Operand} {ty : TypeId} {pos : String} {af : Array Edge} {g : Option (Nat × Bool)} {rest : List Oper} {k : List Item} {l : Env} {c : CEnv} {tk : TK} {ag : Bool} {zr : List Value} {b o : Nat} {t : TypeId} {v : Value} {cs cs' : List Value}
    (hb : Box w b t cs) (h : ∀ w', Wr w b w' → Box w' b t cs' → Wk C (.reg md ops rest k l c) w')
    (hs : adv C.tab C.n C.ks 400 s = .opn md ops ⟨none, .store T x y, ty, pos, af, g⟩ rest k l c [] := by rfl) (ht : C.tab.at T = some ⟨tk, 1, ag, zr⟩ := by rfl)
    (hx : evc l c [] x = some (.pointer (some ⟨b, o, none⟩)) := by rfl) (hy : evc l c [] y = some v := by rfl) (hv : v.oneCell' = true := by rfl) (hcs : frc (cs.set o v) = some cs' := by rfl) (ho : Nat.blt o cs.length = true := by rfl) (hm : ∀ w', Wr w b w' → mdW md w w' := by intros; exact True.intro) (hnt : notT md = true := by rfl) : Wk C s w :=
  op_unit (okW_of rfl hnt) (hm _ (setCell_wr w b o v)) (w' := w.setCell ⟨b, o, none⟩ v) (fun hT a hA => by
    have hz := (ti_agg (tab_at hT ht) w).2
    have hc1 : v.cells = #[v] := by cases v <;> first | rfl | (simp [Value.oneCell'] at hv)
    simp only [execOp, evc_ok hA.k hA.kc.c (p := []) trivial hx, evc_ok hA.k hA.kc.c (p := []) trivial hy, Instr.storeAt, Instr.sureAddr]
    refine (run_bind_ok (P := C.P) (x := ()) (w' := w.setCell ⟨b, o, none⟩ v) ?_).trans rfl
    show (storeVar T ⟨b, o, none⟩ v).run C.P w = _
    unfold storeVar
    rw [run_bind_ok hz, hc1, if_neg (by simp)]
    show (storeCells ⟨b, o, none⟩ [v] 0).run C.P w = _
    simp only [storeCells]
    rw [add_none, Nat.add_zero, run_bind_ok (store_run hb (blt_lt ho) hv)]; rfl)
    (h _ (setCell_wr w b o v) (by rw [frc_eq hcs]; exact setCell_box hb v)) hs rfl
def setCells (w : World) (b : Nat) : Nat → List Value → World
  | _, [] => w
  | o, v :: vs => setCells (w.setCell ⟨b, o, none⟩ v) b (o + 1) vs
def ovl (cs : List Value) : Nat → List Value → List Value
  | _, [] => cs
  | o, v :: vs => ovl (cs.set o v) (o + 1) vs
theorem setCells_ok {b : Nat} {t : TypeId} : ∀ {vs : List Value} {w : World} {cs : List Value} {o : Nat}, Box w b t cs → Wr w b (setCells w b o vs) ∧ Box (setCells w b o vs) b t (ovl cs o vs)
  | [], w, cs, o, h => ⟨⟨rfl, rfl, rfl, rfl, fun _ _ => rfl⟩, h⟩
  | v :: vs, w, cs, o, h => by
    have := setCells_ok (vs := vs) (o := o + 1) (setCell_box (o := o) h v)
    exact ⟨(setCell_wr w b o v).trans this.1, this.2⟩
theorem storeCells_run {P : Program} {b : Nat} {t : TypeId} : ∀ {vs : List Value} {w : World} {cs : List Value} {o i : Nat}, Box w b t cs → o + i + vs.length ≤ cs.length → vs.all Value.oneCell' = true →
    (storeCells ⟨b, o, none⟩ vs i).run P w = .ok () (setCells w b (o + i) vs)
  | [], w, cs, o, i, _, _, _ => by simp only [storeCells, setCells]; rfl
  | v :: vs, w, cs, o, i, h, hl, hv => by
    simp only [List.all_cons, Bool.and_eq_true] at hv
    simp only [List.length_cons] at hl
    simp only [storeCells]
    rw [add_none, run_bind_ok (store_run h (by omega) hv.1), storeCells_run (setCell_box h v) (by simp; omega) hv.2]
    simp only [setCells, Nat.add_assoc]
/-- a store of a struct -/
theorem sta {md : Option Md} {ops : Array Oper} {T : TypeId} {x y : Operand} {ty : TypeId} {pos : String} {af : Array Edge} {g : Option (Nat × Bool)} {rest : List Oper} {k : List Item} {l : Env} {c : CEnv} {tk : TK} {sz : Nat} {ag : Bool} {zr : List Value} {b o : Nat} {t : TypeId} {vs cs cs' : List Value}
    (hb : Box w b t cs) (h : ∀ w', Wr w b w' → Box w' b t cs' → Wk C (.reg md ops rest k l c) w')
    (hs : adv C.tab C.n C.ks 400 s = .opn md ops ⟨none, .store T x y, ty, pos, af, g⟩ rest k l c [] := by rfl) (ht : C.tab.at T = some ⟨tk, sz, ag, zr⟩ := by rfl)
    (hx : evc l c [] x = some (.pointer (some ⟨b, o, none⟩)) := by rfl) (hy : evc l c [] y = some (.agg vs.toArray) := by rfl) (hv : vs.all Value.oneCell' = true := by rfl) (hl : vs.length = sz := by rfl) (hcs : frc (ovl cs o vs) = some cs' := by rfl)
    (ho : Nat.ble (o + vs.length) cs.length = true := by rfl) (hm : ∀ w', Wr w b w' → mdW md w w' := by intros; exact True.intro) (hnt : notT md = true := by rfl) : Wk C s w :=
  op_unit (okW_of rfl hnt) (hm _ (setCells_ok hb).1) (w' := setCells w b o vs) (fun hT a hA => by
    have hz := (ti_agg (tab_at hT ht) w).2
    simp only [execOp, evc_ok hA.k hA.kc.c (p := []) trivial hx, evc_ok hA.k hA.kc.c (p := []) trivial hy, Instr.storeAt, Instr.sureAddr]
    refine (run_bind_ok (P := C.P) (x := ()) (w' := setCells w b o vs) ?_).trans rfl
    show (storeVar T ⟨b, o, none⟩ (.agg vs.toArray)).run C.P w = _
    unfold storeVar
    rw [run_bind_ok hz, if_neg (by simp [Value.cells, hl])]
    exact storeCells_run (i := 0) hb (Nat.le_of_ble_eq_true ho) hv)
    (h _ (setCells_ok hb).1 (by rw [frc_eq hcs]; exact (setCells_ok hb).2)) hs rfl
theorem call_run {P : Program} {ρ : Operand → Value} {w : World} {o : Oper} {fx : Operand} {args : Array Operand} {tys : Array TypeId} {g : FuncId} {first cap : Array Value} {vals av : List Value} (ho : o.op = .call ⟨.value fx, args, tys⟩) (hok : callable P g = true)
    (hfx : ρ fx = .func (.func g) first cap) (hargs : args.toList.map ρ = vals) (hav : first.toList ++ (vals ++ cap.toList) = av) : (execOp ρ o).run P w = .ok (.enter g av.toArray) w := by
  unfold callable at hok
  have e : args.map ρ = vals.toArray := by rw [← hargs, ← List.map_toArray, Array.toArray_toList]
  have e2 : first ++ vals.toArray ++ cap = av.toArray := by
    rw [← hav]; apply Array.ext'; simp
  cases hf : P.funcs[g]? with
  | none => rw [hf] at hok; cases hok
  | some fn =>
    rw [hf] at hok
    simp only [Bool.and_eq_true, Bool.not_eq_true'] at hok
    unfold execOp
    simp only [ho, resolve, hfx, e, Deferred.ofValue]
    show (Sem.bind (Sem.pure _) _).run P w = _
    simp only [Sem.bind, invoke, callFunc, e2]
    rw [run_bind_ok (show (program).run P w = .ok P w from rfl), hf]
    simp only [hok.2]
    rw [if_neg (by simp), if_neg (by have := hok.1; cases hbd : fn.body <;> simp_all)]
    rfl
/-- a call -/
theorem cl {md : Option Md} {ops : Array Oper} {fx : Operand} {args : Array Operand} {tys : Array TypeId} {d : Nat} {ty : TypeId} {pos : String} {af : Array Edge} {gd : Option (Nat × Bool)} {rest : List Oper} {k : List Item} {l : Env} {c : CEnv} {g : FuncId} {first cap : Array Value} {vals av : List Value} {R : Value → World → Prop}
    (hc : Ret C.P g av.toArray w R) (h : ∀ v w', R v w' → Wk C (.reg md ops rest k ((d, v) :: l) c) w')
    (hs : adv C.tab C.n C.ks 400 s = .opn md ops ⟨some d, .call ⟨.value fx, args, tys⟩, ty, pos, af, gd⟩ rest k l c [] := by rfl) (hfx : evc l c [] fx = some (.func (.func g) first cap) := by rfl)
    (hargs : evcs l c [] args.toList = some vals := by rfl) (hav : first.toList ++ (vals ++ cap.toList) = av := by rfl) (hf : fresh d l c [] = true := by rfl) (hm : ∀ v w', R v w' → mdW md w w' := by first | (intros; exact True.intro) | (intro _ _ r; exact mdW_bl r.2) | (intro _ _ r; exact mdW_bl (by rw [r.2]; exact Bl.refl _))) (hnt : notT md = true := by rfl) : Wk C s w := by
  refine by_adv hs ⟨fun ht hfn hdk a hA hw => ?_⟩
  refine listS_eff (okW_of rfl hnt) (hw.2 trivial) ?_
  unfold Oper.wp
  rw [call_run rfl hc.ok (evc_ok hA.k hA.kc.c (p := []) trivial hfx) (evcs_ok hA.k hA.kc.c (p := []) trivial hargs) hav]
  refine hc.run.mono fun e w' r => ?_
  cases e with
  | returned v => exact ⟨hm v w' r, (h v w' r).run ht hfn _ ((ok_put (v := v) (u := v) (p := []) hA hdk hf).1 rfl)⟩
  | panicked ch => exact r.elim
  | outgrown => exact r.elim
/-- a call whose result nobody takes -/
theorem cl0 {md : Option Md} {ops : Array Oper} {fx : Operand} {args : Array Operand} {tys : Array TypeId} {ty : TypeId} {pos : String} {af : Array Edge} {gd : Option (Nat × Bool)} {rest : List Oper} {k : List Item} {l : Env} {c : CEnv} {g : FuncId} {first cap : Array Value} {vals av : List Value} {R : Value → World → Prop}
    (hc : Ret C.P g av.toArray w R) (h : ∀ v w', R v w' → Wk C (.reg md ops rest k l c) w')
    (hs : adv C.tab C.n C.ks 400 s = .opn md ops ⟨none, .call ⟨.value fx, args, tys⟩, ty, pos, af, gd⟩ rest k l c [] := by rfl) (hfx : evc l c [] fx = some (.func (.func g) first cap) := by rfl)
    (hargs : evcs l c [] args.toList = some vals := by rfl) (hav : first.toList ++ (vals ++ cap.toList) = av := by rfl) (hm : ∀ v w', R v w' → mdW md w w' := by first | (intros; exact True.intro) | (intro _ _ r; exact mdW_bl r.2) | (intro _ _ r; exact mdW_bl (by rw [r.2]; exact Bl.refl _))) (hnt : notT md = true := by rfl) : Wk C s w := by
  refine by_adv hs ⟨fun ht hfn hdk a hA hw => ?_⟩
  refine listS_eff (okW_of rfl hnt) (hw.2 trivial) ?_
  unfold Oper.wp
  rw [call_run rfl hc.ok (evc_ok hA.k hA.kc.c (p := []) trivial hfx) (evcs_ok hA.k hA.kc.c (p := []) trivial hargs) hav]
  refine hc.run.mono fun e w' r => ?_
  cases e with
  | returned v => exact ⟨hm v w' r, (h v w' r).run ht hfn a hA⟩
  | panicked ch => exact r.elim
  | outgrown => exact r.elim
/-- a call inside a region that draws, of a function that leaves the world alone -/
theorem clq {ops : Array Oper} {t : Nat} {fx : Operand} {args : Array Operand} {tys : Array TypeId} {d : Nat} {ty : TypeId} {pos : String} {af : Array Edge} {gd : Option (Nat × Bool)} {rest : List Oper} {k : List Item} {l : Env} {c : CEnv} {g : FuncId} {first cap : Array Value} {vals av : List Value} {v : Value}
    (hc : Ret C.P g av.toArray w fun u w' => u = v ∧ w' = w) (h : Wk C (.reg (some (.t t)) ops rest k ((d, v) :: l) c) w)
    (hs : adv C.tab C.n C.ks 400 s = .opn (some (.t t)) ops ⟨some d, .call ⟨.value fx, args, tys⟩, ty, pos, af, gd⟩ rest k l c [] := by rfl) (hfx : evc l c [] fx = some (.func (.func g) first cap) := by rfl)
    (hargs : evcs l c [] args.toList = some vals := by rfl) (hav : first.toList ++ (vals ++ cap.toList) = av := by rfl) (hf : fresh d l c [] = true := by rfl) : Wk C s w := by
  refine by_adv hs ⟨fun ht hfn hdk a hA hw => ?_⟩
  show wpStill C.P ops w _ (_ :: rest) a
  unfold wpStill
  rw [if_pos (hw.2 trivial)]
  unfold Oper.still
  rw [call_run rfl hc.ok (evc_ok hA.k hA.kc.c (p := []) trivial hfx) (evcs_ok hA.k hA.kc.c (p := []) trivial hargs) hav]
  refine ⟨rfl, v, hc.run.mono fun e w' r => ?_, ?_⟩
  · cases e with
    | returned u => exact ⟨by rw [r.1], r.2⟩
    | panicked ch => exact r.elim
    | outgrown => exact r.elim
  · exact h.run ht hfn _ ((ok_put (v := v) (u := v) (p := []) hA hdk hf).1 rfl)
/-- a region that draws its order and only reads -/
theorem ds {i : Nat} {ops : Array Oper} {k : List Item} {l : Env} (h : ∀ w', Dr w w' → Wk C (.reg (some (.t 0)) ops ops.toList k l []) w')
    (hs : adv C.tab C.n C.ks 400 s = .code (.code (.region i ops true) :: k) l := by rfl) (hB : Region.lexB .any ops = true := by kernel_rfl) : Wk C s w := by
  refine by_adv hs ⟨fun ht hfn a hA => runs_wp (wp_region_still (tab_mixed ht) hB ?_)⟩
  have := (h _ ⟨rfl⟩).run ht hfn a hA
  have e : (fun a' => wpList C.P ops (nq C k) (ops.toList.drop (ops.size - 0)) a' w.drew) = fun a' => nq C k .normal a' w.drew := by
    funext a'
    rw [Nat.sub_zero, List.drop_of_length_le (by simp)]; rfl
  have h2 : wpStill C.P ops w.drew (fun a' => wpList C.P ops (nq C k) (ops.toList.drop (ops.size - 0)) a' w.drew) ops.toList a := this
  rw [e] at h2; exact h2
/-- a region that draws its order, gone through in an order of ours; the cells of the blocks in S stay; the last t operations stand in a row -/
theorem dht (t : Nat) (S : Nat → Prop) (ord : List Nat) {i : Nat} {ops : Array Oper} {k : List Item} {l : Env} (h : ∀ w', Dr w w' → Wk C (.reg (some (.h S t)) ops (pickO ops.toList ord) k l []) w')
    (hs : adv C.tab C.n C.ks 400 s = .code (.code (.region i ops true) :: k) l := by rfl) (hsel : Region.noSelect ops = true := by kernel_rfl) (hn : Nat.beq (ord.length + t) ops.size = true := by kernel_rfl) (hB : heldB ops (ops.size - t) ord (Array.replicate ops.size false) = true := by kernel_rfl) : Wk C s w := by
  refine by_adv hs ⟨fun ht hfn a hA => runs_wp (wp_region_order (S := S) t ord (tab_mixed ht) hsel (fun c a w hq => by cases hq.1) hn hB ?_)⟩
  exact (h _ ⟨rfl⟩).run ht hfn a hA
theorem dh (S : Nat → Prop) (ord : List Nat) {i : Nat} {ops : Array Oper} {k : List Item} {l : Env} (h : ∀ w', Dr w w' → Wk C (.reg (some (.h S 0)) ops (pickO ops.toList ord) k l []) w')
    (hs : adv C.tab C.n C.ks 400 s = .code (.code (.region i ops true) :: k) l := by rfl) (hsel : Region.noSelect ops = true := by kernel_rfl) (hn : Nat.beq (ord.length + 0) ops.size = true := by kernel_rfl) (hB : heldB ops (ops.size - 0) ord (Array.replicate ops.size false) = true := by kernel_rfl) : Wk C s w := dht 0 S ord h hs hsel hn hB
theorem wrS {S : Nat → Prop} {t b : Nat} (hb : ¬ S b) : ∀ w', Wr w b w' → mdW (some (.h S t)) w w' := fun _ h => h.kp fun _ hi e => hb (e ▸ hi)
/-- a region that draws its order: the last t operations stand in a row -/
theorem dt (t : Nat) {i : Nat} {ops : List Oper} {k : List Item} {l : Env} (h : ∀ w', Dr w w' → Wk C (.reg (some (.t t)) ops.toArray (ops.take (ops.length - t)) k l []) w')
    (hs : adv C.tab C.n C.ks 400 s = .code (.code (.region i ops.toArray true) :: k) l := by rfl) (hB : Region.lexTailB .any ops.toArray (ops.length - t) = true := by kernel_rfl) : Wk C s w :=
  by_adv hs ⟨fun ht hfn a hA => runs_wp (wp_region_still_tail (ops.length - t) (tab_mixed ht) hB (by
    have := (h _ ⟨rfl⟩).run ht hfn a hA
    simpa [listS] using this))⟩
end
end Go.Proofs.YtopjmiklpnejmaaGreatDoor.Eng
