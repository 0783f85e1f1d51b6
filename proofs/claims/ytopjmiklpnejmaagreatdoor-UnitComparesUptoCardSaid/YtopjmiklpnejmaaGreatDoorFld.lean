/- The engine, eleventh part: fields of struct values. -/
import Derived.Test.YtopjmiklpnejmaaGreatDoorPar
import Derived.Lib.AppendZerosOnto
import Derived.Laws.AppendOwn
namespace Go.Proofs.YtopjmiklpnejmaaGreatDoor.Eng
open Go Go.RowKit
def fieldOne (P : Program) (T i o : Nat) : Bool := match P.underlying T with
  | some (.struct fs) => match fs[i]? with
    | some f => Nat.beq f.offset o && (match P.underlying f.type with
      | some d => !isAggD d
      | none => false)
    | none => false
  | _ => false
def fieldMany (P : Program) (T i o z : Nat) : Bool := match P.underlying T with
  | some (.struct fs) => match fs[i]? with
    | some f => Nat.beq f.offset o && (match P.underlying f.type with
      | some d => isAggD d
      | none => false) && (match P.info? f.type with
      | some x => Nat.beq x.size z
      | none => false)
    | none => false
  | _ => false
theorem isAgg_run {P : Program} {t : TypeId} {d : TypeDesc} (h : P.underlying t = some d) (w : World) : (isAgg t).run P w = .ok (isAggD d) w := by
  unfold isAgg
  rw [run_bind_ok (und_run h w)]
  cases d <;> rfl
section
variable {C : Cx} {s : St} {w : World}
theorem exec_fld {P : Program} {ρ : Operand → Value} {w : World} {o : Oper} {T i off : Nat} {x : Operand} {cs : List Value} {v : Value} (ho : o.op = .field T x i) (hF : fieldOne P T i off = true) (hx : ρ x = .agg cs.toArray) (hv : cs[off]? = some v) :
    (execOp ρ o).run P w = .ok (.value v) w := by
  unfold fieldOne at hF
  split at hF
  · rename_i fs hu
    split at hF
    · rename_i f hf
      rw [Bool.and_eq_true] at hF
      split at hF
      · rename_i d hd
        unfold execOp
        simp only [ho, hx]
        refine (run_bind_ok (P := P) (x := v) (w' := w) ?_).trans rfl
        unfold Instr.field
        rw [run_bind_ok (und_run hu w)]
        simp only [hf]
        rw [run_bind_ok (show (asAgg (.agg cs.toArray)).run P w = .ok cs.toArray w from rfl)]
        unfold part
        have ha : isAggD d = false := by simpa using hF.2
        rw [run_bind_ok (isAgg_run hd w), ha, if_neg (by simp), Nat.eq_of_beq_eq_true hF.1]
        simp only [List.getElem?_toArray, hv]
        rfl
      · cases hF.2
    · cases hF
  · cases hF
/-- a field of one cell -/
theorem fd {md : Option Md} {ops : Array Oper} {T i : Nat} {x : Operand} {d : Nat} {ty : TypeId} {pos : String} {af : Array Edge} {g : Option (Nat × Bool)} {rest : List Oper} {k : List Item} {l : Env} {c : CEnv} {cs : List Value} {v : Value} (off : Nat)
    (h : Wk C (.reg md ops rest k ((d, v) :: l) c) w)
    (hs : adv C.tab C.n C.ks 400 s = .opn md ops ⟨some d, .field T x i, ty, pos, af, g⟩ rest k l c [] := by rfl) (hF : fieldOne C.P T i off = true := by kernel_rfl) (hx : evc l c [] x = some (.agg cs.toArray) := by rfl) (hv : cs[off]? = some v := by rfl) (hf : fresh d l c [] = true := by rfl) : Wk C s w :=
  rd (p := []) (fun _ _ hA hp _ _ => exec_fld rfl hF (evc_ok hA.k hA.kc.c hp hx) hv) h hs rfl hf (okR_no rfl)
theorem exec_fdm {P : Program} {ρ : Operand → Value} {w : World} {o : Oper} {T i off z : Nat} {x : Operand} {cs vs : List Value} (ho : o.op = .field T x i) (hF : fieldMany P T i off z = true) (hx : ρ x = .agg cs.toArray) (hv : frc ((cs.drop off).take z) = some vs) :
    (execOp ρ o).run P w = .ok (.value (.agg vs.toArray)) w := by
  unfold fieldMany at hF
  split at hF
  · rename_i fs hu
    split at hF
    · rename_i f hf
      rw [Bool.and_eq_true, Bool.and_eq_true] at hF
      obtain ⟨⟨h1, h2⟩, h3⟩ := hF
      split at h2
      · rename_i d hd
        split at h3
        · rename_i info hi
          unfold execOp
          simp only [ho, hx]
          refine (run_bind_ok (P := P) (x := .agg vs.toArray) (w' := w) ?_).trans rfl
          unfold Instr.field
          rw [run_bind_ok (und_run hu w)]
          simp only [hf]
          rw [run_bind_ok (show (asAgg (.agg cs.toArray)).run P w = .ok cs.toArray w from rfl)]
          unfold part
          rw [run_bind_ok (isAgg_run hd w), h2, if_pos rfl, run_bind_ok (size_run hi w), Nat.eq_of_beq_eq_true h1, Nat.eq_of_beq_eq_true h3, frc_eq hv]
          simp
        · cases h3
      · cases h2
    · cases hF
  · cases hF
/-- a field that is a struct -/
theorem fdm {md : Option Md} {ops : Array Oper} {T i : Nat} {x : Operand} {d : Nat} {ty : TypeId} {pos : String} {af : Array Edge} {g : Option (Nat × Bool)} {rest : List Oper} {k : List Item} {l : Env} {c : CEnv} {cs vs : List Value} (off z : Nat)
    (h : Wk C (.reg md ops rest k ((d, .agg vs.toArray) :: l) c) w)
    (hs : adv C.tab C.n C.ks 400 s = .opn md ops ⟨some d, .field T x i, ty, pos, af, g⟩ rest k l c [] := by rfl) (hF : fieldMany C.P T i off z = true := by kernel_rfl) (hx : evc l c [] x = some (.agg cs.toArray) := by rfl) (hv : frc ((cs.drop off).take z) = some vs := by rfl) (hf : fresh d l c [] = true := by rfl) : Wk C s w :=
  rd (p := []) (fun _ _ hA hp _ _ => exec_fdm rfl hF (evc_ok hA.k hA.kc.c hp hx) hv) h hs rfl hf (okR_no rfl)
/-- cap of a slice -/
theorem cp {md : Option Md} {ops : Array Oper} {x : Operand} {T : TypeId} {d : Nat} {ty : TypeId} {pos : String} {af : Array Edge} {g : Option (Nat × Bool)} {rest : List Oper} {k : List Item} {l : Env} {c : CEnv} {e esz by' sz : Nat} {ag : Bool} {zr : List Value} {a : Option Addr} {n cap : Nat}
    (h : Wk C (.reg md ops rest k ((d, I cap) :: l) c) w)
    (hs : adv C.tab C.n C.ks 400 s = .opn md ops ⟨some d, .call ⟨.builtin .cap, #[x], #[T]⟩, ty, pos, af, g⟩ rest k l c [] := by rfl) (ht : C.tab.at T = some ⟨.slice e esz by', sz, ag, zr⟩ := by rfl) (hx : evc l c [] x = some (.slice a n cap) := by rfl) (hf : fresh d l c [] = true := by rfl) : Wk C s w :=
  rd (p := []) (fun hT _ hA hp w' _ => by
    obtain ⟨dd, xx, zz, hTi⟩ := tiOk_und (tab_at hT ht)
    obtain ⟨rfl, _⟩ := hTi.sl _ _ _ rfl
    simp only [execOp, resolve, List.map_toArray, List.map_cons, List.map_nil, evc_ok hA.k hA.kc.c hp hx]
    show (Sem.bind (Builtin.cap_ _ ty #[_]) _).run C.P w' = _
    refine (run_bind_ok (P := C.P) (x := I cap) (w' := w') ?_).trans rfl
    simp [Builtin.cap_, run_underlying hTi.und]
    rfl) h hs rfl hf (okR_no rfl)
/-- append of n zeros to nil -/
theorem apz {md : Option Md} {ops : Array Oper} {T U : TypeId} {x y : Operand} {d : Nat} {ty : TypeId} {pos : String} {af : Array Edge} {g : Option (Nat × Bool)} {rest : List Oper} {k : List Item} {l : Env} {c : CEnv} {e esz by' sz : Nat} {ag : Bool} {zr : List Value} {kd : IntKind} {n : Nat}
    (hn0 : 0 < n) (hn : n ≤ 8388608)
    (h : ∀ cap w', Ow w' w.heap.size e esz (some ⟨w.heap.size, 0, none⟩) 0 cap [] → n ≤ cap → Bl w w' → Wk C (.reg md ops rest k ((d, .slice (some ⟨w.heap.size, 0, none⟩) n cap) :: l) c) w')
    (hs : adv C.tab C.n C.ks 400 s = .opn md ops ⟨some d, .call ⟨.builtin .append, #[x, y], #[T, U]⟩, ty, pos, af, g⟩ rest k l c [] := by rfl) (ht : C.tab.at T = some ⟨.slice e esz by', sz, ag, zr⟩ := by rfl)
    (hx : evc l c [] x = some (.slice none 0 0) := by rfl) (hy : evc l c [] y = some (I n) := by rfl) (hU : C.P.underlying U = some (.int kd) := by kernel_rfl) (hb : n * by' ≤ 140737488355328 := by omega) (hsz : Nat.blt 0 esz = true := by rfl) (hf : fresh d l c [] = true := by rfl) (hnt : notT md = true := by rfl) : Wk C s w := by
  refine by_adv hs ⟨fun hT hfn => ?_⟩
  obtain ⟨dd, xx, zz, hTi⟩ := tiOk_und (tab_at hT ht)
  obtain ⟨rfl, hel⟩ := hTi.sl _ _ _ rfl
  obtain ⟨yi, zy, hyi, hys, hyb, hyz, hzc⟩ := elemOk_of hel
  have hpos := blt_lt hsz
  have hns : Builtin.nextslicecap n 0 = n := nextslicecap_zero hn0
  have hrun := Lib.run_append_grow_zeros (P := C.P) w T U ty e yi zy .i64 kd hTi.und hU hyi hyz none 0 0 [] (by simp [Builtin.firstCells]) n hn0 (by rw [hys]; exact hpos) (by omega) (by omega) (by rw [hyb]; omega) (by rw [Nat.zero_add, hns, hyb]; omega)
  rw [Nat.zero_add] at hrun
  have hge := grownCap_ge w n 0 e
  have hcm := grownCap_le_maxLen w n 0 e (by unfold maxLen; omega)
  obtain ⟨W', hW'⟩ : ∃ W', w.drew.alloc (.cells ([].toArray ++ Builtin.zeroCells zy.cells n ++ Builtin.zeroCells zy.cells (grownCap w n 0 e - n)) e) = W' := ⟨_, rfl⟩
  rw [hW'] at hrun
  have hB : Bl w W' := by rw [← hW']; exact ((Below.refl _ _).drew).alloc (Nat.le_refl _) _
  have hO : Ow W' w.heap.size e esz (some ⟨w.heap.size, 0, none⟩) 0 (grownCap w n 0 e) [] := by
    refine ⟨⟨by simp, .inr ⟨w.heap.size, _, [].toArray ++ Builtin.zeroCells zy.cells n ++ Builtin.zeroCells zy.cells (grownCap w n 0 e - n), rfl, Nat.le_refl _, ?_, Nat.zero_le _, hcm, ?_, by simp⟩⟩⟩
    · rw [← hW']; show (w.heap.push _)[w.heap.size]? = _; simp
    · have hz : zy.cells.size = esz := hzc
      simp only [Array.size_append, size_zeroCells, hz]
      show 0 + n * esz + _ = _
      rw [Nat.zero_add, ← Nat.add_mul]; congr 1; omega
  refine (op_val0 (okW_of rfl hnt) (mdW_bl hB) (fun _ a hA => ?_) (h _ W' hO hge hB) rfl hf).run hT hfn
  simp only [execOp, resolve, List.map_toArray, List.map_cons, List.map_nil, evc_ok hA.k hA.kc.c (p := []) trivial hx, evc_ok hA.k hA.kc.c (p := []) trivial hy]
  show (Sem.bind (Sem.pure _) _).run C.P w = _
  simp only [Sem.bind, invoke, builtin]
  exact (run_bind_ok hrun).trans rfl
end
end Go.Proofs.YtopjmiklpnejmaaGreatDoor.Eng
