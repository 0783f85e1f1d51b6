/- The engine, ninth part: arrays; two results, one of them in a block. -/
import Derived.Test.YtopjmiklpnejmaaGreatDoorEng7
namespace Go.Proofs.YtopjmiklpnejmaaGreatDoor.Eng
open Go Go.RowKit
def arrO (i esz : Nat) : Nat → List (Nat × Nat)
  | 0 => []
  | n + 1 => (i * esz, esz) :: arrO (i + 1) esz n
theorem arrO_at {esz : Nat} : ∀ {n i j o z : Nat}, (arrO i esz n)[j]? = some (o, z) → o = (i + j) * esz ∧ z = esz
  | 0, _, _, _, _, h => by simp [arrO] at h
  | n + 1, i, 0, o, z, h => by simp [arrO] at h; obtain ⟨rfl, rfl⟩ := h; simp
  | n + 1, i, j + 1, o, z, h => by
    have := arrO_at (n := n) (i := i + 1) (j := j) (by simpa [arrO] using h)
    rw [show i + (j + 1) = i + 1 + j by omega]; exact this
section
variable {C : Cx} {s : St} {w : World}
theorem exec_bda {P : Program} {ρ : Operand → Value} {w : World} {o : Oper} {T : TypeId} {parts : Array (Nat × Operand)} {n e esz sz : Nat} {ag : Bool} {zr cs : List Value} {pv : List (Nat × Value)} (ho : o.op = .build T parts)
    (ht : tiOk P T ⟨.arr n e esz, sz, ag, zr⟩ = true) (hp : parts.toList.map (fun (i, x) => (i, ρ x)) = pv) (hcs : fillL (arrO 0 esz n) zr pv = some cs) : (execOp ρ o).run P w = .ok (.value (.agg cs.toArray)) w := by
  obtain ⟨d, x, z, hT⟩ := tiOk_und ht
  obtain ⟨rfl, y, hy, hys⟩ := hT.ar _ _ _ rfl
  obtain ⟨z', hz, hzc⟩ := zero_run ht w
  have ep : parts.map (fun (i, x) => (i, ρ x)) = pv.toArray := by rw [← hp, ← List.map_toArray, Array.toArray_toList]
  unfold execOp
  simp only [ho, ep]
  refine (run_bind_ok (P := P) (x := .agg cs.toArray) (w' := w) ?_).trans rfl
  unfold Instr.build
  rw [run_bind_ok hz]
  simp only
  rw [run_bind_ok (und_run hT.und w)]
  simp only
  rw [run_bind_ok (size_run hy w), hys]
  have := fill_ok (offs := arrO 0 esz n) (place := fun i => some (i * esz, esz)) (fun i o z h => by obtain ⟨rfl, rfl⟩ := arrO_at h; simp) hcs
  rw [hzc]
  simp only [this]
  rfl
/-- an array is made -/
theorem bda {md : Option Md} {ops : Array Oper} {T : TypeId} {parts : Array (Nat × Operand)} {d : Nat} {ty : TypeId} {pos : String} {af : Array Edge} {g : Option (Nat × Bool)} {rest : List Oper} {k : List Item} {l : Env} {c : CEnv} {n e esz sz : Nat} {ag : Bool} {zr cs : List Value} {pv : List (Nat × Value)}
    (h : Wk C (.reg md ops rest k ((d, .agg cs.toArray) :: l) c) w)
    (hs : adv C.tab C.n C.ks 400 s = .opn md ops ⟨some d, .build T parts, ty, pos, af, g⟩ rest k l c [] := by rfl) (ht : C.tab.at T = some ⟨.arr n e esz, sz, ag, zr⟩ := by rfl)
    (hp : evparts l c [] parts.toList = some pv := by rfl) (hcs : fillL (arrO 0 esz n) zr pv = some cs := by rfl) (hf : fresh d l c [] = true := by rfl) : Wk C s w :=
  rd (p := []) (fun hT _ hA hpp _ _ => exec_bda rfl (tab_at hT ht) (evparts_ok hA.k hA.kc.c hpp hp) hcs) h hs rfl hf (okR_no rfl)
theorem exec_ixa {P : Program} {ρ : Operand → Value} {w : World} {d : Option Nat} {T : TypeId} {x i : Operand} {ty : TypeId} {pos : String} {af : Array Edge} {g : Option (Nat × Bool)} {sz n e esz : Nat} {ag : Bool} {zr : List Value} {b o j : Nat} {kd : IntKind}
    (ht : tiOk P T ⟨.arr n e esz, sz, ag, zr⟩ = true) (hx : ρ x = .pointer (some ⟨b, o, none⟩)) (hi : ρ i = .int kd j) (hb : j < n) :
    (execOp ρ ⟨d, .indexAddr T x i, ty, pos, af, g⟩).run P w = .ok (.value (.pointer (some ⟨b, o + j * esz, none⟩))) w := by
  obtain ⟨dd, xx, zz, hT⟩ := tiOk_und ht
  have hu := hT.und
  obtain ⟨rfl, y, hy, hys⟩ := hT.ar _ _ _ rfl
  simp only [execOp, hx, hi]
  refine (run_bind_ok (P := P) (x := _) (w' := w) ?_).trans rfl
  simp only [Instr.indexAt]
  rw [run_bind_ok (show (asIntOf (.int kd j)).run P w = .ok (kd, (j : Int)) w from rfl)]
  simp only
  rw [run_bind_ok (und_run hu w)]
  simp only [Instr.sureAddr]
  rw [run_bind_ok (show (pure (⟨b, o, none⟩ : Addr) : Sem Addr).run P w = .ok ⟨b, o, none⟩ w from rfl)]
  rw [run_bind_ok (show (pure (some (⟨b, o, none⟩ : Addr), n, e) : Sem (Option Addr × Nat × TypeId)).run P w = .ok (some ⟨b, o, none⟩, n, e) w from rfl)]
  simp only
  rw [run_bind_ok (und_run hu w)]
  simp only
  rw [if_pos ⟨by omega, by omega⟩, run_bind_ok (size_run hy w), hys, Int.toNat_natCast, add_none]
  rfl
/-- an element's address in an array -/
theorem ixa {md : Option Md} {ops : Array Oper} {T : TypeId} {x i : Operand} {d : Nat} {ty : TypeId} {pos : String} {af : Array Edge} {g : Option (Nat × Bool)} {rest : List Oper} {k : List Item} {l : Env} {c : CEnv} {n e esz sz : Nat} {ag : Bool} {zr : List Value} {b o j : Nat} {kd : IntKind} {i0 : Int}
    (h : Wk C (.reg md ops rest k ((d, .pointer (some ⟨b, o + j * esz, none⟩)) :: l) c) w)
    (hs : adv C.tab C.n C.ks 400 s = .opn md ops ⟨some d, .indexAddr T x i, ty, pos, af, g⟩ rest k l c [] := by rfl) (ht : C.tab.at T = some ⟨.arr n e esz, sz, ag, zr⟩ := by rfl)
    (hx : evc l c [] x = some (.pointer (some ⟨b, o, none⟩)) := by rfl) (hi : evc l c [] i = some (.int kd i0) := by rfl) (hij : i0 = (j : Int) := by rfl) (hf : fresh d l c [] = true := by rfl) (hb : j < n := by omega) : Wk C s w :=
  rd (p := []) (fun hT _ hA hp _ _ => exec_ixa (tab_at hT ht) (evc_ok hA.k hA.kc.c hp hx) (by rw [← hij]; exact evc_ok hA.k hA.kc.c hp hi) hb) h hs rfl hf (okR_no rfl)
theorem exec_ixv {P : Program} {ρ : Operand → Value} {w : World} {d : Option Nat} {T : TypeId} {x i : Operand} {ty : TypeId} {pos : String} {af : Array Edge} {g : Option (Nat × Bool)} {sz n e esz se : Nat} {ag : Bool} {zr : List Value} {j : Nat} {kd : IntKind} {cs : List Value} {v : Value} {tk : TK} {ze : List Value}
    (ht : tiOk P T ⟨.arr n e esz, sz, ag, zr⟩ = true) (he : tiOk P e ⟨tk, se, false, ze⟩ = true) (hx : ρ x = .agg cs.toArray) (hi : ρ i = .int kd j) (hb : j < n) (hv : cs[j * esz]? = some v) :
    (execOp ρ ⟨d, .index T x i, ty, pos, af, g⟩).run P w = .ok (.value v) w := by
  obtain ⟨dd, xx, zz, hT⟩ := tiOk_und ht
  have hu := hT.und
  obtain ⟨rfl, y, hy, hys⟩ := hT.ar _ _ _ rfl
  simp only [execOp, hx, hi]
  refine (run_bind_ok (P := P) (x := _) (w' := w) ?_).trans rfl
  simp only [Instr.index]
  rw [run_bind_ok (show (asIntOf (.int kd j)).run P w = .ok (kd, (j : Int)) w from rfl)]
  simp only
  rw [run_bind_ok (und_run hu w)]
  simp only
  rw [if_pos ⟨by omega, by omega⟩, run_bind_ok (size_run hy w), hys, Int.toNat_natCast]
  unfold part
  rw [run_bind_ok (ti_agg he w).1, if_neg (by simp)]
  simp only [List.getElem?_toArray, hv]
  rfl
/-- an element of one cell of an array's value -/
theorem ixv {md : Option Md} {ops : Array Oper} {T : TypeId} {x i : Operand} {d : Nat} {ty : TypeId} {pos : String} {af : Array Edge} {g : Option (Nat × Bool)} {rest : List Oper} {k : List Item} {l : Env} {c : CEnv} {n e esz sz se : Nat} {ag : Bool} {zr : List Value} {j : Nat} {kd : IntKind} {i0 : Int} {cs : List Value} {v : Value} {tk : TK} {ze : List Value}
    (hv : cs[j * esz]? = some v) (h : Wk C (.reg md ops rest k ((d, v) :: l) c) w)
    (hs : adv C.tab C.n C.ks 400 s = .opn md ops ⟨some d, .index T x i, ty, pos, af, g⟩ rest k l c [] := by rfl) (ht : C.tab.at T = some ⟨.arr n e esz, sz, ag, zr⟩ := by rfl) (he : C.tab.at e = some ⟨tk, se, false, ze⟩ := by rfl)
    (hx : evc l c [] x = some (.agg cs.toArray) := by rfl) (hi : evc l c [] i = some (.int kd i0) := by rfl) (hij : i0 = (j : Int) := by rfl) (hf : fresh d l c [] = true := by rfl) (hb : j < n := by omega) : Wk C s w :=
  rd (p := []) (fun hT _ hA hp _ _ => exec_ixv (tab_at hT ht) (tab_at hT he) (evc_ok hA.k hA.kc.c hp hx) (by rw [← hij]; exact evc_ok hA.k hA.kc.c hp hi) hb hv) h hs rfl hf (okR_no rfl)
/-- a return of two results, the first lying in a block -/
theorem rtc2 {k : List Item} {l : Env} {dd d2 : Nat} {t : TypeId} {tk : TK} {sz : Nat} {zr : List Value} {b o : Nat} {cs : List Value} {v : Value} (hc : At w b o cs) (hq : C.Q (.tuple #[.agg cs.toArray, v]) w) (hs : adv C.tab C.n C.ks 400 s = .code (.code .ret :: k) l := by rfl)
    (ho : C.fn.results = #[.cell dd t, .tmp d2] := by rfl) (ht : C.tab.at t = some ⟨tk, sz, true, zr⟩ := by rfl) (hl : cs.length = sz := by rfl) (hx : look l dd = some (.pointer (some ⟨b, o, none⟩)) := by rfl) (hy : look l d2 = some v := by rfl) : Wk C s w :=
  by_adv hs ⟨fun hT hf a hA => fin hf (by
    unfold results
    rw [ho]
    have e : a.tmps.getD dd undef = .pointer (some ⟨b, o, none⟩) := hA.k _ _ hx
    have e' : a.tmps.getD d2 undef = v := hA.k _ _ hy
    have e2 : (loadVar t ⟨b, o, none⟩).run C.P w = .ok (.agg cs.toArray) w := loadVar_agg (tab_at hT ht) hc hl
    simp only [List.mapM_toArray, List.mapM_cons, List.mapM_nil, e, e', asAddr]
    have e3 : (do let x ← (do let p ← (pure (⟨b, o, none⟩ : Addr) : Sem Addr); loadVar t p); let y ← (do let z ← (pure v : Sem Value); let u ← (pure [] : Sem (List Value)); pure (z :: u)); pure (x :: y) : Sem (List Value)).run C.P w = .ok [.agg cs.toArray, v] w := (run_bind_ok e2).trans rfl
    refine (run_bind_ok (P := C.P) (x := #[.agg cs.toArray, v]) (w' := w) ?_).trans rfl
    exact (run_bind_ok e3).trans rfl) hA.defers hq (fun _ => step_ret)⟩
theorem ovl_get : ∀ (vs cs : List Value) (o j : Nat), o + vs.length ≤ cs.length → (ovl cs o vs)[j]? = if o ≤ j ∧ j < o + vs.length then vs[j - o]? else cs[j]?
  | [], cs, o, j, _ => by simp only [ovl, List.length_nil]; rw [if_neg (by omega)]
  | v :: vs, cs, o, j, h => by
    simp only [List.length_cons] at h
    simp only [ovl, List.length_cons]
    rw [ovl_get vs _ _ _ (by simp; omega)]
    by_cases h1 : j = o
    · subst h1
      rw [if_neg (by omega), if_pos (by omega), List.getElem?_set_self (by omega)]; simp
    · by_cases h2 : o + 1 ≤ j ∧ j < o + 1 + vs.length
      · rw [if_pos h2, if_pos (by omega), show j - o = j - (o + 1) + 1 by omega]; simp
      · rw [if_neg h2, if_neg (by omega), List.getElem?_set_ne (by omega)]
theorem ovl_whole {vs cs : List Value} (h : vs.length = cs.length) : ovl cs 0 vs = vs := by
  apply List.ext_getElem?
  intro j
  rw [ovl_get _ _ _ _ (by omega)]
  by_cases h1 : j < vs.length
  · rw [if_pos (by omega)]; rfl
  · rw [if_neg (by omega), List.getElem?_eq_none (by omega), List.getElem?_eq_none (by omega)]
/-- a store that fills a block -/
theorem stw {md : Option Md} {ops : Array Oper} {T : TypeId} {x y : Operand} {ty : TypeId} {pos : String} {af : Array Edge} {g : Option (Nat × Bool)} {rest : List Oper} {k : List Item} {l : Env} {c : CEnv} {tk : TK} {sz : Nat} {ag : Bool} {zr : List Value} {b : Nat} {t : TypeId} {vs cs : List Value}
    (hb : Box w b t cs) (hl : vs.length = sz) (hl2 : cs.length = sz) (hv : vs.all Value.oneCell' = true) (h : ∀ w', Wr w b w' → Box w' b t vs → Wk C (.reg md ops rest k l c) w')
    (hs : adv C.tab C.n C.ks 400 s = .opn md ops ⟨none, .store T x y, ty, pos, af, g⟩ rest k l c [] := by rfl) (ht : C.tab.at T = some ⟨tk, sz, ag, zr⟩ := by rfl)
    (hx : evc l c [] x = some (.pointer (some ⟨b, 0, none⟩)) := by rfl) (hy : evc l c [] y = some (.agg vs.toArray) := by rfl) (hm : ∀ w', Wr w b w' → mdW md w w' := by intros; exact True.intro) (hnt : notT md = true := by rfl) : Wk C s w :=
  op_unit (okW_of rfl hnt) (hm _ (setCells_ok hb).1) (w' := setCells w b 0 vs) (fun hT a hA => by
    have hz := (ti_agg (tab_at hT ht) w).2
    simp only [execOp, evc_ok hA.k hA.kc.c (p := []) trivial hx, evc_ok hA.k hA.kc.c (p := []) trivial hy, Instr.storeAt, Instr.sureAddr]
    refine (run_bind_ok (P := C.P) (x := ()) (w' := setCells w b 0 vs) ?_).trans rfl
    show (storeVar T ⟨b, 0, none⟩ (.agg vs.toArray)).run C.P w = _
    unfold storeVar
    rw [run_bind_ok hz, if_neg (by simp [Value.cells, hl])]
    exact storeCells_run (vs := vs) (i := 0) hb (by omega) hv)
    (h _ (setCells_ok hb).1 (by have := (setCells_ok (o := 0) (vs := vs) hb).2; rw [ovl_whole (by omega)] at this; exact this)) hs rfl
/-- the greater of two numbers -/
theorem mx {md : Option Md} {ops : Array Oper} {x y : Operand} {tys : Array TypeId} {d : Nat} {ty : TypeId} {pos : String} {af : Array Edge} {g : Option (Nat × Bool)} {rest : List Oper} {k : List Item} {l : Env} {c : CEnv} {kd : IntKind} {a b : Int}
    (h : Wk C (.reg md ops rest k ((d, .int kd (max a b)) :: l) c) w)
    (hs : adv C.tab C.n C.ks 400 s = .opn md ops ⟨some d, .call ⟨.builtin .max, #[x, y], tys⟩, ty, pos, af, g⟩ rest k l c [] := by rfl) (hx : evc l c [] x = some (.int kd a) := by rfl) (hy : evc l c [] y = some (.int kd b) := by rfl) (hf : fresh d l c [] = true := by rfl) : Wk C s w :=
  rd (p := []) (fun _ _ hA hp w' _ => by
    simp only [execOp, resolve, List.map_toArray, List.map_cons, List.map_nil, evc_ok hA.k hA.kc.c hp hx, evc_ok hA.k hA.kc.c hp hy]
    show (Sem.bind (Builtin.max_ _ ty #[_, _]) _).run C.P w' = _
    refine (run_bind_ok (P := C.P) (x := .int kd (max a b)) (w' := w') ?_).trans rfl
    simp only [Builtin.max_, List.foldlM, Builtin.max2]
    by_cases hab : a < b
    · simp [hab, pure, Int.max_def]; omega
    · simp [hab, pure, Int.max_def]; omega) h hs rfl hf (okR_no rfl)
end
end Go.Proofs.YtopjmiklpnejmaaGreatDoor.Eng
