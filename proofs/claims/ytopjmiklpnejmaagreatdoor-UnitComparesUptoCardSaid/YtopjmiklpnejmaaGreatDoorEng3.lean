/- The engine, fourth part: a lemma for each kind of step; what is known of worlds. -/
import Derived.Test.YtopjmiklpnejmaaGreatDoorEng2
import Derived.Test.YtopjmiklpnejmaaGreatDoorLib
namespace Go.Proofs.YtopjmiklpnejmaaGreatDoor.Eng
open Go Go.RowKit
section
variable {C : Cx} {s : St} {w : World}

theorem ti_agg {P : Program} {t : TypeId} {tk : TK} {sz : Nat} {zr : List Value} {ag : Bool} (h : tiOk P t ⟨tk, sz, ag, zr⟩ = true) (w : World) : (isAgg t).run P w = .ok ag w ∧ (sizeOf t).run P w = .ok sz w := by
  obtain ⟨d, x, z, hT⟩ := tiOk_und h
  have hu := hT.und
  have hi := hT.info
  have hsz := hT.size
  have hag := hT.agg
  refine ⟨?_, by rw [size_run hi, hsz]⟩
  unfold isAgg
  rw [run_bind_ok (und_run hu w)]
  simp only at hag
  rw [hag]
  cases d <;> rfl
theorem load_run {P : Program} {w : World} {a : Addr} {v : Value} (h : w.cell? a = some v) : (load a).run P w = .ok v w := by simp [load, Sem.run, h]
theorem loadCells_run {P : Program} {w : World} {b o : Nat} {cs : List Value} (h : At w b o cs) : ∀ (n i : Nat) (acc : Array Value), i + n = cs.length → (loadCellsFrom ⟨b, o, none⟩ i n acc).run P w = .ok (acc ++ (cs.drop i).toArray) w
  | 0, i, acc, hn => by rw [List.drop_of_length_le (by omega)]; simp [loadCellsFrom, pure]
  | n + 1, i, acc, hn => by
    obtain ⟨x, hx⟩ := some_of_lt (l := cs) (k := i) (by omega)
    simp only [loadCellsFrom]
    have hl : (load ((⟨b, o, none⟩ : Addr).add i)).run P w = .ok x w := by rw [add_none]; exact load_run (h i x hx)
    rw [run_bind_ok hl, loadCells_run h n (i + 1) _ (by omega)]
    obtain ⟨hlt, e⟩ := List.getElem?_eq_some_iff.1 hx
    rw [List.drop_eq_getElem_cons hlt, e]
    simp
theorem loadVar_one {P : Program} {w : World} {t : TypeId} {tk : TK} {sz : Nat} {zr : List Value} (h : tiOk P t ⟨tk, sz, false, zr⟩ = true) {a : Addr} {v : Value} (hc : w.cell? a = some v) : (loadVar t a).run P w = .ok v w := by
  unfold loadVar
  rw [run_bind_ok (ti_agg h w).1]; exact load_run hc
theorem loadVar_agg {P : Program} {w : World} {t : TypeId} {tk : TK} {sz : Nat} {zr : List Value} (h : tiOk P t ⟨tk, sz, true, zr⟩ = true) {b o : Nat} {cs : List Value} (hc : At w b o cs) (hl : cs.length = sz) : (loadVar t ⟨b, o, none⟩).run P w = .ok (.agg cs.toArray) w := by
  unfold loadVar
  rw [run_bind_ok (ti_agg h w).1]
  rw [if_pos rfl, run_bind_ok (ti_agg h w).2]
  have e : (loadCells ⟨b, o, none⟩ sz).run P w = .ok cs.toArray w := by
    unfold loadCells
    rw [loadCells_run hc sz 0 #[] (by omega)]; simp
  rw [run_bind_ok e]; rfl

/-- a read: the run of the operation gives v and leaves the world -/
theorem rd {md : Option Md} {ops : Array Oper} {o : Oper} {rest : List Oper} {k : List Item} {l : Env} {c : CEnv} {p : Path} {d : Nat} {v : Value}
    (hr : tabOk C.P C.tab = true → ∀ a, OkA C a l c → holds a p → ∀ w', mdR md w w' → (execOp a.eval o).run C.P w' = .ok (.value v) w') (h : Wk C (nxt md ops rest k l c p d v) w)
    (hs : adv C.tab C.n C.ks 400 s = .opn md ops o rest k l c p) (hd : o.dst = some d) (hf : fresh d l c p = true) (ho : okR md o = true) (hpu : pureB o.op = false := by rfl) : Wk C s w :=
  by_adv hs (op_read hd hf ho (fun hT a hA hp w' hm => hr hT a hA hp w' (hm.resolve_right (by rw [hpu]; simp))) h)
theorem exec_load {P : Program} {ρ : Operand → Value} {d : Option Nat} {T : TypeId} {x : Operand} {ty : TypeId} {pos : String} {af : Array Edge} {g : Option (Nat × Bool)} {a : Addr} {v : Value} (hx : ρ x = .pointer (some a)) (h : (loadVar T a).run P w = .ok v w) :
    (execOp ρ ⟨d, .load T x, ty, pos, af, g⟩).run P w = .ok (.value v) w := by
  simp only [execOp, hx]
  refine (run_bind_ok (P := P) (x := v) (w' := w) ?_).trans rfl
  exact h
/-- a load of one cell -/
theorem ld {md : Option Md} {ops : Array Oper} {T : TypeId} {x : Operand} {d : Nat} {ty : TypeId} {pos : String} {af : Array Edge} {g : Option (Nat × Bool)} {rest : List Oper} {k : List Item} {l : Env} {c : CEnv} {tk : TK} {sz : Nat} {zr : List Value} {b o : Nat} {v : Value}
    (hc : w.cell? ⟨b, o, none⟩ = some v) (h : Wk C (.reg md ops rest k ((d, v) :: l) c) w)
    (hs : adv C.tab C.n C.ks 400 s = .opn md ops ⟨some d, .load T x, ty, pos, af, g⟩ rest k l c [] := by rfl) (ht : C.tab.at T = some ⟨tk, sz, false, zr⟩ := by rfl)
    (hx : evc l c [] x = some (.pointer (some ⟨b, o, none⟩)) := by rfl) (hf : fresh d l c [] = true := by rfl) (hm : mdB md b := by first | exact True.intro | assumption | (simp only [mdB]; omega)) : Wk C s w :=
  rd (p := []) (fun hT _ hA hp _ hk => exec_load (evc_ok hA.k hA.kc.c hp hx) (loadVar_one (tab_at hT ht) (mdR_cell hm hk hc))) h hs rfl hf (okR_no rfl)
/-- a load of a struct -/
theorem lda {md : Option Md} {ops : Array Oper} {T : TypeId} {x : Operand} {d : Nat} {ty : TypeId} {pos : String} {af : Array Edge} {g : Option (Nat × Bool)} {rest : List Oper} {k : List Item} {l : Env} {c : CEnv} {tk : TK} {sz : Nat} {zr : List Value} {b o : Nat} {cs : List Value}
    (hc : At w b o cs) (h : Wk C (.reg md ops rest k ((d, .agg cs.toArray) :: l) c) w)
    (hs : adv C.tab C.n C.ks 400 s = .opn md ops ⟨some d, .load T x, ty, pos, af, g⟩ rest k l c [] := by rfl) (ht : C.tab.at T = some ⟨tk, sz, true, zr⟩ := by rfl) (hl : cs.length = sz := by rfl)
    (hx : evc l c [] x = some (.pointer (some ⟨b, o, none⟩)) := by rfl) (hf : fresh d l c [] = true := by rfl) (hm : mdB md b := by first | exact True.intro | assumption | (simp only [mdB]; omega)) : Wk C s w :=
  rd (p := []) (fun hT _ hA hp _ hk => exec_load (evc_ok hA.k hA.kc.c hp hx) (loadVar_agg (tab_at hT ht) (mdR_at hm hk hc) hl)) h hs rfl hf (okR_no rfl)
/-- what a guard of one test, of two tests, says -/
theorem guard1 {a : Act} {l : Env} {c : CEnv} {s : Nat} {b t : Bool} (hA : OkA C a l c) (hg : evc l c [] (.tmp s) = some (.bool t)) (hp : holds a [(s, b)]) : t = b := by
  have e1 : a.tmps.getD s undef = .bool t := evc_ok hA.k hA.kc.c (p := []) trivial hg
  have e2 := hp.1
  rw [e1] at e2; exact Value.bool.inj e2
theorem guard2 {a : Act} {l : Env} {c : CEnv} {s s' : Nat} {b b' t t' : Bool} (hA : OkA C a l c) (hg' : evc l c [] (.tmp s') = some (.bool t')) (hg : evc l c [(s', b')] (.tmp s) = some (.bool t)) (hp : holds a [(s, b), (s', b')]) : t' = b' ∧ t = b := by
  have h1 := guard1 hA hg' hp.2
  have e1 : a.tmps.getD s undef = .bool t := evc_ok hA.k hA.kc.c (p := [(s', b')]) hp.2 hg
  have e2 := hp.1
  rw [e1] at e2; exact ⟨h1, Value.bool.inj e2⟩
theorem ldg {md : Option Md} {ops : Array Oper} {T : TypeId} {x : Operand} {d : Nat} {ty : TypeId} {pos : String} {af : Array Edge} {g : Option (Nat × Bool)} {rest : List Oper} {k : List Item} {l : Env} {c : CEnv} {tk : TK} {sz : Nat} {zr : List Value} {b o : Nat} {v : Value} {gs : Nat} {gb gt : Bool}
    (hc : gt = gb → w.cell? ⟨b, o, none⟩ = some v) (h : Wk C (.reg md ops rest k l ((d, [(gs, gb)], v) :: c)) w)
    (hs : adv C.tab C.n C.ks 400 s = .opn md ops ⟨some d, .load T x, ty, pos, af, g⟩ rest k l c [(gs, gb)] := by rfl) (hg : evc l c [] (.tmp gs) = some (.bool gt) := by rfl) (ht : C.tab.at T = some ⟨tk, sz, false, zr⟩ := by rfl)
    (hx : evc l c [(gs, gb)] x = some (.pointer (some ⟨b, o, none⟩)) := by rfl) (hf : fresh d l c [(gs, gb)] = true := by rfl) (hm : mdB md b := by first | exact True.intro | assumption | (simp only [mdB]; omega)) : Wk C s w :=
  rd (p := [(gs, gb)]) (fun hT _ hA hp _ hk => exec_load (evc_ok hA.k hA.kc.c hp hx) (loadVar_one (tab_at hT ht) (mdR_cell hm hk (hc (guard1 hA hg hp))))) h hs rfl hf (okR_no rfl)
theorem ldg2 {md : Option Md} {ops : Array Oper} {T : TypeId} {x : Operand} {d : Nat} {ty : TypeId} {pos : String} {af : Array Edge} {g : Option (Nat × Bool)} {rest : List Oper} {k : List Item} {l : Env} {c : CEnv} {tk : TK} {sz : Nat} {zr : List Value} {b o : Nat} {v : Value} {gs gs' : Nat} {gb gt gb' gt' : Bool}
    (hc : gt' = gb' → gt = gb → w.cell? ⟨b, o, none⟩ = some v) (h : Wk C (.reg md ops rest k l ((d, [(gs, gb), (gs', gb')], v) :: c)) w)
    (hs : adv C.tab C.n C.ks 400 s = .opn md ops ⟨some d, .load T x, ty, pos, af, g⟩ rest k l c [(gs, gb), (gs', gb')] := by rfl) (hg' : evc l c [] (.tmp gs') = some (.bool gt') := by rfl) (hg : evc l c [(gs', gb')] (.tmp gs) = some (.bool gt) := by rfl) (ht : C.tab.at T = some ⟨tk, sz, false, zr⟩ := by rfl)
    (hx : evc l c [(gs, gb), (gs', gb')] x = some (.pointer (some ⟨b, o, none⟩)) := by rfl) (hf : fresh d l c [(gs, gb), (gs', gb')] = true := by rfl) (hm : mdB md b := by first | exact True.intro | assumption | (simp only [mdB]; omega)) : Wk C s w :=
  rd (p := [(gs, gb), (gs', gb')]) (fun hT _ hA hp _ hk => exec_load (evc_ok hA.k hA.kc.c hp hx) (loadVar_one (tab_at hT ht) (mdR_cell hm hk (hc (guard2 hA hg' hg hp).1 (guard2 hA hg' hg hp).2)))) h hs rfl hf (okR_no rfl)
theorem exec_ix {P : Program} {ρ : Operand → Value} {d : Option Nat} {T : TypeId} {x i : Operand} {ty : TypeId} {pos : String} {af : Array Edge} {g : Option (Nat × Bool)} {sz e esz by' : Nat} {ag : Bool} {zr : List Value} {b o len cap j : Nat} {kd : IntKind}
    (ht : tiOk P T ⟨.slice e esz by', sz, ag, zr⟩ = true) (hx : ρ x = .slice (some ⟨b, o, none⟩) len cap) (hi : ρ i = .int kd j) (hb : j < len) :
    (execOp ρ ⟨d, .indexAddr T x i, ty, pos, af, g⟩).run P w = .ok (.value (.pointer (some ⟨b, o + j * esz, none⟩))) w := by
  obtain ⟨dd, xx, zz, hT⟩ := tiOk_und ht
  have hu := hT.und
  obtain ⟨rfl, hel⟩ := hT.sl _ _ _ rfl
  obtain ⟨y, z, hy, hys, _⟩ := elemOk_of hel
  simp only [execOp, hx, hi]
  refine (run_bind_ok (P := P) (x := _) (w' := w) ?_).trans rfl
  simp only [Instr.indexAt]
  rw [run_bind_ok (show (asIntOf (.int kd j)).run P w = .ok (kd, (j : Int)) w from rfl)]
  simp only
  rw [run_bind_ok (und_run hu w)]
  simp only
  have e2 : ∀ (k : (Option Addr × Nat × TypeId) → Sem Value), (((pure (some (⟨b, o, none⟩ : Addr), len, e)) : Sem (Option Addr × Nat × TypeId)) >>= k) = k (some ⟨b, o, none⟩, len, e) := fun k => rfl
  rw [e2]
  simp only
  rw [run_bind_ok (und_run hu w)]
  simp only [Bool.and_false]
  rw [if_pos ⟨by omega, by omega⟩, run_bind_ok (size_run hy w), hys, Int.toNat_natCast, add_none]
  rfl
/-- an element's address in a slice -/
theorem ix {md : Option Md} {ops : Array Oper} {T : TypeId} {x i : Operand} {d : Nat} {ty : TypeId} {pos : String} {af : Array Edge} {g : Option (Nat × Bool)} {rest : List Oper} {k : List Item} {l : Env} {c : CEnv} {e esz by' sz : Nat} {ag : Bool} {zr : List Value} {b o len cap j : Nat} {kd : IntKind} {i0 : Int}
    (h : Wk C (.reg md ops rest k ((d, .pointer (some ⟨b, o + j * esz, none⟩)) :: l) c) w)
    (hs : adv C.tab C.n C.ks 400 s = .opn md ops ⟨some d, .indexAddr T x i, ty, pos, af, g⟩ rest k l c [] := by rfl) (ht : C.tab.at T = some ⟨.slice e esz by', sz, ag, zr⟩ := by rfl)
    (hx : evc l c [] x = some (.slice (some ⟨b, o, none⟩) len cap) := by rfl) (hi : evc l c [] i = some (.int kd i0) := by rfl) (hij : i0 = (j : Int) := by rfl) (hf : fresh d l c [] = true := by rfl) (hb : j < len := by omega) : Wk C s w :=
  rd (p := []) (fun hT _ hA hp _ _ => exec_ix (tab_at hT ht) (evc_ok hA.k hA.kc.c hp hx) (by rw [← hij]; exact evc_ok hA.k hA.kc.c hp hi) hb) h hs rfl hf (okR_no rfl)
theorem ixg {md : Option Md} {ops : Array Oper} {T : TypeId} {x i : Operand} {d : Nat} {ty : TypeId} {pos : String} {af : Array Edge} {g : Option (Nat × Bool)} {rest : List Oper} {k : List Item} {l : Env} {c : CEnv} {e esz by' sz : Nat} {ag : Bool} {zr : List Value} {b o len cap j : Nat} {kd : IntKind} {i0 : Int} {gs : Nat} {gb gt : Bool}
    (hb : gt = gb → j < len) (h : Wk C (.reg md ops rest k l ((d, [(gs, gb)], .pointer (some ⟨b, o + j * esz, none⟩)) :: c)) w)
    (hs : adv C.tab C.n C.ks 400 s = .opn md ops ⟨some d, .indexAddr T x i, ty, pos, af, g⟩ rest k l c [(gs, gb)] := by rfl) (hg : evc l c [] (.tmp gs) = some (.bool gt) := by rfl) (ht : C.tab.at T = some ⟨.slice e esz by', sz, ag, zr⟩ := by rfl)
    (hx : evc l c [(gs, gb)] x = some (.slice (some ⟨b, o, none⟩) len cap) := by rfl) (hi : evc l c [(gs, gb)] i = some (.int kd i0) := by rfl) (hij : i0 = (j : Int) := by rfl) (hf : fresh d l c [(gs, gb)] = true := by rfl) : Wk C s w :=
  rd (p := [(gs, gb)]) (fun hT _ hA hp _ _ => exec_ix (tab_at hT ht) (evc_ok hA.k hA.kc.c hp hx) (by rw [← hij]; exact evc_ok hA.k hA.kc.c hp hi) (hb (guard1 hA hg hp))) h hs rfl hf (okR_no rfl)
/-- a byte of a string -/
def sget (s : ByteArray) (j : Nat) : UInt8 := s.data.toList.getD j 0
theorem sget_some {s : ByteArray} {j : Nat} (h : j < s.size) : s[j]? = some (sget s j) := by
  have e : s.data.toList[j]? = some s[j] := by rw [List.getElem?_eq_getElem (by rw [Array.length_toList]; exact h)]; rfl
  have e2 : s[j]? = some s[j] := getElem?_pos s j h
  rw [e2, sget, List.getD_eq_getElem?_getD, e]; rfl
theorem exec_ixs {P : Program} {ρ : Operand → Value} {d : Option Nat} {T : TypeId} {x i : Operand} {ty : TypeId} {pos : String} {af : Array Edge} {g : Option (Nat × Bool)} {sz : Nat} {ag : Bool} {zr : List Value} {str : ByteArray} {j : Nat} {kd : IntKind}
    (ht : tiOk P T ⟨.str, sz, ag, zr⟩ = true) (hx : ρ x = .string str) (hi : ρ i = .int kd j) (hb : j < str.size) :
    (execOp ρ ⟨d, .index T x i, ty, pos, af, g⟩).run P w = .ok (.value (.int .u8 (sget str j).toNat)) w := by
  obtain ⟨dd, xx, zz, hT⟩ := tiOk_und ht
  have hu := hT.und
  have := hT.str rfl; subst this
  simp only [execOp, hx, hi]
  refine (run_bind_ok (P := P) (x := _) (w' := w) ?_).trans rfl
  simp only [Instr.index]
  rw [run_bind_ok (show (asIntOf (.int kd j)).run P w = .ok (kd, (j : Int)) w from rfl)]
  simp only
  rw [run_bind_ok (und_run hu w)]
  simp only
  rw [if_pos (by omega), Int.toNat_natCast, sget_some hb]
  rfl
theorem ixs {md : Option Md} {ops : Array Oper} {T : TypeId} {x i : Operand} {d : Nat} {ty : TypeId} {pos : String} {af : Array Edge} {g : Option (Nat × Bool)} {rest : List Oper} {k : List Item} {l : Env} {c : CEnv} {sz : Nat} {ag : Bool} {zr : List Value} {str : ByteArray} {j : Nat} {kd : IntKind} {i0 : Int}
    (h : Wk C (.reg md ops rest k ((d, .int .u8 (sget str j).toNat) :: l) c) w)
    (hs : adv C.tab C.n C.ks 400 s = .opn md ops ⟨some d, .index T x i, ty, pos, af, g⟩ rest k l c [] := by rfl) (ht : C.tab.at T = some ⟨.str, sz, ag, zr⟩ := by rfl)
    (hx : evc l c [] x = some (.string str) := by rfl) (hi : evc l c [] i = some (.int kd i0) := by rfl) (hij : i0 = (j : Int) := by rfl) (hf : fresh d l c [] = true := by rfl) (hb : j < str.size := by omega) : Wk C s w :=
  rd (p := []) (fun hT _ hA hp _ _ => exec_ixs (tab_at hT ht) (evc_ok hA.k hA.kc.c hp hx) (by rw [← hij]; exact evc_ok hA.k hA.kc.c hp hi) hb) h hs rfl hf (okR_no rfl)
theorem ixsg {md : Option Md} {ops : Array Oper} {T : TypeId} {x i : Operand} {d : Nat} {ty : TypeId} {pos : String} {af : Array Edge} {g : Option (Nat × Bool)} {rest : List Oper} {k : List Item} {l : Env} {c : CEnv} {sz : Nat} {ag : Bool} {zr : List Value} {str : ByteArray} {j : Nat} {kd : IntKind} {i0 : Int} {gs : Nat} {gb gt : Bool}
    (hb : gt = gb → j < str.size) (h : Wk C (.reg md ops rest k l ((d, [(gs, gb)], .int .u8 (sget str j).toNat) :: c)) w)
    (hs : adv C.tab C.n C.ks 400 s = .opn md ops ⟨some d, .index T x i, ty, pos, af, g⟩ rest k l c [(gs, gb)] := by rfl) (hg : evc l c [] (.tmp gs) = some (.bool gt) := by rfl) (ht : C.tab.at T = some ⟨.str, sz, ag, zr⟩ := by rfl)
    (hx : evc l c [(gs, gb)] x = some (.string str) := by rfl) (hi : evc l c [(gs, gb)] i = some (.int kd i0) := by rfl) (hij : i0 = (j : Int) := by rfl) (hf : fresh d l c [(gs, gb)] = true := by rfl) : Wk C s w :=
  rd (p := [(gs, gb)]) (fun hT _ hA hp _ _ => exec_ixs (tab_at hT ht) (evc_ok hA.k hA.kc.c hp hx) (by rw [← hij]; exact evc_ok hA.k hA.kc.c hp hi) (hb (guard1 hA hg hp))) h hs rfl hf (okR_no rfl)

/-- a test -/
theorem br {c : Operand} {x y : Code} {t : Bool} {k : List Item} {l : Env} (h1 : t = true → Wk C (.code (.code x :: k) l) w) (h2 : t = false → Wk C (.code (.code y :: k) l) w)
    (hs : adv C.tab C.n C.ks 400 s = .code (.code (.cond c x y) :: k) l := by rfl) (hc : evq l c = some (.bool t) := by rfl) : Wk C s w := by
  refine by_adv hs ⟨fun ht hf a hA => ?_⟩
  refine runs_step (fun _ => step_cond (evq_ok hA.k hc)) ?_
  cases t with
  | true => exact (h1 rfl).run ht hf a hA
  | false => exact (h2 rfl).run ht hf a hA
theorem brT {c : Operand} {x y : Code} {p : Prop} {dp : Decidable p} {k : List Item} {l : Env} (h1 : Wk C (.code (.code x :: k) l) w)
    (hs : adv C.tab C.n C.ks 400 s = .code (.code (.cond c x y) :: k) l := by rfl) (hc : evq l c = some (.bool (@decide p dp)) := by rfl) (hp : p := by omega) : Wk C s w :=
  br (fun _ => h1) (fun h => absurd hp (of_decide_eq_false h)) hs hc
theorem brF {c : Operand} {x y : Code} {p : Prop} {dp : Decidable p} {k : List Item} {l : Env} (h1 : Wk C (.code (.code y :: k) l) w)
    (hs : adv C.tab C.n C.ks 400 s = .code (.code (.cond c x y) :: k) l := by rfl) (hc : evq l c = some (.bool (@decide p dp)) := by rfl) (hp : ¬ p := by omega) : Wk C s w :=
  br (fun h => absurd (of_decide_eq_true h) hp) (fun _ => h1) hs hc
theorem brt {c : Operand} {x y : Code} {t : Bool} {k : List Item} {l : Env} (h1 : Wk C (.code (.code x :: k) l) w)
    (hs : adv C.tab C.n C.ks 400 s = .code (.code (.cond c x y) :: k) l := by rfl) (hc : evq l c = some (.bool t) := by rfl) (hp : t = true := by first | rfl | simp | simp_all) : Wk C s w :=
  br (fun _ => h1) (fun h => by rw [hp] at h; cases h) hs hc
theorem brf {c : Operand} {x y : Code} {t : Bool} {k : List Item} {l : Env} (h1 : Wk C (.code (.code y :: k) l) w)
    (hs : adv C.tab C.n C.ks 400 s = .code (.code (.cond c x y) :: k) l := by rfl) (hc : evq l c = some (.bool t) := by rfl) (hp : t = false := by first | rfl | simp | simp_all) : Wk C s w :=
  br (fun h => by rw [hp] at h; cases h) (fun _ => h1) hs hc
theorem fin {a : Act} {v : Value} {todo : List Item} (hf : C.P.funcs[C.f]? = some C.fn) (hr : (results C.fn a.tmps).run C.P w = .ok v w) (hd : a.defers = []) (hq : C.Q v w)
    (hs : ∀ cs, step C.P (lone ((bas C.f).at a todo) cs w) = .next (lone { (bas C.f).at a todo with mode := .returning } cs w)) : runs C a todo w :=
  fun cs => ⟨.returned v, w, _, hq, .one (hs cs), rfl, rfl, hd, rfl, C.fn, hf, hr⟩
/-- a return -/
theorem rt {k : List Item} {l : Env} {vs : List Value} (hq : C.Q (whole vs) w) (hs : adv C.tab C.n C.ks 400 s = .code (.code .ret :: k) l := by rfl) (ho : outs l C.fn.results.toList = some vs := by rfl) : Wk C s w :=
  by_adv hs ⟨fun _ hf _ hA => fin hf (results_of hA.k ho) hA.defers hq (fun _ => step_ret)⟩
theorem rt1 {k : List Item} {l : Env} {v : Value} (hq : C.Q v w) (hs : adv C.tab C.n C.ks 400 s = .code (.code .ret :: k) l := by rfl) (ho : outs l C.fn.results.toList = some [v] := by rfl) : Wk C s w := rt (vs := [v]) hq hs ho
theorem rt2 {k : List Item} {l : Env} {v u : Value} (hq : C.Q (.tuple #[v, u]) w) (hs : adv C.tab C.n C.ks 400 s = .code (.code .ret :: k) l := by rfl) (ho : outs l C.fn.results.toList = some [v, u] := by rfl) : Wk C s w := rt (vs := [v, u]) hq hs ho
theorem rt3 {k : List Item} {l : Env} {v u x : Value} (hq : C.Q (.tuple #[v, u, x]) w) (hs : adv C.tab C.n C.ks 400 s = .code (.code .ret :: k) l := by rfl) (ho : outs l C.fn.results.toList = some [v, u, x] := by rfl) : Wk C s w := rt (vs := [v, u, x]) hq hs ho
theorem vb {a b : Bool} (h : a = b) : Value.bool a = Value.bool b := by rw [h]
theorem vi {k : IntKind} {a b : Int} (h : a = b) : Value.int k a = Value.int k b := by rw [h]
/-- the function's end -/
theorem en {l : Env} {vs : List Value} (hq : C.Q (whole vs) w) (hs : adv C.tab C.n C.ks 400 s = .code [] l := by rfl) (ho : outs l C.fn.results.toList = some vs := by rfl) : Wk C s w :=
  by_adv hs ⟨fun _ hf _ hA => fin hf (results_of hA.k ho) hA.defers hq (fun _ => step_end)⟩
/-- the beginning -/
theorem entr {P : Program} {f : FuncId} {fn : Func} {n : Nat} (ks : List Nat) {tab : Tab} {c : Code} {vs : List Value} {Q : Value → World → Prop} (ht : tabOk P tab = true) (hf : P.funcs[f]? = some fn) (hok : callable P f = true)
    (h : Wk ⟨P, f, fn, n, ks, tab, Q⟩ (.code [.code c] (numbered 0 vs)) w) (hb : fn.body = some c := by rfl) (hn : fn.ntmps = n := by rfl) (hs : Nat.ble vs.length n = true := by rfl) : Ret P f vs.toArray w Q := by
  have hs' : vs.length ≤ n := Nat.le_of_ble_eq_true hs
  refine ⟨hok, fun cs => ?_⟩
  have henter : Frame.enter P f vs.toArray .normal = (bas f).at { tmps := vs.toArray ++ Array.replicate (fn.ntmps - vs.toArray.size) undef, defers := [] } [.code c] := by
    simp [Frame.enter, Frame.at, hf, hb, bas]
  rw [henter]
  refine h.run ht hf _ ⟨?_, rfl, ?_, knows_nil _⟩ cs
  · simp [hn]; omega
  · intro k v hv
    obtain ⟨_, h2⟩ := look_numbered _ _ _ _ hv
    simp only [Nat.sub_zero] at h2
    obtain ⟨hlt, e⟩ := List.getElem?_eq_some_iff.1 h2
    simp [Array.getElem?_append, hlt, e]
/-- a loop -/
theorem lp {c : Code} {k : List Item} {l : Env} {vals : List Value} {m : Nat} (sel : List Nat) (keep : Env) (Inv : Nat → List Value → World → Prop) (hkeep : Sub keep l) (h0 : Inv m vals w)
    (hr : ∀ m vals w', Inv m vals w' →
      (∀ m' l'' vals'' w'', m' < m → Sub keep l'' → lookAll l'' sel = some vals'' → Inv m' vals'' w'' → Wk C (.code (.inLoop c :: k) l'') w'') →
      Wk C (.code (.code c :: .inLoop c :: k) (pair sel vals keep)) w')
    (hs : adv C.tab C.n C.ks 400 s = .code (.code (.loop c) :: k) l := by rfl) (hv : lookAll l sel = some vals := by rfl) : Wk C s w := by
  have key : ∀ M m l vals w, m < M → Sub keep l → lookAll l sel = some vals → Inv m vals w → Wk C (.code (.code c :: .inLoop c :: k) l) w := by
    intro M
    induction M with
    | zero => intro m l vals w hm; omega
    | succ M ih =>
      intro m l vals w hm hk hv hi
      refine wk_forget (look_pair hk hv) (hr m vals w hi ?_)
      intro m' l'' vals'' w'' hlt hk' hv' hi'
      exact wk_admin (fun _ _ => step_inLoop) (ih m' l'' vals'' w'' (by omega) hk' hv' hi')
  exact by_adv hs (wk_admin (fun _ _ => step_loop) (key (m + 1) m l vals w (by omega) hkeep hv h0))
/-- the end of a round -/
theorem again {c : Code} {k : List Item} {l : Env} (h : Wk C (.code (.inLoop c :: k) l) w) (hs : adv C.tab C.n C.ks 400 s = .code (.inLoop c :: k) l := by rfl) : Wk C s w := by_adv hs h
end
end Go.Proofs.YtopjmiklpnejmaaGreatDoor.Eng
