/- The engine, eighth part: slices of slices and of strings; arithmetic; strings; stores into rows; a guarded step that writes. -/
import Derived.Test.YtopjmiklpnejmaaGreatDoorEng6
namespace Go.Proofs.YtopjmiklpnejmaaGreatDoor.Eng
open Go Go.RowKit
/-- the value of a bound that may be missing -/
def evo (l : Env) (c : CEnv) (p : Path) : Option Operand → Option (Option Value)
  | none => some none
  | some x => match evc l c p x with
    | some v => some (some v)
    | none => none
theorem evo_ok {l : Env} {c : CEnv} {p : Path} {a : Act} (hk : Knows l a) (hc : KnowsC c a) (hp : holds a p) {x : Option Operand} {v : Option Value} (h : evo l c p x = some v) : x.map a.eval = v := by
  cases x with
  | none => simp [evo] at h; simp [h]
  | some x =>
    simp only [evo] at h
    cases hx : evc l c p x with
    | none => simp [hx] at h
    | some u => simp [hx] at h; subst h; simp [evc_ok hk hc hp hx]
/-- a bound, or what stands where it is missing -/
def bnd (d : Nat) : Option Value → Nat → Prop
  | none, n => n = d
  | some v, n => ∃ k : IntKind, v = .int k n
theorem bound_run {P : Program} {w : World} {k : IntKind} {n y : Nat} {code : BoundsCode} (h : n ≤ y) : (Instr.sliceBound (.int k n) y code).run P w = .ok n w := by
  unfold Instr.sliceBound
  rw [run_bind_ok (show (asIntOf (.int k n)).run P w = .ok (k, (n : Int)) w from rfl)]
  simp only
  rw [if_pos ⟨by omega, by omega⟩]; rfl
theorem bounds_run {P : Program} {w : World} {sl : Bool} {len cap lo hi : Nat} {vlo vhi : Option Value} (h1 : bnd 0 vlo lo) (h2 : bnd len vhi hi) (h3 : lo ≤ hi) (h4 : hi ≤ cap) : (Instr.sliceBounds sl len cap vlo vhi none).run P w = .ok (lo, hi, cap) w := by
  unfold Instr.sliceBounds
  show (Sem.bind (Sem.pure cap) _).run P w = _
  simp only [Sem.bind]
  cases vhi with
  | none =>
    have : hi = len := h2; subst this
    show (Sem.bind (Sem.pure hi) _).run P w = _
    simp only [Sem.bind]
    cases vlo with
    | none => have : lo = 0 := h1; subst this; rfl
    | some v => obtain ⟨k, rfl⟩ := h1; exact (run_bind_ok (bound_run h3)).trans rfl
  | some u =>
    obtain ⟨k', rfl⟩ := h2
    refine (run_bind_ok (bound_run h4)).trans ?_
    cases vlo with
    | none => have : lo = 0 := h1; subst this; rfl
    | some v => obtain ⟨k, rfl⟩ := h1; exact (run_bind_ok (bound_run h3)).trans rfl
theorem exec_sl {P : Program} {ρ : Operand → Value} {w : World} {d : Option Nat} {T : TypeId} {x : Operand} {lo hi : Option Operand} {ty : TypeId} {pos : String} {af : Array Edge} {g : Option (Nat × Bool)} {e esz by' sz : Nat} {ag : Bool} {zr : List Value}
    (ht : tiOk P T ⟨.slice e esz by', sz, ag, zr⟩ = true) {a : Option Addr} {len cap nl nh : Nat} (hx : ρ x = .slice a len cap) (h1 : bnd 0 (lo.map ρ) nl) (h2 : bnd len (hi.map ρ) nh) (h3 : nl ≤ nh) (h4 : nh ≤ cap) :
    (execOp ρ ⟨d, .slice T x lo hi none, ty, pos, af, g⟩).run P w = .ok (.value (.slice (if cap = nl then a else a.map (·.add (nl * esz))) (nh - nl) (cap - nl))) w := by
  obtain ⟨dd, xx, zz, hT⟩ := tiOk_und ht
  obtain ⟨rfl, hel⟩ := hT.sl _ _ _ rfl
  obtain ⟨y, z, hy, hys, _⟩ := elemOk_of hel
  simp only [execOp, hx]
  refine (run_bind_ok (P := P) (x := _) (w' := w) ?_).trans rfl
  simp only [Instr.sliceAt]
  rw [run_bind_ok (und_run hT.und w)]
  simp only [Instr.slice]
  rw [run_bind_ok (und_run hT.und w)]
  simp only [Option.map_none]
  rw [run_bind_ok (bounds_run h1 h2 h3 h4)]
  simp only
  rw [run_bind_ok (size_run hy w), hys]
  rfl
theorem exec_sls {P : Program} {ρ : Operand → Value} {w : World} {d : Option Nat} {T : TypeId} {x : Operand} {lo hi : Option Operand} {ty : TypeId} {pos : String} {af : Array Edge} {g : Option (Nat × Bool)} {sz : Nat} {ag : Bool} {zr : List Value}
    (ht : tiOk P T ⟨.str, sz, ag, zr⟩ = true) {str : ByteArray} {nl nh : Nat} (hx : ρ x = .string str) (h1 : bnd 0 (lo.map ρ) nl) (h2 : bnd str.size (hi.map ρ) nh) (h3 : nl ≤ nh) (h4 : nh ≤ str.size) :
    (execOp ρ ⟨d, .slice T x lo hi none, ty, pos, af, g⟩).run P w = .ok (.value (.string (str.extract nl nh))) w := by
  obtain ⟨dd, xx, zz, hT⟩ := tiOk_und ht
  have := hT.str rfl; subst this
  simp only [execOp, hx]
  refine (run_bind_ok (P := P) (x := _) (w' := w) ?_).trans rfl
  simp only [Instr.sliceAt]
  rw [run_bind_ok (und_run hT.und w)]
  simp only [Instr.slice]
  rw [run_bind_ok (und_run hT.und w)]
  simp only [Option.map_none]
  show (Sem.bind (Instr.sliceBounds false str.size str.size _ _ none) _).run P w = _
  exact (run_bind_ok (bounds_run h1 h2 h3 h4)).trans rfl
section
variable {C : Cx} {s : St} {w : World}
/-- s[lo:hi] of a slice -/
theorem sl {md : Option Md} {ops : Array Oper} {T : TypeId} {x : Operand} {lo hi : Option Operand} {d : Nat} {ty : TypeId} {pos : String} {af : Array Edge} {g : Option (Nat × Bool)} {rest : List Oper} {k : List Item} {l : Env} {c : CEnv} {e esz by' sz : Nat} {ag : Bool} {zr : List Value}
    {a : Option Addr} {len cap : Nat} (nl nh : Nat) {vlo vhi : Option Value} (h : Wk C (.reg md ops rest k ((d, .slice (if cap = nl then a else a.map (·.add (nl * esz))) (nh - nl) (cap - nl)) :: l) c) w)
    (hs : adv C.tab C.n C.ks 400 s = .opn md ops ⟨some d, .slice T x lo hi none, ty, pos, af, g⟩ rest k l c [] := by rfl) (ht : C.tab.at T = some ⟨.slice e esz by', sz, ag, zr⟩ := by rfl) (hx : evc l c [] x = some (.slice a len cap) := by rfl)
    (hlo : evo l c [] lo = some vlo := by rfl) (hhi : evo l c [] hi = some vhi := by rfl) (h1 : bnd 0 vlo nl := by first | rfl | exact ⟨_, rfl⟩) (h2 : bnd len vhi nh := by first | rfl | exact ⟨_, rfl⟩) (h3 : nl ≤ nh := by omega) (h4 : nh ≤ cap := by omega) (hf : fresh d l c [] = true := by rfl) : Wk C s w :=
  rd (p := []) (fun hT _ hA hp _ _ => exec_sl (tab_at hT ht) (evc_ok hA.k hA.kc.c hp hx) (by rw [evo_ok hA.k hA.kc.c hp hlo]; exact h1) (by rw [evo_ok hA.k hA.kc.c hp hhi]; exact h2) h3 h4) h hs rfl hf (okR_no rfl)
/-- s[lo:hi] of a string -/
theorem sls {md : Option Md} {ops : Array Oper} {T : TypeId} {x : Operand} {lo hi : Option Operand} {d : Nat} {ty : TypeId} {pos : String} {af : Array Edge} {g : Option (Nat × Bool)} {rest : List Oper} {k : List Item} {l : Env} {c : CEnv} {sz : Nat} {ag : Bool} {zr : List Value}
    {str : ByteArray} (nl nh : Nat) {vlo vhi : Option Value} (h : Wk C (.reg md ops rest k ((d, .string (str.extract nl nh)) :: l) c) w)
    (hs : adv C.tab C.n C.ks 400 s = .opn md ops ⟨some d, .slice T x lo hi none, ty, pos, af, g⟩ rest k l c [] := by rfl) (ht : C.tab.at T = some ⟨.str, sz, ag, zr⟩ := by rfl) (hx : evc l c [] x = some (.string str) := by rfl)
    (hlo : evo l c [] lo = some vlo := by rfl) (hhi : evo l c [] hi = some vhi := by rfl) (h1 : bnd 0 vlo nl := by first | rfl | exact ⟨_, rfl⟩) (h2 : bnd str.size vhi nh := by first | rfl | exact ⟨_, rfl⟩) (h3 : nl ≤ nh := by omega) (h4 : nh ≤ str.size := by omega) (hf : fresh d l c [] = true := by rfl) : Wk C s w :=
  rd (p := []) (fun hT _ hA hp _ _ => exec_sls (tab_at hT ht) (evc_ok hA.k hA.kc.c hp hx) (by rw [evo_ok hA.k hA.kc.c hp hlo]; exact h1) (by rw [evo_ok hA.k hA.kc.c hp hhi]; exact h2) h3 h4) h hs rfl hf (okR_no rfl)
/-- arithmetic on two numbers whose outcome is given -/
theorem iop {md : Option Md} {ops : Array Oper} {op : BinOp} {T T' : TypeId} {x y : Operand} {d : Nat} {ty : TypeId} {pos : String} {af : Array Edge} {g : Option (Nat × Bool)} {rest : List Oper} {k : List Item} {l : Env} {c : CEnv} {ka kb : IntKind} {a b : Int} {v : Value}
    (hr : ∀ P w, (binOp op T (.int ka a) (.int kb b)).run P w = .ok v w) (h : Wk C (.reg md ops rest k ((d, v) :: l) c) w)
    (hs : adv C.tab C.n C.ks 400 s = .opn md ops ⟨some d, .binOp op T x y T', ty, pos, af, g⟩ rest k l c [] := by rfl) (hx : evc l c [] x = some (.int ka a) := by rfl) (hy : evc l c [] y = some (.int kb b) := by rfl) (hf : fresh d l c [] = true := by rfl) : Wk C s w :=
  rd (p := []) (fun _ _ hA hp w' _ => by
    simp only [execOp, evc_ok hA.k hA.kc.c hp hx, evc_ok hA.k hA.kc.c hp hy]
    exact run_bind_ok (run_bind_ok (eqg_int ..) |>.trans (hr C.P w')) |>.trans rfl) h hs rfl hf (okR_no rfl)
theorem quo_run {T : TypeId} {k : IntKind} {a b : Int} (hb : b ≠ 0) : ∀ P w, (binOp .quo T (.int k a) (.int k b)).run P w = .ok (.int k (k.wrap (a.tdiv b))) w := fun P w => by simp [binOp, Op.intDiv, hb, pure]
theorem rem_run {T : TypeId} {k : IntKind} {a b : Int} (hb : b ≠ 0) : ∀ P w, (binOp .rem T (.int k a) (.int k b)).run P w = .ok (.int k (a.tmod b)) w := fun P w => by simp [binOp, Op.intDiv, hb, pure]
theorem shr_run {T : TypeId} {k k' : IntKind} {a : Int} {n : Nat} (hn : n ≤ k.bits) : ∀ P w, (binOp .shr T (.int k a) (.int k' n)).run P w = .ok (.int k (a.fdiv (2 ^ n))) w := fun P w => by
  simp only [binOp, Op.shift]
  rw [if_neg (by omega), Int.toNat_natCast, Nat.min_eq_left hn]; rfl
theorem shl_run {T : TypeId} {k k' : IntKind} {a : Int} {n : Nat} (hn : n ≤ k.bits) : ∀ P w, (binOp .shl T (.int k a) (.int k' n)).run P w = .ok (.int k (k.wrap (a * 2 ^ n))) w := fun P w => by
  simp only [binOp, Op.shift]
  rw [if_neg (by omega), Int.toNat_natCast, Nat.min_eq_left hn]; rfl
/-- a number of another kind -/
theorem cv {md : Option Md} {ops : Array Oper} {S T : TypeId} {x : Operand} {d : Nat} {ty : TypeId} {pos : String} {af : Array Edge} {g : Option (Nat × Bool)} {rest : List Oper} {k : List Item} {l : Env} {c : CEnv} {ka kb ks : IntKind} {a : Int}
    (hS : C.P.underlying S = some (.int ks)) (hT : C.P.underlying T = some (.int kb)) (h : Wk C (.reg md ops rest k ((d, .int kb (kb.wrap a)) :: l) c) w)
    (hs : adv C.tab C.n C.ks 400 s = .opn md ops ⟨some d, .convert S T x, ty, pos, af, g⟩ rest k l c [] := by rfl) (hx : evc l c [] x = some (.int ka a) := by rfl) (hf : fresh d l c [] = true := by rfl) : Wk C s w :=
  rd (p := []) (fun _ _ hA hp w' _ => by
    simp only [execOp, evc_ok hA.k hA.kc.c hp hx]
    refine (run_bind_ok (P := C.P) (x := .int kb (kb.wrap a)) (w' := w') ?_).trans rfl
    unfold convert
    rw [run_bind_ok (und_run hS w'), run_bind_ok (und_run hT w')]
    rfl) h hs rfl hf (okR_no rfl)
/-- + on strings -/
theorem cat {md : Option Md} {ops : Array Oper} {T T' : TypeId} {x y : Operand} {d : Nat} {ty : TypeId} {pos : String} {af : Array Edge} {g : Option (Nat × Bool)} {rest : List Oper} {k : List Item} {l : Env} {c : CEnv} {a b : ByteArray}
    (h : Wk C (.reg md ops rest k ((d, .string (a ++ b)) :: l) c) w)
    (hs : adv C.tab C.n C.ks 400 s = .opn md ops ⟨some d, .binOp .add T x y T', ty, pos, af, g⟩ rest k l c [] := by rfl) (hx : evc l c [] x = some (.string a) := by rfl) (hy : evc l c [] y = some (.string b) := by rfl) (hab : a.size + b.size ≤ 9223372036854775807 := by omega) (hf : fresh d l c [] = true := by rfl) : Wk C s w :=
  rd (p := []) (fun _ _ hA hp w' _ => by
    simp only [execOp, evc_ok hA.k hA.kc.c hp hx, evc_ok hA.k hA.kc.c hp hy]
    have hb : (binOp .add T (.string a) (.string b)).run C.P w' = .ok (.string (a ++ b)) w' := by
      simp only [binOp, Op.stringOp]
      rw [if_neg (by show ¬ (((a.size + b.size : Nat) : Int) > 9223372036854775807); omega)]; rfl
    exact run_bind_ok (run_bind_ok (eqg_str ..) |>.trans hb) |>.trans rfl) h hs rfl hf (okR_no rfl)
/-- a store of one cell into a row that is not written out -/
theorem stx {md : Option Md} {ops : Array Oper} {T : TypeId} {x y : Operand} {ty : TypeId} {pos : String} {af : Array Edge} {g : Option (Nat × Bool)} {rest : List Oper} {k : List Item} {l : Env} {c : CEnv} {tk : TK} {ag : Bool} {zr : List Value} {b o : Nat} {t : TypeId} {v : Value} {cs : List Value}
    (hb : Box w b t cs) (h : ∀ w', Wr w b w' → Box w' b t (cs.set o v) → Wk C (.reg md ops rest k l c) w')
    (hs : adv C.tab C.n C.ks 400 s = .opn md ops ⟨none, .store T x y, ty, pos, af, g⟩ rest k l c [] := by rfl) (ht : C.tab.at T = some ⟨tk, 1, ag, zr⟩ := by rfl)
    (hx : evc l c [] x = some (.pointer (some ⟨b, o, none⟩)) := by rfl) (hy : evc l c [] y = some v := by rfl) (hv : v.oneCell' = true := by rfl) (ho : o < cs.length := by omega) (hm : ∀ w', Wr w b w' → mdW md w w' := by intros; exact True.intro) (hnt : notT md = true := by rfl) : Wk C s w :=
  op_unit (okW_of rfl hnt) (hm _ (setCell_wr w b o v)) (w' := w.setCell ⟨b, o, none⟩ v) (fun hT a hA => by
    have hz := (ti_agg (tab_at hT ht) w).2
    have hc1 : v.cells = #[v] := by cases v <;> first | rfl | (simp [Value.oneCell'] at hv)
    simp only [execOp, evc_ok hA.k hA.kc.c (p := []) trivial hx, evc_ok hA.k hA.kc.c (p := []) trivial hy, Instr.storeAt, Instr.sureAddr]
    refine (run_bind_ok (P := C.P) (x := ()) (w' := w.setCell ⟨b, o, none⟩ v) ?_).trans rfl
    show (storeVar T ⟨b, o, none⟩ v).run C.P w = _
    unfold storeVar
    rw [run_bind_ok hz, hc1, if_neg (by simp)]
    show (storeCells ⟨b, o, none⟩ [v] 0).run C.P w = _
    simp only [storeCells]
    rw [add_none, Nat.add_zero, run_bind_ok (store_run hb ho hv)]; rfl)
    (h _ (setCell_wr w b o v) (setCell_box hb v)) hs rfl
/-- what is known behind a guard that says yes -/
def settleL (p : Path) : CEnv → Env → Env
  | [], l => l
  | (d, q, v) :: c, l => match subPath q p with
    | true => (d, v) :: settleL p c l
    | false => settleL p c l
def settleC (p : Path) : CEnv → CEnv
  | [] => []
  | (d, q, v) :: c => match subPath q p with
    | true => settleC p c
    | false => (d, q, v) :: settleC p c
def bools : Path → Env → Env
  | [], l => l
  | (s, b) :: p, l => (s, .bool b) :: bools p l
theorem bools_ok {a : Act} : ∀ {p : Path} {l : Env}, holds a p → Knows l a → Knows (bools p l) a
  | [], _, _, h => h
  | (s, b) :: p, l, hp, h => by
    intro j v hv
    simp only [bools, look] at hv
    cases hb : Nat.beq s j with
    | true => simp only [hb, cond_true, Option.some.injEq] at hv; have := Nat.eq_of_beq_eq_true hb; subst this; rw [← hv]; exact hp.1
    | false => simp only [hb, cond_false] at hv; exact bools_ok hp.2 h j v hv
theorem settleL_ok {a : Act} {p : Path} (hp : holds a p) : ∀ {c : CEnv} {l : Env}, KnowsD c a → Knows l a → Knows (settleL p c l) a
  | [], _, _, h => h
  | (d, q, u) :: c, l, hc, h => by
    have hc' : KnowsD c a := fun d q v hm => hc d q v (List.mem_cons_of_mem _ hm)
    simp only [settleL]
    cases hs : subPath q p with
    | false => exact settleL_ok hp hc' h
    | true =>
      intro j v hv
      simp only [look] at hv
      cases hb : Nat.beq d j with
      | true => simp only [hb, cond_true, Option.some.injEq] at hv; have := Nat.eq_of_beq_eq_true hb; subst this; rw [← hv]; exact (hc d q u (List.mem_cons_self ..)).1 (subPath_ok hs hp)
      | false => simp only [hb, cond_false] at hv; exact settleL_ok hp hc' h j v hv
theorem settleC_mem {p : Path} : ∀ {c : CEnv} {x : Nat × Path × Value}, x ∈ settleC p c → x ∈ c
  | [], _, h => by cases h
  | (d, q, u) :: c, x, h => by
    simp only [settleC] at h
    cases hs : subPath q p with
    | true => rw [hs] at h; exact List.mem_cons_of_mem _ (settleC_mem h)
    | false =>
      rw [hs] at h
      cases h with
      | head => exact List.mem_cons_self ..
      | tail _ h => exact List.mem_cons_of_mem _ (settleC_mem h)
/-- the guard of the next operation says yes, or no -/
theorem sp {md : Option Md} {ops : Array Oper} {o : Oper} {rest : List Oper} {k : List Item} {l : Env} {c : CEnv} {gs : Nat} {gb gt : Bool} {d : Nat} (u : Value)
    (h1 : gt = gb → Wk C (.opn md ops o rest k (bools [(gs, gb)] (settleL [(gs, gb)] c l)) (settleC [(gs, gb)] c) []) w) (h2 : gt = (!gb) → Wk C (.reg md ops rest k l ((d, [(gs, gb)], u) :: c)) w)
    (hs : adv C.tab C.n C.ks 400 s = .opn md ops o rest k l c [(gs, gb)] := by rfl) (hg : evc l c [] (.tmp gs) = some (.bool gt) := by rfl) (hd : o.dst = some d := by rfl) (hf : fresh d l c [(gs, gb)] = true := by rfl) : Wk C s w := by
  refine by_adv hs ⟨fun ht hfn hdk a hA hw => ?_⟩
  have e1 : a.tmps.getD gs undef = .bool gt := evc_ok hA.k hA.kc.c (p := []) trivial hg
  by_cases hb : gt = gb
  · have hp : holds a [(gs, gb)] := ⟨by rw [e1, hb], trivial⟩
    refine (h1 hb).run ht hfn hdk a ⟨hA.size, hA.defers, bools_ok hp (settleL_ok hp hA.kc hA.k), fun d q v hm => hA.kc d q v (settleC_mem hm)⟩ ?_
    exact ⟨fun _ => trivial, fun _ => hw.2 hp⟩
  · have hp : ¬ holds a [(gs, gb)] := fun hh => by have := hh.1; rw [e1] at this; exact hb (Value.bool.inj this)
    have hb' : gt = (!gb) := by cases gt <;> cases gb <;> simp_all
    rw [hd] at hdk
    refine listS_skip (fun hc => hp (hw.1 hc)) ?_
    rw [hd]
    exact (h2 hb').run ht hfn _ ((ok_put (v := u) (u := undef) (p := [(gs, gb)]) hA hdk hf).2 (by simp) (fun hh => (hp hh).elim) (fun _ => rfl))
/-- a guard of two tests says yes, or no -/
theorem sp2 {md : Option Md} {ops : Array Oper} {o : Oper} {rest : List Oper} {k : List Item} {l : Env} {c : CEnv} {gs gs' : Nat} {gb gt gb' gt' : Bool} {d : Nat} (u : Value)
    (h1 : gt' = gb' → gt = gb → Wk C (.opn md ops o rest k (bools [(gs, gb), (gs', gb')] (settleL [(gs, gb), (gs', gb')] c l)) (settleC [(gs, gb), (gs', gb')] c) []) w) (h2 : ¬ (gt' = gb' ∧ gt = gb) → Wk C (.reg md ops rest k l ((d, [(gs, gb), (gs', gb')], u) :: c)) w)
    (hs : adv C.tab C.n C.ks 400 s = .opn md ops o rest k l c [(gs, gb), (gs', gb')] := by rfl) (hg' : evc l c [] (.tmp gs') = some (.bool gt') := by rfl) (hg : evc l c [(gs', gb')] (.tmp gs) = some (.bool gt) := by rfl) (hd : o.dst = some d := by rfl) (hf : fresh d l c [(gs, gb), (gs', gb')] = true := by rfl) : Wk C s w := by
  refine by_adv hs ⟨fun ht hfn hdk a hA hw => ?_⟩
  by_cases hp : holds a [(gs, gb), (gs', gb')]
  · obtain ⟨e1, e2⟩ := guard2 hA hg' hg hp
    refine (h1 e1 e2).run ht hfn hdk a ⟨hA.size, hA.defers, bools_ok hp (settleL_ok hp hA.kc hA.k), fun d q v hm => hA.kc d q v (settleC_mem hm)⟩ ?_
    exact ⟨fun _ => trivial, fun _ => hw.2 hp⟩
  · have hn : ¬ (gt' = gb' ∧ gt = gb) := fun ⟨e1, e2⟩ => hp (by
      have e3 : a.tmps.getD gs' undef = .bool gt' := evc_ok hA.k hA.kc.c (p := []) trivial hg'
      have hq : holds a [(gs', gb')] := ⟨by rw [e3, e1], trivial⟩
      have e4 : a.tmps.getD gs undef = .bool gt := evc_ok hA.k hA.kc.c (p := [(gs', gb')]) hq hg
      exact ⟨by rw [e4, e2], hq⟩)
    rw [hd] at hdk
    refine listS_skip (fun hc => hp (hw.1 hc)) ?_
    rw [hd]
    exact (h2 hn).run ht hfn _ ((ok_put (v := u) (u := undef) (p := [(gs, gb), (gs', gb')]) hA hdk hf).2 (by simp) (fun hh => (hp hh).elim) (fun _ => rfl))
end
end Go.Proofs.YtopjmiklpnejmaaGreatDoor.Eng
