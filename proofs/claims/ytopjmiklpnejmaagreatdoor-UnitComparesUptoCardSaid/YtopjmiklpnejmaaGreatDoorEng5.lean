/- The engine, sixth part: structs and slices that are made; append; slices of slices; arithmetic; a guarded step that writes. -/
import Derived.Test.YtopjmiklpnejmaaGreatDoorEng4
namespace Go.Proofs.YtopjmiklpnejmaaGreatDoor.Eng
open Go Go.RowKit
section build
def fillL (offs : List (Nat × Nat)) : List Value → List (Nat × Value) → Option (List Value)
  | cells, [] => frc cells
  | cells, (i, v) :: rest => match offs[i]? with
    | some (o, z) => match Nat.beq v.cells.size z && Nat.ble (o + z) cells.length with
      | true => fillL offs (ovl cells o v.cells.toList) rest
      | false => none
    | none => none
theorem ovl_length : ∀ (vs cs : List Value) (o : Nat), (ovl cs o vs).length = cs.length
  | [], _, _ => rfl
  | v :: vs, cs, o => by simp only [ovl]; rw [ovl_length vs]; simp
theorem foldl_ovl : ∀ (vs : List Value) (cs : List Value) (o j : Nat), ((vs.zipIdx j).toArray.foldl (fun (cs : Array Value) (p : Value × Nat) => cs.setIfInBounds (o + p.2) p.1) cs.toArray) = (ovl cs (o + j) vs).toArray
  | [], cs, o, j => by simp [ovl]
  | v :: vs, cs, o, j => by
    have ih := foldl_ovl vs (cs.set (o + j) v) o (j + 1)
    simp only [List.zipIdx_cons, List.size_toArray, List.length_cons, ovl]
    rw [List.foldl_toArray'] at *
    all_goals first | simp_all | skip
    simp [Nat.add_assoc] at ih ⊢
theorem fill_ok {offs : List (Nat × Nat)} {place : Nat → Option (Nat × Nat)} (hp : ∀ i o z, offs[i]? = some (o, z) → place i = some (o, z)) : ∀ {parts : List (Nat × Value)} {cells cs : List Value}, fillL offs cells parts = some cs → Instr.fill place cells.toArray parts = some cs.toArray
  | [], cells, cs, h => by rw [frc_eq h]; rfl
  | (i, v) :: rest, cells, cs, h => by
    simp only [fillL] at h
    simp only [Instr.fill]
    cases ho : offs[i]? with
    | none => rw [ho] at h; cases h
    | some oz =>
      obtain ⟨o, z⟩ := oz
      rw [ho] at h
      rw [hp _ _ _ ho]
      simp only at h
      split at h
      · rename_i hb
        rw [Bool.and_eq_true] at hb
        have h1 := Nat.eq_of_beq_eq_true hb.1
        have h2 := Nat.le_of_ble_eq_true hb.2
        have e := foldl_ovl v.cells.toList cells o 0
        simp only
        rw [if_neg (by simp [h1]; omega)]
        have e2 : v.cells.zipIdx.foldl (fun (cs : Array Value) (p : Value × Nat) => cs.setIfInBounds (o + p.2) p.1) cells.toArray = (ovl cells o v.cells.toList).toArray := by
          rw [show v.cells.zipIdx = (v.cells.toList.zipIdx 0).toArray from by apply Array.ext'; simp]; exact e
        have e3 := fill_ok hp h
        rw [← e2] at e3
        exact e3
      · cases h
def evparts (l : Env) (c : CEnv) (p : Path) : List (Nat × Operand) → Option (List (Nat × Value))
  | [] => some []
  | (i, x) :: r => match evc l c p x with
    | some v => match evparts l c p r with
      | some vs => some ((i, v) :: vs)
      | none => none
    | none => none
theorem evparts_ok {l : Env} {c : CEnv} {p : Path} {a : Act} (hk : Knows l a) (hc : KnowsC c a) (hp : holds a p) : ∀ {xs : List (Nat × Operand)} {vs : List (Nat × Value)}, evparts l c p xs = some vs → xs.map (fun (i, x) => (i, a.eval x)) = vs
  | [], vs, h => by simp [evparts] at h; simp [h]
  | (i, x) :: r, vs, h => by
    simp only [evparts] at h
    cases hx : evc l c p x with
    | none => simp [hx] at h
    | some v =>
      cases hr : evparts l c p r with
      | none => simp [hx, hr] at h
      | some vs' => simp [hx, hr] at h; subst h; simp [evc_ok hk hc hp hx, evparts_ok hk hc hp hr]
theorem places_run {P : Program} {w : World} : ∀ {fs : List Field} {offs : List (Nat × Nat)}, fieldsOk P fs offs = true → (fs.mapM fun f => do pure (f.offset, ← sizeOf f.type) : Sem (List (Nat × Nat))).run P w = .ok offs w
  | [], [], _ => rfl
  | x :: fs, (o, z) :: offs, h => by
    simp only [fieldsOk, Bool.and_eq_true] at h
    have ih := places_run (w := w) h.2
    cases hx : P.info? x.type with
    | none => rw [hx] at h; simp at h
    | some info =>
      rw [hx] at h
      have e := Nat.eq_of_beq_eq_true h.1.2
      rw [List.mapM_cons]
      have e1 : (do pure (x.offset, ← sizeOf x.type) : Sem (Nat × Nat)).run P w = .ok (o, z) w := by
        rw [run_bind_ok (size_run hx w), e, Nat.eq_of_beq_eq_true h.1.1.1]; rfl
      rw [run_bind_ok e1, run_bind_ok ih]; rfl
  | [], _ :: _, h => by simp [fieldsOk] at h
  | _ :: _, [], h => by simp [fieldsOk] at h
end build

section
variable {C : Cx} {s : St} {w : World}
theorem exec_build {P : Program} {ρ : Operand → Value} {w : World} {o : Oper} {T : TypeId} {parts : Array (Nat × Operand)} {offs : List (Nat × Nat)} {sz : Nat} {ag : Bool} {zr cs : List Value} {pv : List (Nat × Value)} (ho : o.op = .build T parts)
    (ht : tiOk P T ⟨.struct offs, sz, ag, zr⟩ = true) (hp : parts.toList.map (fun (i, x) => (i, ρ x)) = pv) (hcs : fillL offs zr pv = some cs) : (execOp ρ o).run P w = .ok (.value (.agg cs.toArray)) w := by
  obtain ⟨d, x, z, hT⟩ := tiOk_und ht
  obtain ⟨fs, rfl, hfo⟩ := hT.st offs rfl
  obtain ⟨z', hz, hzc⟩ := zero_run ht w
  have ep : parts.map (fun (i, x) => (i, ρ x)) = pv.toArray := by rw [← hp, ← List.map_toArray, Array.toArray_toList]
  unfold execOp
  simp only [ho, ep]
  refine (run_bind_ok (P := P) (x := .agg cs.toArray) (w' := w) ?_).trans rfl
  unfold Instr.build
  rw [run_bind_ok hz]
  simp only
  rw [run_bind_ok (und_run hT.und w)]
  simp only
  have e2 : (fs.mapM fun f => do pure (f.offset, ← sizeOf f.type) : Sem (Array (Nat × Nat))).run P w = .ok offs.toArray w := by
    have := places_run (w := w) hfo
    have e3 : (fs.mapM fun f => do pure (f.offset, ← sizeOf f.type) : Sem (Array (Nat × Nat))) = List.toArray <$> (fs.toList.mapM fun f => do pure (f.offset, ← sizeOf f.type)) := by
      rw [← Array.toArray_toList (xs := fs), List.mapM_toArray]
    rw [e3]
    show (Sem.bind _ _).run P w = _
    exact (run_bind_ok this).trans rfl
  rw [run_bind_ok e2]
  have := fill_ok (offs := offs) (place := (offs.toArray[·]?)) (fun i o z h => by simpa using h) hcs
  rw [hzc]
  simp only [this]
  rfl
/-- a struct is made -/
theorem bd {md : Option Md} {ops : Array Oper} {T : TypeId} {parts : Array (Nat × Operand)} {d : Nat} {ty : TypeId} {pos : String} {af : Array Edge} {g : Option (Nat × Bool)} {rest : List Oper} {k : List Item} {l : Env} {c : CEnv} {offs : List (Nat × Nat)} {sz : Nat} {ag : Bool} {zr cs : List Value} {pv : List (Nat × Value)}
    (h : Wk C (.reg md ops rest k ((d, .agg cs.toArray) :: l) c) w)
    (hs : adv C.tab C.n C.ks 400 s = .opn md ops ⟨some d, .build T parts, ty, pos, af, g⟩ rest k l c [] := by rfl) (ht : C.tab.at T = some ⟨.struct offs, sz, ag, zr⟩ := by rfl)
    (hp : evparts l c [] parts.toList = some pv := by rfl) (hcs : fillL offs zr pv = some cs := by rfl) (hf : fresh d l c [] = true := by rfl) : Wk C s w :=
  rd (p := []) (fun hT _ hA hpp _ _ => exec_build rfl (tab_at hT ht) (evparts_ok hA.k hA.kc.c hpp hp) hcs) h hs rfl hf (okR_no rfl)
def rep (n : Nat) (zr : List Value) : List Value := match n with
  | 0 => []
  | n + 1 => rep n zr ++ zr
theorem rep_length (n : Nat) (zr : List Value) : (rep n zr).length = n * zr.length := by
  induction n with
  | zero => simp [rep]
  | succ n ih => simp [rep, ih, Nat.succ_mul]
theorem range_rep (n : Nat) (zr : List Value) : (Array.range (n * zr.length)).map (fun i => zr.toArray[i % zr.length]!) = (rep n zr).toArray := by
  apply Array.ext'
  rw [Array.toList_map, Array.toList_range]
  induction n with
  | zero => simp [rep]
  | succ n ih =>
    rw [Nat.succ_mul, List.range_add, List.map_append, ih]
    simp only [rep, List.map_map]
    congr 1
    apply List.ext_getElem?
    intro i
    rw [List.getElem?_map]
    by_cases hi : i < zr.length
    · rw [List.getElem?_range hi]
      simp only [Option.map_some, Function.comp]
      rw [Nat.add_comm, Nat.add_mul_mod_self_right, Nat.mod_eq_of_lt hi, getElem!_pos zr.toArray i (by simpa using hi)]
      simp [List.getElem?_eq_getElem hi]
    · rw [List.getElem?_eq_none (by simpa using hi), List.getElem?_eq_none (by simpa using hi)]; rfl
theorem elem_zero {P : Program} {T e esz by' sz : Nat} {ag : Bool} {zr : List Value} (ht : tiOk P T ⟨.slice e esz by', sz, ag, zr⟩ = true) {tk : TK} {ag' : Bool} {zr' : List Value} (he : tiOk P e ⟨tk, esz, ag', zr'⟩ = true) :
    P.underlying T = some (.slice e) ∧ (∃ y, P.info? e = some y ∧ y.size = esz ∧ y.bytes = by') ∧ zr'.length = esz ∧ ∀ w, ∃ z, (zeroValue e).run P w = .ok z w ∧ z.cells = zr'.toArray := by
  obtain ⟨d, x, z, hT⟩ := tiOk_und ht
  obtain ⟨rfl, hel⟩ := hT.sl _ _ _ rfl
  obtain ⟨y, zz, hy, hys, hyb, hyz, hzc⟩ := elemOk_of hel
  refine ⟨hT.und, ⟨y, hy, hys, hyb⟩, ?_, fun w => zero_run he w⟩
  obtain ⟨z', hz', hzc'⟩ := zero_run he default
  have : (zeroValue e).run P default = .ok zz default := by
    unfold zeroValue
    rw [run_bind_ok (info_run hy default), hyz]; rfl
  rw [this] at hz'
  simp only [Result.ok.injEq, and_true] at hz'
  rw [← hz', ] at hzc'
  have := congrArg Array.size hzc'
  simp at this
  omega
theorem exec_bs {P : Program} {ρ : Operand → Value} {w : World} {o : Oper} {T : TypeId} {len : Nat} {parts : Array (Nat × Operand)} {e esz by' sz : Nat} {ag : Bool} {zr : List Value} {tk : TK} {ag' : Bool} {zr' cs : List Value} {pv : List (Nat × Value)} (ho : o.op = .buildSlice T len parts)
    (ht : tiOk P T ⟨.slice e esz by', sz, ag, zr⟩ = true) (he : tiOk P e ⟨tk, esz, ag', zr'⟩ = true) (hp : parts.toList.map (fun (i, x) => (i, ρ x)) = pv) (hlen : Nat.ble (len * esz) 16777216 = true)
    (hcs : fillL ((List.range len).map fun i => (i * esz, esz)) (rep len zr') pv = some cs) : (execOp ρ o).run P w = .ok (.value (.slice (some ⟨w.heap.size, 0, none⟩) len len)) (w.alloc (.cells cs.toArray e)) := by
  obtain ⟨hu, ⟨y, hy, hys, _⟩, hzl, hz⟩ := elem_zero ht he
  obtain ⟨z, hz1, hzc⟩ := hz w
  have ep : parts.map (fun (i, x) => (i, ρ x)) = pv.toArray := by rw [← hp, ← List.map_toArray, Array.toArray_toList]
  unfold execOp
  simp only [ho, ep]
  refine (run_bind_ok (P := P) (x := .slice (some ⟨w.heap.size, 0, none⟩) len len) (w' := w.alloc (.cells cs.toArray e)) ?_).trans rfl
  unfold Instr.buildSlice
  rw [run_bind_ok (und_run hu w)]
  simp only
  rw [run_bind_ok (size_run hy w), hys]
  have h16 : len * esz ≤ 2 ^ 24 := by have := Nat.le_of_ble_eq_true hlen; omega
  rw [if_neg (by omega)]
  have := fill_ok (offs := (List.range len).map fun i => (i * esz, esz)) (place := fun i => some (i * esz, esz)) (fun i o z h => by
    rw [List.getElem?_map] at h
    cases hr : (List.range len)[i]? with
    | none => rw [hr] at h; cases h
    | some j =>
      rw [hr] at h
      have hj : j = i := by have := List.getElem?_eq_some_iff.1 hr; obtain ⟨h1, h2⟩ := this; rw [List.getElem_range] at h2; exact h2.symm
      subst hj; simpa using h) hcs
  have key : ∀ zero : Array Value, (Array.range (len * esz)).map (fun x => zero[x % zero.size]!) = (rep len zr').toArray →
      Sem.run P (match Instr.fill (fun i => some (i * esz, esz)) ((Array.range (len * esz)).map (fun x => zero[x % zero.size]!)) pv with
        | some cells => (do let r ← newRow e cells; pure (Value.slice (some r) len len))
        | _ => stuck "buildSlice: a part of the wrong size") w = .ok (.slice (some ⟨w.heap.size, 0, none⟩) len len) (w.alloc (.cells cs.toArray e)) := by
    intro zero hz'; rw [hz', this]; rfl
  by_cases h0 : len * esz = 0
  · rw [if_pos h0]
    refine key #[] ?_
    have : rep len zr' = [] := List.eq_nil_of_length_eq_zero (by rw [rep_length, hzl, h0])
    rw [h0, this]; simp
  · rw [if_neg h0, run_bind_ok hz1]
    refine key z.cells ?_
    rw [← range_rep len zr', hzl, hzc]; simp only [List.size_toArray, hzl]
/-- a slice is made of its elements -/
theorem bs {md : Option Md} {ops : Array Oper} {T : TypeId} {len : Nat} {parts : Array (Nat × Operand)} {d : Nat} {ty : TypeId} {pos : String} {af : Array Edge} {g : Option (Nat × Bool)} {rest : List Oper} {k : List Item} {l : Env} {c : CEnv} {e esz by' sz : Nat} {ag : Bool} {zr : List Value} {tk : TK} {ag' : Bool} {zr' cs : List Value} {pv : List (Nat × Value)}
    (h : ∀ b w', New w b e cs w' → Wk C (.reg md ops rest k ((d, .slice (some ⟨b, 0, none⟩) len len) :: l) c) w')
    (hs : adv C.tab C.n C.ks 400 s = .opn md ops ⟨some d, .buildSlice T len parts, ty, pos, af, g⟩ rest k l c [] := by rfl) (ht : C.tab.at T = some ⟨.slice e esz by', sz, ag, zr⟩ := by rfl) (he : C.tab.at e = some ⟨tk, esz, ag', zr'⟩ := by rfl)
    (hp : evparts l c [] parts.toList = some pv := by rfl) (hcs : fillL ((List.range len).map fun i => (i * esz, esz)) (rep len zr') pv = some cs := by rfl) (hlen : Nat.ble (len * esz) 16777216 = true := by rfl) (hf : fresh d l c [] = true := by rfl) (hnt : notT md = true := by rfl) : Wk C s w :=
  op_val (okW_of rfl hnt) (mdW_bl (New.bl ⟨rfl, rfl⟩)) (fun hT _ hA => exec_bs rfl (tab_at hT ht) (tab_at hT he) (evparts_ok hA.k hA.kc.c (p := []) trivial hp) hlen hcs) (h _ _ ⟨rfl, rfl⟩) hs rfl hf
theorem exec_mk {P : Program} {ρ : Operand → Value} {w : World} {o : Oper} {T : TypeId} {x y : Operand} {n : Nat} {e esz by' sz : Nat} {ag : Bool} {zr : List Value} {tk : TK} {ag' : Bool} {zr' : List Value} (ho : o.op = .makeSlice T x y)
    (ht : tiOk P T ⟨.slice e esz by', sz, ag, zr⟩ = true) (he : tiOk P e ⟨tk, esz, ag', zr'⟩ = true) {m : Nat} (hx : ρ x = .int .i64 m) (hy : ρ y = .int .i64 n) (hmn : m ≤ n) (hn : n ≤ 8388608) (hb : Nat.ble by' 4096 = true) :
    (execOp ρ o).run P w = .ok (.value (.slice (some ⟨w.heap.size, 0, none⟩) m n)) (w.alloc (.cells (rep n zr').toArray e)) := by
  obtain ⟨hu, ⟨y, hy', hys, hyb⟩, hzl, hz⟩ := elem_zero ht he
  obtain ⟨z, hz1, hzc⟩ := hz w
  unfold execOp
  simp only [ho, hx, hy]
  refine (run_bind_ok (P := P) (x := .slice (some ⟨w.heap.size, 0, none⟩) m n) (w' := w.alloc (.cells (rep n zr').toArray e)) ?_).trans rfl
  unfold Instr.makeSlice
  rw [run_bind_ok (und_run hu w)]
  simp only
  rw [run_bind_ok (show (asInt (.int .i64 m)).run P w = .ok (m : Int) w from rfl), run_bind_ok (show (asInt (.int .i64 n)).run P w = .ok (n : Int) w from rfl), run_bind_ok (info_run hy' w)]
  have hwn : IntKind.i64.wrap (n : Int) = n := IntWalk.i64_in _ (by omega)
  have hwm : IntKind.i64.wrap (m : Int) = m := IntWalk.i64_in _ (by omega)
  have hb' := Nat.le_of_ble_eq_true hb
  have hmul : by' * n ≤ 4096 * 8388608 := Nat.mul_le_mul hb' hn
  have hl1 : ¬ ((by' : Int) * n > 2 ^ 48) := by
    have : ((by' * n : Nat) : Int) ≤ ((4096 * 8388608 : Nat) : Int) := Int.ofNat_le.2 hmul
    rw [Int.natCast_mul] at this; omega
  simp only [hwn, hwm, hyb]
  rw [if_neg (by simp; omega)]
  have har : (askRoom ((n : Int).toNat * by')).run P w = .ok () w := by unfold askRoom; split <;> rfl
  rw [run_bind_ok har, run_bind_ok (size_run hy' w), hys]
  simp only [Int.toNat_natCast]
  have key : ∀ zero : Array Value, (Array.range (n * esz)).map (fun x => zero[x % zero.size]!) = (rep n zr').toArray →
      Sem.run P (do let a ← newRow e ((Array.range (n * esz)).map (fun x => zero[x % zero.size]!)); pure (Value.slice (some a) m n)) w = .ok (.slice (some ⟨w.heap.size, 0, none⟩) m n) (w.alloc (.cells (rep n zr').toArray e)) := by
    intro zero hz'; rw [hz']; rfl
  by_cases h0 : n * esz = 0
  · rw [if_pos h0]
    refine key #[] ?_
    have : rep n zr' = [] := List.eq_nil_of_length_eq_zero (by rw [rep_length, hzl, h0])
    rw [h0, this]; simp
  · rw [if_neg h0, run_bind_ok hz1]
    refine key z.cells ?_
    rw [← range_rep n zr', hzl, hzc]; simp only [List.size_toArray, hzl]
/-- make([]T, m, n) -/
theorem mk {md : Option Md} {ops : Array Oper} {T : TypeId} {x y : Operand} {d : Nat} {ty : TypeId} {pos : String} {af : Array Edge} {g : Option (Nat × Bool)} {rest : List Oper} {k : List Item} {l : Env} {c : CEnv} {e esz by' sz m n : Nat} {ag : Bool} {zr : List Value} {tk : TK} {ag' : Bool} {zr' : List Value}
    (h : ∀ b w', New w b e (rep n zr') w' → Wk C (.reg md ops rest k ((d, .slice (some ⟨b, 0, none⟩) m n) :: l) c) w')
    (hs : adv C.tab C.n C.ks 400 s = .opn md ops ⟨some d, .makeSlice T x y, ty, pos, af, g⟩ rest k l c [] := by rfl) (ht : C.tab.at T = some ⟨.slice e esz by', sz, ag, zr⟩ := by rfl) (he : C.tab.at e = some ⟨tk, esz, ag', zr'⟩ := by rfl)
    (hx : evc l c [] x = some (.int .i64 (m : Int)) := by rfl) (hy : evc l c [] y = some (.int .i64 (n : Int)) := by rfl) (hmn : m ≤ n := by omega) (hn : n ≤ 8388608 := by omega) (hb : Nat.ble by' 4096 = true := by rfl) (hf : fresh d l c [] = true := by rfl) (hnt : notT md = true := by rfl) : Wk C s w :=
  op_val (okW_of rfl hnt) (mdW_bl (New.bl ⟨rfl, rfl⟩)) (fun hT _ hA => exec_mk rfl (tab_at hT ht) (tab_at hT he) (evc_ok hA.k hA.kc.c (p := []) trivial hx) (evc_ok hA.k hA.kc.c (p := []) trivial hy) hmn hn hb) (h _ _ ⟨rfl, rfl⟩) hs rfl hf

/-- a slice value that is nil, or whose row is the call's own: its cells -/
structure Ow (w : World) (base : Nat) (e esz : Nat) (a : Option Addr) (n cap : Nat) (xs : List Value) : Prop where
  own : w.ownsRow base e esz (.slice a n cap) n xs
theorem Ow.nil (w : World) (base e esz : Nat) : Ow w base e esz none 0 0 [] := ⟨World.ownsRow_nil w base e esz⟩
theorem Ow.shape {w : World} {base e esz : Nat} {a : Option Addr} {n cap : Nat} {xs : List Value} (h : Ow w base e esz a n cap xs) : (a = none ∧ n = 0 ∧ cap = 0 ∧ xs = []) ∨
    ∃ g cur, a = some ⟨g, 0, none⟩ ∧ base ≤ g ∧ w.heap[g]? = some (.cells cur e (0, 0)) ∧ n ≤ cap ∧ cur.size = cap * esz ∧ cur.toList.take (n * esz) = xs := by
  obtain ⟨h1, h2⟩ := h.own
  rcases h2 with ⟨h2, h3⟩ | ⟨g, cap', cur, h2, h3, h4, h5, _, h7, h8⟩
  · simp only [Value.slice.injEq] at h2
    obtain ⟨rfl, rfl, rfl⟩ := h2
    exact .inl ⟨rfl, rfl, rfl, List.eq_nil_of_length_eq_zero (by rw [h1]; simp)⟩
  · simp only [Value.slice.injEq] at h2
    obtain ⟨rfl, -, rfl⟩ := h2
    exact .inr ⟨g, cur, rfl, h3, h4, h5, h7, h8⟩
theorem Ow.same {w w' : World} {base e esz : Nat} {a : Option Addr} {n cap : Nat} {xs : List Value} (h : Ow w base e esz a n cap xs) (hs : ∀ g, a = some ⟨g, 0, none⟩ → w'.heap[g]? = w.heap[g]?) : Ow w' base e esz a n cap xs := by
  obtain ⟨h1, h2⟩ := h.own
  refine ⟨h1, ?_⟩
  rcases h2 with h2 | ⟨g, cap', cur, h2, h3, h4, h5⟩
  · exact .inl h2
  · have ha : a = some ⟨g, 0, none⟩ := by simp only [Value.slice.injEq] at h2; exact h2.1
    exact .inr ⟨g, cap', cur, h2, h3, by rw [hs g ha]; exact h4, h5⟩
theorem Ow.lt {w : World} {base e esz : Nat} {a : Option Addr} {n cap : Nat} {xs : List Value} (h : Ow w base e esz a n cap xs) {g : Nat} (ha : a = some ⟨g, 0, none⟩) : base ≤ g ∧ g < w.heap.size := by
  rcases h.shape with ⟨rfl, _⟩ | ⟨g', cur, rfl, h1, h2, _⟩
  · cases ha
  · simp only [Option.some.injEq, Addr.mk.injEq] at ha
    obtain ⟨rfl, _⟩ := ha
    exact ⟨h1, (Array.getElem?_eq_some_iff.1 h2).1⟩
theorem Ow.bl {w w' : World} {base e esz : Nat} {a : Option Addr} {n cap : Nat} {xs : List Value} (h : Ow w base e esz a n cap xs) (k : Bl w w') : Ow w' base e esz a n cap xs := h.same fun g ha => k.block g (h.lt ha).2
theorem Ow.wr {w w' : World} {base e esz : Nat} {a : Option Addr} {n cap : Nat} {xs : List Value} (h : Ow w base e esz a n cap xs) {b : Nat} (k : Wr w b w') (hb : ∀ g, a = some ⟨g, 0, none⟩ → g ≠ b) : Ow w' base e esz a n cap xs := h.same fun g ha => k.block g (hb g ha)
theorem Ow.len {w : World} {base e esz : Nat} {a : Option Addr} {n cap : Nat} {xs : List Value} (h : Ow w base e esz a n cap xs) : xs.length = n * esz := h.own.1
/-- its cells can be read -/
theorem Ow.at {w : World} {base e esz : Nat} {a : Option Addr} {n cap : Nat} {xs : List Value} (h : Ow w base e esz a n cap xs) {g : Nat} (ha : a = some ⟨g, 0, none⟩) : At w g 0 xs := by
  rcases h.shape with ⟨rfl, _⟩ | ⟨g', cur, rfl, _, h2, _, _, h5⟩
  · cases ha
  · simp only [Option.some.injEq, Addr.mk.injEq] at ha
    obtain ⟨rfl, _⟩ := ha
    intro j v hv
    rw [← h5, List.getElem?_take] at hv
    split at hv
    · rw [Nat.zero_add]; simp [World.cell?, h2]; simpa using hv
    · cases hv
/-- a slice of its own that was made -/
theorem Ow.made {w w' : World} {b e esz n : Nat} {cs : List Value} (h : New w b e cs w') (hl : cs.length = n * esz) (hn : n ≤ 8388608) : Ow w' b e esz (some ⟨b, 0, none⟩) n n cs :=
  ⟨⟨hl, .inr ⟨b, n, cs.toArray, rfl, Nat.le_refl _, h.box, Nat.le_refl _, by unfold maxLen; omega, by simp [hl], by rw [← hl]; simp⟩⟩⟩
theorem Ow.base {w : World} {base base' e esz : Nat} {a : Option Addr} {n cap : Nat} {xs : List Value} (h : Ow w base e esz a n cap xs) (hb : base' ≤ base) : Ow w base' e esz a n cap xs := by
  obtain ⟨h1, h2⟩ := h.own
  refine ⟨h1, h2.imp id ?_⟩
  rintro ⟨g, cap', cur, h2, h3, h4⟩
  exact ⟨g, cap', cur, h2, Nat.le_trans hb h3, h4⟩
/-- what has turned behind an append: at most the block of the slice itself -/
structure Ap (w : World) (a : Option Addr) (w' : World) : Prop where
  os : w'.os = w.os
  tape : w'.tape = w.tape
  output : w'.output = w.output
  size : w.heap.size ≤ w'.heap.size
  block : ∀ k, k < w.heap.size → a ≠ some ⟨k, 0, none⟩ → w'.heap[k]? = w.heap[k]?
theorem Ap.below {w w' : World} {a : Option Addr} {B : Nat} (h : Ap w a w') (hB : B ≤ w.heap.size) (ha : ∀ g, a = some ⟨g, 0, none⟩ → B ≤ g) : Below B w w' :=
  ⟨h.os, h.tape, h.output, h.size, fun k hk => h.block k (by omega) fun e => by have := ha k e; omega⟩
theorem Ap.kp {w w' : World} {a : Option Addr} (h : Ap w a w') : Kp (fun i => a ≠ some ⟨i, 0, none⟩) w w' := fun b o v s x => by
  rw [World.cell?_of_block (w := w) (h.block b (cell_lt x) s)]; exact x
theorem Ap.box {w w' : World} {a : Option Addr} (h : Ap w a w') {b : Nat} {t : TypeId} {cs : List Value} (hb : Box w b t cs) (hne : a ≠ some ⟨b, 0, none⟩) : Box w' b t cs := by unfold Box; rw [h.block b hb.lt hne]; exact hb
theorem Ap.of_grown {w w' : World} {a : Option Addr} {n cap : Nat} (h : w.grownBy w' (Value.slice a n cap).ownBlock) (ha : a = none ∨ ∃ g, a = some ⟨g, 0, none⟩) : Ap w a w' := by
  refine ⟨h.os, h.tape, h.output, h.size, fun k hk hne => h.block k hk ?_⟩
  rcases ha with rfl | ⟨g, rfl⟩
  · simp [Value.ownBlock]
  · simp only [Value.ownBlock]
    intro e; simp only [Option.some.injEq] at e; subst e; exact hne rfl
end
end Go.Proofs.YtopjmiklpnejmaaGreatDoor.Eng
