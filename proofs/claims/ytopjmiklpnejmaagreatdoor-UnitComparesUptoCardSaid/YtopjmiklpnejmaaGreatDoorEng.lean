/- An engine for walks: the machine's state as a list of known slots and a stack of items; one lemma for each kind of step. No program stands here. -/
import Derived.WalkKit
import Derived.WalkLawsBesides
import Derived.WalkSpells
import Derived.Lib.Hide
namespace Go.Proofs.YtopjmiklpnejmaaGreatDoor.Eng
open Go

abbrev Env := List (Nat × Value)
def look : Env → Nat → Option Value
  | [], _ => none
  | (j, v) :: l, k => bif Nat.beq j k then some v else look l k
/-- the frame's slots hold what the list says -/
def Knows (l : Env) (a : Act) : Prop := ∀ k v, look l k = some v → a.tmps.getD k undef = v
def evq (l : Env) : Operand → Option Value
  | .tmp t => look l t
  | .const v => some v
  | .global g => some (.pointer (some ⟨g, 0, none⟩))
  | .func f => some (.func (.func f) #[] #[])
theorem evq_ok {l : Env} {a : Act} (hk : Knows l a) {x : Operand} {v : Value} (h : evq l x = some v) : a.eval x = v := by
  cases x with
  | tmp t => exact hk _ _ h
  | const v => simp [evq] at h; simp [Act.eval, h]
  | global g => simp [evq] at h; simp [Act.eval, h]
  | func f => simp [evq] at h; simp [Act.eval, h]
def evs (l : Env) : List Operand → Option (List Value)
  | [] => some []
  | x :: r => match evq l x with
    | some v => match evs l r with
      | some vs => some (v :: vs)
      | none => none
    | none => none
theorem evs_ok {l : Env} {a : Act} (hk : Knows l a) : ∀ {xs : List Operand} {vs : List Value}, evs l xs = some vs → xs.map a.eval = vs
  | [], vs, h => by simp [evs] at h; simp [h]
  | x :: r, vs, h => by
    simp only [evs] at h
    cases hx : evq l x with
    | none => simp [hx] at h
    | some v =>
      cases hr : evs l r with
      | none => simp [hx, hr] at h
      | some vs' => simp [hx, hr] at h; subst h; simp [evq_ok hk hx, evs_ok hk hr]

/-- a function that returns, with this of the value and the world -/
def retQ (Q : Value → World → Prop) : Ending → World → Prop
  | .returned v, w => Q v w
  | _, _ => False
def callable (P : Program) (f : FuncId) : Bool := match P.funcs[f]? with
  | some fn => fn.body.isSome && !(fn.name == "runtime.NumGoroutine")
  | none => false
structure Ret (P : Program) (f : FuncId) (args : Array Value) (w : World) (Q : Value → World → Prop) : Prop where
  ok : callable P f = true
  run : Calls P f args w (retQ Q)
theorem Ret.mono {P : Program} {f : FuncId} {args : Array Value} {w : World} {Q Q' : Value → World → Prop} (h : Ret P f args w Q) (hq : ∀ v w', Q v w' → Q' v w') : Ret P f args w Q' :=
  ⟨h.ok, h.run.mono fun e w' r => by cases e <;> first | exact hq _ _ r | exact r.elim⟩

def bas (f : FuncId) : Frame := { (default : Frame) with fn := f, kind := .normal }
/-- from this state on the function returns -/
structure From (P : Program) (f : FuncId) (fn : Func) (n : Nat) (Q : Value → World → Prop) (k : List Item) (l : Env) (w : World) : Prop where
  run : P.funcs[f]? = some fn → ∀ a : Act, a.tmps.size = n → a.defers = [] → Knows l a → ∀ cs, ∃ e w' fr, retQ Q e w' ∧ Comes P (lone ((bas f).at a k) cs w) (lone fr cs w') e ∧ fr.fn = f ∧ fr.leaving P w' e

def numbered : Nat → List Value → Env
  | _, [] => []
  | i, v :: vs => (i, v) :: numbered (i + 1) vs
theorem look_numbered : ∀ (vs : List Value) (i k : Nat) (v : Value), look (numbered i vs) k = some v → i ≤ k ∧ vs[k - i]? = some v
  | [], _, _, _, h => by simp [numbered, look] at h
  | x :: vs, i, k, v, h => by
    simp only [numbered, look] at h
    cases hb : Nat.beq i k with
    | true => simp only [hb, cond_true, Option.some.injEq] at h; have := Nat.eq_of_beq_eq_true hb; subst this; simp [h]
    | false =>
      simp only [hb, cond_false] at h
      obtain ⟨h1, h2⟩ := look_numbered vs (i + 1) k v h
      refine ⟨by omega, ?_⟩
      have : k - i = (k - (i + 1)) + 1 := by omega
      rw [this]; simpa using h2

section
variable {P : Program} {f : FuncId} {fn : Func} {n : Nat} {Q : Value → World → Prop} {k : List Item} {l : Env} {w : World}

theorem enter {c : Code} {vs : List Value} (hf : P.funcs[f]? = some fn) (hb : fn.body = some c) (hn : fn.ntmps = n) (hok : callable P f = true) (hs : vs.length ≤ n)
    (h : From P f fn n Q [.code c] (numbered 0 vs) w) : Ret P f vs.toArray w Q := by
  refine ⟨hok, fun cs => ?_⟩
  have henter : Frame.enter P f vs.toArray .normal = (bas f).at { tmps := vs.toArray ++ Array.replicate (fn.ntmps - vs.toArray.size) undef, defers := [] } [.code c] := by
    simp [Frame.enter, Frame.at, hf, hb, bas]
  rw [henter]
  refine h.run hf _ ?_ rfl ?_ cs
  · simp [hn]; omega
  · intro k v hv
    obtain ⟨_, h2⟩ := look_numbered _ _ _ _ hv
    simp only [Nat.sub_zero] at h2
    obtain ⟨hlt, e⟩ := List.getElem?_eq_some_iff.1 h2
    simp [Array.getElem?_append, hlt, e]

theorem stepTo {k' : List Item} {l' : Env} {w' : World}
    (hs : P.funcs[f]? = some fn → ∀ a : Act, a.tmps.size = n → a.defers = [] → Knows l a → ∀ cs, ∃ a', a'.tmps.size = n ∧ a'.defers = [] ∧ Knows l' a' ∧ Steps P (lone ((bas f).at a k) cs w) (lone ((bas f).at a' k') cs w'))
    (h : From P f fn n Q k' l' w') : From P f fn n Q k l w := by
  refine ⟨fun hf a h1 h2 h3 cs => ?_⟩
  obtain ⟨a', g1, g2, g3, hst⟩ := hs hf a h1 h2 h3 cs
  obtain ⟨e, w'', fr, hq, hc, hr⟩ := h.run hf a' g1 g2 g3 cs
  exact ⟨e, w'', fr, hq, .of_steps hst hc, hr⟩
theorem admin {k' : List Item} (hs : ∀ (a : Act) cs, Knows l a → step P (lone ((bas f).at a k) cs w) = .next (lone ((bas f).at a k') cs w)) (h : From P f fn n Q k' l w) : From P f fn n Q k l w :=
  stepTo (fun _ a h1 h2 h3 cs => ⟨a, h1, h2, h3, .one (hs a cs h3)⟩) h
theorem forget {l' : Env} (hl : ∀ j v, look l' j = some v → look l j = some v) (h : From P f fn n Q k l' w) : From P f fn n Q k l w :=
  ⟨fun hf a h1 h2 h3 cs => h.run hf a h1 h2 (fun j v x => h3 j v (hl j v x)) cs⟩

theorem f_seq {x y : Code} (h : From P f fn n Q (.code x :: .code y :: k) l w) : From P f fn n Q (.code (.seq x y) :: k) l w := admin (fun _ _ _ => step_seq) h
theorem f_skip (h : From P f fn n Q k l w) : From P f fn n Q (.code .skip :: k) l w := admin (fun _ _ _ => step_skip) h
theorem f_label {i : Nat} (h : From P f fn n Q k l w) : From P f fn n Q (.code (.label i) :: k) l w := admin (fun _ _ _ => step_label) h
theorem f_inBlock {i : Nat} (h : From P f fn n Q k l w) : From P f fn n Q (.inBlock i :: k) l w := admin (fun _ _ _ => step_inBlock) h
theorem f_block {i : Nat} {c : Code} (h : From P f fn n Q (.code c :: .inBlock i :: k) l w) : From P f fn n Q (.code (.block i c) :: k) l w := admin (fun _ _ _ => step_block) h
theorem f_exit {i : Nat} {k' : List Item} (he : exitTo i k = some k') (h : From P f fn n Q k' l w) : From P f fn n Q (.code (.exit i) :: k) l w := admin (fun _ _ _ => step_exit he) h
theorem f_inLoop {c : Code} (h : From P f fn n Q (.code c :: .inLoop c :: k) l w) : From P f fn n Q (.inLoop c :: k) l w := admin (fun _ _ _ => step_inLoop) h
theorem f_loop {c : Code} (h : From P f fn n Q (.code c :: .inLoop c :: k) l w) : From P f fn n Q (.code (.loop c) :: k) l w := admin (fun _ _ _ => step_loop) h
theorem f_region {i : Nat} {ops : Array Oper} (h : From P f fn n Q (.inRegion ops (List.range ops.size) :: k) l w) : From P f fn n Q (.code (.region i ops false) :: k) l w := admin (fun _ _ _ => step_region) h
theorem f_endRegion {ops : Array Oper} (h : From P f fn n Q k l w) : From P f fn n Q (.inRegion ops [] :: k) l w := admin (fun _ _ _ => step_region_end) h
theorem f_cond {c : Operand} {x y : Code} {t : Bool} (hc : evq l c = some (.bool t)) (h : From P f fn n Q (.code (if t then x else y) :: k) l w) : From P f fn n Q (.code (.cond c x y) :: k) l w :=
  admin (fun _ _ hk => step_cond (evq_ok hk hc)) h

/-- the values of the result variables, all of them slots -/
def outs (l : Env) : List ResultVar → Option (List Value)
  | [] => some []
  | .tmp t :: r => match look l t with
    | some v => match outs l r with
      | some vs => some (v :: vs)
      | none => none
    | none => none
  | .cell .. :: _ => none
theorem outs_ok {a : Act} (hk : Knows l a) : ∀ {rs : List ResultVar} {vs : List Value}, outs l rs = some vs →
    (rs.mapM fun | .tmp t => (pure (a.tmps.getD t undef) : Sem Value) | .cell d t => do loadVar t (← asAddr (a.tmps.getD d undef))) = pure vs
  | [], vs, h => by simp [outs] at h; subst h; rfl
  | .tmp t :: r, vs, h => by
    simp only [outs] at h
    cases hx : look l t with
    | none => simp [hx] at h
    | some v =>
      cases hr : outs l r with
      | none => simp [hx, hr] at h
      | some vs' =>
        simp [hx, hr] at h
        subst h
        rw [List.mapM_cons, outs_ok hk hr]
        show (do let x ← (pure (a.tmps.getD t undef) : Sem Value); let y ← (pure vs' : Sem (List Value)); pure (x :: y)) = _
        rw [hk _ _ hx]
        rfl
  | .cell .. :: r, vs, h => by simp [outs] at h
def whole : List Value → Value
  | [v] => v
  | vs => .tuple vs.toArray
theorem results_of {a : Act} (hk : Knows l a) {vs : List Value} (h : outs l fn.results.toList = some vs) : (results fn a.tmps).run P w = .ok (whole vs) w := by
  have e : fn.results.mapM (fun | .tmp t => (pure (a.tmps.getD t undef) : Sem Value) | .cell d t => do loadVar t (← asAddr (a.tmps.getD d undef))) = pure vs.toArray := by
    rw [← Array.toArray_toList (xs := fn.results), List.mapM_toArray, outs_ok hk h]; rfl
  unfold results
  erw [e]
  show (Sem.pure _).run P w = _
  cases vs with
  | nil => simp [Sem.run, whole]
  | cons v r => cases r with
    | nil => simp [Sem.run, whole]
    | cons u r => simp [Sem.run, whole]
theorem finish {a : Act} {v : Value} (hf : P.funcs[f]? = some fn) (hr : (results fn a.tmps).run P w = .ok v w) (hd : a.defers = []) (hq : Q v w) {todo : List Item} {cs : List Frame}
    (hs : step P (lone ((bas f).at a todo) cs w) = .next (lone { (bas f).at a todo with mode := .returning } cs w)) :
    ∃ e w' fr, retQ Q e w' ∧ Comes P (lone ((bas f).at a todo) cs w) (lone fr cs w') e ∧ fr.fn = f ∧ fr.leaving P w' e :=
  ⟨.returned v, w, _, hq, .one hs, rfl, rfl, hd, rfl, fn, hf, hr⟩
theorem f_ret {vs : List Value} (h : outs l fn.results.toList = some vs) (hq : Q (whole vs) w) : From P f fn n Q (.code .ret :: k) l w :=
  ⟨fun hf _ _ h2 h3 _ => finish hf (results_of h3 h) h2 hq step_ret⟩
theorem f_end {vs : List Value} (h : outs l fn.results.toList = some vs) (hq : Q (whole vs) w) : From P f fn n Q [] l w :=
  ⟨fun hf _ _ h2 h3 _ => finish hf (results_of h3 h) h2 hq step_end⟩

/-- a loop: 'keep' are slots that stay, 'sel' the slots that the relation speaks of; the number falls from round to round -/
def Sub : Env → Env → Prop
  | [], _ => True
  | (j, v) :: r, l => look l j = some v ∧ Sub r l
theorem sub_look : ∀ {r l : Env} {j : Nat} {v : Value}, Sub r l → look r j = some v → look l j = some v
  | [], _, _, _, _, h => by simp [look] at h
  | (i, u) :: r, l, j, v, hs, h => by
    simp only [look] at h
    cases hb : Nat.beq i j with
    | true => simp only [hb, cond_true, Option.some.injEq] at h; have := Nat.eq_of_beq_eq_true hb; subst this; subst h; exact hs.1
    | false => simp only [hb, cond_false] at h; exact sub_look hs.2 h
def pair : List Nat → List Value → Env → Env
  | j :: js, v :: vs, l => (j, v) :: pair js vs l
  | _, _, l => l
def lookAll (l : Env) : List Nat → Option (List Value)
  | [] => some []
  | j :: js => match look l j with
    | some v => match lookAll l js with
      | some vs => some (v :: vs)
      | none => none
    | none => none
theorem look_pair {keep l : Env} (hk : Sub keep l) : ∀ {sel : List Nat} {vals : List Value}, lookAll l sel = some vals → ∀ j v, look (pair sel vals keep) j = some v → look l j = some v
  | [], vals, h, j, v, hl => by simp [pair] at hl; exact sub_look hk hl
  | i :: js, vals, h, j, v, hl => by
    simp only [lookAll] at h
    cases hx : look l i with
    | none => simp [hx] at h
    | some u =>
      cases hr : lookAll l js with
      | none => simp [hx, hr] at h
      | some us =>
        simp [hx, hr] at h
        subst h
        simp only [pair, look] at hl
        cases hb : Nat.beq i j with
        | true => simp only [hb, cond_true, Option.some.injEq] at hl; have := Nat.eq_of_beq_eq_true hb; subst this; subst hl; exact hx
        | false => simp only [hb, cond_false] at hl; exact look_pair hk hr j v hl
theorem f_while {c : Code} (sel : List Nat) (keep : Env) (Inv : Nat → List Value → World → Prop) (hkeep : Sub keep l) {vals : List Value} (hv : lookAll l sel = some vals) {m : Nat} (h0 : Inv m vals w)
    (hs : ∀ m vals w', Inv m vals w' →
      (∀ m' l'' vals'' w'', m' < m → Sub keep l'' → lookAll l'' sel = some vals'' → Inv m' vals'' w'' → From P f fn n Q (.inLoop c :: k) l'' w'') →
      From P f fn n Q (.code c :: .inLoop c :: k) (pair sel vals keep) w') : From P f fn n Q (.code (.loop c) :: k) l w := by
  have key : ∀ M m l vals w, m < M → Sub keep l → lookAll l sel = some vals → Inv m vals w → From P f fn n Q (.code c :: .inLoop c :: k) l w := by
    intro M
    induction M with
    | zero => intro m l vals w hm; omega
    | succ M ih =>
      intro m l vals w hm hk hv hi
      refine forget (look_pair hk hv) (hs m vals w hi ?_)
      intro m' l'' vals'' w'' hlt hk' hv' hi'
      exact f_inLoop (ih m' l'' vals'' w'' (by omega) hk' hv' hi')
  exact f_loop (key (m + 1) m l vals w (by omega) hkeep hv h0)
end

/-- what is known of a type: how many cells an element has; where the fields lie; its zero -/
inductive TK where
  | slice (e esz bytes : Nat)
  | struct (offs : List (Nat × Nat))
  | arr (n e esz : Nat)
  | str
  | other
structure TI where
  k : TK
  size : Nat
  agg : Bool
  zero : List Value
abbrev Tab := List (Nat × TI)
def Tab.at : Tab → Nat → Option TI
  | [], _ => none
  | (j, v) :: l, k => bif Nat.beq j k then some v else Tab.at l k
def fieldsOk (P : Program) : List Field → List (Nat × Nat) → Bool
  | [], [] => true
  | x :: fs, (o, z) :: os => Nat.beq x.offset o && !(Nat.beq z 0) && (match P.info? x.type with | some i => Nat.beq i.size z | none => false) && fieldsOk P fs os
  | _, _ => false
def kindBeq : IntKind → IntKind → Bool
  | .i8, .i8 | .i16, .i16 | .i32, .i32 | .i64, .i64 | .u8, .u8 | .u16, .u16 | .u32, .u32 | .u64, .u64 => true
  | _, _ => false
theorem kindBeq_eq {a b : IntKind} (h : kindBeq a b = true) : a = b := by cases a <;> cases b <;> first | rfl | (simp [kindBeq] at h)
def zeroEq : Value → Value → Bool
  | .bool a, .bool b => !a && !b
  | .int k n, .int j m => kindBeq k j && n == 0 && m == 0
  | .string s, .string t => s.size == 0 && t.size == 0
  | .pointer none, .pointer none | .slice none 0 0, .slice none 0 0 | .map none, .map none | .nilFunc, .nilFunc | .nilIface, .nilIface => true
  | _, _ => false
theorem zeroEq_eq {a b : Value} (h : zeroEq a b = true) : a = b := by
  unfold zeroEq at h
  split at h
  · simp at h; rw [h.1, h.2]
  · simp at h; obtain ⟨⟨h1, rfl⟩, rfl⟩ := h; rw [kindBeq_eq h1]
  · rename_i s t
    simp at h
    rw [h.1, h.2]
  all_goals first | rfl | cases h
def zerosEq : List Value → List Value → Bool
  | [], [] => true
  | a :: x, b :: y => zeroEq a b && zerosEq x y
  | _, _ => false
theorem zerosEq_eq : ∀ {x y : List Value}, zerosEq x y = true → x = y
  | [], [], _ => rfl
  | a :: x, b :: y, h => by simp only [zerosEq, Bool.and_eq_true] at h; rw [zeroEq_eq h.1, zerosEq_eq h.2]
  | [], _ :: _, h => by simp [zerosEq] at h
  | _ :: _, [], h => by simp [zerosEq] at h
def elemOk (P : Program) (e esz bytes : Nat) : Bool := match P.info? e with
  | some x => Nat.beq x.size esz && Nat.beq x.bytes bytes && (match x.zero with | some z => Nat.beq z.cells.size esz | none => false)
  | none => false
def isAggD : TypeDesc → Bool
  | .struct _ => true
  | .array _ _ => true
  | _ => false
def tiOk (P : Program) (t : TypeId) (i : TI) : Bool :=
  (match P.info? t with | some x => Nat.beq x.size i.size && (match x.zero with | some z => zerosEq z.cells.toList i.zero | none => false) | none => false) &&
  (match P.underlying t with
    | none => false
    | some d => (match i.k with
        | .slice e s b => (match d with | .slice e' => Nat.beq e' e && elemOk P e s b | _ => false)
        | .struct offs => (match d with | .struct fs => fieldsOk P fs.toList offs | _ => false)
        | .arr n e s => (match d with | .array n' e' => Nat.beq n' n && Nat.beq e' e && (match P.info? e with | some x => Nat.beq x.size s | none => false) | _ => false)
        | .str => (match d with | .string => true | _ => false)
        | .other => true) && (i.agg == isAggD d))
def tabOk (P : Program) : Tab → Bool
  | [] => P.follows .mixedOrders
  | (t, i) :: r => tiOk P t i && tabOk P r
theorem tab_mixed {P : Program} : ∀ {tab : Tab}, tabOk P tab = true → P.follows .mixedOrders = true
  | [], h => h
  | (t, i) :: r, h => by simp only [tabOk, Bool.and_eq_true] at h; exact tab_mixed h.2
theorem tab_at {P : Program} : ∀ {tab : Tab} {t : Nat} {i : TI}, tabOk P tab = true → tab.at t = some i → tiOk P t i = true
  | [], _, _, _, h => by simp [Tab.at] at h
  | (j, u) :: r, t, i, ho, h => by
    simp only [tabOk, Bool.and_eq_true] at ho
    simp only [Tab.at] at h
    cases hb : Nat.beq j t with
    | true => simp only [hb, cond_true, Option.some.injEq] at h; have := Nat.eq_of_beq_eq_true hb; subst this; subst h; exact ho.1
    | false => simp only [hb, cond_false] at h; exact tab_at ho.2 h

def intOp : BinOp → IntKind → Int → Int → Option Value
  | .add, k, a, b => some (.int k (k.wrap (a + b)))
  | .sub, k, a, b => some (.int k (k.wrap (a - b)))
  | .mul, k, a, b => some (.int k (k.wrap (a * b)))
  | .eql, _, a, b => some (.bool (decide (a = b)))
  | .neq, _, a, b => some (.bool (decide (¬ a = b)))
  | .lss, _, a, b => some (.bool (decide (a < b)))
  | .leq, _, a, b => some (.bool (decide (a ≤ b)))
  | .gtr, _, a, b => some (.bool (decide (b < a)))
  | .geq, _, a, b => some (.bool (decide (b ≤ a)))
  | _, _, _, _ => none
def strOp : BinOp → ByteArray → ByteArray → Option Value
  | .eql, a, b => some (.bool (decide (a = b)))
  | .neq, a, b => some (.bool (decide (¬ a = b)))
  | _, _, _ => none
/-- inside a region: slots whose value is known where the guards in a path say yes -/
abbrev Path := List (Nat × Bool)
abbrev CEnv := List (Nat × Path × Value)
def lookC : CEnv → Nat → Option (Path × Value)
  | [], _ => none
  | (j, q, v) :: l, k => bif Nat.beq j k then some (q, v) else lookC l k
def holds (a : Act) : Path → Prop
  | [] => True
  | (s, b) :: p => a.tmps.getD s undef = .bool b ∧ holds a p
def KnowsC (c : CEnv) (a : Act) : Prop := ∀ d q v, lookC c d = some (q, v) → holds a q → a.tmps.getD d undef = v
def boolBeq : Bool → Bool → Bool
  | true, true | false, false => true
  | _, _ => false
def inPath (s : Nat) (b : Bool) : Path → Bool
  | [] => false
  | (t, x) :: p => bif Nat.beq t s && boolBeq x b then true else inPath s b p
def subPath : Path → Path → Bool
  | [], _ => true
  | (s, b) :: q, p => inPath s b p && subPath q p
theorem inPath_ok {a : Act} {s : Nat} {b : Bool} : ∀ {p : Path}, inPath s b p = true → holds a p → a.tmps.getD s undef = .bool b
  | [], h, _ => by simp [inPath] at h
  | (t, x) :: p, h, hp => by
    simp only [inPath] at h
    cases hb : Nat.beq t s && boolBeq x b with
    | true =>
      rw [Bool.and_eq_true] at hb
      have e1 := Nat.eq_of_beq_eq_true hb.1
      have e2 : x = b := by revert hb; cases x <;> cases b <;> simp [boolBeq]
      subst e1; subst e2; exact hp.1
    | false => rw [hb] at h; exact inPath_ok h hp.2
theorem subPath_ok {a : Act} : ∀ {q p : Path}, subPath q p = true → holds a p → holds a q
  | [], _, _, _ => trivial
  | (s, b) :: q, p, h, hp => by
    simp only [subPath, Bool.and_eq_true] at h
    exact ⟨inPath_ok h.1 hp, subPath_ok h.2 hp⟩
def evc (l : Env) (c : CEnv) (p : Path) : Operand → Option Value
  | .tmp t => match lookC c t with
    | some (q, v) => match subPath q p with
      | true => some v
      | false => none
    | none => look l t
  | .const v => some v
  | .global g => some (.pointer (some ⟨g, 0, none⟩))
  | .func f => some (.func (.func f) #[] #[])
theorem evc_ok {l : Env} {c : CEnv} {p : Path} {a : Act} (hk : Knows l a) (hc : KnowsC c a) (hp : holds a p) {x : Operand} {v : Value} (h : evc l c p x = some v) : a.eval x = v := by
  cases x with
  | tmp t =>
    simp only [evc] at h
    cases hl : lookC c t with
    | none => rw [hl] at h; exact hk _ _ h
    | some qv =>
      obtain ⟨q, u⟩ := qv
      rw [hl] at h
      simp only at h
      cases hs : subPath q p with
      | true => rw [hs] at h; simp only [Option.some.injEq] at h; subst h; exact hc _ _ _ hl (subPath_ok hs hp)
      | false => rw [hs] at h; cases h
  | const v => simp [evc] at h; simp [Act.eval, h]
  | global g => simp [evc] at h; simp [Act.eval, h]
  | func f => simp [evc] at h; simp [Act.eval, h]
def evcs (l : Env) (c : CEnv) (p : Path) : List Operand → Option (List Value)
  | [] => some []
  | x :: r => match evc l c p x with
    | some v => match evcs l c p r with
      | some vs => some (v :: vs)
      | none => none
    | none => none
theorem evcs_ok {l : Env} {c : CEnv} {p : Path} {a : Act} (hk : Knows l a) (hc : KnowsC c a) (hp : holds a p) : ∀ {xs : List Operand} {vs : List Value}, evcs l c p xs = some vs → xs.map a.eval = vs
  | [], vs, h => by simp [evcs] at h; simp [h]
  | x :: r, vs, h => by
    simp only [evcs] at h
    cases hx : evc l c p x with
    | none => simp [hx] at h
    | some v =>
      cases hr : evcs l c p r with
      | none => simp [hx, hr] at h
      | some vs' => simp [hx, hr] at h; subst h; simp [evc_ok hk hc hp hx, evcs_ok hk hc hp hr]

def pickOp (l : Env) (c : CEnv) (p : Path) (x y : Operand) : Operand → Option Value
  | .tmp s => match evc l c p (.tmp s) with
    | some (.bool t) => match x with
      | .const (.bool true) => match evc l c ((s, false) :: p) y with
        | some (.bool b) => some (.bool (t || b))
        | _ => none
      | x => match y with
        | .const (.bool false) => match evc l c ((s, true) :: p) x with
          | some (.bool b) => some (.bool (t && b))
          | _ => none
        | _ => none
    | _ => none
  | _ => none
def pure1 (tab : Tab) (l : Env) (c : CEnv) (p : Path) : Op → Option Value
  | .move x => evc l c p x
  | .assign x => evc l c p x
  | .pick t x y => pickOp l c p x y t
  | .binOp op _ x y _ => match evc l c p x with
    | some (.int k a) => match evc l c p y with
      | some (.int k' b) => match kindBeq k k' with
        | true => intOp op k a b
        | false => none
      | _ => none
    | some (.string s) => match evc l c p y with
      | some (.string t) => strOp op s t
      | _ => none
    | _ => none
  | .unOp op _ x => match op with
    | .not => match evc l c p x with
      | some (.bool b) => some (.bool (!b))
      | _ => none
    | _ => none
  | .call cl => match cl.callee with
    | .builtin .len => match cl.args.toList with
      | x :: [] => match cl.argTypes.toList with
        | t :: [] => match tab.at t with
          | some i => match i.k with
            | .slice _ _ _ => match evc l c p x with
              | some (.slice _ m _) => some (.int .i64 m)
              | _ => none
            | .str => match evc l c p x with
              | some (.string s) => some (.int .i64 s.size)
              | _ => none
            | _ => none
          | none => none
        | _ => none
      | _ => none
    | _ => none
  | .fieldAddr s x i => match tab.at s with
    | some ti => match ti.k with
      | .struct offs => match evc l c p x with
        | some (.pointer (some ⟨b, off, none⟩)) => match offs[i]? with
          | some (o, _) => match Nat.beq o 0 with
            | true => some (.pointer (some ⟨b, off, none⟩))
            | false => some (.pointer (some ⟨b, off + o, none⟩))
          | none => none
        | _ => none
      | _ => none
    | none => none
  | .extract t i => match evc l c p t with
    | some (.tuple vs) => vs[i]?
    | _ => none
  | .makeFunc g first captured => match evcs l c p first.toList with
    | some fs => match evcs l c p captured.toList with
      | some cs => some (.func g fs.toArray cs.toArray)
      | none => none
    | none => none
  | .nilCheck x => match evc l c p x with
    | some (.pointer (some a)) => some (.pointer (some a))
    | some (.func (.func g) a b) => some (.func (.func g) a b)
    | _ => none
  | _ => none
theorem field_of : ∀ {fs : List Field} {offs : List (Nat × Nat)} {P : Program} {i o z : Nat}, fieldsOk P fs offs = true → offs[i]? = some (o, z) →
    ∃ x info, fs[i]? = some x ∧ x.offset = o ∧ P.info? x.type = some info ∧ info.size ≠ 0 ∧ info.size = z
  | [], [], _, i, o, z, _, h => by simp at h
  | x :: fs, (p, y) :: offs, P, i, o, z, h, hi => by
    simp only [fieldsOk, Bool.and_eq_true] at h
    cases i with
    | zero =>
      simp at hi
      obtain ⟨rfl, rfl⟩ := hi
      cases hx : P.info? x.type with
      | none => rw [hx] at h; simp at h
      | some info =>
        rw [hx] at h
        have e := Nat.eq_of_beq_eq_true h.1.2
        refine ⟨x, info, rfl, Nat.eq_of_beq_eq_true h.1.1.1, hx, ?_, e⟩
        have h2 := h.1.1.2
        intro h0
        rw [← e, h0] at h2; simp at h2
    | succ i =>
      obtain ⟨y, info, h1, h2⟩ := field_of (P := P) h.2 (by simpa using hi)
      exact ⟨y, info, by simpa using h1, h2⟩
  | [], _ :: _, _, _, _, _, h, _ => by simp [fieldsOk] at h
  | _ :: _, [], _, _, _, _, h, _ => by simp [fieldsOk] at h
theorem add_none (b o m : Nat) : Addr.add ⟨b, o, none⟩ m = ⟨b, o + m, none⟩ := by
  unfold Addr.add
  by_cases h : m = 0
  · subst h; rfl
  · rw [if_neg h]
end Go.Proofs.YtopjmiklpnejmaaGreatDoor.Eng
