/- The engine, third part: states, the steps by reckoning, and a lemma for each kind of step. -/
import Derived.Test.YtopjmiklpnejmaaGreatDoorEng1
import Derived.Test.YtopjmiklpnejmaaGreatDoorHeld
import Derived.StillTail
import Derived.Still
namespace Go.Proofs.YtopjmiklpnejmaaGreatDoor.Eng
open Go
def dstOk (n : Nat) : Option Nat → Bool
  | none => true
  | some d => Nat.blt d n
def notIn (d : Nat) : Path → Bool
  | [] => true
  | (s, _) :: p => !(Nat.beq s d) && notIn d p
def pathFree (d : Nat) : CEnv → Bool
  | [] => true
  | (_, q, _) :: c => notIn d q && pathFree d c
def isNone {α : Type} : Option α → Bool
  | none => true
  | some _ => false
def fresh (d : Nat) (l : Env) (c : CEnv) (p : Path) : Bool :=
  isNone (lookC c d) && pathFree d c && notIn d p && (match p with | [] => true | _ :: _ => isNone (look l d))
/-- how a region is gone through: in a row (no mode); first what only reads, then the last t in a row; in an order of ours, in which the blocks of S stay -/
inductive Md where
  | t (n : Nat)
  | h (S : Nat → Prop) (t : Nat)
def okR (md : Option Md) (o : Oper) : Bool := match md with
  | some (.h _ _) => !effB o.op
  | _ => true
theorem okR_no {md : Option Md} {o : Oper} (h : effB o.op = false) : okR md o = true := by
  cases md with
  | none => rfl
  | some m => cases m with
    | t n => rfl
    | h S t => simp [okR, h]
def okW (md : Option Md) (o : Oper) : Bool := match md with
  | none => true
  | some (.h _ _) => effB o.op
  | some (.t _) => false
def notT (md : Option Md) : Bool := match md with
  | some (.t _) => false
  | _ => true
theorem okW_of {md : Option Md} {o : Oper} (h : effB o.op = true) (hn : notT md = true) : okW md o = true := by
  cases md with
  | none => rfl
  | some m => cases m with
    | t n => simp [notT] at hn
    | h S t => simp [okW, h]
def mdR (md : Option Md) (w w' : World) : Prop := match md with
  | some (.h S _) => Kp S w w'
  | _ => w' = w
def mdW (md : Option Md) (w w' : World) : Prop := match md with
  | some (.h S _) => Kp S w w'
  | _ => True
/-- a cell may be read -/
@[reducible] def mdB (md : Option Md) (b : Nat) : Prop := match md with
  | some (.h S _) => S b
  | _ => True
theorem mdR_cell {md : Option Md} {w w' : World} {b o : Nat} {v : Value} (hb : mdB md b) (h : mdR md w w') (hc : w.cell? ⟨b, o, none⟩ = some v) : w'.cell? ⟨b, o, none⟩ = some v := by
  cases md with
  | none => have e : w' = w := h; rw [e]; exact hc
  | some m => cases m with
    | t n => have e : w' = w := h; rw [e]; exact hc
    | h S t => exact Kp.cell h hb hc
theorem mdR_at {md : Option Md} {w w' : World} {b o : Nat} {cs : List Value} (hb : mdB md b) (h : mdR md w w') (hc : At w b o cs) : At w' b o cs := fun j v x => mdR_cell hb h (hc j v x)
theorem mdW_bl {md : Option Md} {w w' : World} (h : Bl w w') : mdW md w w' := by
  cases md with
  | none => trivial
  | some m => cases m with
    | t n => trivial
    | h S t => exact h.kp S
inductive St where
  | code (k : List Item) (l : Env)
  | reg (md : Option Md) (ops : Array Oper) (rest : List Oper) (k : List Item) (l : Env) (c : CEnv)
  | opn (md : Option Md) (ops : Array Oper) (o : Oper) (rest : List Oper) (k : List Item) (l : Env) (c : CEnv) (p : Path)
/-- the state behind an operation that gives v -/
def nxt (md : Option Md) (ops : Array Oper) (rest : List Oper) (k : List Item) (l : Env) (c : CEnv) (p : Path) (d : Nat) (v : Value) : St := match p with
  | [] => .reg md ops rest k ((d, v) :: l) c
  | _ :: _ => .reg md ops rest k l ((d, p, v) :: c)
def hasK (ks : List Nat) (j : Nat) : Bool := match ks with
  | [] => false
  | i :: r => bif Nat.beq i j then true else hasK r j
def prunK (ks : List Nat) : Env → (Env → Option St) → Option St
  | [], k => k []
  | (j, v) :: l, k => match hasK ks j with
    | true => prunK ks l (fun l' => k ((j, v) :: l'))
    | false => prunK ks l k
def guardSlot (ops : Array Oper) (j : Nat) : Option Nat := match ops.toList[j]? with
  | some o => o.dst
  | none => none
def adv1 (tab : Tab) (n : Nat) (ks : List Nat) : St → Option St
  | .code k l => match k with
    | .code c :: k => match c with
      | .seq a b => some (.code (.code a :: .code b :: k) l)
      | .skip => some (.code k l)
      | .label _ => some (.code k l)
      | .block i c => some (.code (.code c :: .inBlock i :: k) l)
      | .region _ ops d => match d with
        | false => some (.reg none ops ops.toList k l [])
        | true => none
      | .exit i => match exitTo i k with
        | some k' => some (.code k' l)
        | none => none
      | _ => none
    | .inBlock _ :: k => some (.code k l)
    | _ => none
  | .reg md ops rest k l c => match rest with
    | [] => match md with
      | some (.t t) => some (.reg none ops (ops.toList.drop (ops.size - t)) k l c)
      | some (.h _ t) => some (.reg none ops (ops.toList.drop (ops.size - t)) k l c)
      | none => prunK ks l (fun l' => some (.code k l'))
    | o :: rest => match dstOk n o.dst with
      | true => match o.guard with
        | none => some (.opn md ops o rest k l c [])
        | some (j, want) => match guardSlot ops j with
          | some s => match lookC c s with
            | some (q, _) => some (.opn md ops o rest k l c ((s, want) :: q))
            | none => some (.opn md ops o rest k l c [(s, want)])
          | none => none
      | false => none
  | .opn md ops o rest k l c p => match pure1 tab l c p o.op with
    | some v => match o.dst with
      | some d => match fresh d l c p && okR md o with
        | true => match p with
          | [] => some (.reg md ops rest k ((d, v) :: l) c)
          | _ :: _ => some (.reg md ops rest k l ((d, p, v) :: c))
        | false => none
      | none => none
    | none => none
def adv (tab : Tab) (n : Nat) (ks : List Nat) : Nat → St → St
  | 0, s => s
  | m + 1, s => match adv1 tab n ks s with
    | some s' => adv tab n ks m s'
    | none => s

structure Cx where
  P : Program
  f : FuncId
  fn : Func
  n : Nat
  ks : List Nat
  tab : Tab
  Q : Value → World → Prop
/-- conditional slots: the value where the path holds, nothing where it does not -/
def KnowsD (c : CEnv) (a : Act) : Prop := ∀ d q v, (d, q, v) ∈ c → (holds a q → a.tmps.getD d undef = v) ∧ (¬ holds a q → a.tmps.getD d undef = undef)
theorem lookC_mem : ∀ {c : CEnv} {d : Nat} {q : Path} {v : Value}, lookC c d = some (q, v) → (d, q, v) ∈ c
  | [], _, _, _, h => by simp [lookC] at h
  | (i, q', u') :: c, d, q, v, h => by
    simp only [lookC] at h
    cases hb : Nat.beq i d with
    | true => simp only [hb, cond_true, Option.some.injEq, Prod.mk.injEq] at h; have := Nat.eq_of_beq_eq_true hb; subst this; rw [h.1, h.2]; exact List.mem_cons_self ..
    | false => simp only [hb, cond_false] at h; exact List.mem_cons_of_mem _ (lookC_mem h)
theorem lookC_none : ∀ {c : CEnv} {d j : Nat} {q : Path} {v : Value}, lookC c d = none → (j, q, v) ∈ c → j ≠ d
  | [], _, _, _, _, _, h => by cases h
  | (i, q', u') :: c, d, j, q, v, h, hm => by
    simp only [lookC] at h
    cases hb : Nat.beq i d with
    | true => simp [hb] at h
    | false =>
      simp only [hb, cond_false] at h
      cases hm with
      | head => intro e; subst e; simp at hb
      | tail _ hm => exact lookC_none h hm
theorem KnowsD.c {c : CEnv} {a : Act} (h : KnowsD c a) : KnowsC c a := fun d q v x => (h d q v (lookC_mem x)).1
structure OkA (C : Cx) (a : Act) (l : Env) (c : CEnv) : Prop where
  size : a.tmps.size = C.n
  defers : a.defers = []
  k : Knows l a
  kc : KnowsD c a
def runs (C : Cx) (a : Act) (todo : List Item) (w : World) : Prop :=
  ∀ cs, ∃ e w' fr, retQ C.Q e w' ∧ Comes C.P (lone ((bas C.f).at a todo) cs w) (lone fr cs w') e ∧ fr.fn = C.f ∧ fr.leaving C.P w' e
/-- what stands behind a region -/
def nq (C : Cx) (k : List Item) : Exit → Act → World → Prop := fun e a w => e = .normal ∧ runs C a k w
def listS (C : Cx) (md : Option Md) (ops : Array Oper) (k : List Item) (l : List Oper) (a : Act) (w : World) : Prop := match md with
  | none => wpList C.P ops (nq C k) l a w
  | some (.h S t) => heldS C.P ops (nq C k) S (wpList C.P ops (nq C k) (ops.toList.drop (ops.size - t))) l a w
  | some (.t t) => wpStill C.P ops w (fun a' => wpList C.P ops (nq C k) (ops.toList.drop (ops.size - t)) a' w) l a
def fromS (C : Cx) : St → World → Prop
  | .code k l, w => ∀ a, OkA C a l [] → runs C a k w
  | .reg md ops rest k l c, w => ∀ a, OkA C a l c → listS C md ops k rest a w
  | .opn md ops o rest k l c p, w => dstOk C.n o.dst = true → ∀ a, OkA C a l c → (Region.wanted o (yielded ops a.tmps) = true ↔ holds a p) → listS C md ops k (o :: rest) a w
/-- from this state on the function returns, with Q -/
structure Wk (C : Cx) (s : St) (w : World) : Prop where
  run : tabOk C.P C.tab = true → C.P.funcs[C.f]? = some C.fn → fromS C s w

theorem knows_nil (a : Act) : KnowsD [] a := fun d q v h => by cases h
theorem runs_step {C : Cx} {a a' : Act} {k k' : List Item} {w w' : World} (hs : ∀ cs, step C.P (lone ((bas C.f).at a k) cs w) = .next (lone ((bas C.f).at a' k') cs w')) (h : runs C a' k' w') : runs C a k w := by
  intro cs
  obtain ⟨e, w'', fr, hq, hc, hr⟩ := h cs
  exact ⟨e, w'', fr, hq, .of_steps (.one (hs cs)) hc, hr⟩
theorem get_put {a : Act} {d j : Nat} {v : Value} (hd : d < a.tmps.size) : (a.put (some d) v).tmps.getD j undef = if j = d then v else a.tmps.getD j undef := by
  simp only [Act.put, Array.getD_eq_getD_getElem?, Array.getElem?_setIfInBounds]
  by_cases h : d = j
  · subst h; simp [hd]
  · rw [if_neg h, if_neg (fun e => h e.symm)]
theorem holds_put {a : Act} {d : Nat} {v : Value} (hd : d < a.tmps.size) : ∀ {p : Path}, notIn d p = true → (holds (a.put (some d) v) p ↔ holds a p)
  | [], _ => Iff.rfl
  | (s, b) :: p, h => by
    simp only [notIn, Bool.and_eq_true, Bool.not_eq_true'] at h
    have hs : s ≠ d := fun e => by subst e; simp at h
    simp only [holds, get_put hd, if_neg hs, holds_put hd h.2]
theorem pathFree_at : ∀ {c : CEnv} {d j : Nat} {q : Path} {u : Value}, pathFree d c = true → (j, q, u) ∈ c → notIn d q = true
  | [], _, _, _, _, _, h => by cases h
  | (i, q', u') :: c, d, j, q, u, hp, h => by
    simp only [pathFree, Bool.and_eq_true] at hp
    cases h with
    | head => exact hp.1
    | tail _ h => exact pathFree_at hp.2 h
theorem isNone_eq {α : Type} {x : Option α} (h : isNone x = true) : x = none := by cases x <;> first | rfl | (simp [isNone] at h)
theorem blt_lt {a b : Nat} (h : Nat.blt a b = true) : a < b := by rw [Nat.blt_eq] at h; exact h
/-- the slots behind an operation that wrote slot d -/
theorem ok_put {C : Cx} {a : Act} {l : Env} {c : CEnv} {d : Nat} {p : Path} {v u : Value} (h : OkA C a l c) (hd : dstOk C.n (some d) = true) (hf : fresh d l c p = true) :
    (p = [] → OkA C (a.put (some d) v) ((d, v) :: l) c) ∧
    (p ≠ [] → (holds a p → u = v) → (¬ holds a p → u = undef) → OkA C (a.put (some d) u) l ((d, p, v) :: c)) := by
  have hlt : d < a.tmps.size := by rw [h.size]; exact blt_lt hd
  simp only [fresh, Bool.and_eq_true] at hf
  obtain ⟨⟨⟨h1, h2⟩, h3⟩, h4⟩ := hf
  have hc : ∀ u, KnowsD c (a.put (some d) u) := by
    intro u j q x hx
    have hjd : j ≠ d := lookC_none (isNone_eq h1) hx
    rw [get_put hlt, if_neg hjd, holds_put hlt (pathFree_at h2 hx)]
    exact h.kc j q x hx
  refine ⟨fun _ => ⟨by simp [Act.put, h.size], h.defers, ?_, hc _⟩, fun hp hu hn => ⟨by simp [Act.put, h.size], h.defers, ?_, ?_⟩⟩
  · intro j x hx
    simp only [look] at hx
    rw [get_put hlt]
    cases hb : Nat.beq d j with
    | true => have := Nat.eq_of_beq_eq_true hb; subst this; simp only [hb, cond_true, Option.some.injEq] at hx; rw [if_pos rfl, hx]
    | false =>
      simp only [hb, cond_false] at hx
      rw [if_neg (fun e => by subst e; simp at hb)]; exact h.k j x hx
  · intro j x hx
    have hjd : j ≠ d := by
      intro e; subst e
      cases p with
      | nil => exact hp rfl
      | cons y p => simp only at h4; rw [isNone_eq h4] at hx; cases hx
    rw [get_put hlt, if_neg hjd]; exact h.k j x hx
  · intro j q x hx
    cases hx with
    | head =>
      rw [holds_put hlt h3, get_put hlt, if_pos rfl]
      exact ⟨hu, hn⟩
    | tail _ hx => exact hc u j q x hx
theorem listS_value {C : Cx} {md : Option Md} {ops : Array Oper} {k : List Item} {o : Oper} {rest : List Oper} {a : Act} {w : World} {v : Value} (hw : Region.wanted o (yielded ops a.tmps) = true) (ho : okR md o = true) (hr : ∀ w', (mdR md w w' ∨ pureB o.op = true) → (execOp a.eval o).run C.P w' = .ok (.value v) w')
    (h : listS C md ops k rest (a.put o.dst v) w) : listS C md ops k (o :: rest) a w := by
  cases md with
  | none =>
    show wpList C.P ops (nq C k) (o :: rest) a w
    unfold wpList
    rw [if_pos hw]
    refine .inl ?_
    unfold Oper.wp
    rw [hr w (.inl rfl)]; exact h
  | some m => cases m with
   | t t =>
    show wpStill C.P ops w _ (o :: rest) a
    unfold wpStill
    rw [if_pos hw]
    unfold Oper.still
    rw [hr w (.inl rfl)]; exact ⟨rfl, h⟩
   | h S t =>
    show heldS C.P ops (nq C k) S (wpList C.P ops (nq C k) (ops.toList.drop (ops.size - t))) (o :: rest) a w
    simp only [okR, Bool.not_eq_true'] at ho
    simp only [heldS, ho]
    rw [if_pos hw]
    exact ⟨v, fun w' q => hr w' q.symm, h⟩
theorem listS_skip {C : Cx} {md : Option Md} {ops : Array Oper} {k : List Item} {o : Oper} {rest : List Oper} {a : Act} {w : World} (hw : ¬ Region.wanted o (yielded ops a.tmps) = true)
    (h : listS C md ops k rest (a.put o.dst undef) w) : listS C md ops k (o :: rest) a w := by
  cases md with
  | none =>
    show wpList C.P ops (nq C k) (o :: rest) a w
    unfold wpList
    rw [if_neg hw]; exact h
  | some m => cases m with
   | t t =>
    show wpStill C.P ops w _ (o :: rest) a
    unfold wpStill
    rw [if_neg hw]; exact h
   | h S t =>
    show heldS C.P ops (nq C k) S (wpList C.P ops (nq C k) (ops.toList.drop (ops.size - t))) (o :: rest) a w
    unfold heldS
    cases effB o.op <;> (simp only []; rw [if_neg hw]; exact h)
/-- an operation that gives a value and leaves the world, where its path holds -/
theorem op_read {C : Cx} {md : Option Md} {ops : Array Oper} {o : Oper} {rest : List Oper} {k : List Item} {l : Env} {c : CEnv} {p : Path} {w : World} {d : Nat} {v : Value} (hd : o.dst = some d) (hf : fresh d l c p = true)
    (ho : okR md o = true) (hr : tabOk C.P C.tab = true → ∀ a, OkA C a l c → holds a p → ∀ w', (mdR md w w' ∨ pureB o.op = true) → (execOp a.eval o).run C.P w' = .ok (.value v) w') (h : Wk C (nxt md ops rest k l c p d v) w) : Wk C (.opn md ops o rest k l c p) w := by
  refine ⟨fun ht hfn hdk a hA hw => ?_⟩
  have H := h.run ht hfn
  rw [hd] at hdk
  by_cases hp : holds a p
  · refine listS_value (hw.2 hp) ho (hr ht a hA hp) ?_
    rw [hd]
    have hput := ok_put (v := v) (u := v) (p := p) hA hdk hf
    cases p with
    | nil => exact H _ (hput.1 rfl)
    | cons x p => exact H _ (hput.2 (by simp) (fun _ => rfl) (fun hn => (hn hp).elim))
  · refine listS_skip (fun hc => hp (hw.1 hc)) ?_
    rw [hd]
    have hput := ok_put (v := v) (u := undef) (p := p) hA hdk hf
    cases p with
    | nil => exact (hp trivial).elim
    | cons x p => exact H _ (hput.2 (by simp) (fun hh => (hp hh).elim) (fun _ => rfl))
theorem forgetA {C : Cx} {a : Act} {l l' : Env} {c : CEnv} (h : OkA C a l c) (hl : ∀ j v, look l' j = some v → look l j = some v) : OkA C a l' [] := ⟨h.size, h.defers, fun j v x => h.k j v (hl j v x), knows_nil a⟩
theorem prunK_ok {ks : List Nat} : ∀ {l : Env} {k : Env → Option St} {s : St}, prunK ks l k = some s → ∃ l', k l' = some s ∧ ∀ j, look l' j = if hasK ks j = true then look l j else none
  | [], k, s, h => ⟨[], h, fun j => by simp [look]⟩
  | (i, u) :: l, k, s, h => by
    simp only [prunK] at h
    cases hk : hasK ks i with
    | true =>
      rw [hk] at h
      obtain ⟨l', h1, h2⟩ := prunK_ok h
      refine ⟨(i, u) :: l', h1, fun j => ?_⟩
      simp only [look]
      cases hb : Nat.beq i j with
      | true => have := Nat.eq_of_beq_eq_true hb; subst this; simp [hk]
      | false => simp [h2 j]
    | false =>
      rw [hk] at h
      obtain ⟨l', h1, h2⟩ := prunK_ok h
      refine ⟨l', h1, fun j => ?_⟩
      rw [h2 j]
      by_cases hj : hasK ks j = true
      · rw [if_pos hj, if_pos hj]
        have : Nat.beq i j = false := by
          cases hb : Nat.beq i j with
          | true => have := Nat.eq_of_beq_eq_true hb; subst this; rw [hk] at hj; cases hj
          | false => rfl
        simp [look, this]
      · rw [if_neg hj, if_neg hj]
theorem wanted_path {ops : Array Oper} {o : Oper} {a : Act} {j s : Nat} {want : Bool} (hg : o.guard = some (j, want)) (hs : guardSlot ops j = some s) :
    Region.wanted o (yielded ops a.tmps) = true ↔ a.tmps.getD s undef = .bool want := by
  simp only [Region.wanted, hg, yielded]
  have e : (ops[j]?).bind (·.dst) = some s := by
    unfold guardSlot at hs
    rw [← Array.getElem?_toList]
    cases hx : ops.toList[j]? with
    | none => rw [hx] at hs; cases hs
    | some x => rw [hx] at hs; simpa using hs
  rw [e]
  simp only [Option.bind_some, Array.getD_eq_getD_getElem?]
  cases hx : a.tmps[s]? with
  | none => simp [undef]
  | some v => cases v <;> simp
theorem runs_wp {C : Cx} {c : Code} {k : List Item} {a : Act} {w : World} (h : c.wp C.P (nq C k) a w) : runs C a (.code c :: k) w := by
  intro cs
  obtain ⟨e, a', w', ⟨he, hr⟩, harr⟩ := h (bas C.f) k cs
  subst he
  obtain ⟨e2, w2, fr, hq, hc, hrest⟩ := hr cs
  exact ⟨e2, w2, fr, hq, .of_steps harr hc, hrest⟩
theorem wk_admin {C : Cx} {k k' : List Item} {l : Env} {w : World} (hs : ∀ (a : Act) cs, step C.P (lone ((bas C.f).at a k) cs w) = .next (lone ((bas C.f).at a k') cs w)) (h : Wk C (.code k' l) w) : Wk C (.code k l) w :=
  ⟨fun ht hf a hA => runs_step (hs a) (h.run ht hf a hA)⟩
theorem wk_forget {C : Cx} {k : List Item} {l l' : Env} {w : World} (hl : ∀ j v, look l' j = some v → look l j = some v) (h : Wk C (.code k l') w) : Wk C (.code k l) w :=
  ⟨fun ht hf a hA => h.run ht hf a (forgetA hA hl)⟩
theorem adv1_ok {C : Cx} {s s' : St} {w : World} (hs : adv1 C.tab C.n C.ks s = some s') (h : Wk C s' w) : Wk C s w := by
  cases s with
  | code k l =>
    cases k with
    | nil => simp [adv1] at hs
    | cons x k =>
      cases x with
      | code c =>
        cases c with
        | seq a b => simp only [adv1, Option.some.injEq] at hs; subst hs; exact wk_admin (fun _ _ => step_seq) h
        | skip => simp only [adv1, Option.some.injEq] at hs; subst hs; exact wk_admin (fun _ _ => step_skip) h
        | label i => simp only [adv1, Option.some.injEq] at hs; subst hs; exact wk_admin (fun _ _ => step_label) h
        | block i c => simp only [adv1, Option.some.injEq] at hs; subst hs; exact wk_admin (fun _ _ => step_block) h
        | region i ops d =>
          cases d with
          | true => simp [adv1] at hs
          | false =>
            simp only [adv1, Option.some.injEq] at hs; subst hs
            exact ⟨fun ht hf a hA => runs_wp (wp_region_list (h.run ht hf a hA))⟩
        | exit i =>
          simp only [adv1] at hs
          split at hs
          · rename_i k' he; simp only [Option.some.injEq] at hs; subst hs; exact wk_admin (fun _ _ => step_exit he) h
          · cases hs
        | _ => simp [adv1] at hs
      | inBlock i => simp only [adv1, Option.some.injEq] at hs; subst hs; exact wk_admin (fun _ _ => step_inBlock) h
      | _ => simp [adv1] at hs
  | reg md ops rest k l c =>
    cases rest with
    | nil =>
     have key : prunK C.ks l (fun l' => some (.code k l')) = some s' → ∀ (_ : tabOk C.P C.tab = true) (_ : C.P.funcs[C.f]? = some C.fn) (a : Act), OkA C a l c → nq C k .normal a w := by
      intro hs ht hf a hA
      obtain ⟨l', h1, h2⟩ := prunK_ok hs
      simp only [Option.some.injEq] at h1; subst h1
      refine ⟨rfl, h.run ht hf a (forgetA hA fun j v hj => ?_)⟩
      rw [h2 j] at hj
      split at hj
      · exact hj
      · cases hj
     cases md with
     | none => simp only [adv1] at hs; exact ⟨fun ht hf a hA => key hs ht hf a hA⟩
     | some m => cases m with
      | t t => simp only [adv1, Option.some.injEq] at hs; subst hs; exact ⟨fun ht hf a hA => h.run ht hf a hA⟩
      | h S t => simp only [adv1, Option.some.injEq] at hs; subst hs; exact ⟨fun ht hf a hA => h.run ht hf a hA⟩
    | cons o rest =>
      simp only [adv1] at hs
      cases hd : dstOk C.n o.dst with
      | false => rw [hd] at hs; cases hs
      | true =>
        rw [hd] at hs
        simp only at hs
        cases hg : o.guard with
        | none =>
          rw [hg] at hs; simp only [Option.some.injEq] at hs; subst hs
          refine ⟨fun ht hf a hA => ?_⟩
          exact h.run ht hf hd a hA (by simp [Region.wanted, hg, holds])
        | some gd =>
          obtain ⟨j, want⟩ := gd
          rw [hg] at hs
          simp only at hs
          cases hsl : guardSlot ops j with
          | none => rw [hsl] at hs; cases hs
          | some s =>
            rw [hsl] at hs
            simp only at hs
            cases hlc : lookC c s with
            | none =>
              rw [hlc] at hs; simp only [Option.some.injEq] at hs; subst hs
              refine ⟨fun ht hf a hA => h.run ht hf hd a hA ?_⟩
              rw [wanted_path hg hsl]; simp [holds]
            | some qu =>
              obtain ⟨q, u⟩ := qu
              rw [hlc] at hs; simp only [Option.some.injEq] at hs; subst hs
              refine ⟨fun ht hf a hA => h.run ht hf hd a hA ?_⟩
              rw [wanted_path hg hsl]
              simp only [holds]
              refine ⟨fun e => ⟨e, ?_⟩, fun e => e.1⟩
              refine Classical.byContradiction fun hq => ?_
              rw [(hA.kc s q u (lookC_mem hlc)).2 hq] at e
              simp [undef] at e
  | opn md ops o rest k l c p =>
    simp only [adv1] at hs
    cases hv : pure1 C.tab l c p o.op with
    | none => rw [hv] at hs; cases hs
    | some v =>
      rw [hv] at hs
      simp only at hs
      cases hd : o.dst with
      | none => rw [hd] at hs; cases hs
      | some d =>
        rw [hd] at hs
        simp only at hs
        cases hf : fresh d l c p && okR md o with
        | false => rw [hf] at hs; cases hs
        | true =>
          rw [hf] at hs
          simp only [Bool.and_eq_true] at hf
          have e : s' = nxt md ops rest k l c p d v := by cases p <;> (simp only [Option.some.injEq] at hs; rw [← hs]; rfl)
          subst e
          exact op_read hd hf.1 hf.2 (fun ht a hA hp w' _ => pure1_ok ht hA.k hA.kc.c hp w' hv) h
theorem adv_ok {C : Cx} {w : World} : ∀ (m : Nat) {s : St}, Wk C (adv C.tab C.n C.ks m s) w → Wk C s w
  | 0, _, h => h
  | m + 1, s, h => by
    simp only [adv] at h
    cases hs : adv1 C.tab C.n C.ks s with
    | none => rw [hs] at h; exact h
    | some s' => rw [hs] at h; exact adv1_ok hs (adv_ok m h)
theorem by_adv {C : Cx} {w : World} {s s' : St} (hs : adv C.tab C.n C.ks 400 s = s') (h : Wk C s' w) : Wk C s w := adv_ok 400 (by rw [hs]; exact h)
end Go.Proofs.YtopjmiklpnejmaaGreatDoor.Eng
