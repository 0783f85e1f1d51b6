/- The document's Check of a class file, part by part, as functions on lists. No program stands here. -/
import Derived.Test.YtopjmiklpnejmaaGreatDoorOwn
import Derived.Test.YtopjmiklpnejmaaGreatDoorSpec
namespace Go.Proofs.YtopjmiklpnejmaaGreatDoor
open Eng Go.RowKit
theorem Eng.New.wr {w w3 w4 : World} {b : Nat} {t : TypeId} {cs : List Value} (h5 : New w b t cs w3) (h6 : Wr w3 b w4) : Bl w w4 := Below.trans h5.bl (h6.below (by have := h5.blk; omega))
abbrev mcells (m : Mth) (a1 : Option Addr) (c1 : Nat) (a2 : Option Addr) (c2 : Nat) (a3 : Option Addr) (c3 : Nat) : List Value := [I m.name, I m.cls, .slice a1 m.params.length c1, .slice a2 m.locals.length c2, I m.result.kind, I m.result.cls, .slice a3 m.code.length c3]
abbrev ccells (c : Cls) (a : Option Addr) (q : Nat) : List Value := [I c.name, I c.super, .slice a c.fields.length q]
def lcls (c : Cls) : Bool := decide (c.fields.length ≤ 7)
def mslots (m : Mth) : Int := (m.params.length : Int) + m.locals.length + (if m.cls = -1 then 0 else 1)
def lmth (m : Mth) : Bool := decide (m.params.length ≤ 4) && decide (mslots m ≤ 10)
def limits (u : Unt) : Bool := decide (u.pool.length ≤ 60) && decide (u.classes.length ≤ 10) && decide (u.statics.length ≤ 10) && decide (u.methods.length ≤ 16) && u.classes.all lcls && u.methods.all lmth
structure Lim (u : Unt) : Prop where
  pool : u.pool.length ≤ 60
  cls : u.classes.length ≤ 10
  sta : u.statics.length ≤ 10
  mth : u.methods.length ≤ 16
  flds : ∀ c ∈ u.classes, c.fields.length ≤ 7
  pars : ∀ m ∈ u.methods, m.params.length ≤ 4
  locs : ∀ m ∈ u.methods, m.params.length + m.locals.length ≤ 10
theorem lim_of {u : Unt} (h : limits u = true) : Lim u := by
  unfold limits at h
  simp only [Bool.and_eq_true, decide_eq_true_eq] at h
  obtain ⟨⟨⟨⟨⟨h1, h2⟩, h3⟩, h4⟩, h5⟩, h6⟩ := h
  refine ⟨h1, h2, h3, h4, fun c hc => ?_, fun m hm => ?_, fun m hm => ?_⟩
  · have := List.all_eq_true.1 h5 c hc
    simpa [lcls] using this
  · have := List.all_eq_true.1 h6 m hm
    simp only [lmth, Bool.and_eq_true, decide_eq_true_eq] at this; exact this.1
  · have := List.all_eq_true.1 h6 m hm
    simp only [lmth, Bool.and_eq_true, decide_eq_true_eq] at this
    have h7 : mslots m ≤ 10 := this.2
    unfold mslots at h7
    by_cases hc : m.cls = -1
    · rw [if_pos hc] at h7; omega
    · rw [if_neg hc] at h7; omega
def kin (t : Ty) : Bool := decide (1 ≤ t.kind) && decide (t.kind ≤ 4)
def kout (t : Ty) : Bool := decide (0 ≤ t.kind) && decide (t.kind ≤ 4)
def kcls (c : Cls) : Bool := c.fields.all fun f => kin f.ty
def kmth (m : Mth) : Bool := m.params.all kin && m.locals.all kin && kout m.result
def kinds (u : Unt) : Bool := u.classes.all kcls && (u.statics.all fun f => kin f.ty) && u.methods.all kmth
def tcls (t : Ty) : Bool := decide (t.kind = 2) || decide (t.kind = 4)
def bare (t : Ty) : Bool := tcls t || decide (t.cls = -1)
def bcls (c : Cls) : Bool := c.fields.all fun f => bare f.ty
def bmth (m : Mth) : Bool := bare m.result && m.params.all bare && m.locals.all bare
def classless (u : Unt) : Bool := u.classes.all bcls && (u.statics.all fun f => bare f.ty) && u.methods.all bmth
structure Rf where
  at' : Int
  parts : Int
  opt : Bool
abbrev encRf : Rf → List Value := fun r => [I r.at', I r.parts, .bool r.opt]
def eRf : El Rf := plainEl 3 encRf (fun _ => rfl)
def typed (t : Ty) : Rf := ⟨t.cls, 2, !tcls t⟩
def fref (f : Fld) : List Rf := [⟨f.name, 1, false⟩, typed f.ty]
def cref (c : Cls) : List Rf := [⟨c.name, 1, false⟩, ⟨c.super, 2, true⟩] ++ c.fields.flatMap fref
def mref (m : Mth) : List Rf := [⟨m.name, 1, false⟩, ⟨m.cls, 2, true⟩] ++ m.params.map typed ++ m.locals.map typed ++ [typed m.result]
def refs (u : Unt) : List Rf := u.classes.flatMap cref ++ u.statics.flatMap fref ++ u.methods.flatMap mref
def refOk (n : Nat) (r : Rf) : Bool := (decide (r.at' = -1) && r.opt) || !(decide (r.at' < 0) || decide (r.at' ≥ n))
def places (u : Unt) : Bool := (refs u).all (refOk u.pool.length) && classless u
theorem all_snoc' {α : Type} {p : α → Bool} {l : List α} {k : Nat} {x : α} (hx : l[k]? = some x) (h : (l.take k).all p = true) (h2 : p x = true) : (l.take (k + 1)).all p = true := by
  rw [take_succ_some hx, List.all_append, h]; simp [h2]
theorem all_end {α : Type} {p : α → Bool} {l : List α} (h : (l.take l.length).all p = true) : l.all p = true := by rwa [List.take_length] at h
theorem all_miss {α : Type} {p : α → Bool} {l : List α} {k : Nat} {x : α} (hx : l[k]? = some x) (h : p x = false) : l.all p = false := by
  rw [← Bool.not_eq_true]; intro ht
  rw [List.all_eq_true.1 ht _ (List.mem_of_getElem? hx)] at h; cases h
/-- a text stands in a list -/
def hasB (l : List ByteArray) (x : ByteArray) : Bool := l.any fun y => decide (y = x)
theorem hasB_iff {l : List ByteArray} {x : ByteArray} : hasB l x = true ↔ x ∈ l := by
  unfold hasB
  rw [List.any_eq_true]
  exact ⟨fun ⟨y, h, e⟩ => (of_decide_eq_true e) ▸ h, fun h => ⟨x, h, decide_eq_true rfl⟩⟩
/-- a list of texts that has one twice -/
def dup : List ByteArray → Bool
  | [] => false
  | x :: r => hasB r x || dup r
theorem dup_iff : ∀ {l : List ByteArray}, dup l = true ↔ ∃ i j : Nat, j < i ∧ ∃ x, l[i]? = some x ∧ l[j]? = some x
  | [] => by simp [dup]
  | y :: r => by
    simp only [dup, Bool.or_eq_true, hasB_iff, dup_iff (l := r)]
    constructor
    · rintro (h | ⟨i, j, hij, x, h1, h2⟩)
      · obtain ⟨i, hi⟩ := List.getElem?_of_mem h
        exact ⟨i + 1, 0, by omega, y, by simpa using hi, rfl⟩
      · exact ⟨i + 1, j + 1, by omega, x, by simpa using h1, by simpa using h2⟩
    · rintro ⟨i, j, hij, x, h1, h2⟩
      cases i with
      | zero => omega
      | succ i =>
        cases j with
        | zero => simp at h1 h2; subst h2; exact .inl (List.mem_of_getElem? h1)
        | succ j => exact .inr ⟨i, j, by omega, x, by simpa using h1, by simpa using h2⟩
def nm (u : Unt) (i : Int) : ByteArray := u.pool.getD i.toNat ⟨#[]⟩
def named (i : Ins) : Int × Int :=
  if i.op = 17 ∨ i.op = 18 then (1, 3) else if i.op = 14 ∨ i.op = 24 ∨ i.op = 22 ∨ i.op = 23 ∨ i.op = 25 then (1, 2) else if i.op = 26 then (1, 1) else if i.op = 16 then (2, 2) else if i.op = 12 ∧ (i.a = 2 ∨ i.a = 4) then (2, 2) else (0, 0)
def operand (i : Ins) : Int × Int := if (named i).1 = 1 then (i.a, (named i).2) else if (named i).1 = 2 then (i.b, (named i).2) else (-1, 0)
/-- an instruction's name is a path of so many parts -/
def insOk (u : Unt) (i : Ins) : Bool := !(decide (0 < (operand i).2) && (decide ((operand i).1 ≥ u.pool.length) || decide ((path (nm u (operand i).1) : Int) ≠ (operand i).2)))
def codesOk (u : Unt) : Bool := u.methods.all fun m => m.code.all (insOk u)
def cdup (u : Unt) (c : Cls) : Bool := dup (c.fields.map fun f => nm u f.name)
def dots (x y : ByteArray) : ByteArray := x ++ ⟨#[46]⟩ ++ y
def heads (u : Unt) : List ByteArray := (u.classes.map fun c => nm u c.name) ++ (u.statics.map fun f => nm u f.name) ++ (u.methods.filter fun m => decide (m.cls = -1)).map fun m => nm u m.name
def fulls (u : Unt) : List ByteArray := (u.methods.filter fun m => !decide (m.cls = -1)).map fun m => dots (nm u m.cls) (nm u m.name)
def doubled (u : Unt) : Bool := dup u.pool || u.classes.any (cdup u) || dup (heads u) || dup (fulls u)
/-- an index of the pool -/
def inP (u : Unt) (i : Int) : Prop := 0 ≤ i ∧ i < u.pool.length
structure Plc (u : Unt) : Prop where
  cn : ∀ c ∈ u.classes, inP u c.name
  fn : ∀ c ∈ u.classes, ∀ f ∈ c.fields, inP u f.name
  sn : ∀ f ∈ u.statics, inP u f.name
  mn : ∀ m ∈ u.methods, inP u m.name
  mc : ∀ m ∈ u.methods, m.cls = -1 ∨ inP u m.cls
theorem plc_of {u : Unt} (h : (refs u).all (refOk u.pool.length) = true) : Plc u := by
  have key : ∀ r ∈ refs u, (r.at' = -1 ∧ r.opt = true) ∨ inP u r.at' := fun r hr => by
    have := List.all_eq_true.1 h r hr
    simp only [refOk, Bool.or_eq_true, Bool.and_eq_true, decide_eq_true_eq, Bool.not_eq_true', Bool.or_eq_false_iff, decide_eq_false_iff_not] at this
    rcases this with h | h
    · exact .inl h
    · exact .inr ⟨by omega, by omega⟩
  have one : ∀ i : Int, ⟨i, 1, false⟩ ∈ refs u → inP u i := fun i hi => by
    rcases key _ hi with ⟨_, h⟩ | h
    · cases h
    · exact h
  have mc : ∀ c ∈ u.classes, ∀ r ∈ cref c, r ∈ refs u := fun c hc r hr => List.mem_append_left _ (List.mem_append_left _ (List.mem_flatMap.2 ⟨c, hc, hr⟩))
  have ms : ∀ f ∈ u.statics, ∀ r ∈ fref f, r ∈ refs u := fun c hc r hr => List.mem_append_left _ (List.mem_append_right _ (List.mem_flatMap.2 ⟨c, hc, hr⟩))
  have mm : ∀ m ∈ u.methods, ∀ r ∈ mref m, r ∈ refs u := fun c hc r hr => List.mem_append_right _ (List.mem_flatMap.2 ⟨c, hc, hr⟩)
  refine ⟨fun c hc => one _ (mc c hc _ (by simp [cref])), fun c hc f hf => one _ (mc c hc _ ?_), fun f hf => one _ (ms f hf _ (by simp [fref])), fun m hm => one _ (mm m hm _ (by simp [mref])), fun m hm => ?_⟩
  · simp only [cref, List.mem_append, List.mem_flatMap]
    exact .inr ⟨f, hf, by simp [fref]⟩
  · rcases key ⟨m.cls, 2, true⟩ (mm m hm _ (by simp [mref])) with h | h
    · exact .inl h.1
    · exact .inr h
end Go.Proofs.YtopjmiklpnejmaaGreatDoor
