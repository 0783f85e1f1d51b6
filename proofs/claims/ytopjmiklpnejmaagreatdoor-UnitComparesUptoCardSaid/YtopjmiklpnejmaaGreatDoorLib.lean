/- The data of class files as Lean lists and structures, and how they lie in memory: relations between cells and data that later worlds keep. No program stands here. -/
import Derived.WalkKit
import Derived.WalkLawsBesides
import Derived.WalkSpells
import Derived.Lib.Hide
namespace Go.Proofs.YtopjmiklpnejmaaGreatDoor
open Go.RowKit

theorem cell_lt {w : World} {b o : Nat} {s : Option Nat} {v : Value} (h : w.cell? ⟨b, o, s⟩ = some v) : b < w.heap.size := by
  rcases Nat.lt_or_ge b w.heap.size with h1 | h1
  · exact h1
  · simp [World.cell?, Array.getElem?_eq_none h1] at h
/-- the cells of the blocks in S that are there stay as they are -/
def Kp (S : Nat → Prop) (w w' : World) : Prop := ∀ b o v, S b → w.cell? ⟨b, o, none⟩ = some v → w'.cell? ⟨b, o, none⟩ = some v
def T : Nat → Prop := fun _ => True
theorem Kp.refl (S : Nat → Prop) (w : World) : Kp S w w := fun _ _ _ _ h => h
theorem Kp.trans {S : Nat → Prop} {a b c : World} (h : Kp S a b) (k : Kp S b c) : Kp S a c := fun _ _ _ s x => k _ _ _ s (h _ _ _ s x)
theorem Kp.sub {S S' : Nat → Prop} {a b : World} (h : Kp S a b) (hs : ∀ i, S' i → S i) : Kp S' a b := fun _ _ _ s x => h _ _ _ (hs _ s) x
theorem Kp.cell {S : Nat → Prop} {a b : World} (h : Kp S a b) {i o : Nat} {v : Value} (hs : S i) (hc : a.cell? ⟨i, o, none⟩ = some v) : b.cell? ⟨i, o, none⟩ = some v := h i o v hs hc
/-- nothing that was there has turned -/
abbrev Bl (w w' : World) : Prop := Below w.heap.size w w'
theorem Bl.refl (w : World) : Bl w w := Below.refl _ _
theorem Bl.trans {a b c : World} (h : Bl a b) (k : Bl b c) : Bl a c := Below.trans h (Below.mono k h.size)
theorem Bl.kp {w w' : World} (h : Bl w w') (S : Nat → Prop) : Kp S w w' := fun b o v _ x => by
  rw [Below.cell h (p := ⟨b, o, none⟩) (cell_lt x)]; exact x
theorem Below.kp {B : Nat} {w w' : World} (h : Below B w w') : Kp (· < B) w w' := fun b o v s x => by
  rw [Below.cell h (p := ⟨b, o, none⟩) s]; exact x

/-- the cells from o on in block b are just these -/
def At (w : World) (b o : Nat) (cs : List Value) : Prop := ∀ j v, cs[j]? = some v → w.cell? ⟨b, o + j, none⟩ = some v
theorem At.kp {S : Nat → Prop} {w w' : World} (k : Kp S w w') {b o : Nat} (s : S b) {cs : List Value} (h : At w b o cs) : At w' b o cs := fun j v x => k _ _ _ s (h j v x)
theorem At.bl {w w' : World} (k : Bl w w') {b o : Nat} {cs : List Value} (h : At w b o cs) : At w' b o cs := h.kp (k.kp T) trivial
theorem At.one {w : World} {b o : Nat} {x : Value} (h : At w b o [x]) : w.cell? ⟨b, o, none⟩ = some x := h 0 x rfl
theorem At.two {w : World} {b o : Nat} {x y : Value} (h : At w b o [x, y]) : w.cell? ⟨b, o, none⟩ = some x ∧ w.cell? ⟨b, o + 1, none⟩ = some y := ⟨h 0 x rfl, h 1 y rfl⟩
theorem At.three {w : World} {b o : Nat} {x y z : Value} (h : At w b o [x, y, z]) : w.cell? ⟨b, o, none⟩ = some x ∧ w.cell? ⟨b, o + 1, none⟩ = some y ∧ w.cell? ⟨b, o + 2, none⟩ = some z :=
  ⟨h 0 x rfl, h 1 y rfl, h 2 z rfl⟩
theorem At.five {w : World} {b o : Nat} {x y z u v : Value} (h : At w b o [x, y, z, u, v]) : w.cell? ⟨b, o, none⟩ = some x ∧ w.cell? ⟨b, o + 1, none⟩ = some y ∧ w.cell? ⟨b, o + 2, none⟩ = some z ∧
    w.cell? ⟨b, o + 3, none⟩ = some u ∧ w.cell? ⟨b, o + 4, none⟩ = some v := ⟨h 0 x rfl, h 1 y rfl, h 2 z rfl, h 3 u rfl, h 4 v rfl⟩
theorem At.seven {w : World} {b o : Nat} {x y z u v s t : Value} (h : At w b o [x, y, z, u, v, s, t]) : w.cell? ⟨b, o, none⟩ = some x ∧ w.cell? ⟨b, o + 1, none⟩ = some y ∧ w.cell? ⟨b, o + 2, none⟩ = some z ∧
    w.cell? ⟨b, o + 3, none⟩ = some u ∧ w.cell? ⟨b, o + 4, none⟩ = some v ∧ w.cell? ⟨b, o + 5, none⟩ = some s ∧ w.cell? ⟨b, o + 6, none⟩ = some t :=
  ⟨h 0 x rfl, h 1 y rfl, h 2 z rfl, h 3 u rfl, h 4 v rfl, h 5 s rfl, h 6 t rfl⟩

/-- a relation between a row's cells and a datum, whose memory lies in the blocks of S -/
structure El (α : Type) where
  sz : Nat
  rel : (Nat → Prop) → World → List Value → α → Prop
  len : ∀ {S w cs x}, rel S w cs x → cs.length = sz
  kp : ∀ {S w w' cs x}, Kp S w w' → rel S w cs x → rel S w' cs x
  sub : ∀ {S S' w cs x}, (∀ i, S i → S' i) → rel S w cs x → rel S' w cs x

/-- a slice from address a on reads as the list l -/
structure Sl {α : Type} (E : El α) (S : Nat → Prop) (w : World) (a : Option Addr) (l : List α) : Prop where
  big : l.length ≤ 4194304
  el : ∀ i x, l[i]? = some x → ∃ b o cs, a = some ⟨b, o, none⟩ ∧ S b ∧ At w b (o + i * E.sz) cs ∧ E.rel S w cs x
theorem Sl.kp {α : Type} {E : El α} {S : Nat → Prop} {w w' : World} {a : Option Addr} {l : List α} (h : Sl E S w a l) (k : Kp S w w') : Sl E S w' a l :=
  ⟨h.big, fun i x hx => let ⟨b, o, cs, e, s, c, r⟩ := h.el i x hx; ⟨b, o, cs, e, s, c.kp k s, E.kp k r⟩⟩
theorem Sl.bl {α : Type} {E : El α} {S : Nat → Prop} {w w' : World} {a : Option Addr} {l : List α} (h : Sl E S w a l) (k : Bl w w') : Sl E S w' a l := h.kp (k.kp S)
theorem Sl.sub {α : Type} {E : El α} {S S' : Nat → Prop} {w : World} {a : Option Addr} {l : List α} (h : Sl E S w a l) (k : ∀ i, S i → S' i) : Sl E S' w a l :=
  ⟨h.big, fun i x hx => let ⟨b, o, cs, e, s, c, r⟩ := h.el i x hx; ⟨b, o, cs, e, k _ s, c, E.sub k r⟩⟩
theorem Sl.nil {α : Type} (E : El α) (S : Nat → Prop) (w : World) (a : Option Addr) : Sl E S w a [] := ⟨by simp, fun i x h => by simp at h⟩

/-- elements that are plain cells -/
def plainEl {α : Type} (sz : Nat) (enc : α → List Value) (h : ∀ x, (enc x).length = sz) : El α :=
  { sz := sz, rel := fun _ _ cs x => cs = enc x, len := fun e => by rw [e]; exact h _, kp := fun _ e => e, sub := fun _ e => e }

structure Ty where
  kind : Int
  cls : Int
deriving DecidableEq
structure Fld where
  name : Int
  ty : Ty
deriving DecidableEq
structure Cls where
  name : Int
  super : Int
  fields : List Fld
deriving DecidableEq
structure Ins where
  op : Int
  a : Int
  b : Int
deriving DecidableEq
structure Mth where
  name : Int
  cls : Int
  params : List Ty
  locals : List Ty
  result : Ty
  code : List Ins
deriving DecidableEq
structure Unt where
  name : ByteArray
  pool : List ByteArray
  classes : List Cls
  statics : List Fld
  methods : List Mth

abbrev I (n : Int) : Value := .int .i64 n
abbrev encStr : ByteArray → List Value := fun s => [.string s]
abbrev encInt : Int → List Value := fun n => [I n]
abbrev encBool : Bool → List Value := fun n => [.bool n]
abbrev encTy : Ty → List Value := fun t => [I t.kind, I t.cls]
abbrev encFld : Fld → List Value := fun f => [I f.name, I f.ty.kind, I f.ty.cls]
abbrev encIns : Ins → List Value := fun x => [I x.op, I x.a, I x.b]
def eStr : El ByteArray := plainEl 1 encStr (fun _ => rfl)
def eInt : El Int := plainEl 1 encInt (fun _ => rfl)
def eBool : El Bool := plainEl 1 encBool (fun _ => rfl)
def eTy : El Ty := plainEl 2 encTy (fun _ => rfl)
def eFld : El Fld := plainEl 3 encFld (fun _ => rfl)
def eIns : El Ins := plainEl 3 encIns (fun _ => rfl)
def eCls : El Cls :=
  { sz := 3, rel := fun S w cs c => ∃ a cap, cs = [I c.name, I c.super, .slice a c.fields.length cap] ∧ Sl eFld S w a c.fields
    len := fun ⟨_, _, e, _⟩ => by rw [e]; rfl
    kp := fun k ⟨a, cap, e, h⟩ => ⟨a, cap, e, h.kp k⟩
    sub := fun k ⟨a, cap, e, h⟩ => ⟨a, cap, e, h.sub k⟩ }
def eMth : El Mth :=
  { sz := 7
    rel := fun S w cs m => ∃ a1 c1 a2 c2 a3 c3, cs = [I m.name, I m.cls, .slice a1 m.params.length c1, .slice a2 m.locals.length c2, I m.result.kind, I m.result.cls, .slice a3 m.code.length c3] ∧
      Sl eTy S w a1 m.params ∧ Sl eTy S w a2 m.locals ∧ Sl eIns S w a3 m.code
    len := fun ⟨_, _, _, _, _, _, e, _⟩ => by rw [e]; rfl
    kp := fun k ⟨a1, c1, a2, c2, a3, c3, e, h1, h2, h3⟩ => ⟨a1, c1, a2, c2, a3, c3, e, h1.kp k, h2.kp k, h3.kp k⟩
    sub := fun k ⟨a1, c1, a2, c2, a3, c3, e, h1, h2, h3⟩ => ⟨a1, c1, a2, c2, a3, c3, e, h1.sub k, h2.sub k, h3.sub k⟩ }

/-- where a unit's slices lie -/
structure UA where
  a1 : Option Addr
  c1 : Nat
  a2 : Option Addr
  c2 : Nat
  a3 : Option Addr
  c3 : Nat
  a4 : Option Addr
  c4 : Nat
structure UnR (S : Nat → Prop) (w : World) (u : Unt) (a : UA) : Prop where
  nm : u.name.size ≤ 1048576
  ps : ∀ s ∈ u.pool, s.size ≤ 1048576
  pool : Sl eStr S w a.a1 u.pool
  cls : Sl eCls S w a.a2 u.classes
  sta : Sl eFld S w a.a3 u.statics
  mth : Sl eMth S w a.a4 u.methods
theorem UnR.kp {S : Nat → Prop} {w w' : World} {u : Unt} {a : UA} (h : UnR S w u a) (k : Kp S w w') : UnR S w' u a := ⟨h.nm, h.ps, h.pool.kp k, h.cls.kp k, h.sta.kp k, h.mth.kp k⟩
theorem UnR.bl {S : Nat → Prop} {w w' : World} {u : Unt} {a : UA} (h : UnR S w u a) (k : Bl w w') : UnR S w' u a := h.kp (k.kp S)
theorem UnR.sub {S S' : Nat → Prop} {w : World} {u : Unt} {a : UA} (h : UnR S w u a) (k : ∀ i, S i → S' i) : UnR S' w u a := ⟨h.nm, h.ps, h.pool.sub k, h.cls.sub k, h.sta.sub k, h.mth.sub k⟩
/-- the five cells of a unit -/
def ucells (u : Unt) (a : UA) : List Value := [.string u.name, .slice a.a1 u.pool.length a.c1, .slice a.a2 u.classes.length a.c2, .slice a.a3 u.statics.length a.c3, .slice a.a4 u.methods.length a.c4]

theorem take_succ_some {α : Type} {l : List α} {k : Nat} {x : α} (h : l[k]? = some x) : l.take (k + 1) = l.take k ++ [x] := by
  obtain ⟨hk, e⟩ := List.getElem?_eq_some_iff.1 h
  rw [List.take_succ_eq_append_getElem hk, e]
theorem some_of_lt {α : Type} {l : List α} {k : Nat} (h : k < l.length) : ∃ x, l[k]? = some x := ⟨_, List.getElem?_eq_getElem h⟩

end Go.Proofs.YtopjmiklpnejmaaGreatDoor
