import Derived.Test.YtopjmiklpnejmaaGreatDoorM4
import Derived.Test.YtopjmiklpnejmaaGreatDoorM5
import Derived.Laws.BitsAllLaws
/- Bytes read as a unit: what is read is written so, what is written is read so; a byte changed, or bytes cut off. No program stands here. -/
namespace Go.Proofs.YtopjmiklpnejmaaGreatDoor
open Eng Go.RowKit
/-- the word of four bytes -/
def frm (a b c d : UInt8) : Int :=
  let n : Int := (a.toNat : Int) * 16777216 + (b.toNat : Int) * 65536 + (c.toNat : Int) * 256 + (d.toNat : Int)
  if n < 2147483648 then n else n - 4294967296
theorem byte_eq {x : UInt8} {n : Int} (h : n % 256 = (x.toNat : Int)) : UInt8.ofNat (n % 256).toNat = x := by
  rw [h]; simp
theorem num_frm (a b c d : UInt8) : isWord (frm a b c d) = true ∧ num (frm a b c d) = [a, b, c, d] := by
  have ha : a.toNat < 256 := a.toNat_lt
  have hb : b.toNat < 256 := b.toNat_lt
  have hc : c.toNat < 256 := c.toNat_lt
  have hd : d.toNat < 256 := d.toNat_lt
  have hw : isWord (frm a b c d) = true := by
    unfold isWord frm
    simp only [Bool.and_eq_true, decide_eq_true_eq]
    split <;> omega
  refine ⟨hw, ?_⟩
  unfold num
  rw [if_pos hw]
  have h0 : ∀ (k : Nat) (x : UInt8), (frm a b c d / 2 ^ k) % 256 = (x.toNat : Int) → byteOf (frm a b c d) k = x := fun k x h => byte_eq h
  have e24 : byteOf (frm a b c d) 24 = a := h0 24 a (by unfold frm; dsimp only; split <;> omega)
  have e16 : byteOf (frm a b c d) 16 = b := h0 16 b (by unfold frm; dsimp only; split <;> omega)
  have e8 : byteOf (frm a b c d) 8 = c := h0 8 c (by unfold frm; dsimp only; split <;> omega)
  have e0 : byteOf (frm a b c d) 0 = d := h0 0 d (by unfold frm; dsimp only; split <;> omega)
  rw [e24, e16, e8, e0]
theorem frm_num {n : Int} (h : isWord n = true) : frm (byteOf n 24) (byteOf n 16) (byteOf n 8) (byteOf n 0) = n := by
  have e24 := byteOf_nat n 24
  have e16 := byteOf_nat n 16
  have e8 := byteOf_nat n 8
  have e0 := byteOf_nat n 0
  unfold isWord at h
  simp only [Bool.and_eq_true, decide_eq_true_eq] at h
  unfold frm
  dsimp only
  rw [e24, e16, e8, e0]
  split <;> omega
abbrev Prs (α : Type) := List UInt8 → Option (α × List UInt8)
def rNum : Prs Int
  | a :: b :: c :: d :: r => some (frm a b c d, r)
  | _ => none
def rRep {α : Type} (p : Prs α) : Nat → Prs (List α)
  | 0, l => some ([], l)
  | n + 1, l => (p l).bind fun x => (rRep p n x.2).bind fun y => some (x.1 :: y.1, y.2)
def rList {α : Type} (p : Prs α) : Prs (List α) := fun l => (rNum l).bind fun x => if x.1 < 0 then none else rRep p x.1.toNat x.2
def rTxt : Prs ByteArray := fun l => (rNum l).bind fun x => if x.1 < 0 ∨ (x.2.length : Int) < x.1 then none else some (ofL (x.2.take x.1.toNat), x.2.drop x.1.toNat)
def rTy : Prs Ty := fun l => (rNum l).bind fun x => (rNum x.2).bind fun y => some (⟨x.1, y.1⟩, y.2)
def rFld : Prs Fld := fun l => (rNum l).bind fun x => (rTy x.2).bind fun y => some (⟨x.1, y.1⟩, y.2)
def rCls : Prs Cls := fun l => (rNum l).bind fun x => (rNum x.2).bind fun y => (rList rFld y.2).bind fun z => some (⟨x.1, y.1, z.1⟩, z.2)
def rIns : Prs Ins := fun l => (rNum l).bind fun x => (rNum x.2).bind fun y => (rNum y.2).bind fun z => some (⟨x.1, y.1, z.1⟩, z.2)
def rMth : Prs Mth := fun l => (rNum l).bind fun x => (rNum x.2).bind fun y => (rList rTy y.2).bind fun p => (rList rTy p.2).bind fun q => (rTy q.2).bind fun t => (rList rIns t.2).bind fun c => some (⟨x.1, y.1, p.1, q.1, t.1, c.1⟩, c.2)
def rUnt : Prs Unt := fun l => (rTxt l).bind fun n => (rList rTxt n.2).bind fun p => (rList rCls p.2).bind fun c => (rList rFld c.2).bind fun s => (rList rMth s.2).bind fun m => some (⟨n.1, p.1, c.1, s.1, m.1⟩, m.2)
/-- the unit of bytes of the right form -/
def parse (l : List UInt8) : Option Unt := if l.take 4 = magic then (rUnt (l.drop 4)).bind fun x => (rNum x.2).bind fun y => if y.2 = [] ∧ y.1 = sumB (l.take (l.length - x.2.length)) then some x.1 else none else none
/-- a reader reads just what a writer writes -/
structure Inv {α : Type} (p : Prs α) (o : α → List UInt8) (W : α → Prop) : Prop where
  out : ∀ {l x r}, p l = some (x, r) → l = o x ++ r ∧ W x
  inn : ∀ {x} (r), W x → p (o x ++ r) = some (x, r)
theorem bind_some {α β : Type} {a : Option α} {f : α → Option β} {b : β} (h : a.bind f = some b) : ∃ x, a = some x ∧ f x = some b := by
  cases a with
  | none => cases h
  | some x => exact ⟨x, rfl, h⟩
theorem iNum : Inv rNum num (fun n => isWord n = true) := by
  constructor
  · intro l x r h
    unfold rNum at h
    split at h
    · rename_i a b c d r'
      simp only [Option.some.injEq, Prod.mk.injEq] at h
      obtain ⟨rfl, rfl⟩ := h
      obtain ⟨h1, h2⟩ := num_frm a b c d
      exact ⟨by rw [h2]; rfl, h1⟩
    · cases h
  · intro x r h
    unfold num
    rw [if_pos h]
    show some (frm _ _ _ _, r) = _
    rw [frm_num h]
theorem iRep {α : Type} {p : Prs α} {o : α → List UInt8} {W : α → Prop} (h : Inv p o W) : ∀ n, (∀ {l x r}, rRep p n l = some (x, r) → l = x.flatMap o ++ r ∧ x.length = n ∧ ∀ y ∈ x, W y) ∧ (∀ {x : List α} (r), x.length = n → (∀ y ∈ x, W y) → rRep p n (x.flatMap o ++ r) = some (x, r))
  | 0 => by
    constructor
    · intro l x r e
      simp only [rRep, Option.some.injEq, Prod.mk.injEq] at e
      obtain ⟨rfl, rfl⟩ := e
      exact ⟨rfl, rfl, by simp⟩
    · intro x r e _
      obtain rfl := List.eq_nil_of_length_eq_zero e
      rfl
  | n + 1 => by
    obtain ⟨h1, h2⟩ := iRep h n
    constructor
    · intro l x r e
      simp only [rRep] at e
      obtain ⟨⟨y, l2⟩, e1, e⟩ := bind_some e
      obtain ⟨⟨ys, l3⟩, e2, e⟩ := bind_some e
      simp only [Option.some.injEq, Prod.mk.injEq] at e
      obtain ⟨rfl, rfl⟩ := e
      obtain ⟨q1, q2⟩ := h.out e1
      obtain ⟨q3, q4, q5⟩ := h1 e2
      dsimp only at q3
      refine ⟨by rw [q1, q3]; simp, by simp [q4], fun z hz => ?_⟩
      rcases List.mem_cons.1 hz with rfl | hz
      · exact q2
      · exact q5 z hz
    · intro x r e hW
      cases x with
      | nil => cases e
      | cons y ys =>
        simp only [rRep, List.flatMap_cons, List.append_assoc]
        rw [h.inn _ (hW y (List.mem_cons_self ..))]
        simp only [Option.bind_some]
        rw [h2 r (by simpa using e) fun z hz => hW z (List.mem_cons_of_mem _ hz)]
        rfl
theorem iList {α : Type} {p : Prs α} {o : α → List UInt8} {W : α → Prop} (h : Inv p o W) : Inv (rList p) (oList o) (fun l => isWord l.length = true ∧ ∀ y ∈ l, W y) := by
  constructor
  · intro l x r e
    obtain ⟨⟨n, l2⟩, e1, e⟩ := bind_some e
    obtain ⟨q1, q2⟩ := iNum.out e1
    dsimp only at e
    split at e
    · cases e
    · rename_i hn
      obtain ⟨q3, q4, q5⟩ := (iRep h _).1 e
      have en : ((x.length : Nat) : Int) = n := by rw [q4]; exact Int.toNat_of_nonneg (by omega)
      refine ⟨?_, by rw [en]; exact q2, q5⟩
      unfold oList
      rw [en, q1, q3, List.append_assoc]
  · intro x r hW
    unfold oList rList
    rw [List.append_assoc, iNum.inn _ hW.1]
    simp only [Option.bind_some]
    rw [if_neg (by omega)]
    exact (iRep h _).2 r (by simp) hW.2
theorem iTxt : Inv rTxt oTxt (fun s => isWord s.size = true) := by
  constructor
  · intro l x r e
    obtain ⟨⟨n, l2⟩, e1, e⟩ := bind_some e
    obtain ⟨q1, q2⟩ := iNum.out e1
    dsimp only at e
    split at e
    · cases e
    · rename_i hn
      simp only [Option.some.injEq, Prod.mk.injEq] at e
      obtain ⟨rfl, rfl⟩ := e
      have en : ((ofL (l2.take n.toNat)).size : Int) = n := by rw [ofL_size, List.length_take]; omega
      refine ⟨?_, by rw [en]; exact q2⟩
      unfold oTxt
      rw [en, q1, List.append_assoc]
      congr 1
      rw [show toL (ofL (l2.take n.toNat)) = l2.take n.toNat from toL_ofL _, List.take_append_drop]
  · intro x r hW
    unfold oTxt rTxt
    rw [List.append_assoc, iNum.inn _ hW]
    simp only [Option.bind_some]
    have hl : (toL x).length = x.size := ba_len x
    rw [if_neg (by rw [List.length_append, hl]; omega)]
    rw [show ((x.size : Nat) : Int).toNat = x.size from rfl, ← hl, List.take_left, List.drop_left]
    rw [show ofL (toL x) = x from ofL_toL x]
def wTy (t : Ty) : Prop := isWord t.kind = true ∧ isWord t.cls = true
def wFld (f : Fld) : Prop := isWord f.name = true ∧ wTy f.ty
def wCls (c : Cls) : Prop := isWord c.name = true ∧ isWord c.super = true ∧ isWord c.fields.length = true ∧ ∀ f ∈ c.fields, wFld f
def wIns (i : Ins) : Prop := isWord i.op = true ∧ isWord i.a = true ∧ isWord i.b = true
def wMth (m : Mth) : Prop := isWord m.name = true ∧ isWord m.cls = true ∧ (isWord m.params.length = true ∧ ∀ t ∈ m.params, wTy t) ∧ (isWord m.locals.length = true ∧ ∀ t ∈ m.locals, wTy t) ∧ wTy m.result ∧ isWord m.code.length = true ∧ ∀ i ∈ m.code, wIns i
def wUnt (u : Unt) : Prop := isWord u.name.size = true ∧ (isWord u.pool.length = true ∧ ∀ s ∈ u.pool, isWord s.size = true) ∧ (isWord u.classes.length = true ∧ ∀ c ∈ u.classes, wCls c) ∧ (isWord u.statics.length = true ∧ ∀ f ∈ u.statics, wFld f) ∧ isWord u.methods.length = true ∧ ∀ m ∈ u.methods, wMth m
theorem iTy : Inv rTy oTy wTy := by
  constructor
  · intro l x r e
    obtain ⟨⟨a, l2⟩, e1, e⟩ := bind_some e
    obtain ⟨⟨b, l3⟩, e2, e⟩ := bind_some e
    simp only [Option.some.injEq, Prod.mk.injEq] at e
    obtain ⟨rfl, rfl⟩ := e
    obtain ⟨q1, q2⟩ := iNum.out e1
    obtain ⟨q3, q4⟩ := iNum.out e2
    dsimp only at q3
    exact ⟨by unfold oTy; rw [q1, q3, List.append_assoc], q2, q4⟩
  · rintro ⟨a, b⟩ r ⟨h1, h2⟩
    unfold oTy rTy
    rw [List.append_assoc, iNum.inn _ h1]; simp only [Option.bind_some]
    rw [iNum.inn _ h2]; rfl
theorem iFld : Inv rFld oFld wFld := by
  constructor
  · intro l x r e
    obtain ⟨⟨a, l2⟩, e1, e⟩ := bind_some e
    obtain ⟨⟨b, l3⟩, e2, e⟩ := bind_some e
    simp only [Option.some.injEq, Prod.mk.injEq] at e
    obtain ⟨rfl, rfl⟩ := e
    obtain ⟨q1, q2⟩ := iNum.out e1
    obtain ⟨q3, q4⟩ := iTy.out e2
    dsimp only at q3
    exact ⟨by unfold oFld; rw [q1, q3, List.append_assoc], q2, q4⟩
  · rintro ⟨a, b⟩ r ⟨h1, h2⟩
    unfold oFld rFld
    rw [List.append_assoc, iNum.inn _ h1]; simp only [Option.bind_some]
    rw [iTy.inn _ h2]; rfl
theorem iIns : Inv rIns oIns wIns := by
  constructor
  · intro l x r e
    obtain ⟨⟨a, l2⟩, e1, e⟩ := bind_some e
    obtain ⟨⟨b, l3⟩, e2, e⟩ := bind_some e
    obtain ⟨⟨c, l4⟩, e3, e⟩ := bind_some e
    simp only [Option.some.injEq, Prod.mk.injEq] at e
    obtain ⟨rfl, rfl⟩ := e
    obtain ⟨q1, q2⟩ := iNum.out e1
    obtain ⟨q3, q4⟩ := iNum.out e2
    obtain ⟨q5, q6⟩ := iNum.out e3
    dsimp only at q3 q5
    exact ⟨by unfold oIns; rw [q1, q3, q5, List.append_assoc, List.append_assoc], q2, q4, q6⟩
  · rintro ⟨a, b, c⟩ r ⟨h1, h2, h3⟩
    unfold oIns rIns
    rw [List.append_assoc, List.append_assoc, iNum.inn _ h1]; simp only [Option.bind_some]
    rw [iNum.inn _ h2]; simp only [Option.bind_some]
    rw [iNum.inn _ h3]; rfl
theorem iCls : Inv rCls oCls wCls := by
  constructor
  · intro l x r e
    obtain ⟨⟨a, l2⟩, e1, e⟩ := bind_some e
    obtain ⟨⟨b, l3⟩, e2, e⟩ := bind_some e
    obtain ⟨⟨c, l4⟩, e3, e⟩ := bind_some e
    simp only [Option.some.injEq, Prod.mk.injEq] at e
    obtain ⟨rfl, rfl⟩ := e
    obtain ⟨q1, q2⟩ := iNum.out e1
    obtain ⟨q3, q4⟩ := iNum.out e2
    obtain ⟨q5, q6⟩ := (iList iFld).out e3
    dsimp only at q3 q5
    exact ⟨by unfold oCls; rw [q1, q3, q5, List.append_assoc, List.append_assoc], q2, q4, q6⟩
  · rintro ⟨a, b, c⟩ r ⟨h1, h2, h3⟩
    unfold oCls rCls
    rw [List.append_assoc, List.append_assoc, iNum.inn _ h1]; simp only [Option.bind_some]
    rw [iNum.inn _ h2]; simp only [Option.bind_some]
    rw [(iList iFld).inn _ h3]; rfl
theorem iMth : Inv rMth oMth wMth := by
  constructor
  · intro l x r e
    obtain ⟨⟨a, l2⟩, e1, e⟩ := bind_some e
    obtain ⟨⟨b, l3⟩, e2, e⟩ := bind_some e
    obtain ⟨⟨c, l4⟩, e3, e⟩ := bind_some e
    obtain ⟨⟨d, l5⟩, e4, e⟩ := bind_some e
    obtain ⟨⟨t, l6⟩, e5, e⟩ := bind_some e
    obtain ⟨⟨k, l7⟩, e6, e⟩ := bind_some e
    simp only [Option.some.injEq, Prod.mk.injEq] at e
    obtain ⟨rfl, rfl⟩ := e
    obtain ⟨q1, p1⟩ := iNum.out e1
    obtain ⟨q2, p2⟩ := iNum.out e2
    obtain ⟨q3, p3⟩ := (iList iTy).out e3
    obtain ⟨q4, p4⟩ := (iList iTy).out e4
    obtain ⟨q5, p5⟩ := iTy.out e5
    obtain ⟨q6, p6⟩ := (iList iIns).out e6
    dsimp only at q2 q3 q4 q5 q6
    exact ⟨by unfold oMth; rw [q1, q2, q3, q4, q5, q6]; simp only [List.append_assoc], p1, p2, p3, p4, p5, p6⟩
  · rintro ⟨a, b, c, d, t, k⟩ r ⟨h1, h2, h3, h4, h5, h6⟩
    unfold oMth rMth
    simp only [List.append_assoc]
    rw [iNum.inn _ h1]; simp only [Option.bind_some]
    rw [iNum.inn _ h2]; simp only [Option.bind_some]
    rw [(iList iTy).inn _ h3]; simp only [Option.bind_some]
    rw [(iList iTy).inn _ h4]; simp only [Option.bind_some]
    rw [iTy.inn _ h5]; simp only [Option.bind_some]
    rw [(iList iIns).inn _ h6]; rfl
def oUnt (u : Unt) : List UInt8 := oTxt u.name ++ oList oTxt u.pool ++ oList oCls u.classes ++ oList oFld u.statics ++ oList oMth u.methods
theorem body_unt (u : Unt) : body u = magic ++ oUnt u := by unfold body oUnt; simp only [List.append_assoc]
theorem iUnt : Inv rUnt oUnt wUnt := by
  constructor
  · intro l x r e
    obtain ⟨⟨a, l2⟩, e1, e⟩ := bind_some e
    obtain ⟨⟨b, l3⟩, e2, e⟩ := bind_some e
    obtain ⟨⟨c, l4⟩, e3, e⟩ := bind_some e
    obtain ⟨⟨d, l5⟩, e4, e⟩ := bind_some e
    obtain ⟨⟨t, l6⟩, e5, e⟩ := bind_some e
    simp only [Option.some.injEq, Prod.mk.injEq] at e
    obtain ⟨rfl, rfl⟩ := e
    obtain ⟨q1, p1⟩ := iTxt.out e1
    obtain ⟨q2, p2⟩ := (iList iTxt).out e2
    obtain ⟨q3, p3⟩ := (iList iCls).out e3
    obtain ⟨q4, p4⟩ := (iList iFld).out e4
    obtain ⟨q5, p5⟩ := (iList iMth).out e5
    dsimp only at q2 q3 q4 q5
    exact ⟨by unfold oUnt; rw [q1, q2, q3, q4, q5]; simp only [List.append_assoc], p1, p2, p3, p4, p5⟩
  · rintro ⟨a, b, c, d, t⟩ r ⟨h1, h2, h3, h4, h5⟩
    unfold oUnt rUnt
    simp only [List.append_assoc]
    rw [iTxt.inn _ h1]; simp only [Option.bind_some]
    rw [(iList iTxt).inn _ h2]; simp only [Option.bind_some]
    rw [(iList iCls).inn _ h3]; simp only [Option.bind_some]
    rw [(iList iFld).inn _ h4]; simp only [Option.bind_some]
    rw [(iList iMth).inn _ h5]; rfl
theorem sum_word (l : List UInt8) : isWord (sumB l) = true := by have := sumB_range l; unfold isWord; simp; omega
theorem parse_out {l : List UInt8} {u : Unt} (h : parse l = some u) : l = enc u ∧ wUnt u := by
  unfold parse at h
  split at h
  · rename_i hm
    obtain ⟨⟨x, r⟩, e1, h⟩ := bind_some h
    obtain ⟨⟨s, r2⟩, e2, h⟩ := bind_some h
    dsimp only at h
    split at h
    · rename_i hc
      obtain ⟨rfl, hs⟩ := hc
      simp only [Option.some.injEq] at h
      subst h
      obtain ⟨q1, q2⟩ := iUnt.out e1
      obtain ⟨q3, q4⟩ := iNum.out e2
      dsimp only at q3
      rw [List.append_nil] at q3
      have el : l = body x ++ r := by
        conv => lhs; rw [← List.take_append_drop 4 l, hm, q1]
        rw [body_unt, List.append_assoc]
      refine ⟨?_, q2⟩
      have : l.take (l.length - r.length) = body x := by rw [el, List.length_append, Nat.add_sub_cancel, List.take_left]
      rw [this] at hs
      rw [el, q3, hs]; rfl
    · cases h
  · cases h
theorem parse_inn {u : Unt} (h : wUnt u) : parse (enc u) = some u := by
  have e0 : enc u = magic ++ (oUnt u ++ num (sumB (body u))) := by unfold enc; rw [body_unt, List.append_assoc]
  have e4 : (enc u).take 4 = magic := by rw [e0]; rfl
  have e5 : (enc u).drop 4 = oUnt u ++ num (sumB (body u)) := by rw [e0]; rfl
  unfold parse
  rw [if_pos e4, e5, iUnt.inn _ h]
  simp only [Option.bind_some]
  have := iNum.inn (x := sumB (body u)) [] (sum_word _)
  rw [List.append_nil] at this
  rw [this]
  simp only [Option.bind_some]
  have e6 : (enc u).take ((enc u).length - (num (sumB (body u))).length) = body u := by
    unfold enc; rw [List.length_append, Nat.add_sub_cancel, List.take_left]
  rw [e6]; simp
end Go.Proofs.YtopjmiklpnejmaaGreatDoor
/- Guards: a byte changed, bytes cut off; and the numbers of a unit that passes Check are words. -/
namespace Go.Proofs.YtopjmiklpnejmaaGreatDoor
open Eng Go.RowKit
theorem sumN_inj {s t : Int} (hs : 0 ≤ s ∧ s < 65521) (ht : 0 ≤ t ∧ t < 65521) {c : UInt8} (h : sumN s c = sumN t c) : s = t := by
  unfold sumN at h; omega
theorem fold_inj : ∀ (l : List UInt8) {s t : Int}, 0 ≤ s ∧ s < 65521 → 0 ≤ t ∧ t < 65521 → l.foldl sumN s = l.foldl sumN t → s = t
  | [], _, _, _, _, h => h
  | c :: l, s, t, hs, ht, h => sumN_inj hs ht (fold_inj l (sumN_range s c) (sumN_range t c) h)
theorem sum_set {l : List UInt8} {k : Nat} {a b : UInt8} (h : l[k]? = some a) (e : sumB (l.set k b) = sumB l) : b = a := by
  obtain ⟨hk, rfl⟩ := List.getElem?_eq_some_iff.1 h
  have e1 : l = l.take k ++ l[k] :: l.drop (k + 1) := by rw [← List.drop_eq_getElem_cons hk, List.take_append_drop]
  have e2 : l.set k b = l.take k ++ b :: l.drop (k + 1) := List.set_eq_take_append_cons_drop .. |>.trans (if_pos hk)
  rw [e2] at e
  conv at e => rhs; rw [e1]
  unfold sumB at e
  rw [List.foldl_append, List.foldl_append, List.foldl_cons, List.foldl_cons] at e
  have h2 := fold_inj _ (sumN_range _ _) (sumN_range _ _) e
  have hr := sumB_range (l.take k)
  unfold sumB at hr
  unfold sumN at h2
  have ha : b.toNat < 256 := b.toNat_lt
  have hb : l[k].toNat < 256 := l[k].toNat_lt
  have : b.toNat = l[k].toNat := by omega
  exact UInt8.toNat_inj.1 this
theorem num_inj {a b : Int} (ha : isWord a = true) (hb : isWord b = true) (h : num a = num b) : a = b := by
  have h1 := iNum.inn [] ha
  have h2 := iNum.inn [] hb
  rw [h, h2] at h1
  simp only [Option.some.injEq, Prod.mk.injEq, and_true] at h1
  exact h1.symm
theorem cut_bad {u : Unt} (hw : wUnt u) {n : Nat} (hn : n < (enc u).length) : parse ((enc u).take n) = none := by
  cases hp : parse ((enc u).take n) with
  | none => rfl
  | some v =>
    exfalso
    obtain ⟨e, hv⟩ := parse_out hp
    have e2 : enc u = enc v ++ (enc u).drop n := by rw [← e, List.take_append_drop]
    have hd : (enc u).drop n ≠ [] := fun q => by
      have := congrArg List.length q
      rw [List.length_drop, List.length_nil] at this
      omega
    revert e2 hd
    generalize (enc u).drop n = t
    intro e2 hd
    unfold enc at e2
    rw [body_unt, body_unt, List.append_assoc, List.append_assoc, List.append_assoc] at e2
    have e3 := List.append_cancel_left e2
    have h1 := iUnt.inn (num (sumB (body u))) hw
    have h2 := iUnt.inn (num (sumB (body v)) ++ t) hv
    rw [body_unt] at h1
    rw [body_unt] at h2
    rw [e3, h2] at h1
    simp only [Option.some.injEq, Prod.mk.injEq] at h1
    have h3 := congrArg List.length h1.2
    rw [List.length_append, num_word (sum_word _), num_word (sum_word _)] at h3
    exact hd (List.eq_nil_of_length_eq_zero (by omega))
theorem flip_bad {u : Unt} {k : Nat} {a b : UInt8} (hk : (enc u)[k]? = some a) (hne : b ≠ a) : parse ((enc u).set k b) = none := by
  cases hp : parse ((enc u).set k b) with
  | none => rfl
  | some v =>
    exfalso
    obtain ⟨e, hv⟩ := parse_out hp
    have hl := congrArg List.length e
    rw [List.length_set] at hl
    unfold enc at hl
    rw [List.length_append, List.length_append, num_word (sum_word _), num_word (sum_word _)] at hl
    have hl : (body u).length = (body v).length := by omega
    unfold enc at e hk
    rcases Nat.lt_or_ge k (body u).length with q | q
    · rw [List.set_append_left _ _ q] at e
      obtain ⟨e1, e2⟩ := List.append_inj e (by rw [List.length_set]; exact hl)
      rw [List.getElem?_append_left q] at hk
      have := num_inj (sum_word _) (sum_word _) e2
      rw [← e1] at this
      exact hne (sum_set hk this.symm)
    · rw [List.set_append_right _ _ q] at e
      obtain ⟨e1, e2⟩ := List.append_inj e hl
      rw [← e1] at e2
      rw [List.getElem?_append_right q] at hk
      have h3 := congrArg (fun l : List UInt8 => l[k - (body u).length]?) e2
      have hlt := (List.getElem?_eq_some_iff.1 hk).1
      simp only [List.getElem?_set_self hlt] at h3
      rw [hk] at h3
      exact hne (Option.some.inj h3)
theorem word_small {n : Int} (h : -1 ≤ n) (h2 : n ≤ 1048576) : isWord n = true := by unfold isWord; simp; omega
theorem inR_word {n : Int} {r : Nat} {p : Bool} (h : inR n r p = true) : isWord n = true := by
  have hm : mosts.getD r 0 ≤ 50 := by
    rcases Nat.lt_or_ge r 15 with q | q
    · have : ∀ r, r < 15 → mosts.getD r 0 ≤ 50 := by decide
      exact this r q
    · rw [List.getD_eq_getElem?_getD, List.getElem?_eq_none (by exact q)]; decide
  unfold inR at h
  unfold isWord
  split at h
  · exact h
  · split at h
    · simp only [Bool.and_eq_true, decide_eq_true_eq] at h ⊢; omega
    · split at h
      · simp only [Bool.and_eq_true, decide_eq_true_eq] at h ⊢; omega
      · split at h
        · simp only [Bool.and_eq_true, decide_eq_true_eq] at h ⊢; omega
        · simp only [Bool.and_eq_true, decide_eq_true_eq] at h ⊢; omega
theorem valid_words {i : Ins} {p : Bool} (h : validI i p = true) : wIns i := by
  unfold validI at h
  simp only [Bool.and_eq_true, decide_eq_true_eq] at h
  obtain ⟨⟨⟨⟨h1, h2⟩, h3⟩, h4⟩, _⟩ := h
  exact ⟨word_small (by omega) (by omega), inR_word h3, inR_word h4⟩
theorem code_valid' {u : Unt} (hC : CkU u) {m : Mth} (hm : m ∈ u.methods) {i : Ins} (hi : i ∈ m.code) : validI i true = true := by
  have h1 := mErr_zero hC.me m hm
  unfold codeE at h1
  split at h1
  · cases h1
  · split at h1
    · rename_i hv; exact List.all_eq_true.1 hv i hi
    · cases h1
/-- a unit that passes Check has words only -/
theorem chk_words {u : Unt} (h : checkE u = 0) : wUnt u := by
  have k := chk_ok h
  have hC := (ckU_iff u).1 h
  have hL := k.lim
  have hp := hL.pool
  have wl : ∀ n : Nat, n ≤ 1048576 → isWord (n : Int) = true := fun n hn => word_small (by omega) (by omega)
  have wr : ∀ r ∈ refs u, isWord r.at' = true := fun r hr => by
    rcases ref_in hC hr with ⟨q, _⟩ | ⟨q1, q2, _⟩
    · exact word_small (by omega) (by omega)
    · exact word_small (by omega) (by omega)
  have hkd := hC.kd
  unfold kinds at hkd
  simp only [Bool.and_eq_true, List.all_eq_true] at hkd
  obtain ⟨⟨k1, k2⟩, k3⟩ := hkd
  have hcl := hC.cl
  unfold classless at hcl
  simp only [Bool.and_eq_true, List.all_eq_true] at hcl
  obtain ⟨⟨b1, b2⟩, b3⟩ := hcl
  have kw : ∀ t : Ty, kin t = true → isWord t.kind = true := fun t ht => by unfold kin at ht; simp at ht; exact word_small (by omega) (by omega)
  have kw0 : ∀ t : Ty, kout t = true → isWord t.kind = true := fun t ht => by unfold kout at ht; simp at ht; exact word_small (by omega) (by omega)
  have wf : ∀ f : Fld, (∀ r ∈ fref f, r ∈ refs u) → kin f.ty = true → wFld f := fun f hf hk => ⟨wr _ (hf ⟨f.name, 1, false⟩ (by simp [fref])), kw _ hk, by have := wr _ (hf (typed f.ty) (by simp [fref])); exact this⟩
  refine ⟨?_, ⟨wl _ (by omega), fun s hs => wl _ (by have := path_size (k.ps s hs); omega)⟩, ⟨wl _ (by have := hL.cls; omega), fun c hc => ?_⟩, ⟨wl _ (by have := hL.sta; omega), fun f hf => wf f (fun r hr => List.mem_append_left _ (List.mem_append_right _ (List.mem_flatMap.2 ⟨f, hf, hr⟩))) (k2 f hf)⟩, wl _ (by have := hL.mth; omega), fun m hm => ?_⟩
  · have := simpleL_len (l := u.name.data.toList) k.nm
    rw [ba_len] at this
    exact wl _ (by omega)
  · have hr : ∀ r ∈ cref c, r ∈ refs u := fun r hr => List.mem_append_left _ (List.mem_append_left _ (List.mem_flatMap.2 ⟨c, hc, hr⟩))
    have hk := k1 c hc
    unfold kcls at hk
    rw [List.all_eq_true] at hk
    refine ⟨wr _ (hr ⟨c.name, 1, false⟩ (by simp [cref])), wr _ (hr ⟨c.super, 2, true⟩ (by simp [cref])), wl _ (by have := hL.flds c hc; omega), fun f hf => wf f (fun r h => hr r (List.mem_append_right _ (List.mem_flatMap.2 ⟨f, hf, h⟩))) (hk f hf)⟩
  · have hr : ∀ r ∈ mref m, r ∈ refs u := fun r hr => List.mem_append_right _ (List.mem_flatMap.2 ⟨m, hm, hr⟩)
    have hk := k3 m hm
    unfold kmth at hk
    simp only [Bool.and_eq_true, List.all_eq_true] at hk
    have hlo := hL.locs m hm
    have hcd : m.code.length ≤ 120 := by
      have := k.cod m hm
      unfold codeE at this
      split at this
      · cases this
      · omega
    refine ⟨wr _ (hr ⟨m.name, 1, false⟩ (by simp [mref])), wr _ (hr ⟨m.cls, 2, true⟩ (by simp [mref])), ⟨wl _ (by omega), fun t ht => ⟨?_, ?_⟩⟩, ⟨wl _ (by omega), fun t ht => ⟨?_, ?_⟩⟩, ⟨?_, ?_⟩, wl _ (by omega), fun i hi => valid_words (code_valid' hC hm hi)⟩
    · exact kw t (hk.1.1 t ht)
    · exact wr _ (hr (typed t) (by simp only [mref, List.mem_append, List.mem_map]; exact .inl (.inl (.inr ⟨t, ht, rfl⟩))))
    · exact kw t (hk.1.2 t ht)
    · exact wr _ (hr (typed t) (by simp only [mref, List.mem_append, List.mem_map]; exact .inl (.inr ⟨t, ht, rfl⟩)))
    · exact kw0 _ hk.2
    · exact wr _ (hr (typed m.result) (by simp [mref]))
end Go.Proofs.YtopjmiklpnejmaaGreatDoor

/- Walks: the program's reader of bytes: bytes taken, a number, a text. -/
namespace Go.Proofs.YtopjmiklpnejmaaGreatDoor
open Eng Go.RowKit
theorem slB_take {S : Nat → Prop} {w : World} {a : Option Addr} {l : List UInt8} (h : Sl eB S w a l) (n : Nat) : Sl eB S w a (l.take n) := by
  refine ⟨by have := h.big; rw [List.length_take]; omega, fun i x hx => ?_⟩
  rw [List.getElem?_take] at hx
  split at hx
  · exact h.el i x hx
  · cases hx
theorem slB_drop {S : Nat → Prop} {w : World} {a : Option Addr} {l : List UInt8} (h : Sl eB S w a l) (n : Nat) : Sl eB S w (a.map (·.add n)) (l.drop n) := by
  refine ⟨by have := h.big; rw [List.length_drop]; omega, fun i x hx => ?_⟩
  rw [List.getElem?_drop] at hx
  obtain ⟨b, o, cs, rfl, hb, hA, hr⟩ := h.el (n + i) x hx
  refine ⟨b, o + n, cs, by simp [add_none], hb, ?_, hr⟩
  have e : o + (n + i) * eB.sz = o + n + i * eB.sz := by show o + (n + i) * 1 = o + n + i * 1; omega
  rw [e] at hA; exact hA
theorem slB_if {S : Nat → Prop} {w : World} {a : Option Addr} {l : List UInt8} {c n : Nat} (h : Sl eB S w a l) (hc : l.length ≤ c) : Sl eB S w (if c = n then a else a.map (·.add (n * 1))) (l.drop n) := by
  split
  · rename_i e
    have : l.drop n = [] := List.drop_eq_nil_of_le (by omega)
    rw [this]; exact Sl.nil ..
  · rw [Nat.mul_one]; exact slB_drop h n
/-- the cells of bytes that lie in memory -/
theorem slB_at {S : Nat → Prop} {w : World} {a : Option Addr} {l : List UInt8} (h : Sl eB S w a l) (hne : l ≠ []) : ∃ b o, a = some ⟨b, o, none⟩ ∧ S b ∧ At w b o (bC l) := by
  obtain ⟨x, l', rfl⟩ := List.exists_cons_of_ne_nil hne
  obtain ⟨b, o, cs, rfl, hb, _, _⟩ := h.el 0 x rfl
  refine ⟨b, o, rfl, hb, fun j v hj => ?_⟩
  have hlt : j < (x :: l').length := by rw [← bC_length]; exact (List.getElem?_eq_some_iff.1 hj).1
  obtain ⟨y, hy⟩ := some_of_lt hlt
  obtain ⟨b2, o2, cs2, e, hb2, hA, rfl⟩ := h.el j y hy
  simp only [Option.some.injEq, Addr.mk.injEq, and_true] at e
  obtain ⟨rfl, rfl⟩ := e
  have hv : v = .int .u8 (y.toNat : Int) := by
    have := flat_get (sz := 1) (enc := encB) (fun _ => rfl) hy 0 (by decide)
    rw [Nat.mul_one, Nat.add_zero] at this
    have e2 : (bC (x :: l'))[j]? = (encB y)[0]? := this
    rw [e2] at hj
    exact (Option.some.inj hj).symm
  subst hv
  have := hA 0 _ rfl
  rw [Nat.add_zero, show j * eB.sz = j from Nat.mul_one j] at this
  exact this
section
variable {C : Cx} {s : St} {w : World}
/-- no bytes as a string -/
theorem cbn {md : Option Md} {ops : Array Oper} {T U : TypeId} {x : Operand} {d : Nat} {ty : TypeId} {pos : String} {af : Array Edge} {g : Option (Nat × Bool)} {rest : List Oper} {k : List Item} {l : Env} {c : CEnv} {cap n : Nat}
    (h : Wk C (.reg md ops rest k ((d, .string ⟨#[]⟩) :: l) c) w)
    (hs : adv C.tab C.n C.ks 400 s = .opn md ops ⟨some d, .convert T U x, ty, pos, af, g⟩ rest k l c [] := by rfl) (hx : evc l c [] x = some (.slice none n cap) := by rfl) (hT : C.P.underlying T = some (.slice 5) := by kernel_rfl) (hU : C.P.underlying U = some .string := by kernel_rfl) (he : C.P.underlying 5 = some (.int .u8) := by kernel_rfl) (hf : fresh d l c [] = true := by rfl) : Wk C s w := by
  refine rd (p := []) (fun _ _ hA hp w' hm => ?_) h hs rfl hf (okR_no rfl)
  simp only [execOp, evc_ok hA.k hA.kc.c hp hx]
  refine (run_bind_ok (P := C.P) (x := .string ⟨#[]⟩) (w' := w') ?_).trans rfl
  rw [run_convert_bytes_string w' T U 5 _ _ _ hT he hU]
  rfl
/-- bytes as a string, some or none -/
theorem cbl {md : Option Md} {ops : Array Oper} {T U : TypeId} {x : Operand} {d : Nat} {ty : TypeId} {pos : String} {af : Array Edge} {g : Option (Nat × Bool)} {rest : List Oper} {k : List Item} {l : Env} {c : CEnv} {a : Option Addr} {cap n : Nat} {bs : List UInt8} {S : Nat → Prop} (hS : Sl eB S w a bs) (hn : n = bs.length) (hmd : ∀ b, mdB md b)
    (h : Wk C (.reg md ops rest k ((d, .string (ofL bs)) :: l) c) w)
    (hs : adv C.tab C.n C.ks 400 s = .opn md ops ⟨some d, .convert T U x, ty, pos, af, g⟩ rest k l c [] := by rfl) (hx : evc l c [] x = some (.slice a n cap) := by rfl) (hT : C.P.underlying T = some (.slice 5) := by kernel_rfl) (hU : C.P.underlying U = some .string := by kernel_rfl) (he : C.P.underlying 5 = some (.int .u8) := by kernel_rfl) (hf : fresh d l c [] = true := by rfl) : Wk C s w := by
  by_cases hne : bs = []
  · subst hne
    subst hn
    cases a with
    | none => exact cbn h hs hx hT hU he hf
    | some ad =>
      refine rd (p := []) (fun _ _ hA hp w' hm => ?_) h hs rfl hf (okR_no rfl)
      simp only [execOp, evc_ok hA.k hA.kc.c hp hx]
      refine (run_bind_ok (P := C.P) (x := .string ⟨#[]⟩) (w' := w') ?_).trans rfl
      rw [run_convert_bytes_string w' T U 5 _ _ _ hT he hU]
      rfl
  · obtain ⟨b, o, rfl, _, hat⟩ := slB_at hS hne
    exact cbs hat hn (hmd b) h hs hx hT hU he hf
end
/-- the reader's state: the bytes that are left, or: they are not of the form -/
def RdS (w : World) (br B : Nat) : Option (List UInt8) → Prop
  | some l => ∃ a c, Box w br 103 [.slice a l.length c, .bool false] ∧ Sl eB (· < B) w a l ∧ l.length ≤ c
  | none => ∃ a n c, Box w br 103 [.slice a n c, .bool true]
theorem RdS.lt {w : World} {br B : Nat} {o : Option (List UInt8)} (h : RdS w br B o) : br < w.heap.size := by
  cases o with
  | none => obtain ⟨_, _, _, h⟩ := h; exact h.lt
  | some l => obtain ⟨_, _, h, _⟩ := h; exact h.lt
theorem RdS.ap {w w' : World} {br B : Nat} {o : Option (List UInt8)} (h : RdS w br B o) {a : Option Addr} (k : Ap w a w') (hB : B ≤ br) (ha : ∀ g, a = some ⟨g, 0, none⟩ → br < g) : RdS w' br B o := by
  cases o with
  | none => obtain ⟨x, n, c, h⟩ := h; exact ⟨x, n, c, k.box h fun e => by have := ha _ e; omega⟩
  | some l =>
    obtain ⟨x, c, h, hS, hc⟩ := h
    exact ⟨x, c, k.box h fun e => by have := ha _ e; omega, hS.kp (k.kp.sub fun i hi e => by have := ha _ e; omega), hc⟩
theorem RdS.bl {w w' : World} {br B : Nat} {o : Option (List UInt8)} (h : RdS w br B o) (k : Bl w w') (hB : B ≤ br) : RdS w' br B o := h.ap (Ap.of_bl k none) hB fun _ h => absurd h nn
def takeS (n : Int) (l : List UInt8) : Option (List UInt8 × List UInt8) := if 0 ≤ n ∧ n ≤ l.length then some (l.take n.toNat, l.drop n.toNat) else none
abbrev pr (br : Nat) : Value := .pointer (some ⟨br, 0, none⟩)
theorem u_take (br B : Nat) (n : Int) (cur : Option (List UInt8)) (w : World) (hR : RdS w br B cur) (hB : B ≤ br) : Ret Tryz.prog 91 #[pr br, I n] w fun v w' => Ap w (some ⟨br, 0, none⟩) w' ∧ RdS w' br B ((cur.bind (takeS n)).map (·.2)) ∧
    match cur.bind (takeS n) with
    | some (x, _) => ∃ a c, v = .slice a x.length c ∧ Sl eB (· < B) w' a x
    | none => v = .slice none 0 0 := by
  refine entr (vs := [pr br, I n]) [0, 1, 4, 5, 22] tabok Tryz.func91 (by kernel_rfl) ?_
  cases cur with
  | none =>
    obtain ⟨a, m, c, hb⟩ := hR
    refine ld (hb.cell rfl) ?_
    refine ldg (fun _ => hb.cell rfl) ?_
    refine brt ?_
    refine st hb fun w1 k1 hb1 => ?_
    exact rt1 ⟨k1.ap, ⟨_, _, _, hb1⟩, rfl⟩
  | some l =>
    obtain ⟨a, c, hb, hS, hc⟩ := hR
    refine ld (hb.cell rfl) ?_
    refine ldg (fun _ => hb.cell rfl) ?_
    simp only [Option.bind_some]
    refine Eng.br (fun h => ?_) (fun h => ?_)
    · have hno : ¬ (0 ≤ n ∧ n ≤ l.length) := by simp at h; omega
      have e : takeS n l = none := by unfold takeS; rw [if_neg hno]
      rw [e]
      refine st hb fun w1 k1 hb1 => ?_
      exact rt1 ⟨k1.ap, ⟨_, _, _, hb1⟩, rfl⟩
    · have hyes : 0 ≤ n ∧ n ≤ l.length := by simp at h; omega
      obtain ⟨m, rfl⟩ : ∃ m : Nat, n = (m : Int) := ⟨n.toNat, by omega⟩
      have e : takeS (m : Int) l = some (l.take m, l.drop m) := by unfold takeS; rw [if_pos hyes]; rfl
      rw [e]
      have hm : m ≤ l.length := by omega
      refine ld (hb.cell rfl) ?_
      refine Eng.sl 0 m ?_
      refine ld (hb.cell rfl) ?_
      refine Eng.sl m l.length ?_
      refine st hb fun w1 k1 hb1 => ?_
      have hS1 : Sl eB (· < B) w1 a l := hS.kp (k1.kp fun i hi => by omega)
      refine rt1 ⟨k1.ap, ⟨_, c - m, by rw [List.length_drop]; exact hb1, slB_if hS1 hc, by rw [List.length_drop]; omega⟩, ⟨if c = 0 then a else a.map (·.add (0 * 1)), c - 0, ?_, ?_⟩⟩
      · rw [List.length_take, Nat.min_eq_left hm]; rfl
      · have := slB_if (n := 0) (slB_take hS1 m) (c := c) (by rw [List.length_take]; omega)
        exact this
def accN (l : List UInt8) : Nat := l.foldl (fun n c => n * 256 + c.toNat) 0
theorem accN_snoc (l : List UInt8) (c : UInt8) : accN (l ++ [c]) = accN l * 256 + c.toNat := by unfold accN; rw [List.foldl_append]; rfl
theorem accN_lt : ∀ (k : Nat) (l : List UInt8), l.length = k → accN l < 256 ^ k := by
  intro k
  induction k with
  | zero => intro l h; rw [List.eq_nil_of_length_eq_zero h]; decide
  | succ k ih =>
    intro l h
    have hne : l ≠ [] := fun e => by rw [e] at h; cases h
    obtain ⟨l', c, rfl⟩ : ∃ l' c, l = l' ++ [c] := ⟨l.dropLast, l.getLast hne, (List.dropLast_concat_getLast hne).symm⟩
    rw [List.length_append, List.length_singleton] at h
    have h1 := ih l' (by omega)
    have h2 := c.toNat_lt
    rw [accN_snoc, Nat.pow_succ]; omega
theorem or_run {T : TypeId} {a b : Nat} (ha : a * 256 < 4294967296) (hb : b < 256) : ∀ P w, (binOp .or T (.int .u32 ((a * 256 : Nat) : Int)) (.int .u32 (b : Int))).run P w = .ok (.int .u32 ((a * 256 + b : Nat) : Int)) w := fun P w => by
  have e : binOp .or T (.int .u32 ((a * 256 : Nat) : Int)) (.int .u32 (b : Int)) = pure (.int .u32 (bits .or .u32 ((a * 256 : Nat) : Int) (b : Int))) := by simp [binOp]; rfl
  rw [e, u32_or_nat _ _ ha (by omega), nat_join 8 _ _ (by omega) (by omega)]
  rfl
theorem frm_acc (a b c d : UInt8) : frm a b c d = IntKind.i64.wrap (IntKind.i32.wrap (accN [a, b, c, d] : Int)) := by
  have h1 := a.toNat_lt
  have h2 := b.toNat_lt
  have h3 := c.toNat_lt
  have h4 := d.toNat_lt
  have e : accN [a, b, c, d] = ((a.toNat * 256 + b.toNat) * 256 + c.toNat) * 256 + d.toNat := by simp [accN]
  rw [e]
  unfold frm
  simp only [IntKind.wrap, IntKind.bits, IntKind.signed]
  simp
  split <;> omega
theorem w_FromBytes (bs : List UInt8) (a : Option Addr) (c : Nat) (S : Nat → Prop) (w : World) (hS : Sl eB S w a bs) : Ret Tryz.prog 152 #[.slice a bs.length c] w fun v w' => ∃ m e, v = .tuple #[I m, I e] ∧ (∀ x y z t, bs = [x, y, z, t] → m = frm x y z t) ∧ w' = w := by
  refine entr (vs := [.slice a bs.length c]) [0, 2, 3, 4, 6, 9, 10, 11, 12, 13] tabok Tryz.func152 (by kernel_rfl) ?_
  refine br (t := decide (¬ (bs.length : Int) = 4)) (fun h => ?_) (fun h => ?_)
  · have h4 := of_decide_eq_true h
    exact rt2 ⟨_, _, rfl, fun x y z t e => absurd (by rw [e]; rfl) h4, rfl⟩
  have h4 : bs.length = 4 := by have := of_decide_eq_false h; omega
  refine lpk bs.length 12 [4] [(10, .slice a bs.length c), (11, I bs.length)] (fun k vals w' => vals = [.int .u32 (accN (bs.take k) : Int)] ∧ w' = w) ⟨rfl, rfl⟩ ?_
  rintro k vals _ hk ⟨rfl, rfl⟩ ih
  by_cases hlt : k < bs.length
  · refine brT ?_
    obtain ⟨x, b, o, cs, hx, e2, _, hAt, rfl⟩ := at_some hS hlt
    have hx1 := x.toNat_lt
    have ha : accN (bs.take k) < 256 ^ k := accN_lt k _ (by rw [List.length_take]; omega)
    have ha2 : accN (bs.take k) * 256 < 4294967296 := by
      have h5 : k = 0 ∨ k = 1 ∨ k = 2 ∨ k = 3 := by omega
      rcases h5 with rfl | rfl | rfl | rfl <;> simp only [Nat.pow_zero, Nat.pow_one, Nat.reducePow] at ha <;> omega
    rw [e2]
    refine ix ?_
    refine ld (hAt 0 _ rfl) ?_
    refine iop (shl_run (k := .u32) (n := 8) (by decide)) ?_
    refine cv (ks := .u8) (kb := .u32) (by kernel_rfl) (by kernel_rfl) ?_
    have w1 : IntKind.u32.wrap ((accN (bs.take k) : Int) * 2 ^ 8) = ((accN (bs.take k) * 256 : Nat) : Int) := by
      rw [IntKind.wrap_u32']; omega
    have w2 : IntKind.u32.wrap (x.toNat : Int) = ((x.toNat : Nat) : Int) := by rw [IntKind.wrap_u32']; omega
    rw [w1, w2]
    refine iop (or_run ha2 hx1) ?_
    refine ih hlt ⟨?_, rfl⟩ (hsub := by simp only [e2]; repeat (first | exact True.intro | (refine ⟨rfl, ?_⟩)))
    rw [take_succ_some hx, accN_snoc]
  refine brF ?_
  obtain rfl : k = bs.length := by omega
  rw [List.take_length]
  refine cv (ks := .u32) (kb := .i32) (by kernel_rfl) (by kernel_rfl) ?_
  refine cv (ks := .i32) (kb := .i64) (by kernel_rfl) (by kernel_rfl) ?_
  refine rt2 ⟨_, _, rfl, fun x y z t e => ?_, rfl⟩
  rw [frm_acc, e]
theorem rNum_take (l : List UInt8) : rNum l = (takeS 4 l).bind fun x => match x.1 with
    | [a, b, c, d] => some (frm a b c d, x.2)
    | _ => none := by
  unfold takeS
  rcases l with _ | ⟨a, _ | ⟨b, _ | ⟨c, _ | ⟨d, r⟩⟩⟩⟩ <;> simp [rNum]
  split
  · rfl
  · omega
/-- what a reader of something gives: a value of some shape; what is read, where the bytes are of the form -/
structure RdR {α : Type} (p : Prs α) (V : (Nat → Prop) → World → Value → α → Prop) (G : Value → Prop) (br B : Nat) (cur : Option (List UInt8)) (w : World) (v : Value) (w' : World) : Prop where
  ap : Ap w (some ⟨br, 0, none⟩) w'
  st : RdS w' br B ((cur.bind p).map (·.2))
  sh : G v
  ok : ∀ x r, cur.bind p = some (x, r) → V (fun b => w.heap.size ≤ b ∧ b < w'.heap.size) w' v x
abbrev vNum : (Nat → Prop) → World → Value → Int → Prop := fun _ _ v x => v = I x
abbrev gNum : Value → Prop := fun v => ∃ n, v = I n
theorem u_number (br B : Nat) (cur : Option (List UInt8)) (w : World) (hR : RdS w br B cur) (hB : B ≤ br) : Ret Tryz.prog 100 #[pr br] w (RdR rNum vNum gNum br B cur w) := by
  refine entr (vs := [pr br]) [0, 2, 3] tabok Tryz.func100 (by kernel_rfl) ?_
  refine cl (u_take br B 4 cur w hR hB) ?_
  rintro v w1 ⟨hA, hst, hv⟩
  have key : cur.bind rNum = (cur.bind (takeS 4)).bind fun x => match x.1 with
    | [a, b, c, d] => some (frm a b c d, x.2)
    | _ => none := by
    cases cur with
    | none => rfl
    | some l => exact rNum_take l
  cases ht : cur.bind (takeS 4) with
  | none =>
    rw [ht] at hv hst key
    subst hv
    refine cl (w_FromBytes [] none 0 T w1 (Sl.nil ..)) ?_
    rintro _ _ ⟨m, e, rfl, _, rfl⟩
    exact rt1 ⟨hA, by rw [key]; exact hst, ⟨_, rfl⟩, fun x r q => by rw [key] at q; cases q⟩
  | some xr =>
    obtain ⟨x, r⟩ := xr
    rw [ht] at hv hst key
    obtain ⟨a, c, rfl, hS⟩ := hv
    have hx : x.length = 4 := by
      cases cur with
      | none => cases ht
      | some l =>
        have ht : takeS 4 l = some (x, r) := ht
        unfold takeS at ht
        split at ht
        · simp only [Option.some.injEq, Prod.mk.injEq] at ht
          rw [← ht.1, List.length_take]; omega
        · cases ht
    refine cl (w_FromBytes x a c _ w1 hS) ?_
    rintro _ _ ⟨m, e, rfl, hm, rfl⟩
    obtain ⟨x0, x1, x2, x3, rfl⟩ : ∃ x0 x1 x2 x3, x = [x0, x1, x2, x3] := by
      rcases x with _ | ⟨x0, _ | ⟨x1, _ | ⟨x2, _ | ⟨x3, _ | ⟨x4, x5⟩⟩⟩⟩⟩ <;> simp at hx
      exact ⟨_, _, _, _, rfl⟩
    have key : cur.bind rNum = some (frm x0 x1 x2 x3, r) := key
    refine rt1 ⟨hA, by rw [key]; exact hst, ⟨_, rfl⟩, fun y r' q => ?_⟩
    rw [key] at q
    simp only [Option.some.injEq, Prod.mk.injEq] at q
    rw [hm _ _ _ _ rfl, q.1]
abbrev vTxt : (Nat → Prop) → World → Value → ByteArray → Prop := fun _ _ v x => v = .string x
abbrev gTxt : Value → Prop := fun v => ∃ s, v = .string s
theorem rTxt_take (l : List UInt8) : rTxt l = (rNum l).bind fun x => (takeS x.1 x.2).bind fun y => some (ofL y.1, y.2) := by
  unfold rTxt
  cases rNum l with
  | none => rfl
  | some x =>
    simp only [Option.bind_some, takeS]
    by_cases h : x.1 < 0 ∨ (x.2.length : Int) < x.1
    · rw [if_pos h, if_neg (by omega)]; rfl
    · rw [if_neg h, if_pos (by omega)]; rfl
theorem u_text (br B : Nat) (cur : Option (List UInt8)) (w : World) (hR : RdS w br B cur) (hB : B ≤ br) : Ret Tryz.prog 92 #[pr br] w (RdR rTxt vTxt gTxt br B cur w) := by
  refine entr (vs := [pr br]) [0, 2] tabok Tryz.func92 (by kernel_rfl) ?_
  refine cl (u_number br B cur w hR hB) ?_
  rintro v w1 ⟨hA, hst, ⟨n, rfl⟩, hok⟩
  refine cl (u_take br B n _ w1 hst hB) ?_
  rintro v2 w2 ⟨hA2, hst2, hv2⟩
  have hA12 : Ap w (some ⟨br, 0, none⟩) w2 := hA.trans hA2
  have key : cur.bind rTxt = (((cur.bind rNum).map (·.2)).bind (takeS n)).bind fun y => some (ofL y.1, y.2) := by
    cases cur with
    | none => rfl
    | some l =>
      show rTxt l = (((rNum l).map (·.2)).bind (takeS n)).bind fun y => some (ofL y.1, y.2)
      rw [rTxt_take]
      cases hq : rNum l with
      | none => rfl
      | some x =>
        have := hok x.1 x.2 hq
        simp only [vNum, Value.int.injEq, true_and] at this
        rw [this]; rfl
  cases ht : ((cur.bind rNum).map (·.2)).bind (takeS n) with
  | none =>
    rw [ht] at hv2 hst2 key
    subst hv2
    refine cbn ?_
    exact rt1 ⟨hA12, by rw [key]; exact hst2, ⟨_, rfl⟩, fun x r q => by rw [key] at q; cases q⟩
  | some xr =>
    obtain ⟨x, r⟩ := xr
    rw [ht] at hv2 hst2 key
    obtain ⟨a, c, rfl, hS⟩ := hv2
    refine cbl hS rfl (fun _ => trivial) ?_
    refine rt1 ⟨hA12, by rw [key]; exact hst2, ⟨_, rfl⟩, fun y r' q => ?_⟩
    rw [key] at q
    simp only [Option.bind_some, Option.some.injEq, Prod.mk.injEq] at q
    rw [q.1]
end Go.Proofs.YtopjmiklpnejmaaGreatDoor

/- Walks: the program's readers of lists and of structs. Printed by wip/tools/mkget.py. -/
namespace Go.Proofs.YtopjmiklpnejmaaGreatDoor
open Eng Go.RowKit
/-- what is read takes so many bytes at least -/
def Min {α : Type} (p : Prs α) (m : Nat) : Prop := ∀ l x r, p l = some (x, r) → r.length + m ≤ l.length
theorem min_num : Min rNum 4 := fun l x r h => by
  unfold rNum at h
  split at h
  · simp only [Option.some.injEq, Prod.mk.injEq] at h
    obtain ⟨_, rfl⟩ := h
    simp only [List.length_cons]; omega
  · cases h
theorem rRep_min {α : Type} {p : Prs α} {m : Nat} (h : Min p m) : ∀ n l x r, rRep p n l = some (x, r) → r.length + n * m ≤ l.length
  | 0, l, x, r, e => by simp only [rRep, Option.some.injEq, Prod.mk.injEq] at e; rw [e.2]; omega
  | n + 1, l, x, r, e => by
    simp only [rRep] at e
    obtain ⟨⟨y, l2⟩, e1, e⟩ := bind_some e
    obtain ⟨⟨ys, l3⟩, e2, e⟩ := bind_some e
    simp only [Option.some.injEq, Prod.mk.injEq] at e
    obtain ⟨_, rfl⟩ := e
    have h1 := h _ _ _ e1
    have h2 := rRep_min h n _ _ _ e2
    dsimp only at h2
    rw [Nat.succ_mul]; omega
theorem min_txt : Min rTxt 4 := fun l x r h => by
  obtain ⟨⟨n, l2⟩, e1, h⟩ := bind_some h
  have := min_num _ _ _ e1
  dsimp only at h
  split at h
  · cases h
  · simp only [Option.some.injEq, Prod.mk.injEq] at h
    obtain ⟨_, rfl⟩ := h
    rw [List.length_drop]; omega
theorem min_ty : Min rTy 8 := fun l x r h => by
  obtain ⟨⟨a, l2⟩, e1, h⟩ := bind_some h
  obtain ⟨⟨b, l3⟩, e2, h⟩ := bind_some h
  simp only [Option.some.injEq, Prod.mk.injEq] at h
  obtain ⟨_, rfl⟩ := h
  have h1 := min_num _ _ _ e1
  have h2 := min_num _ _ _ e2
  dsimp only at h2; omega
theorem min_fld : Min rFld 12 := fun l x r h => by
  obtain ⟨⟨a, l2⟩, e1, h⟩ := bind_some h
  obtain ⟨⟨b, l3⟩, e2, h⟩ := bind_some h
  simp only [Option.some.injEq, Prod.mk.injEq] at h
  obtain ⟨_, rfl⟩ := h
  have h1 := min_num _ _ _ e1
  have h2 := min_ty _ _ _ e2
  dsimp only at h2; omega
theorem min_ins : Min rIns 12 := fun l x r h => by
  obtain ⟨⟨a, l2⟩, e1, h⟩ := bind_some h
  obtain ⟨⟨b, l3⟩, e2, h⟩ := bind_some h
  obtain ⟨⟨c, l4⟩, e3, h⟩ := bind_some h
  simp only [Option.some.injEq, Prod.mk.injEq] at h
  obtain ⟨_, rfl⟩ := h
  have h1 := min_num _ _ _ e1
  have h2 := min_num _ _ _ e2
  have h3 := min_num _ _ _ e3
  dsimp only at h2 h3; omega
theorem min_list {α : Type} {p : Prs α} (hz : Min p 0) : Min (rList p) 4 := fun l x r h => by
  obtain ⟨⟨a, l2⟩, e1, h⟩ := bind_some h
  dsimp only at h
  split at h
  · cases h
  · have h1 := min_num _ _ _ e1
    have h2 := rRep_min (p := p) (m := 0) hz _ _ _ _ h
    omega
theorem Min.zero {α : Type} {p : Prs α} {m : Nat} (h : Min p m) : Min p 0 := fun l x r e => by have := h l x r e; omega
theorem min_cls : Min rCls 12 := fun l x r h => by
  obtain ⟨⟨a, l2⟩, e1, h⟩ := bind_some h
  obtain ⟨⟨b, l3⟩, e2, h⟩ := bind_some h
  obtain ⟨⟨c, l4⟩, e3, h⟩ := bind_some h
  simp only [Option.some.injEq, Prod.mk.injEq] at h
  obtain ⟨_, rfl⟩ := h
  have h1 := min_num _ _ _ e1
  have h2 := min_num _ _ _ e2
  have h3 := min_list min_fld.zero _ _ _ e3
  dsimp only at h2 h3; omega
theorem min_mth : Min rMth 28 := fun l x r h => by
  obtain ⟨⟨a, l2⟩, e1, h⟩ := bind_some h
  obtain ⟨⟨b, l3⟩, e2, h⟩ := bind_some h
  obtain ⟨⟨c, l4⟩, e3, h⟩ := bind_some h
  obtain ⟨⟨d, l5⟩, e4, h⟩ := bind_some h
  obtain ⟨⟨e, l6⟩, e5, h⟩ := bind_some h
  obtain ⟨⟨f, l7⟩, e6, h⟩ := bind_some h
  simp only [Option.some.injEq, Prod.mk.injEq] at h
  obtain ⟨_, rfl⟩ := h
  have h1 := min_num _ _ _ e1
  have h2 := min_num _ _ _ e2
  have h3 := min_list min_ty.zero _ _ _ e3
  have h4 := min_list min_ty.zero _ _ _ e4
  have h5 := min_ty _ _ _ e5
  have h6 := min_list min_ins.zero _ _ _ e6
  dsimp only at h2 h3 h4 h5 h6; omega
theorem rRep_snoc {α : Type} (p : Prs α) : ∀ k l, rRep p (k + 1) l = (rRep p k l).bind fun x => (p x.2).bind fun y => some (x.1 ++ [y.1], y.2)
  | 0, l => by simp [rRep]
  | k + 1, l => by
    have ih := rRep_snoc p k
    conv => lhs; rw [rRep]
    conv => rhs; rw [rRep]
    cases p l with
    | none => rfl
    | some x =>
      simp only [Option.bind_some]
      rw [ih]
      cases rRep p k x.2 with
      | none => rfl
      | some y =>
        simp only [Option.bind_some]
        cases p y.2 <;> simp
theorem rRep_none {α : Type} {p : Prs α} {k : Nat} {l : List UInt8} (h : rRep p k l = none) : ∀ n, k ≤ n → rRep p n l = none
  | 0, hn => by obtain rfl : k = 0 := by omega
                exact h
  | n + 1, hn => by
    rcases Nat.lt_or_ge n k with q | q
    · obtain rfl : k = n + 1 := by omega
      exact h
    · rw [rRep_snoc, rRep_none h n q]; rfl
theorem rRep_len {α : Type} {p : Prs α} : ∀ {n l x r}, rRep p n l = some (x, r) → x.length = n
  | 0, l, x, r, e => by simp only [rRep, Option.some.injEq, Prod.mk.injEq] at e; rw [← e.1]; rfl
  | n + 1, l, x, r, e => by
    simp only [rRep] at e
    obtain ⟨⟨y, l2⟩, e1, e⟩ := bind_some e
    obtain ⟨⟨ys, l3⟩, e2, e⟩ := bind_some e
    simp only [Option.some.injEq, Prod.mk.injEq] at e
    rw [← e.1, List.length_cons, rRep_len e2]
/-- a row of the call's own while a block outside of it turns -/
theorem OwC.rb {α : Type} {E : El α} {R : Nat → Prop} {w w' : World} {base e cap b : Nat} {a : Option Addr} {l : List α} (h : OwC E R w base e a cap l) (k : Ap w (some ⟨b, 0, none⟩) w') (hb : b < base) (hR : ∀ i, R i → i ≠ b) : OwC E R w' base e a cap l := by
  obtain ⟨xs, h1, h2, h3, h4⟩ := h.row
  have ne : ∀ g, g ≠ b → (some ⟨b, 0, none⟩ : Option Addr) ≠ some ⟨g, 0, none⟩ := fun g hg e => hg (by simp only [Option.some.injEq, Addr.mk.injEq, and_true] at e; exact e.symm)
  exact ⟨xs, h1, h2, h3.same fun g hg => k.block g (h3.lt hg).2 (ne g (by have := (h3.lt hg).1; omega)), fun i cs x hi hl => E.sub (fun b hb => ⟨hb.1, hb.2.1, Nat.lt_of_lt_of_le hb.2.2 k.size⟩) (E.kp (k.kp.sub fun i hi => ne i (hR i hi.1)) (h4 i cs x hi hl))⟩
/-- one new block after another, beside the reader's -/
theorem Eng.Ap.new {w w1 w2 : World} {a : Option Addr} {b : Nat} (h : Ap w a w1) (k : Wr w1 b w2) (hb : w.heap.size ≤ b) : Ap w a w2 :=
  ⟨k.os.trans h.os, k.tape.trans h.tape, k.output.trans h.output, by rw [k.size]; exact h.size, fun i hi hn => (k.block i (by omega)).trans (h.block i hi hn)⟩
theorem Eng.Ap.ap {w w1 w2 : World} {a x : Option Addr} (h : Ap w a w1) (k : Ap w1 x w2) (hb : ∀ g, x = some ⟨g, 0, none⟩ → w.heap.size ≤ g) : Ap w a w2 :=
  ⟨k.os.trans h.os, k.tape.trans h.tape, k.output.trans h.output, Nat.le_trans h.size k.size, fun i hi hn => (k.block i (Nat.lt_of_lt_of_le hi h.size) fun e => by have := hb i e; omega).trans (h.block i hi hn)⟩
theorem Eng.Ap.thenBl {w w1 w2 : World} {a : Option Addr} (h : Ap w a w1) (k : Bl w1 w2) : Ap w a w2 := h.trans (Ap.bl k a)
abbrev vLst {α : Type} (E : El α) : (Nat → Prop) → World → Value → List α → Prop := fun S w v xs => ∃ a c, v = .slice a xs.length c ∧ Sl E S w a xs
abbrev gLst : Value → Prop := fun v => ∃ a n c, v = .slice a n c
abbrev vAgg {α : Type} (E : El α) : (Nat → Prop) → World → Value → α → Prop := fun S w v x => ∃ cs, v = .agg cs.toArray ∧ E.rel S w cs x
theorem agg_inj {a b : List Value} (h : Value.agg a.toArray = .agg b.toArray) : a = b := by
  have := Value.agg.inj h
  exact congrArg Array.toList this
abbrev gI2 : Value → Prop := fun v => ∃ a b, v = asV [I a, I b]
abbrev gI3 : Value → Prop := fun v => ∃ a b c, v = asV [I a, I b, I c]
abbrev gCls : Value → Prop := fun v => ∃ a b p n c, v = asV [I a, I b, .slice p n c]
abbrev gMth : Value → Prop := fun v => ∃ a b p1 n1 c1 p2 n2 c2 x y p3 n3 c3, v = asV [I a, I b, .slice p1 n1 c1, .slice p2 n2 c2, I x, I y, .slice p3 n3 c3]
theorem cur_list {α : Type} {p : Prs α} {cur : Option (List UInt8)} : cur.bind (rList p) = (cur.bind rNum).bind fun x => if x.1 < 0 then none else rRep p x.1.toNat x.2 := by
  cases cur <;> rfl
set_option maxHeartbeats 1000000 in
theorem u_getStr (rb B : Nat) (cur : Option (List UInt8)) (w : World) (hR : RdS w rb B cur) (hB : B ≤ rb) (gf : FuncId) (one : ∀ cur w, RdS w rb B cur → Ret Tryz.prog gf #[pr rb] w (RdR rTxt vTxt gTxt rb B cur w)) :
    Ret Tryz.prog 93 #[pr rb, .func (.func gf) #[pr rb] #[]] w (RdR (rList rTxt) (vLst eStr) gLst rb B cur w) := by
  have hlt := hR.lt
  refine entr (vs := [pr rb, .func (.func gf) #[pr rb] #[]]) [0, 1, 4, 5, 6, 7, 21, 34] tabok Tryz.func93 (by kernel_rfl) ?_
  refine cl (u_number rb B cur w hR hB) ?_
  rintro v w1 ⟨hA, hst, ⟨n, rfl⟩, hok⟩
  have z1 := hA.size
  have ck := cur_list (p := rTxt) (cur := cur)
  cases h1 : cur.bind rNum with
  | none =>
    rw [h1] at hst ck
    have hk : cur.bind (rList rTxt) = none := ck
    obtain ⟨a0, n0, c0, hb⟩ := hst
    refine sp (.slice none 0 0) (fun q => ?_) (fun q => ?_)
    · refine ld (hb.cell rfl) ?_
      refine spt (I 0) ?_
      refine iop (quo_run (b := 4) (by decide)) ?_
      refine br (fun h => ?_) (fun h => ?_)
      · refine st hb fun w2 k2 hb2 => ?_
        refine lp (vals := [.slice none 0 0, I 0]) [6, 7] [(0, pr rb), (1, .func (.func gf) #[pr rb] #[]), (5, I n)] (fun m vals w' => vals = [.slice none 0 0, I 0] ∧ w' = w2) ⟨rfl, rfl, rfl, trivial⟩ (m := 0) ⟨rfl, rfl⟩ ?_
        rintro m vals _ ⟨rfl, rfl⟩ _
        refine ldg (fun _ => hb2.cell rfl) ?_
        refine brf ?_
        exact rt1 ⟨hA.trans k2.ap, by rw [hk]; exact ⟨_, _, _, hb2⟩, ⟨_, _, _, rfl⟩, fun x r q => by rw [hk] at q; cases q⟩
      · skip
        refine lp (vals := [.slice none 0 0, I 0]) [6, 7] [(0, pr rb), (1, .func (.func gf) #[pr rb] #[]), (5, I n)] (fun m vals w' => vals = [.slice none 0 0, I 0] ∧ w' = w1) ⟨rfl, rfl, rfl, trivial⟩ (m := 0) ⟨rfl, rfl⟩ ?_
        rintro m vals _ ⟨rfl, rfl⟩ _
        refine ldg (fun _ => hb.cell rfl) ?_
        refine brf ?_
        exact rt1 ⟨hA, by rw [hk]; exact ⟨_, _, _, hb⟩, ⟨_, _, _, rfl⟩, fun x r q => by rw [hk] at q; cases q⟩
    · have hneg : n < 0 := by simpa using q
      refine spn (I 0) ?_
      refine brt ?_ (hp := by simp [hneg])
      refine st hb fun w2 k2 hb2 => ?_
      refine lp (vals := [.slice none 0 0, I 0]) [6, 7] [(0, pr rb), (1, .func (.func gf) #[pr rb] #[]), (5, I n)] (fun m vals w' => vals = [.slice none 0 0, I 0] ∧ w' = w2) ⟨rfl, rfl, rfl, trivial⟩ (m := 0) ⟨rfl, rfl⟩ ?_
      rintro m vals _ ⟨rfl, rfl⟩ _
      refine ldg (fun _ => hb2.cell rfl) ?_
      refine brf ?_
      exact rt1 ⟨hA.trans k2.ap, by rw [hk]; exact ⟨_, _, _, hb2⟩, ⟨_, _, _, rfl⟩, fun x r q => by rw [hk] at q; cases q⟩
  | some xr =>
    obtain ⟨m0, r⟩ := xr
    have e0 := hok _ _ h1
    simp only [vNum, Value.int.injEq, true_and] at e0
    subst e0
    rw [h1] at hst ck
    obtain ⟨a0, c0, hb, hS, hc⟩ := hst
    have hlen : r.length ≤ 4194304 := hS.big
    have hc : r.length ≤ c0 := hc
    refine sp (.slice none 0 0) (fun q => ?_) (fun q => ?_)
    · have hn0 : 0 ≤ n := by simpa using q
      obtain ⟨m, rfl⟩ : ∃ m : Nat, n = (m : Int) := ⟨n.toNat, by omega⟩
      have ck : cur.bind (rList rTxt) = rRep rTxt m r := by rw [ck]; simp only [Option.bind_some]; rw [if_neg (by omega)]; rfl
      refine ld (hb.cell rfl) ?_
      refine spt (I 0) ?_
      refine iop (quo_run (b := 4) (by decide)) ?_
      have hq : IntKind.i64.wrap ((r.length : Int).tdiv 4) = ((r.length / 4 : Nat) : Int) := by
        have : (r.length : Int).tdiv 4 = ((r.length / 4 : Nat) : Int) := by rw [Int.tdiv_eq_ediv_of_nonneg (by omega)]; omega
        rw [this, wrap_fit (by omega) (by omega)]
      rw [hq]
      refine br (fun h => ?_) (fun h => ?_)
      · have hbig : r.length / 4 < m := by simp at h; omega
        have hk : cur.bind (rList rTxt) = none := by
          rw [ck]
          cases hr : rRep rTxt m r with
          | none => rfl
          | some y =>
            have := rRep_min min_txt _ _ _ _ hr
            omega
        refine st hb fun w2 k2 hb2 => ?_
        refine lp (vals := [.slice none 0 0, I 0]) [6, 7] [(0, pr rb), (1, .func (.func gf) #[pr rb] #[]), (5, I (m : Int))] (fun m vals w' => vals = [.slice none 0 0, I 0] ∧ w' = w2) ⟨rfl, rfl, rfl, trivial⟩ (m := 0) ⟨rfl, rfl⟩ ?_
        rintro m vals _ ⟨rfl, rfl⟩ _
        refine ldg (fun _ => hb2.cell rfl) ?_
        refine brf ?_
        exact rt1 ⟨hA.trans k2.ap, by rw [hk]; exact ⟨_, _, _, hb2⟩, ⟨_, _, _, rfl⟩, fun x r q => by rw [hk] at q; cases q⟩
      · have hsm : m ≤ r.length / 4 := by simp at h; omega
        refine lpk m 7 [6] [(0, pr rb), (1, .func (.func gf) #[pr rb] #[]), (5, I m)] (fun k vals w' => Ap w (some ⟨rb, 0, none⟩) w' ∧ w1.heap.size ≤ w'.heap.size ∧ ((∃ xs r', rRep rTxt k r = some (xs, r') ∧ RdS w' rb B (some r') ∧ ∃ a c, vals = [.slice a xs.length c] ∧ OwC eStr (fun b => w1.heap.size ≤ b) w' w1.heap.size 9 a c xs) ∨
          (rRep rTxt k r = none ∧ RdS w' rb B none ∧ ∃ a j c, vals = [.slice a j c]))) ⟨hA, Nat.le_refl _, .inl ⟨[], r, rfl, ⟨a0, c0, hb, hS, hc⟩, none, 0, rfl, OwC.nil ..⟩⟩ ?_
        rintro k vals w2 hk ⟨hA2, z2, hI⟩ ih
        rcases hI with ⟨xs, r', hr, hst2, a, c, rfl, hO⟩ | ⟨hr, hst2, a, j, c, rfl⟩
        · have hxl := rRep_len hr
          have hst2' := hst2
          obtain ⟨a2, c2, hb2, hS2, hc2⟩ := hst2
          by_cases hlt2 : k < m
          · refine ldg (fun _ => hb2.cell rfl) ?_
            refine brt ?_ (hp := by simp [hlt2])
            refine cl (one (some r') w2 hst2') ?_
            rintro v3 w3 ⟨hA3, hst3, ⟨s, rfl⟩, hok3⟩
            have z3 := hA3.size
            have hO3 := hO.rb hA3 (by omega) fun i hi => by omega
            refine bs (cs := [.string s]) fun b4 w4 h4 => ?_
            have z4 := h4.size
            have y4 := h4.blk
            obtain ⟨ys, e1, e2, hOx, e4⟩ := (hO3.bl h4.bl).row
            refine ap hOx (.inr ⟨b4, 0, rfl, h4.box.at⟩) (by omega) (fun a5 c5 w5 hO5 hA5 hf5 => ?_)
            have hlo : ∀ g, a = some ⟨g, 0, none⟩ → w1.heap.size ≤ g := fun g hg => (hO.lt hg).1
            have hA05 : Ap w (some ⟨rb, 0, none⟩) w5 := ((hA2.trans hA3).thenBl h4.bl).ap hA5 fun g hg => by have := hlo g hg; omega
            have hst5 := (hst3.bl h4.bl hB).ap hA5 hB fun g hg => by have := hlo g hg; omega
            have z5 := hA5.size
            have es := rRep_snoc rTxt k r
            rw [hr] at es
            cases hp : rTxt r' with
            | none =>
              have hst5 : RdS w5 rb B none := by rw [show (some r' : Option (List UInt8)).bind rTxt = none from hp] at hst5; exact hst5
              refine ih hlt2 ⟨hA05, by omega, .inr ⟨by rw [es]; simp only [Option.bind_some]; rw [hp]; rfl, hst5, _, _, _, rfl⟩⟩
            | some yr =>
              obtain ⟨y, r2⟩ := yr
              have hst5 : RdS w5 rb B (some r2) := by rw [show (some r' : Option (List UInt8)).bind rTxt = some (y, r2) from hp] at hst5; exact hst5
              have hv := hok3 y r2 hp
              have hrel : (eStr).rel (fun b => w1.heap.size ≤ b ∧ a ≠ some ⟨b, 0, none⟩ ∧ b < w4.heap.size) w4 [.string s] y := by
                refine (eStr).sub (S := fun b => w2.heap.size ≤ b ∧ b < w3.heap.size) (fun b hb => ⟨by omega, fun e => by have := (hO.lt e).2; omega, by omega⟩) ((eStr).kp (h4.bl.kp _) ?_)
                have hv : Value.string s = .string y := hv
                rw [hv]; rfl
              have hO6 := OwC.push e1 e2 e4 hO5 hA5 hf5 hrel
              refine ih hlt2 ⟨hA05, by omega, .inl ⟨xs ++ [y], r2, ?_, hst5, a5, c5, ?_, hO6⟩⟩
              · rw [es]; simp only [Option.bind_some]; rw [hp]; rfl
              · rw [List.length_append]; rfl
          · refine ldg (fun _ => hb2.cell rfl) ?_
            refine brf ?_ (hp := by simp [hlt2])
            obtain rfl : k = m := by omega
            have hk2 : cur.bind (rList rTxt) = some (xs, r') := ck.trans hr
            refine rt1 ⟨hA2, by rw [hk2]; exact hst2', ⟨_, _, _, rfl⟩, fun x y q => ?_⟩
            rw [hk2] at q
            simp only [Option.some.injEq, Prod.mk.injEq] at q
            obtain ⟨rfl, rfl⟩ := q
            exact ⟨_, _, rfl, (hO.sl2 (by omega)).sub fun i hi => ⟨by omega, hi.2⟩⟩
        · have hk2 : cur.bind (rList rTxt) = none := ck.trans (rRep_none hr m hk)
          obtain ⟨a2, n2, c2, hb2⟩ := hst2
          refine ldg (fun _ => hb2.cell rfl) ?_
          refine brf ?_
          exact rt1 ⟨hA2, by rw [hk2]; exact ⟨_, _, _, hb2⟩, ⟨_, _, _, rfl⟩, fun x y q => by rw [hk2] at q; cases q⟩
    · have hneg : n < 0 := by simpa using q
      have hk : cur.bind (rList rTxt) = none := by rw [ck]; simp only [Option.bind_some]; rw [if_pos hneg]
      refine spn (I 0) ?_
      refine brt ?_ (hp := by simp [hneg])
      refine st hb fun w2 k2 hb2 => ?_
      refine lp (vals := [.slice none 0 0, I 0]) [6, 7] [(0, pr rb), (1, .func (.func gf) #[pr rb] #[]), (5, I n)] (fun m vals w' => vals = [.slice none 0 0, I 0] ∧ w' = w2) ⟨rfl, rfl, rfl, trivial⟩ (m := 0) ⟨rfl, rfl⟩ ?_
      rintro m vals _ ⟨rfl, rfl⟩ _
      refine ldg (fun _ => hb2.cell rfl) ?_
      refine brf ?_
      exact rt1 ⟨hA.trans k2.ap, by rw [hk]; exact ⟨_, _, _, hb2⟩, ⟨_, _, _, rfl⟩, fun x r q => by rw [hk] at q; cases q⟩
theorem u_kind (rb B : Nat) (cur : Option (List UInt8)) (w : World) (hR : RdS w rb B cur) (hB : B ≤ rb) : Ret Tryz.prog 148 #[pr rb] w (RdR rTy (vAgg eTy) gI2 rb B cur w) := by
  have hlt := hR.lt
  refine entr (vs := [pr rb]) [0, 2, 3] tabok Tryz.func148 (by kernel_rfl) ?_
  refine al fun b1 w1 h1 => ?_
  have y1 := h1.blk
  have z1 := h1.size
  have R1 := hR.bl h1.bl hB
  refine cl (u_number rb B cur w1 R1 hB) ?_
  rintro v w2 ⟨A2, R2, ⟨n2, rfl⟩, k2⟩
  refine cl (u_number rb B _ w2 R2 hB) ?_
  rintro v w3 ⟨A3, R3, ⟨n3, rfl⟩, k3⟩
  refine bd ?_
  have x3 := A3.box (A2.box h1.box (ap_ne (by omega))) (ap_ne (by omega))
  refine sta x3 fun w4 k4 x4 => ?_
  have A04 : Ap w (some ⟨rb, 0, none⟩) w4 := (((Ap.bl h1.bl _).trans A2).trans A3).new k4 (by omega)
  have R4 := R3.ap k4.ap hB fun g hg => by simp only [Option.some.injEq, Addr.mk.injEq, and_true] at hg; omega
  have e : cur.bind rTy = (cur.bind rNum).bind fun x => (rNum x.2).bind fun y => some (⟨x.1, y.1⟩, y.2) := by cases cur <;> rfl
  refine rtc x4.at ⟨A04, ?_, ⟨n2, n3, rfl⟩, fun t r q => ?_⟩
  · rw [e]
    cases h : cur.bind rNum with
    | none => rw [h] at R4; exact R4
    | some x =>
      rw [h] at R4
      have R4 : RdS w4 rb B ((rNum x.2).map (·.2)) := R4
      simp only [Option.bind_some]
      cases h2 : rNum x.2 <;> (rw [h2] at R4; exact R4)
  · rw [e] at q
    obtain ⟨x, q1, q⟩ := bind_some q
    obtain ⟨y, q2, q⟩ := bind_some q
    simp only [Option.some.injEq, Prod.mk.injEq] at q
    obtain ⟨rfl, _⟩ := q
    have e2 := k2 x.1 x.2 q1
    have e3 := k3 y.1 y.2 (by rw [q1]; exact q2)
    simp only [vNum, Value.int.injEq, true_and] at e2 e3
    exact ⟨[I n2, I n3], rfl, by rw [e2, e3]; rfl⟩
set_option maxHeartbeats 1000000 in
theorem u_getTy (rb B : Nat) (cur : Option (List UInt8)) (w : World) (hR : RdS w rb B cur) (hB : B ≤ rb) (gf : FuncId) (one : ∀ cur w, RdS w rb B cur → Ret Tryz.prog gf #[pr rb] w (RdR rTy (vAgg eTy) gI2 rb B cur w)) :
    Ret Tryz.prog 149 #[pr rb, .func (.func gf) #[pr rb] #[]] w (RdR (rList rTy) (vLst eTy) gLst rb B cur w) := by
  have hlt := hR.lt
  refine entr (vs := [pr rb, .func (.func gf) #[pr rb] #[]]) [0, 1, 4, 5, 6, 7, 21, 34] tabok Tryz.func149 (by kernel_rfl) ?_
  refine cl (u_number rb B cur w hR hB) ?_
  rintro v w1 ⟨hA, hst, ⟨n, rfl⟩, hok⟩
  have z1 := hA.size
  have ck := cur_list (p := rTy) (cur := cur)
  cases h1 : cur.bind rNum with
  | none =>
    rw [h1] at hst ck
    have hk : cur.bind (rList rTy) = none := ck
    obtain ⟨a0, n0, c0, hb⟩ := hst
    refine sp (.slice none 0 0) (fun q => ?_) (fun q => ?_)
    · refine ld (hb.cell rfl) ?_
      refine spt (I 0) ?_
      refine iop (quo_run (b := 4) (by decide)) ?_
      refine br (fun h => ?_) (fun h => ?_)
      · refine st hb fun w2 k2 hb2 => ?_
        refine lp (vals := [.slice none 0 0, I 0]) [6, 7] [(0, pr rb), (1, .func (.func gf) #[pr rb] #[]), (5, I n)] (fun m vals w' => vals = [.slice none 0 0, I 0] ∧ w' = w2) ⟨rfl, rfl, rfl, trivial⟩ (m := 0) ⟨rfl, rfl⟩ ?_
        rintro m vals _ ⟨rfl, rfl⟩ _
        refine ldg (fun _ => hb2.cell rfl) ?_
        refine brf ?_
        exact rt1 ⟨hA.trans k2.ap, by rw [hk]; exact ⟨_, _, _, hb2⟩, ⟨_, _, _, rfl⟩, fun x r q => by rw [hk] at q; cases q⟩
      · skip
        refine lp (vals := [.slice none 0 0, I 0]) [6, 7] [(0, pr rb), (1, .func (.func gf) #[pr rb] #[]), (5, I n)] (fun m vals w' => vals = [.slice none 0 0, I 0] ∧ w' = w1) ⟨rfl, rfl, rfl, trivial⟩ (m := 0) ⟨rfl, rfl⟩ ?_
        rintro m vals _ ⟨rfl, rfl⟩ _
        refine ldg (fun _ => hb.cell rfl) ?_
        refine brf ?_
        exact rt1 ⟨hA, by rw [hk]; exact ⟨_, _, _, hb⟩, ⟨_, _, _, rfl⟩, fun x r q => by rw [hk] at q; cases q⟩
    · have hneg : n < 0 := by simpa using q
      refine spn (I 0) ?_
      refine brt ?_ (hp := by simp [hneg])
      refine st hb fun w2 k2 hb2 => ?_
      refine lp (vals := [.slice none 0 0, I 0]) [6, 7] [(0, pr rb), (1, .func (.func gf) #[pr rb] #[]), (5, I n)] (fun m vals w' => vals = [.slice none 0 0, I 0] ∧ w' = w2) ⟨rfl, rfl, rfl, trivial⟩ (m := 0) ⟨rfl, rfl⟩ ?_
      rintro m vals _ ⟨rfl, rfl⟩ _
      refine ldg (fun _ => hb2.cell rfl) ?_
      refine brf ?_
      exact rt1 ⟨hA.trans k2.ap, by rw [hk]; exact ⟨_, _, _, hb2⟩, ⟨_, _, _, rfl⟩, fun x r q => by rw [hk] at q; cases q⟩
  | some xr =>
    obtain ⟨m0, r⟩ := xr
    have e0 := hok _ _ h1
    simp only [vNum, Value.int.injEq, true_and] at e0
    subst e0
    rw [h1] at hst ck
    obtain ⟨a0, c0, hb, hS, hc⟩ := hst
    have hlen : r.length ≤ 4194304 := hS.big
    have hc : r.length ≤ c0 := hc
    refine sp (.slice none 0 0) (fun q => ?_) (fun q => ?_)
    · have hn0 : 0 ≤ n := by simpa using q
      obtain ⟨m, rfl⟩ : ∃ m : Nat, n = (m : Int) := ⟨n.toNat, by omega⟩
      have ck : cur.bind (rList rTy) = rRep rTy m r := by rw [ck]; simp only [Option.bind_some]; rw [if_neg (by omega)]; rfl
      refine ld (hb.cell rfl) ?_
      refine spt (I 0) ?_
      refine iop (quo_run (b := 4) (by decide)) ?_
      have hq : IntKind.i64.wrap ((r.length : Int).tdiv 4) = ((r.length / 4 : Nat) : Int) := by
        have : (r.length : Int).tdiv 4 = ((r.length / 4 : Nat) : Int) := by rw [Int.tdiv_eq_ediv_of_nonneg (by omega)]; omega
        rw [this, wrap_fit (by omega) (by omega)]
      rw [hq]
      refine br (fun h => ?_) (fun h => ?_)
      · have hbig : r.length / 4 < m := by simp at h; omega
        have hk : cur.bind (rList rTy) = none := by
          rw [ck]
          cases hr : rRep rTy m r with
          | none => rfl
          | some y =>
            have := rRep_min min_ty _ _ _ _ hr
            omega
        refine st hb fun w2 k2 hb2 => ?_
        refine lp (vals := [.slice none 0 0, I 0]) [6, 7] [(0, pr rb), (1, .func (.func gf) #[pr rb] #[]), (5, I (m : Int))] (fun m vals w' => vals = [.slice none 0 0, I 0] ∧ w' = w2) ⟨rfl, rfl, rfl, trivial⟩ (m := 0) ⟨rfl, rfl⟩ ?_
        rintro m vals _ ⟨rfl, rfl⟩ _
        refine ldg (fun _ => hb2.cell rfl) ?_
        refine brf ?_
        exact rt1 ⟨hA.trans k2.ap, by rw [hk]; exact ⟨_, _, _, hb2⟩, ⟨_, _, _, rfl⟩, fun x r q => by rw [hk] at q; cases q⟩
      · have hsm : m ≤ r.length / 4 := by simp at h; omega
        refine lpk m 7 [6] [(0, pr rb), (1, .func (.func gf) #[pr rb] #[]), (5, I m)] (fun k vals w' => Ap w (some ⟨rb, 0, none⟩) w' ∧ w1.heap.size ≤ w'.heap.size ∧ ((∃ xs r', rRep rTy k r = some (xs, r') ∧ RdS w' rb B (some r') ∧ ∃ a c, vals = [.slice a xs.length c] ∧ OwC eTy (fun b => w1.heap.size ≤ b) w' w1.heap.size 61 a c xs) ∨
          (rRep rTy k r = none ∧ RdS w' rb B none ∧ ∃ a j c, vals = [.slice a j c]))) ⟨hA, Nat.le_refl _, .inl ⟨[], r, rfl, ⟨a0, c0, hb, hS, hc⟩, none, 0, rfl, OwC.nil ..⟩⟩ ?_
        rintro k vals w2 hk ⟨hA2, z2, hI⟩ ih
        rcases hI with ⟨xs, r', hr, hst2, a, c, rfl, hO⟩ | ⟨hr, hst2, a, j, c, rfl⟩
        · have hxl := rRep_len hr
          have hst2' := hst2
          obtain ⟨a2, c2, hb2, hS2, hc2⟩ := hst2
          by_cases hlt2 : k < m
          · refine ldg (fun _ => hb2.cell rfl) ?_
            refine brt ?_ (hp := by simp [hlt2])
            refine cl (one (some r') w2 hst2') ?_
            rintro v3 w3 ⟨hA3, hst3, ⟨c1, c2, rfl⟩, hok3⟩
            have z3 := hA3.size
            have hO3 := hO.rb hA3 (by omega) fun i hi => by omega
            refine bs (cs := [I c1, I c2]) fun b4 w4 h4 => ?_
            have z4 := h4.size
            have y4 := h4.blk
            obtain ⟨ys, e1, e2, hOx, e4⟩ := (hO3.bl h4.bl).row
            refine ap hOx (.inr ⟨b4, 0, rfl, h4.box.at⟩) (by omega) (fun a5 c5 w5 hO5 hA5 hf5 => ?_)
            have hlo : ∀ g, a = some ⟨g, 0, none⟩ → w1.heap.size ≤ g := fun g hg => (hO.lt hg).1
            have hA05 : Ap w (some ⟨rb, 0, none⟩) w5 := ((hA2.trans hA3).thenBl h4.bl).ap hA5 fun g hg => by have := hlo g hg; omega
            have hst5 := (hst3.bl h4.bl hB).ap hA5 hB fun g hg => by have := hlo g hg; omega
            have z5 := hA5.size
            have es := rRep_snoc rTy k r
            rw [hr] at es
            cases hp : rTy r' with
            | none =>
              have hst5 : RdS w5 rb B none := by rw [show (some r' : Option (List UInt8)).bind rTy = none from hp] at hst5; exact hst5
              refine ih hlt2 ⟨hA05, by omega, .inr ⟨by rw [es]; simp only [Option.bind_some]; rw [hp]; rfl, hst5, _, _, _, rfl⟩⟩
            | some yr =>
              obtain ⟨y, r2⟩ := yr
              have hst5 : RdS w5 rb B (some r2) := by rw [show (some r' : Option (List UInt8)).bind rTy = some (y, r2) from hp] at hst5; exact hst5
              have hv := hok3 y r2 hp
              have hrel : (eTy).rel (fun b => w1.heap.size ≤ b ∧ a ≠ some ⟨b, 0, none⟩ ∧ b < w4.heap.size) w4 [I c1, I c2] y := by
                refine (eTy).sub (S := fun b => w2.heap.size ≤ b ∧ b < w3.heap.size) (fun b hb => ⟨by omega, fun e => by have := (hO.lt e).2; omega, by omega⟩) ((eTy).kp (h4.bl.kp _) ?_)
                obtain ⟨cs, e, hr2⟩ := hv
                rw [agg_inj e]; exact hr2
              have hO6 := OwC.push e1 e2 e4 hO5 hA5 hf5 hrel
              refine ih hlt2 ⟨hA05, by omega, .inl ⟨xs ++ [y], r2, ?_, hst5, a5, c5, ?_, hO6⟩⟩
              · rw [es]; simp only [Option.bind_some]; rw [hp]; rfl
              · rw [List.length_append]; rfl
          · refine ldg (fun _ => hb2.cell rfl) ?_
            refine brf ?_ (hp := by simp [hlt2])
            obtain rfl : k = m := by omega
            have hk2 : cur.bind (rList rTy) = some (xs, r') := ck.trans hr
            refine rt1 ⟨hA2, by rw [hk2]; exact hst2', ⟨_, _, _, rfl⟩, fun x y q => ?_⟩
            rw [hk2] at q
            simp only [Option.some.injEq, Prod.mk.injEq] at q
            obtain ⟨rfl, rfl⟩ := q
            exact ⟨_, _, rfl, (hO.sl2 (by omega)).sub fun i hi => ⟨by omega, hi.2⟩⟩
        · have hk2 : cur.bind (rList rTy) = none := ck.trans (rRep_none hr m hk)
          obtain ⟨a2, n2, c2, hb2⟩ := hst2
          refine ldg (fun _ => hb2.cell rfl) ?_
          refine brf ?_
          exact rt1 ⟨hA2, by rw [hk2]; exact ⟨_, _, _, hb2⟩, ⟨_, _, _, rfl⟩, fun x y q => by rw [hk2] at q; cases q⟩
    · have hneg : n < 0 := by simpa using q
      have hk : cur.bind (rList rTy) = none := by rw [ck]; simp only [Option.bind_some]; rw [if_pos hneg]
      refine spn (I 0) ?_
      refine brt ?_ (hp := by simp [hneg])
      refine st hb fun w2 k2 hb2 => ?_
      refine lp (vals := [.slice none 0 0, I 0]) [6, 7] [(0, pr rb), (1, .func (.func gf) #[pr rb] #[]), (5, I n)] (fun m vals w' => vals = [.slice none 0 0, I 0] ∧ w' = w2) ⟨rfl, rfl, rfl, trivial⟩ (m := 0) ⟨rfl, rfl⟩ ?_
      rintro m vals _ ⟨rfl, rfl⟩ _
      refine ldg (fun _ => hb2.cell rfl) ?_
      refine brf ?_
      exact rt1 ⟨hA.trans k2.ap, by rw [hk]; exact ⟨_, _, _, hb2⟩, ⟨_, _, _, rfl⟩, fun x r q => by rw [hk] at q; cases q⟩
theorem u_field (rb B : Nat) (cur : Option (List UInt8)) (w : World) (hR : RdS w rb B cur) (hB : B ≤ rb) : Ret Tryz.prog 97 #[pr rb] w (RdR rFld (vAgg eFld) gI3 rb B cur w) := by
  have hlt := hR.lt
  refine entr (vs := [pr rb]) [0, 2, 3] tabok Tryz.func97 (by kernel_rfl) ?_
  refine al fun b1 w1 h1 => ?_
  have y1 := h1.blk
  have z1 := h1.size
  have R1 := hR.bl h1.bl hB
  refine cl (u_number rb B cur w1 R1 hB) ?_
  rintro v w2 ⟨A2, R2, ⟨n2, rfl⟩, k2⟩
  refine cl (u_kind rb B _ w2 R2 hB) ?_
  rintro v w3 ⟨A3, R3, ⟨n3, n4, rfl⟩, k3⟩
  refine bd ?_
  have x3 := A3.box (A2.box h1.box (ap_ne (by omega))) (ap_ne (by omega))
  refine sta x3 fun w4 k4 x4 => ?_
  have A04 : Ap w (some ⟨rb, 0, none⟩) w4 := (((Ap.bl h1.bl _).trans A2).trans A3).new k4 (by omega)
  have R4 := R3.ap k4.ap hB fun g hg => by simp only [Option.some.injEq, Addr.mk.injEq, and_true] at hg; omega
  have e : cur.bind rFld = (cur.bind rNum).bind fun x => (rTy x.2).bind fun y => some (⟨x.1, y.1⟩, y.2) := by cases cur <;> rfl
  refine rtc x4.at ⟨A04, ?_, ⟨n2, n3, n4, rfl⟩, fun t r q => ?_⟩
  · rw [e]
    cases h : cur.bind rNum with
    | none => rw [h] at R4; exact R4
    | some x =>
      rw [h] at R4
      have R4 : RdS w4 rb B ((rTy x.2).map (·.2)) := R4
      simp only [Option.bind_some]
      cases h2 : rTy x.2 <;> (rw [h2] at R4; exact R4)
  · rw [e] at q
    obtain ⟨x, q1, q⟩ := bind_some q
    obtain ⟨y, q2, q⟩ := bind_some q
    simp only [Option.some.injEq, Prod.mk.injEq] at q
    obtain ⟨rfl, _⟩ := q
    have e2 := k2 x.1 x.2 q1
    obtain ⟨cs, e3, e4⟩ := k3 y.1 y.2 (by rw [q1]; exact q2)
    simp only [vNum, Value.int.injEq, true_and] at e2
    have e4 : cs = encTy y.1 := e4
    have e5 : [I n3, I n4] = encTy y.1 := (agg_inj e3).trans e4
    exact ⟨[I n2, I n3, I n4], rfl, by rw [e2]; exact congrArg (fun l => I x.1 :: l) e5⟩
set_option maxHeartbeats 1000000 in
theorem u_getFld (rb B : Nat) (cur : Option (List UInt8)) (w : World) (hR : RdS w rb B cur) (hB : B ≤ rb) (gf : FuncId) (one : ∀ cur w, RdS w rb B cur → Ret Tryz.prog gf #[pr rb] w (RdR rFld (vAgg eFld) gI3 rb B cur w)) :
    Ret Tryz.prog 96 #[pr rb, .func (.func gf) #[pr rb] #[]] w (RdR (rList rFld) (vLst eFld) gLst rb B cur w) := by
  have hlt := hR.lt
  refine entr (vs := [pr rb, .func (.func gf) #[pr rb] #[]]) [0, 1, 4, 5, 6, 7, 21, 34] tabok Tryz.func96 (by kernel_rfl) ?_
  refine cl (u_number rb B cur w hR hB) ?_
  rintro v w1 ⟨hA, hst, ⟨n, rfl⟩, hok⟩
  have z1 := hA.size
  have ck := cur_list (p := rFld) (cur := cur)
  cases h1 : cur.bind rNum with
  | none =>
    rw [h1] at hst ck
    have hk : cur.bind (rList rFld) = none := ck
    obtain ⟨a0, n0, c0, hb⟩ := hst
    refine sp (.slice none 0 0) (fun q => ?_) (fun q => ?_)
    · refine ld (hb.cell rfl) ?_
      refine spt (I 0) ?_
      refine iop (quo_run (b := 4) (by decide)) ?_
      refine br (fun h => ?_) (fun h => ?_)
      · refine st hb fun w2 k2 hb2 => ?_
        refine lp (vals := [.slice none 0 0, I 0]) [6, 7] [(0, pr rb), (1, .func (.func gf) #[pr rb] #[]), (5, I n)] (fun m vals w' => vals = [.slice none 0 0, I 0] ∧ w' = w2) ⟨rfl, rfl, rfl, trivial⟩ (m := 0) ⟨rfl, rfl⟩ ?_
        rintro m vals _ ⟨rfl, rfl⟩ _
        refine ldg (fun _ => hb2.cell rfl) ?_
        refine brf ?_
        exact rt1 ⟨hA.trans k2.ap, by rw [hk]; exact ⟨_, _, _, hb2⟩, ⟨_, _, _, rfl⟩, fun x r q => by rw [hk] at q; cases q⟩
      · skip
        refine lp (vals := [.slice none 0 0, I 0]) [6, 7] [(0, pr rb), (1, .func (.func gf) #[pr rb] #[]), (5, I n)] (fun m vals w' => vals = [.slice none 0 0, I 0] ∧ w' = w1) ⟨rfl, rfl, rfl, trivial⟩ (m := 0) ⟨rfl, rfl⟩ ?_
        rintro m vals _ ⟨rfl, rfl⟩ _
        refine ldg (fun _ => hb.cell rfl) ?_
        refine brf ?_
        exact rt1 ⟨hA, by rw [hk]; exact ⟨_, _, _, hb⟩, ⟨_, _, _, rfl⟩, fun x r q => by rw [hk] at q; cases q⟩
    · have hneg : n < 0 := by simpa using q
      refine spn (I 0) ?_
      refine brt ?_ (hp := by simp [hneg])
      refine st hb fun w2 k2 hb2 => ?_
      refine lp (vals := [.slice none 0 0, I 0]) [6, 7] [(0, pr rb), (1, .func (.func gf) #[pr rb] #[]), (5, I n)] (fun m vals w' => vals = [.slice none 0 0, I 0] ∧ w' = w2) ⟨rfl, rfl, rfl, trivial⟩ (m := 0) ⟨rfl, rfl⟩ ?_
      rintro m vals _ ⟨rfl, rfl⟩ _
      refine ldg (fun _ => hb2.cell rfl) ?_
      refine brf ?_
      exact rt1 ⟨hA.trans k2.ap, by rw [hk]; exact ⟨_, _, _, hb2⟩, ⟨_, _, _, rfl⟩, fun x r q => by rw [hk] at q; cases q⟩
  | some xr =>
    obtain ⟨m0, r⟩ := xr
    have e0 := hok _ _ h1
    simp only [vNum, Value.int.injEq, true_and] at e0
    subst e0
    rw [h1] at hst ck
    obtain ⟨a0, c0, hb, hS, hc⟩ := hst
    have hlen : r.length ≤ 4194304 := hS.big
    have hc : r.length ≤ c0 := hc
    refine sp (.slice none 0 0) (fun q => ?_) (fun q => ?_)
    · have hn0 : 0 ≤ n := by simpa using q
      obtain ⟨m, rfl⟩ : ∃ m : Nat, n = (m : Int) := ⟨n.toNat, by omega⟩
      have ck : cur.bind (rList rFld) = rRep rFld m r := by rw [ck]; simp only [Option.bind_some]; rw [if_neg (by omega)]; rfl
      refine ld (hb.cell rfl) ?_
      refine spt (I 0) ?_
      refine iop (quo_run (b := 4) (by decide)) ?_
      have hq : IntKind.i64.wrap ((r.length : Int).tdiv 4) = ((r.length / 4 : Nat) : Int) := by
        have : (r.length : Int).tdiv 4 = ((r.length / 4 : Nat) : Int) := by rw [Int.tdiv_eq_ediv_of_nonneg (by omega)]; omega
        rw [this, wrap_fit (by omega) (by omega)]
      rw [hq]
      refine br (fun h => ?_) (fun h => ?_)
      · have hbig : r.length / 4 < m := by simp at h; omega
        have hk : cur.bind (rList rFld) = none := by
          rw [ck]
          cases hr : rRep rFld m r with
          | none => rfl
          | some y =>
            have := rRep_min min_fld _ _ _ _ hr
            omega
        refine st hb fun w2 k2 hb2 => ?_
        refine lp (vals := [.slice none 0 0, I 0]) [6, 7] [(0, pr rb), (1, .func (.func gf) #[pr rb] #[]), (5, I (m : Int))] (fun m vals w' => vals = [.slice none 0 0, I 0] ∧ w' = w2) ⟨rfl, rfl, rfl, trivial⟩ (m := 0) ⟨rfl, rfl⟩ ?_
        rintro m vals _ ⟨rfl, rfl⟩ _
        refine ldg (fun _ => hb2.cell rfl) ?_
        refine brf ?_
        exact rt1 ⟨hA.trans k2.ap, by rw [hk]; exact ⟨_, _, _, hb2⟩, ⟨_, _, _, rfl⟩, fun x r q => by rw [hk] at q; cases q⟩
      · have hsm : m ≤ r.length / 4 := by simp at h; omega
        refine lpk m 7 [6] [(0, pr rb), (1, .func (.func gf) #[pr rb] #[]), (5, I m)] (fun k vals w' => Ap w (some ⟨rb, 0, none⟩) w' ∧ w1.heap.size ≤ w'.heap.size ∧ ((∃ xs r', rRep rFld k r = some (xs, r') ∧ RdS w' rb B (some r') ∧ ∃ a c, vals = [.slice a xs.length c] ∧ OwC eFld (fun b => w1.heap.size ≤ b) w' w1.heap.size 86 a c xs) ∨
          (rRep rFld k r = none ∧ RdS w' rb B none ∧ ∃ a j c, vals = [.slice a j c]))) ⟨hA, Nat.le_refl _, .inl ⟨[], r, rfl, ⟨a0, c0, hb, hS, hc⟩, none, 0, rfl, OwC.nil ..⟩⟩ ?_
        rintro k vals w2 hk ⟨hA2, z2, hI⟩ ih
        rcases hI with ⟨xs, r', hr, hst2, a, c, rfl, hO⟩ | ⟨hr, hst2, a, j, c, rfl⟩
        · have hxl := rRep_len hr
          have hst2' := hst2
          obtain ⟨a2, c2, hb2, hS2, hc2⟩ := hst2
          by_cases hlt2 : k < m
          · refine ldg (fun _ => hb2.cell rfl) ?_
            refine brt ?_ (hp := by simp [hlt2])
            refine cl (one (some r') w2 hst2') ?_
            rintro v3 w3 ⟨hA3, hst3, ⟨c1, c2, c3, rfl⟩, hok3⟩
            have z3 := hA3.size
            have hO3 := hO.rb hA3 (by omega) fun i hi => by omega
            refine bs (cs := [I c1, I c2, I c3]) fun b4 w4 h4 => ?_
            have z4 := h4.size
            have y4 := h4.blk
            obtain ⟨ys, e1, e2, hOx, e4⟩ := (hO3.bl h4.bl).row
            refine ap hOx (.inr ⟨b4, 0, rfl, h4.box.at⟩) (by omega) (fun a5 c5 w5 hO5 hA5 hf5 => ?_)
            have hlo : ∀ g, a = some ⟨g, 0, none⟩ → w1.heap.size ≤ g := fun g hg => (hO.lt hg).1
            have hA05 : Ap w (some ⟨rb, 0, none⟩) w5 := ((hA2.trans hA3).thenBl h4.bl).ap hA5 fun g hg => by have := hlo g hg; omega
            have hst5 := (hst3.bl h4.bl hB).ap hA5 hB fun g hg => by have := hlo g hg; omega
            have z5 := hA5.size
            have es := rRep_snoc rFld k r
            rw [hr] at es
            cases hp : rFld r' with
            | none =>
              have hst5 : RdS w5 rb B none := by rw [show (some r' : Option (List UInt8)).bind rFld = none from hp] at hst5; exact hst5
              refine ih hlt2 ⟨hA05, by omega, .inr ⟨by rw [es]; simp only [Option.bind_some]; rw [hp]; rfl, hst5, _, _, _, rfl⟩⟩
            | some yr =>
              obtain ⟨y, r2⟩ := yr
              have hst5 : RdS w5 rb B (some r2) := by rw [show (some r' : Option (List UInt8)).bind rFld = some (y, r2) from hp] at hst5; exact hst5
              have hv := hok3 y r2 hp
              have hrel : (eFld).rel (fun b => w1.heap.size ≤ b ∧ a ≠ some ⟨b, 0, none⟩ ∧ b < w4.heap.size) w4 [I c1, I c2, I c3] y := by
                refine (eFld).sub (S := fun b => w2.heap.size ≤ b ∧ b < w3.heap.size) (fun b hb => ⟨by omega, fun e => by have := (hO.lt e).2; omega, by omega⟩) ((eFld).kp (h4.bl.kp _) ?_)
                obtain ⟨cs, e, hr2⟩ := hv
                rw [agg_inj e]; exact hr2
              have hO6 := OwC.push e1 e2 e4 hO5 hA5 hf5 hrel
              refine ih hlt2 ⟨hA05, by omega, .inl ⟨xs ++ [y], r2, ?_, hst5, a5, c5, ?_, hO6⟩⟩
              · rw [es]; simp only [Option.bind_some]; rw [hp]; rfl
              · rw [List.length_append]; rfl
          · refine ldg (fun _ => hb2.cell rfl) ?_
            refine brf ?_ (hp := by simp [hlt2])
            obtain rfl : k = m := by omega
            have hk2 : cur.bind (rList rFld) = some (xs, r') := ck.trans hr
            refine rt1 ⟨hA2, by rw [hk2]; exact hst2', ⟨_, _, _, rfl⟩, fun x y q => ?_⟩
            rw [hk2] at q
            simp only [Option.some.injEq, Prod.mk.injEq] at q
            obtain ⟨rfl, rfl⟩ := q
            exact ⟨_, _, rfl, (hO.sl2 (by omega)).sub fun i hi => ⟨by omega, hi.2⟩⟩
        · have hk2 : cur.bind (rList rFld) = none := ck.trans (rRep_none hr m hk)
          obtain ⟨a2, n2, c2, hb2⟩ := hst2
          refine ldg (fun _ => hb2.cell rfl) ?_
          refine brf ?_
          exact rt1 ⟨hA2, by rw [hk2]; exact ⟨_, _, _, hb2⟩, ⟨_, _, _, rfl⟩, fun x y q => by rw [hk2] at q; cases q⟩
    · have hneg : n < 0 := by simpa using q
      have hk : cur.bind (rList rFld) = none := by rw [ck]; simp only [Option.bind_some]; rw [if_pos hneg]
      refine spn (I 0) ?_
      refine brt ?_ (hp := by simp [hneg])
      refine st hb fun w2 k2 hb2 => ?_
      refine lp (vals := [.slice none 0 0, I 0]) [6, 7] [(0, pr rb), (1, .func (.func gf) #[pr rb] #[]), (5, I n)] (fun m vals w' => vals = [.slice none 0 0, I 0] ∧ w' = w2) ⟨rfl, rfl, rfl, trivial⟩ (m := 0) ⟨rfl, rfl⟩ ?_
      rintro m vals _ ⟨rfl, rfl⟩ _
      refine ldg (fun _ => hb2.cell rfl) ?_
      refine brf ?_
      exact rt1 ⟨hA.trans k2.ap, by rw [hk]; exact ⟨_, _, _, hb2⟩, ⟨_, _, _, rfl⟩, fun x r q => by rw [hk] at q; cases q⟩
theorem u_instr (rb B : Nat) (cur : Option (List UInt8)) (w : World) (hR : RdS w rb B cur) (hB : B ≤ rb) : Ret Tryz.prog 151 #[pr rb] w (RdR rIns (vAgg eIns) gI3 rb B cur w) := by
  have hlt := hR.lt
  refine entr (vs := [pr rb]) [0, 2, 3, 4] tabok Tryz.func151 (by kernel_rfl) ?_
  refine al fun b1 w1 h1 => ?_
  have y1 := h1.blk
  have z1 := h1.size
  have R1 := hR.bl h1.bl hB
  refine cl (u_number rb B cur w1 R1 hB) ?_
  rintro v w2 ⟨A2, R2, ⟨n2, rfl⟩, k2⟩
  refine cl (u_number rb B _ w2 R2 hB) ?_
  rintro v w3 ⟨A3, R3, ⟨n3, rfl⟩, k3⟩
  refine cl (u_number rb B _ w3 R3 hB) ?_
  rintro v w4 ⟨A4, R4, ⟨n4, rfl⟩, k4⟩
  refine bd ?_
  have x4 := A4.box (A3.box (A2.box h1.box (ap_ne (by omega))) (ap_ne (by omega))) (ap_ne (by omega))
  refine sta x4 fun w5 k5 x5 => ?_
  have A05 : Ap w (some ⟨rb, 0, none⟩) w5 := ((((Ap.bl h1.bl _).trans A2).trans A3).trans A4).new k5 (by omega)
  have R5 := R4.ap k5.ap hB fun g hg => by simp only [Option.some.injEq, Addr.mk.injEq, and_true] at hg; omega
  have e : cur.bind rIns = (cur.bind rNum).bind fun x => (rNum x.2).bind fun y => (rNum y.2).bind fun z => some (⟨x.1, y.1, z.1⟩, z.2) := by cases cur <;> rfl
  refine rtc x5.at ⟨A05, ?_, ⟨n2, n3, n4, rfl⟩, fun t r q => ?_⟩
  · rw [e]
    cases h : cur.bind rNum with
    | none => rw [h] at R5; exact R5
    | some x =>
      rw [h] at R5
      have R5 : RdS w5 rb B ((((rNum x.2).map (·.2)).bind rNum).map (·.2)) := R5
      simp only [Option.bind_some]
      cases h2 : rNum x.2 with
      | none => rw [h2] at R5; exact R5
      | some y =>
        rw [h2] at R5
        have R5 : RdS w5 rb B ((rNum y.2).map (·.2)) := R5
        simp only [Option.bind_some]
        cases h3 : rNum y.2 <;> (rw [h3] at R5; exact R5)
  · rw [e] at q
    obtain ⟨x, q1, q⟩ := bind_some q
    obtain ⟨y, q2, q⟩ := bind_some q
    obtain ⟨z, q3, q⟩ := bind_some q
    simp only [Option.some.injEq, Prod.mk.injEq] at q
    obtain ⟨rfl, _⟩ := q
    have c1 : (((cur.bind rNum).map (·.2)).bind rNum) = some y := by rw [q1]; exact q2
    have e2 := k2 x.1 x.2 q1
    have e3 := k3 y.1 y.2 c1
    have e4 := k4 z.1 z.2 (by rw [c1]; exact q3)
    simp only [vNum, Value.int.injEq, true_and] at e2 e3 e4
    exact ⟨[I n2, I n3, I n4], rfl, by rw [e2, e3, e4]; rfl⟩
set_option maxHeartbeats 1000000 in
theorem u_getIns (rb B : Nat) (cur : Option (List UInt8)) (w : World) (hR : RdS w rb B cur) (hB : B ≤ rb) (gf : FuncId) (one : ∀ cur w, RdS w rb B cur → Ret Tryz.prog gf #[pr rb] w (RdR rIns (vAgg eIns) gI3 rb B cur w)) :
    Ret Tryz.prog 150 #[pr rb, .func (.func gf) #[pr rb] #[]] w (RdR (rList rIns) (vLst eIns) gLst rb B cur w) := by
  have hlt := hR.lt
  refine entr (vs := [pr rb, .func (.func gf) #[pr rb] #[]]) [0, 1, 4, 5, 6, 7, 21, 34] tabok Tryz.func150 (by kernel_rfl) ?_
  refine cl (u_number rb B cur w hR hB) ?_
  rintro v w1 ⟨hA, hst, ⟨n, rfl⟩, hok⟩
  have z1 := hA.size
  have ck := cur_list (p := rIns) (cur := cur)
  cases h1 : cur.bind rNum with
  | none =>
    rw [h1] at hst ck
    have hk : cur.bind (rList rIns) = none := ck
    obtain ⟨a0, n0, c0, hb⟩ := hst
    refine sp (.slice none 0 0) (fun q => ?_) (fun q => ?_)
    · refine ld (hb.cell rfl) ?_
      refine spt (I 0) ?_
      refine iop (quo_run (b := 4) (by decide)) ?_
      refine br (fun h => ?_) (fun h => ?_)
      · refine st hb fun w2 k2 hb2 => ?_
        refine lp (vals := [.slice none 0 0, I 0]) [6, 7] [(0, pr rb), (1, .func (.func gf) #[pr rb] #[]), (5, I n)] (fun m vals w' => vals = [.slice none 0 0, I 0] ∧ w' = w2) ⟨rfl, rfl, rfl, trivial⟩ (m := 0) ⟨rfl, rfl⟩ ?_
        rintro m vals _ ⟨rfl, rfl⟩ _
        refine ldg (fun _ => hb2.cell rfl) ?_
        refine brf ?_
        exact rt1 ⟨hA.trans k2.ap, by rw [hk]; exact ⟨_, _, _, hb2⟩, ⟨_, _, _, rfl⟩, fun x r q => by rw [hk] at q; cases q⟩
      · skip
        refine lp (vals := [.slice none 0 0, I 0]) [6, 7] [(0, pr rb), (1, .func (.func gf) #[pr rb] #[]), (5, I n)] (fun m vals w' => vals = [.slice none 0 0, I 0] ∧ w' = w1) ⟨rfl, rfl, rfl, trivial⟩ (m := 0) ⟨rfl, rfl⟩ ?_
        rintro m vals _ ⟨rfl, rfl⟩ _
        refine ldg (fun _ => hb.cell rfl) ?_
        refine brf ?_
        exact rt1 ⟨hA, by rw [hk]; exact ⟨_, _, _, hb⟩, ⟨_, _, _, rfl⟩, fun x r q => by rw [hk] at q; cases q⟩
    · have hneg : n < 0 := by simpa using q
      refine spn (I 0) ?_
      refine brt ?_ (hp := by simp [hneg])
      refine st hb fun w2 k2 hb2 => ?_
      refine lp (vals := [.slice none 0 0, I 0]) [6, 7] [(0, pr rb), (1, .func (.func gf) #[pr rb] #[]), (5, I n)] (fun m vals w' => vals = [.slice none 0 0, I 0] ∧ w' = w2) ⟨rfl, rfl, rfl, trivial⟩ (m := 0) ⟨rfl, rfl⟩ ?_
      rintro m vals _ ⟨rfl, rfl⟩ _
      refine ldg (fun _ => hb2.cell rfl) ?_
      refine brf ?_
      exact rt1 ⟨hA.trans k2.ap, by rw [hk]; exact ⟨_, _, _, hb2⟩, ⟨_, _, _, rfl⟩, fun x r q => by rw [hk] at q; cases q⟩
  | some xr =>
    obtain ⟨m0, r⟩ := xr
    have e0 := hok _ _ h1
    simp only [vNum, Value.int.injEq, true_and] at e0
    subst e0
    rw [h1] at hst ck
    obtain ⟨a0, c0, hb, hS, hc⟩ := hst
    have hlen : r.length ≤ 4194304 := hS.big
    have hc : r.length ≤ c0 := hc
    refine sp (.slice none 0 0) (fun q => ?_) (fun q => ?_)
    · have hn0 : 0 ≤ n := by simpa using q
      obtain ⟨m, rfl⟩ : ∃ m : Nat, n = (m : Int) := ⟨n.toNat, by omega⟩
      have ck : cur.bind (rList rIns) = rRep rIns m r := by rw [ck]; simp only [Option.bind_some]; rw [if_neg (by omega)]; rfl
      refine ld (hb.cell rfl) ?_
      refine spt (I 0) ?_
      refine iop (quo_run (b := 4) (by decide)) ?_
      have hq : IntKind.i64.wrap ((r.length : Int).tdiv 4) = ((r.length / 4 : Nat) : Int) := by
        have : (r.length : Int).tdiv 4 = ((r.length / 4 : Nat) : Int) := by rw [Int.tdiv_eq_ediv_of_nonneg (by omega)]; omega
        rw [this, wrap_fit (by omega) (by omega)]
      rw [hq]
      refine br (fun h => ?_) (fun h => ?_)
      · have hbig : r.length / 4 < m := by simp at h; omega
        have hk : cur.bind (rList rIns) = none := by
          rw [ck]
          cases hr : rRep rIns m r with
          | none => rfl
          | some y =>
            have := rRep_min min_ins _ _ _ _ hr
            omega
        refine st hb fun w2 k2 hb2 => ?_
        refine lp (vals := [.slice none 0 0, I 0]) [6, 7] [(0, pr rb), (1, .func (.func gf) #[pr rb] #[]), (5, I (m : Int))] (fun m vals w' => vals = [.slice none 0 0, I 0] ∧ w' = w2) ⟨rfl, rfl, rfl, trivial⟩ (m := 0) ⟨rfl, rfl⟩ ?_
        rintro m vals _ ⟨rfl, rfl⟩ _
        refine ldg (fun _ => hb2.cell rfl) ?_
        refine brf ?_
        exact rt1 ⟨hA.trans k2.ap, by rw [hk]; exact ⟨_, _, _, hb2⟩, ⟨_, _, _, rfl⟩, fun x r q => by rw [hk] at q; cases q⟩
      · have hsm : m ≤ r.length / 4 := by simp at h; omega
        refine lpk m 7 [6] [(0, pr rb), (1, .func (.func gf) #[pr rb] #[]), (5, I m)] (fun k vals w' => Ap w (some ⟨rb, 0, none⟩) w' ∧ w1.heap.size ≤ w'.heap.size ∧ ((∃ xs r', rRep rIns k r = some (xs, r') ∧ RdS w' rb B (some r') ∧ ∃ a c, vals = [.slice a xs.length c] ∧ OwC eIns (fun b => w1.heap.size ≤ b) w' w1.heap.size 89 a c xs) ∨
          (rRep rIns k r = none ∧ RdS w' rb B none ∧ ∃ a j c, vals = [.slice a j c]))) ⟨hA, Nat.le_refl _, .inl ⟨[], r, rfl, ⟨a0, c0, hb, hS, hc⟩, none, 0, rfl, OwC.nil ..⟩⟩ ?_
        rintro k vals w2 hk ⟨hA2, z2, hI⟩ ih
        rcases hI with ⟨xs, r', hr, hst2, a, c, rfl, hO⟩ | ⟨hr, hst2, a, j, c, rfl⟩
        · have hxl := rRep_len hr
          have hst2' := hst2
          obtain ⟨a2, c2, hb2, hS2, hc2⟩ := hst2
          by_cases hlt2 : k < m
          · refine ldg (fun _ => hb2.cell rfl) ?_
            refine brt ?_ (hp := by simp [hlt2])
            refine cl (one (some r') w2 hst2') ?_
            rintro v3 w3 ⟨hA3, hst3, ⟨c1, c2, c3, rfl⟩, hok3⟩
            have z3 := hA3.size
            have hO3 := hO.rb hA3 (by omega) fun i hi => by omega
            refine bs (cs := [I c1, I c2, I c3]) fun b4 w4 h4 => ?_
            have z4 := h4.size
            have y4 := h4.blk
            obtain ⟨ys, e1, e2, hOx, e4⟩ := (hO3.bl h4.bl).row
            refine ap hOx (.inr ⟨b4, 0, rfl, h4.box.at⟩) (by omega) (fun a5 c5 w5 hO5 hA5 hf5 => ?_)
            have hlo : ∀ g, a = some ⟨g, 0, none⟩ → w1.heap.size ≤ g := fun g hg => (hO.lt hg).1
            have hA05 : Ap w (some ⟨rb, 0, none⟩) w5 := ((hA2.trans hA3).thenBl h4.bl).ap hA5 fun g hg => by have := hlo g hg; omega
            have hst5 := (hst3.bl h4.bl hB).ap hA5 hB fun g hg => by have := hlo g hg; omega
            have z5 := hA5.size
            have es := rRep_snoc rIns k r
            rw [hr] at es
            cases hp : rIns r' with
            | none =>
              have hst5 : RdS w5 rb B none := by rw [show (some r' : Option (List UInt8)).bind rIns = none from hp] at hst5; exact hst5
              refine ih hlt2 ⟨hA05, by omega, .inr ⟨by rw [es]; simp only [Option.bind_some]; rw [hp]; rfl, hst5, _, _, _, rfl⟩⟩
            | some yr =>
              obtain ⟨y, r2⟩ := yr
              have hst5 : RdS w5 rb B (some r2) := by rw [show (some r' : Option (List UInt8)).bind rIns = some (y, r2) from hp] at hst5; exact hst5
              have hv := hok3 y r2 hp
              have hrel : (eIns).rel (fun b => w1.heap.size ≤ b ∧ a ≠ some ⟨b, 0, none⟩ ∧ b < w4.heap.size) w4 [I c1, I c2, I c3] y := by
                refine (eIns).sub (S := fun b => w2.heap.size ≤ b ∧ b < w3.heap.size) (fun b hb => ⟨by omega, fun e => by have := (hO.lt e).2; omega, by omega⟩) ((eIns).kp (h4.bl.kp _) ?_)
                obtain ⟨cs, e, hr2⟩ := hv
                rw [agg_inj e]; exact hr2
              have hO6 := OwC.push e1 e2 e4 hO5 hA5 hf5 hrel
              refine ih hlt2 ⟨hA05, by omega, .inl ⟨xs ++ [y], r2, ?_, hst5, a5, c5, ?_, hO6⟩⟩
              · rw [es]; simp only [Option.bind_some]; rw [hp]; rfl
              · rw [List.length_append]; rfl
          · refine ldg (fun _ => hb2.cell rfl) ?_
            refine brf ?_ (hp := by simp [hlt2])
            obtain rfl : k = m := by omega
            have hk2 : cur.bind (rList rIns) = some (xs, r') := ck.trans hr
            refine rt1 ⟨hA2, by rw [hk2]; exact hst2', ⟨_, _, _, rfl⟩, fun x y q => ?_⟩
            rw [hk2] at q
            simp only [Option.some.injEq, Prod.mk.injEq] at q
            obtain ⟨rfl, rfl⟩ := q
            exact ⟨_, _, rfl, (hO.sl2 (by omega)).sub fun i hi => ⟨by omega, hi.2⟩⟩
        · have hk2 : cur.bind (rList rIns) = none := ck.trans (rRep_none hr m hk)
          obtain ⟨a2, n2, c2, hb2⟩ := hst2
          refine ldg (fun _ => hb2.cell rfl) ?_
          refine brf ?_
          exact rt1 ⟨hA2, by rw [hk2]; exact ⟨_, _, _, hb2⟩, ⟨_, _, _, rfl⟩, fun x y q => by rw [hk2] at q; cases q⟩
    · have hneg : n < 0 := by simpa using q
      have hk : cur.bind (rList rIns) = none := by rw [ck]; simp only [Option.bind_some]; rw [if_pos hneg]
      refine spn (I 0) ?_
      refine brt ?_ (hp := by simp [hneg])
      refine st hb fun w2 k2 hb2 => ?_
      refine lp (vals := [.slice none 0 0, I 0]) [6, 7] [(0, pr rb), (1, .func (.func gf) #[pr rb] #[]), (5, I n)] (fun m vals w' => vals = [.slice none 0 0, I 0] ∧ w' = w2) ⟨rfl, rfl, rfl, trivial⟩ (m := 0) ⟨rfl, rfl⟩ ?_
      rintro m vals _ ⟨rfl, rfl⟩ _
      refine ldg (fun _ => hb2.cell rfl) ?_
      refine brf ?_
      exact rt1 ⟨hA.trans k2.ap, by rw [hk]; exact ⟨_, _, _, hb2⟩, ⟨_, _, _, rfl⟩, fun x r q => by rw [hk] at q; cases q⟩
theorem u_class (rb B : Nat) (cur : Option (List UInt8)) (w : World) (hR : RdS w rb B cur) (hB : B ≤ rb) : Ret Tryz.prog 95 #[pr rb] w (RdR rCls (vAgg eCls) gCls rb B cur w) := by
  have hlt := hR.lt
  refine entr (vs := [pr rb]) [0, 2, 3, 4] tabok Tryz.func95 (by kernel_rfl) ?_
  refine al fun b1 w1 h1 => ?_
  have y1 := h1.blk
  have z1 := h1.size
  have R1 := hR.bl h1.bl hB
  refine cl (u_number rb B cur w1 R1 hB) ?_
  rintro v w2 ⟨A2, R2, ⟨n2, rfl⟩, k2⟩
  refine cl (u_number rb B _ w2 R2 hB) ?_
  rintro v w3 ⟨A3, R3, ⟨n3, rfl⟩, k3⟩
  refine cl (u_getFld rb B _ w3 R3 hB 97 fun cur w h => u_field rb B cur w h hB) ?_
  rintro v w4 ⟨A4, R4, ⟨p4, n4, c4, rfl⟩, k4⟩
  refine bd ?_
  have x4 := A4.box (A3.box (A2.box h1.box (ap_ne (by omega))) (ap_ne (by omega))) (ap_ne (by omega))
  refine sta x4 fun w5 k5 x5 => ?_
  have z2 := A2.size
  have z3 := A3.size
  have z5 := k5.size
  have A05 : Ap w (some ⟨rb, 0, none⟩) w5 := ((((Ap.bl h1.bl _).trans A2).trans A3).trans A4).new k5 (by omega)
  have R5 := R4.ap k5.ap hB fun g hg => by simp only [Option.some.injEq, Addr.mk.injEq, and_true] at hg; omega
  have e : cur.bind rCls = (cur.bind rNum).bind fun x => (rNum x.2).bind fun y => (rList rFld y.2).bind fun z => some (⟨x.1, y.1, z.1⟩, z.2) := by cases cur <;> rfl
  refine rtc x5.at ⟨A05, ?_, ⟨n2, n3, p4, n4, c4, rfl⟩, fun t r q => ?_⟩
  · rw [e]
    cases h : cur.bind rNum with
    | none => rw [h] at R5; exact R5
    | some x =>
      rw [h] at R5
      have R5 : RdS w5 rb B ((((rNum x.2).map (·.2)).bind (rList rFld)).map (·.2)) := R5
      simp only [Option.bind_some]
      cases h2 : rNum x.2 with
      | none => rw [h2] at R5; exact R5
      | some y =>
        rw [h2] at R5
        have R5 : RdS w5 rb B ((rList rFld y.2).map (·.2)) := R5
        simp only [Option.bind_some]
        cases h3 : rList rFld y.2 <;> (rw [h3] at R5; exact R5)
  · rw [e] at q
    obtain ⟨x, q1, q⟩ := bind_some q
    obtain ⟨y, q2, q⟩ := bind_some q
    obtain ⟨z, q3, q⟩ := bind_some q
    simp only [Option.some.injEq, Prod.mk.injEq] at q
    obtain ⟨rfl, _⟩ := q
    have c1 : (((cur.bind rNum).map (·.2)).bind rNum) = some y := by rw [q1]; exact q2
    have e2 := k2 x.1 x.2 q1
    have e3 := k3 y.1 y.2 c1
    obtain ⟨a4, d4, e4, hS⟩ := k4 z.1 z.2 (by rw [c1]; exact q3)
    simp only [vNum, Value.int.injEq, true_and] at e2 e3
    obtain ⟨rfl, rfl, rfl⟩ := Value.slice.inj e4
    exact ⟨[I n2, I n3, .slice p4 z.1.length c4], rfl, p4, c4, by rw [e2, e3], (hS.kp (k5.kp fun i hi => by omega)).sub fun i hi => ⟨by omega, by omega⟩⟩
set_option maxHeartbeats 1000000 in
theorem u_getCls (rb B : Nat) (cur : Option (List UInt8)) (w : World) (hR : RdS w rb B cur) (hB : B ≤ rb) (gf : FuncId) (one : ∀ cur w, RdS w rb B cur → Ret Tryz.prog gf #[pr rb] w (RdR rCls (vAgg eCls) gCls rb B cur w)) :
    Ret Tryz.prog 94 #[pr rb, .func (.func gf) #[pr rb] #[]] w (RdR (rList rCls) (vLst eCls) gLst rb B cur w) := by
  have hlt := hR.lt
  refine entr (vs := [pr rb, .func (.func gf) #[pr rb] #[]]) [0, 1, 4, 5, 6, 7, 21, 34] tabok Tryz.func94 (by kernel_rfl) ?_
  refine cl (u_number rb B cur w hR hB) ?_
  rintro v w1 ⟨hA, hst, ⟨n, rfl⟩, hok⟩
  have z1 := hA.size
  have ck := cur_list (p := rCls) (cur := cur)
  cases h1 : cur.bind rNum with
  | none =>
    rw [h1] at hst ck
    have hk : cur.bind (rList rCls) = none := ck
    obtain ⟨a0, n0, c0, hb⟩ := hst
    refine sp (.slice none 0 0) (fun q => ?_) (fun q => ?_)
    · refine ld (hb.cell rfl) ?_
      refine spt (I 0) ?_
      refine iop (quo_run (b := 4) (by decide)) ?_
      refine br (fun h => ?_) (fun h => ?_)
      · refine st hb fun w2 k2 hb2 => ?_
        refine lp (vals := [.slice none 0 0, I 0]) [6, 7] [(0, pr rb), (1, .func (.func gf) #[pr rb] #[]), (5, I n)] (fun m vals w' => vals = [.slice none 0 0, I 0] ∧ w' = w2) ⟨rfl, rfl, rfl, trivial⟩ (m := 0) ⟨rfl, rfl⟩ ?_
        rintro m vals _ ⟨rfl, rfl⟩ _
        refine ldg (fun _ => hb2.cell rfl) ?_
        refine brf ?_
        exact rt1 ⟨hA.trans k2.ap, by rw [hk]; exact ⟨_, _, _, hb2⟩, ⟨_, _, _, rfl⟩, fun x r q => by rw [hk] at q; cases q⟩
      · skip
        refine lp (vals := [.slice none 0 0, I 0]) [6, 7] [(0, pr rb), (1, .func (.func gf) #[pr rb] #[]), (5, I n)] (fun m vals w' => vals = [.slice none 0 0, I 0] ∧ w' = w1) ⟨rfl, rfl, rfl, trivial⟩ (m := 0) ⟨rfl, rfl⟩ ?_
        rintro m vals _ ⟨rfl, rfl⟩ _
        refine ldg (fun _ => hb.cell rfl) ?_
        refine brf ?_
        exact rt1 ⟨hA, by rw [hk]; exact ⟨_, _, _, hb⟩, ⟨_, _, _, rfl⟩, fun x r q => by rw [hk] at q; cases q⟩
    · have hneg : n < 0 := by simpa using q
      refine spn (I 0) ?_
      refine brt ?_ (hp := by simp [hneg])
      refine st hb fun w2 k2 hb2 => ?_
      refine lp (vals := [.slice none 0 0, I 0]) [6, 7] [(0, pr rb), (1, .func (.func gf) #[pr rb] #[]), (5, I n)] (fun m vals w' => vals = [.slice none 0 0, I 0] ∧ w' = w2) ⟨rfl, rfl, rfl, trivial⟩ (m := 0) ⟨rfl, rfl⟩ ?_
      rintro m vals _ ⟨rfl, rfl⟩ _
      refine ldg (fun _ => hb2.cell rfl) ?_
      refine brf ?_
      exact rt1 ⟨hA.trans k2.ap, by rw [hk]; exact ⟨_, _, _, hb2⟩, ⟨_, _, _, rfl⟩, fun x r q => by rw [hk] at q; cases q⟩
  | some xr =>
    obtain ⟨m0, r⟩ := xr
    have e0 := hok _ _ h1
    simp only [vNum, Value.int.injEq, true_and] at e0
    subst e0
    rw [h1] at hst ck
    obtain ⟨a0, c0, hb, hS, hc⟩ := hst
    have hlen : r.length ≤ 4194304 := hS.big
    have hc : r.length ≤ c0 := hc
    refine sp (.slice none 0 0) (fun q => ?_) (fun q => ?_)
    · have hn0 : 0 ≤ n := by simpa using q
      obtain ⟨m, rfl⟩ : ∃ m : Nat, n = (m : Int) := ⟨n.toNat, by omega⟩
      have ck : cur.bind (rList rCls) = rRep rCls m r := by rw [ck]; simp only [Option.bind_some]; rw [if_neg (by omega)]; rfl
      refine ld (hb.cell rfl) ?_
      refine spt (I 0) ?_
      refine iop (quo_run (b := 4) (by decide)) ?_
      have hq : IntKind.i64.wrap ((r.length : Int).tdiv 4) = ((r.length / 4 : Nat) : Int) := by
        have : (r.length : Int).tdiv 4 = ((r.length / 4 : Nat) : Int) := by rw [Int.tdiv_eq_ediv_of_nonneg (by omega)]; omega
        rw [this, wrap_fit (by omega) (by omega)]
      rw [hq]
      refine br (fun h => ?_) (fun h => ?_)
      · have hbig : r.length / 4 < m := by simp at h; omega
        have hk : cur.bind (rList rCls) = none := by
          rw [ck]
          cases hr : rRep rCls m r with
          | none => rfl
          | some y =>
            have := rRep_min min_cls _ _ _ _ hr
            omega
        refine st hb fun w2 k2 hb2 => ?_
        refine lp (vals := [.slice none 0 0, I 0]) [6, 7] [(0, pr rb), (1, .func (.func gf) #[pr rb] #[]), (5, I (m : Int))] (fun m vals w' => vals = [.slice none 0 0, I 0] ∧ w' = w2) ⟨rfl, rfl, rfl, trivial⟩ (m := 0) ⟨rfl, rfl⟩ ?_
        rintro m vals _ ⟨rfl, rfl⟩ _
        refine ldg (fun _ => hb2.cell rfl) ?_
        refine brf ?_
        exact rt1 ⟨hA.trans k2.ap, by rw [hk]; exact ⟨_, _, _, hb2⟩, ⟨_, _, _, rfl⟩, fun x r q => by rw [hk] at q; cases q⟩
      · have hsm : m ≤ r.length / 4 := by simp at h; omega
        refine lpk m 7 [6] [(0, pr rb), (1, .func (.func gf) #[pr rb] #[]), (5, I m)] (fun k vals w' => Ap w (some ⟨rb, 0, none⟩) w' ∧ w1.heap.size ≤ w'.heap.size ∧ ((∃ xs r', rRep rCls k r = some (xs, r') ∧ RdS w' rb B (some r') ∧ ∃ a c, vals = [.slice a xs.length c] ∧ OwC eCls (fun b => w1.heap.size ≤ b) w' w1.heap.size 58 a c xs) ∨
          (rRep rCls k r = none ∧ RdS w' rb B none ∧ ∃ a j c, vals = [.slice a j c]))) ⟨hA, Nat.le_refl _, .inl ⟨[], r, rfl, ⟨a0, c0, hb, hS, hc⟩, none, 0, rfl, OwC.nil ..⟩⟩ ?_
        rintro k vals w2 hk ⟨hA2, z2, hI⟩ ih
        rcases hI with ⟨xs, r', hr, hst2, a, c, rfl, hO⟩ | ⟨hr, hst2, a, j, c, rfl⟩
        · have hxl := rRep_len hr
          have hst2' := hst2
          obtain ⟨a2, c2, hb2, hS2, hc2⟩ := hst2
          by_cases hlt2 : k < m
          · refine ldg (fun _ => hb2.cell rfl) ?_
            refine brt ?_ (hp := by simp [hlt2])
            refine cl (one (some r') w2 hst2') ?_
            rintro v3 w3 ⟨hA3, hst3, ⟨d1, d2, d3, d4, d5, rfl⟩, hok3⟩
            have z3 := hA3.size
            have hO3 := hO.rb hA3 (by omega) fun i hi => by omega
            refine bs (cs := [I d1, I d2, .slice d3 d4 d5]) fun b4 w4 h4 => ?_
            have z4 := h4.size
            have y4 := h4.blk
            obtain ⟨ys, e1, e2, hOx, e4⟩ := (hO3.bl h4.bl).row
            refine ap hOx (.inr ⟨b4, 0, rfl, h4.box.at⟩) (by omega) (fun a5 c5 w5 hO5 hA5 hf5 => ?_)
            have hlo : ∀ g, a = some ⟨g, 0, none⟩ → w1.heap.size ≤ g := fun g hg => (hO.lt hg).1
            have hA05 : Ap w (some ⟨rb, 0, none⟩) w5 := ((hA2.trans hA3).thenBl h4.bl).ap hA5 fun g hg => by have := hlo g hg; omega
            have hst5 := (hst3.bl h4.bl hB).ap hA5 hB fun g hg => by have := hlo g hg; omega
            have z5 := hA5.size
            have es := rRep_snoc rCls k r
            rw [hr] at es
            cases hp : rCls r' with
            | none =>
              have hst5 : RdS w5 rb B none := by rw [show (some r' : Option (List UInt8)).bind rCls = none from hp] at hst5; exact hst5
              refine ih hlt2 ⟨hA05, by omega, .inr ⟨by rw [es]; simp only [Option.bind_some]; rw [hp]; rfl, hst5, _, _, _, rfl⟩⟩
            | some yr =>
              obtain ⟨y, r2⟩ := yr
              have hst5 : RdS w5 rb B (some r2) := by rw [show (some r' : Option (List UInt8)).bind rCls = some (y, r2) from hp] at hst5; exact hst5
              have hv := hok3 y r2 hp
              have hrel : (eCls).rel (fun b => w1.heap.size ≤ b ∧ a ≠ some ⟨b, 0, none⟩ ∧ b < w4.heap.size) w4 [I d1, I d2, .slice d3 d4 d5] y := by
                refine (eCls).sub (S := fun b => w2.heap.size ≤ b ∧ b < w3.heap.size) (fun b hb => ⟨by omega, fun e => by have := (hO.lt e).2; omega, by omega⟩) ((eCls).kp (h4.bl.kp _) ?_)
                obtain ⟨cs, e, hr2⟩ := hv
                rw [agg_inj e]; exact hr2
              have hO6 := OwC.push e1 e2 e4 hO5 hA5 hf5 hrel
              refine ih hlt2 ⟨hA05, by omega, .inl ⟨xs ++ [y], r2, ?_, hst5, a5, c5, ?_, hO6⟩⟩
              · rw [es]; simp only [Option.bind_some]; rw [hp]; rfl
              · rw [List.length_append]; rfl
          · refine ldg (fun _ => hb2.cell rfl) ?_
            refine brf ?_ (hp := by simp [hlt2])
            obtain rfl : k = m := by omega
            have hk2 : cur.bind (rList rCls) = some (xs, r') := ck.trans hr
            refine rt1 ⟨hA2, by rw [hk2]; exact hst2', ⟨_, _, _, rfl⟩, fun x y q => ?_⟩
            rw [hk2] at q
            simp only [Option.some.injEq, Prod.mk.injEq] at q
            obtain ⟨rfl, rfl⟩ := q
            exact ⟨_, _, rfl, (hO.sl2 (by omega)).sub fun i hi => ⟨by omega, hi.2⟩⟩
        · have hk2 : cur.bind (rList rCls) = none := ck.trans (rRep_none hr m hk)
          obtain ⟨a2, n2, c2, hb2⟩ := hst2
          refine ldg (fun _ => hb2.cell rfl) ?_
          refine brf ?_
          exact rt1 ⟨hA2, by rw [hk2]; exact ⟨_, _, _, hb2⟩, ⟨_, _, _, rfl⟩, fun x y q => by rw [hk2] at q; cases q⟩
    · have hneg : n < 0 := by simpa using q
      have hk : cur.bind (rList rCls) = none := by rw [ck]; simp only [Option.bind_some]; rw [if_pos hneg]
      refine spn (I 0) ?_
      refine brt ?_ (hp := by simp [hneg])
      refine st hb fun w2 k2 hb2 => ?_
      refine lp (vals := [.slice none 0 0, I 0]) [6, 7] [(0, pr rb), (1, .func (.func gf) #[pr rb] #[]), (5, I n)] (fun m vals w' => vals = [.slice none 0 0, I 0] ∧ w' = w2) ⟨rfl, rfl, rfl, trivial⟩ (m := 0) ⟨rfl, rfl⟩ ?_
      rintro m vals _ ⟨rfl, rfl⟩ _
      refine ldg (fun _ => hb2.cell rfl) ?_
      refine brf ?_
      exact rt1 ⟨hA.trans k2.ap, by rw [hk]; exact ⟨_, _, _, hb2⟩, ⟨_, _, _, rfl⟩, fun x r q => by rw [hk] at q; cases q⟩
set_option maxHeartbeats 1000000 in
theorem u_method (rb B : Nat) (cur : Option (List UInt8)) (w : World) (hR : RdS w rb B cur) (hB : B ≤ rb) : Ret Tryz.prog 99 #[pr rb] w (RdR rMth (vAgg eMth) gMth rb B cur w) := by
  have hlt := hR.lt
  refine entr (vs := [pr rb]) [0, 2, 3, 4, 5, 6, 7] tabok Tryz.func99 (by kernel_rfl) ?_
  refine al fun b1 w1 h1 => ?_
  have y1 := h1.blk
  have z1 := h1.size
  have R1 := hR.bl h1.bl hB
  refine cl (u_number rb B cur w1 R1 hB) ?_
  rintro v w2 ⟨A2, R2, ⟨n2, rfl⟩, k2⟩
  refine cl (u_number rb B _ w2 R2 hB) ?_
  rintro v w3 ⟨A3, R3, ⟨n3, rfl⟩, k3⟩
  refine cl (u_getTy rb B _ w3 R3 hB 148 fun cur w h => u_kind rb B cur w h hB) ?_
  rintro v w4 ⟨A4, R4, ⟨p4, n4, c4, rfl⟩, k4⟩
  refine cl (u_getTy rb B _ w4 R4 hB 148 fun cur w h => u_kind rb B cur w h hB) ?_
  rintro v w5 ⟨A5, R5, ⟨p5, n5, c5, rfl⟩, k5⟩
  refine cl (u_kind rb B _ w5 R5 hB) ?_
  rintro v w6 ⟨A6, R6, ⟨n6, n7, rfl⟩, k6⟩
  refine al fun b7 w7 h7 => ?_
  have z2 := A2.size
  have z3 := A3.size
  have z4 := A4.size
  have z5 := A5.size
  have z6 := A6.size
  have y7 := h7.blk
  have z7 := h7.size
  refine sta h7.box fun w8 k8 x8 => ?_
  have z8 := k8.size
  have B68 : Bl w6 w8 := h7.wr k8
  have R8 := R6.bl B68 hB
  refine dh (fun i => i = b7) (List.range 11) fun w9 h9 => ?_
  have R9 := R8.bl h9.bl hB
  have B69 := B68.trans h9.bl
  have z9 := B69.size
  refine lda (h9.box x8).at ?_ (hm := by exact rfl)
  refine cl (u_getIns rb B _ w9 R9 hB 151 fun cur w h => u_instr rb B cur w h hB) ?_ (hm := by
    intro _ _ r
    exact r.ap.kp.sub fun i hi e => by
      simp only [Option.some.injEq, Addr.mk.injEq, and_true] at e
      omega)
  rintro v w10 ⟨A10, R10, ⟨p10, n10, c10, rfl⟩, k10⟩
  refine bd ?_
  have xb := A10.box (Bl.box B69 (A6.box (A5.box (A4.box (A3.box (A2.box h1.box (ap_ne (by omega))) (ap_ne (by omega))) (ap_ne (by omega))) (ap_ne (by omega))) (ap_ne (by omega)))) (ap_ne (by omega))
  refine sta xb (fun w11 k11 x11 => ?_) (hm := wrS (by omega))
  have z10 := A10.size
  have z11 := k11.size
  have A011 : Ap w (some ⟨rb, 0, none⟩) w11 := ((((((((Ap.bl h1.bl _).trans A2).trans A3).trans A4).trans A5).trans A6).thenBl B69).trans A10).new k11 (by omega)
  have R11 := R10.ap k11.ap hB fun g hg => by simp only [Option.some.injEq, Addr.mk.injEq, and_true] at hg; omega
  have e : cur.bind rMth = (cur.bind rNum).bind fun x => (rNum x.2).bind fun y => (rList rTy y.2).bind fun p => (rList rTy p.2).bind fun q => (rTy q.2).bind fun t => (rList rIns t.2).bind fun c => some (⟨x.1, y.1, p.1, q.1, t.1, c.1⟩, c.2) := by cases cur <;> rfl
  refine rtc x11.at ⟨A011, ?_, ⟨n2, n3, p4, n4, c4, p5, n5, c5, n6, n7, p10, n10, c10, rfl⟩, fun t r q => ?_⟩
  · rw [e]
    cases h0 : cur.bind rNum with
    | none => rw [h0] at R11; exact R11
    | some x0 =>
      rw [h0] at R11
      have R11 : RdS w11 rb B (((((((((((((((rNum) x0.2).map (·.2))).bind (rList rTy)).map (·.2))).bind (rList rTy)).map (·.2))).bind (rTy)).map (·.2))).bind (rList rIns)).map (·.2)) := R11
      simp only [Option.bind_some]
      cases h1 : (rNum) x0.2 with
      | none => rw [h1] at R11; exact R11
      | some x1 =>
        rw [h1] at R11
        have R11 : RdS w11 rb B ((((((((((((rList rTy) x1.2).map (·.2))).bind (rList rTy)).map (·.2))).bind (rTy)).map (·.2))).bind (rList rIns)).map (·.2)) := R11
        simp only [Option.bind_some]
        cases h2 : (rList rTy) x1.2 with
        | none => rw [h2] at R11; exact R11
        | some x2 =>
          rw [h2] at R11
          have R11 : RdS w11 rb B (((((((((rList rTy) x2.2).map (·.2))).bind (rTy)).map (·.2))).bind (rList rIns)).map (·.2)) := R11
          simp only [Option.bind_some]
          cases h3 : (rList rTy) x2.2 with
          | none => rw [h3] at R11; exact R11
          | some x3 =>
            rw [h3] at R11
            have R11 : RdS w11 rb B ((((((rTy) x3.2).map (·.2))).bind (rList rIns)).map (·.2)) := R11
            simp only [Option.bind_some]
            cases h4 : (rTy) x3.2 with
            | none => rw [h4] at R11; exact R11
            | some x4 =>
              rw [h4] at R11
              have R11 : RdS w11 rb B (((rList rIns) x4.2).map (·.2)) := R11
              simp only [Option.bind_some]
              cases h5 : (rList rIns) x4.2 <;> (rw [h5] at R11; exact R11)
  · rw [e] at q
    obtain ⟨x, q1, q⟩ := bind_some q
    obtain ⟨y, q2, q⟩ := bind_some q
    obtain ⟨lp, q3, q⟩ := bind_some q
    obtain ⟨lq, q4, q⟩ := bind_some q
    obtain ⟨lt, q5, q⟩ := bind_some q
    obtain ⟨lc, q6, q⟩ := bind_some q
    simp only [Option.some.injEq, Prod.mk.injEq] at q
    obtain ⟨rfl, _⟩ := q
    have c1 : (((cur.bind rNum).map (·.2)).bind rNum) = some y := by rw [q1]; exact q2
    have c2 : (((((cur.bind rNum).map (·.2)).bind rNum).map (·.2)).bind (rList rTy)) = some lp := by rw [c1]; exact q3
    have c3 : (((((((cur.bind rNum).map (·.2)).bind rNum).map (·.2)).bind (rList rTy)).map (·.2)).bind (rList rTy)) = some lq := by rw [c2]; exact q4
    have c4' : (((((((((cur.bind rNum).map (·.2)).bind rNum).map (·.2)).bind (rList rTy)).map (·.2)).bind (rList rTy)).map (·.2)).bind rTy) = some lt := by rw [c3]; exact q5
    have e2 := k2 x.1 x.2 q1
    have e3 := k3 y.1 y.2 c1
    obtain ⟨a4, d4, e4, S4⟩ := k4 lp.1 lp.2 c2
    obtain ⟨a5, d5, e5, S5⟩ := k5 lq.1 lq.2 c3
    obtain ⟨cs, e6, e7⟩ := k6 lt.1 lt.2 c4'
    obtain ⟨a10, d10, e10, S10⟩ := k10 lc.1 lc.2 (by rw [c4']; exact q6)
    simp only [vNum, Value.int.injEq, true_and] at e2 e3
    obtain ⟨rfl, rfl, rfl⟩ := Value.slice.inj e4
    obtain ⟨rfl, rfl, rfl⟩ := Value.slice.inj e5
    obtain ⟨rfl, rfl, rfl⟩ := Value.slice.inj e10
    have e7 : cs = encTy lt.1 := e7
    have e8 : [I n6, I n7] = encTy lt.1 := (agg_inj e6).trans e7
    simp only [encTy, List.cons.injEq, Value.int.injEq, true_and, and_true] at e8
    obtain ⟨rfl, rfl⟩ := e8
    subst e2 e3
    have nb : ∀ i, i < w6.heap.size → i ≠ rb → (some ⟨rb, 0, none⟩ : Option Addr) ≠ some ⟨i, 0, none⟩ := fun i _ hi e => hi (by simp only [Option.some.injEq, Addr.mk.injEq, and_true] at e; exact e.symm)
    have K : ∀ {S : Nat → Prop}, (∀ i, S i → w1.heap.size ≤ i ∧ i < w6.heap.size) → Kp S w6 w11 := fun hS b o v hs hv => by
      have h1 := hS b hs
      rw [World.cell?_of_block (w := w6) ((k11.block b (by omega)).trans ((A10.block b (by omega) (nb b h1.2 (by omega))).trans (B69.block b h1.2)))]; exact hv
    have S4 := ((S4.kp (A5.kp.sub fun i hi => nb i (by omega) (by omega))).kp (A6.kp.sub fun i hi => nb i (by omega) (by omega))).kp (K fun i hi => by omega)
    have S5 := (S5.kp (A6.kp.sub fun i hi => nb i (by omega) (by omega))).kp (K fun i hi => by omega)
    have S10 := S10.kp (k11.kp fun i hi => by omega)
    exact ⟨[I x.1, I y.1, .slice p4 lp.1.length c4, .slice p5 lq.1.length c5, I lt.1.kind, I lt.1.cls, .slice p10 lc.1.length c10], rfl, p4, c4, p5, c5, p10, c10, rfl, S4.sub fun i hi => ⟨by omega, by omega⟩, S5.sub fun i hi => ⟨by omega, by omega⟩, S10.sub fun i hi => ⟨by omega, by omega⟩⟩
set_option maxHeartbeats 1000000 in
theorem u_getMth (rb B : Nat) (cur : Option (List UInt8)) (w : World) (hR : RdS w rb B cur) (hB : B ≤ rb) (gf : FuncId) (one : ∀ cur w, RdS w rb B cur → Ret Tryz.prog gf #[pr rb] w (RdR rMth (vAgg eMth) gMth rb B cur w)) :
    Ret Tryz.prog 98 #[pr rb, .func (.func gf) #[pr rb] #[]] w (RdR (rList rMth) (vLst eMth) gLst rb B cur w) := by
  have hlt := hR.lt
  refine entr (vs := [pr rb, .func (.func gf) #[pr rb] #[]]) [0, 1, 4, 5, 6, 7, 21, 34] tabok Tryz.func98 (by kernel_rfl) ?_
  refine cl (u_number rb B cur w hR hB) ?_
  rintro v w1 ⟨hA, hst, ⟨n, rfl⟩, hok⟩
  have z1 := hA.size
  have ck := cur_list (p := rMth) (cur := cur)
  cases h1 : cur.bind rNum with
  | none =>
    rw [h1] at hst ck
    have hk : cur.bind (rList rMth) = none := ck
    obtain ⟨a0, n0, c0, hb⟩ := hst
    refine sp (.slice none 0 0) (fun q => ?_) (fun q => ?_)
    · refine ld (hb.cell rfl) ?_
      refine spt (I 0) ?_
      refine iop (quo_run (b := 4) (by decide)) ?_
      refine br (fun h => ?_) (fun h => ?_)
      · refine st hb fun w2 k2 hb2 => ?_
        refine lp (vals := [.slice none 0 0, I 0]) [6, 7] [(0, pr rb), (1, .func (.func gf) #[pr rb] #[]), (5, I n)] (fun m vals w' => vals = [.slice none 0 0, I 0] ∧ w' = w2) ⟨rfl, rfl, rfl, trivial⟩ (m := 0) ⟨rfl, rfl⟩ ?_
        rintro m vals _ ⟨rfl, rfl⟩ _
        refine ldg (fun _ => hb2.cell rfl) ?_
        refine brf ?_
        exact rt1 ⟨hA.trans k2.ap, by rw [hk]; exact ⟨_, _, _, hb2⟩, ⟨_, _, _, rfl⟩, fun x r q => by rw [hk] at q; cases q⟩
      · skip
        refine lp (vals := [.slice none 0 0, I 0]) [6, 7] [(0, pr rb), (1, .func (.func gf) #[pr rb] #[]), (5, I n)] (fun m vals w' => vals = [.slice none 0 0, I 0] ∧ w' = w1) ⟨rfl, rfl, rfl, trivial⟩ (m := 0) ⟨rfl, rfl⟩ ?_
        rintro m vals _ ⟨rfl, rfl⟩ _
        refine ldg (fun _ => hb.cell rfl) ?_
        refine brf ?_
        exact rt1 ⟨hA, by rw [hk]; exact ⟨_, _, _, hb⟩, ⟨_, _, _, rfl⟩, fun x r q => by rw [hk] at q; cases q⟩
    · have hneg : n < 0 := by simpa using q
      refine spn (I 0) ?_
      refine brt ?_ (hp := by simp [hneg])
      refine st hb fun w2 k2 hb2 => ?_
      refine lp (vals := [.slice none 0 0, I 0]) [6, 7] [(0, pr rb), (1, .func (.func gf) #[pr rb] #[]), (5, I n)] (fun m vals w' => vals = [.slice none 0 0, I 0] ∧ w' = w2) ⟨rfl, rfl, rfl, trivial⟩ (m := 0) ⟨rfl, rfl⟩ ?_
      rintro m vals _ ⟨rfl, rfl⟩ _
      refine ldg (fun _ => hb2.cell rfl) ?_
      refine brf ?_
      exact rt1 ⟨hA.trans k2.ap, by rw [hk]; exact ⟨_, _, _, hb2⟩, ⟨_, _, _, rfl⟩, fun x r q => by rw [hk] at q; cases q⟩
  | some xr =>
    obtain ⟨m0, r⟩ := xr
    have e0 := hok _ _ h1
    simp only [vNum, Value.int.injEq, true_and] at e0
    subst e0
    rw [h1] at hst ck
    obtain ⟨a0, c0, hb, hS, hc⟩ := hst
    have hlen : r.length ≤ 4194304 := hS.big
    have hc : r.length ≤ c0 := hc
    refine sp (.slice none 0 0) (fun q => ?_) (fun q => ?_)
    · have hn0 : 0 ≤ n := by simpa using q
      obtain ⟨m, rfl⟩ : ∃ m : Nat, n = (m : Int) := ⟨n.toNat, by omega⟩
      have ck : cur.bind (rList rMth) = rRep rMth m r := by rw [ck]; simp only [Option.bind_some]; rw [if_neg (by omega)]; rfl
      refine ld (hb.cell rfl) ?_
      refine spt (I 0) ?_
      refine iop (quo_run (b := 4) (by decide)) ?_
      have hq : IntKind.i64.wrap ((r.length : Int).tdiv 4) = ((r.length / 4 : Nat) : Int) := by
        have : (r.length : Int).tdiv 4 = ((r.length / 4 : Nat) : Int) := by rw [Int.tdiv_eq_ediv_of_nonneg (by omega)]; omega
        rw [this, wrap_fit (by omega) (by omega)]
      rw [hq]
      refine br (fun h => ?_) (fun h => ?_)
      · have hbig : r.length / 4 < m := by simp at h; omega
        have hk : cur.bind (rList rMth) = none := by
          rw [ck]
          cases hr : rRep rMth m r with
          | none => rfl
          | some y =>
            have := rRep_min min_mth _ _ _ _ hr
            omega
        refine st hb fun w2 k2 hb2 => ?_
        refine lp (vals := [.slice none 0 0, I 0]) [6, 7] [(0, pr rb), (1, .func (.func gf) #[pr rb] #[]), (5, I (m : Int))] (fun m vals w' => vals = [.slice none 0 0, I 0] ∧ w' = w2) ⟨rfl, rfl, rfl, trivial⟩ (m := 0) ⟨rfl, rfl⟩ ?_
        rintro m vals _ ⟨rfl, rfl⟩ _
        refine ldg (fun _ => hb2.cell rfl) ?_
        refine brf ?_
        exact rt1 ⟨hA.trans k2.ap, by rw [hk]; exact ⟨_, _, _, hb2⟩, ⟨_, _, _, rfl⟩, fun x r q => by rw [hk] at q; cases q⟩
      · have hsm : m ≤ r.length / 4 := by simp at h; omega
        refine lpk m 7 [6] [(0, pr rb), (1, .func (.func gf) #[pr rb] #[]), (5, I m)] (fun k vals w' => Ap w (some ⟨rb, 0, none⟩) w' ∧ w1.heap.size ≤ w'.heap.size ∧ ((∃ xs r', rRep rMth k r = some (xs, r') ∧ RdS w' rb B (some r') ∧ ∃ a c, vals = [.slice a xs.length c] ∧ OwC eMth (fun b => w1.heap.size ≤ b) w' w1.heap.size 64 a c xs) ∨
          (rRep rMth k r = none ∧ RdS w' rb B none ∧ ∃ a j c, vals = [.slice a j c]))) ⟨hA, Nat.le_refl _, .inl ⟨[], r, rfl, ⟨a0, c0, hb, hS, hc⟩, none, 0, rfl, OwC.nil ..⟩⟩ ?_
        rintro k vals w2 hk ⟨hA2, z2, hI⟩ ih
        rcases hI with ⟨xs, r', hr, hst2, a, c, rfl, hO⟩ | ⟨hr, hst2, a, j, c, rfl⟩
        · have hxl := rRep_len hr
          have hst2' := hst2
          obtain ⟨a2, c2, hb2, hS2, hc2⟩ := hst2
          by_cases hlt2 : k < m
          · refine ldg (fun _ => hb2.cell rfl) ?_
            refine brt ?_ (hp := by simp [hlt2])
            refine cl (one (some r') w2 hst2') ?_
            rintro v3 w3 ⟨hA3, hst3, ⟨d1, d2, d3, d4, d5, d6, d7, d8, d9, d10, d11, d12, d13, rfl⟩, hok3⟩
            have z3 := hA3.size
            have hO3 := hO.rb hA3 (by omega) fun i hi => by omega
            refine bs (cs := [I d1, I d2, .slice d3 d4 d5, .slice d6 d7 d8, I d9, I d10, .slice d11 d12 d13]) fun b4 w4 h4 => ?_
            have z4 := h4.size
            have y4 := h4.blk
            obtain ⟨ys, e1, e2, hOx, e4⟩ := (hO3.bl h4.bl).row
            refine ap hOx (.inr ⟨b4, 0, rfl, h4.box.at⟩) (by omega) (fun a5 c5 w5 hO5 hA5 hf5 => ?_)
            have hlo : ∀ g, a = some ⟨g, 0, none⟩ → w1.heap.size ≤ g := fun g hg => (hO.lt hg).1
            have hA05 : Ap w (some ⟨rb, 0, none⟩) w5 := ((hA2.trans hA3).thenBl h4.bl).ap hA5 fun g hg => by have := hlo g hg; omega
            have hst5 := (hst3.bl h4.bl hB).ap hA5 hB fun g hg => by have := hlo g hg; omega
            have z5 := hA5.size
            have es := rRep_snoc rMth k r
            rw [hr] at es
            cases hp : rMth r' with
            | none =>
              have hst5 : RdS w5 rb B none := by rw [show (some r' : Option (List UInt8)).bind rMth = none from hp] at hst5; exact hst5
              refine ih hlt2 ⟨hA05, by omega, .inr ⟨by rw [es]; simp only [Option.bind_some]; rw [hp]; rfl, hst5, _, _, _, rfl⟩⟩
            | some yr =>
              obtain ⟨y, r2⟩ := yr
              have hst5 : RdS w5 rb B (some r2) := by rw [show (some r' : Option (List UInt8)).bind rMth = some (y, r2) from hp] at hst5; exact hst5
              have hv := hok3 y r2 hp
              have hrel : (eMth).rel (fun b => w1.heap.size ≤ b ∧ a ≠ some ⟨b, 0, none⟩ ∧ b < w4.heap.size) w4 [I d1, I d2, .slice d3 d4 d5, .slice d6 d7 d8, I d9, I d10, .slice d11 d12 d13] y := by
                refine (eMth).sub (S := fun b => w2.heap.size ≤ b ∧ b < w3.heap.size) (fun b hb => ⟨by omega, fun e => by have := (hO.lt e).2; omega, by omega⟩) ((eMth).kp (h4.bl.kp _) ?_)
                obtain ⟨cs, e, hr2⟩ := hv
                rw [agg_inj e]; exact hr2
              have hO6 := OwC.push e1 e2 e4 hO5 hA5 hf5 hrel
              refine ih hlt2 ⟨hA05, by omega, .inl ⟨xs ++ [y], r2, ?_, hst5, a5, c5, ?_, hO6⟩⟩
              · rw [es]; simp only [Option.bind_some]; rw [hp]; rfl
              · rw [List.length_append]; rfl
          · refine ldg (fun _ => hb2.cell rfl) ?_
            refine brf ?_ (hp := by simp [hlt2])
            obtain rfl : k = m := by omega
            have hk2 : cur.bind (rList rMth) = some (xs, r') := ck.trans hr
            refine rt1 ⟨hA2, by rw [hk2]; exact hst2', ⟨_, _, _, rfl⟩, fun x y q => ?_⟩
            rw [hk2] at q
            simp only [Option.some.injEq, Prod.mk.injEq] at q
            obtain ⟨rfl, rfl⟩ := q
            exact ⟨_, _, rfl, (hO.sl2 (by omega)).sub fun i hi => ⟨by omega, hi.2⟩⟩
        · have hk2 : cur.bind (rList rMth) = none := ck.trans (rRep_none hr m hk)
          obtain ⟨a2, n2, c2, hb2⟩ := hst2
          refine ldg (fun _ => hb2.cell rfl) ?_
          refine brf ?_
          exact rt1 ⟨hA2, by rw [hk2]; exact ⟨_, _, _, hb2⟩, ⟨_, _, _, rfl⟩, fun x y q => by rw [hk2] at q; cases q⟩
    · have hneg : n < 0 := by simpa using q
      have hk : cur.bind (rList rMth) = none := by rw [ck]; simp only [Option.bind_some]; rw [if_pos hneg]
      refine spn (I 0) ?_
      refine brt ?_ (hp := by simp [hneg])
      refine st hb fun w2 k2 hb2 => ?_
      refine lp (vals := [.slice none 0 0, I 0]) [6, 7] [(0, pr rb), (1, .func (.func gf) #[pr rb] #[]), (5, I n)] (fun m vals w' => vals = [.slice none 0 0, I 0] ∧ w' = w2) ⟨rfl, rfl, rfl, trivial⟩ (m := 0) ⟨rfl, rfl⟩ ?_
      rintro m vals _ ⟨rfl, rfl⟩ _
      refine ldg (fun _ => hb2.cell rfl) ?_
      refine brf ?_
      exact rt1 ⟨hA.trans k2.ap, by rw [hk]; exact ⟨_, _, _, hb2⟩, ⟨_, _, _, rfl⟩, fun x r q => by rw [hk] at q; cases q⟩
end Go.Proofs.YtopjmiklpnejmaaGreatDoor

/- Walks: a unit read, in the program. -/
namespace Go.Proofs.YtopjmiklpnejmaaGreatDoor
open Eng Go.RowKit
def decE (l : List UInt8) : Int := match parse l with
  | none => 4
  | some u => checkE u
def decU (l : List UInt8) : Unt := match parse l with
  | none => u00
  | some u => if checkE u = 0 then u else u00
/-- what Decode answers -/
def DecR (l : List UInt8) (w : World) (v : Value) (w' : World) : Prop := ∃ a', v = .tuple #[.agg (ucells (decU l) a').toArray, I (decE l)] ∧ UnR T w' (decU l) a' ∧ Bl w w'
theorem dec_err {l : List UInt8} {w w' : World} {e : Int} (he : decE l = e) (hu : decU l = u00) (hB : Bl w w') : DecR l w (.tuple #[.agg (ucells u00 ⟨none, 0, none, 0, none, 0, none, 0⟩).toArray, I e]) w' :=
  ⟨⟨none, 0, none, 0, none, 0, none, 0⟩, by rw [hu, he], by rw [hu]; exact unr_nil _ _, hB⟩
theorem dec_none {l : List UInt8} {w w' : World} (h : parse l = none) (hB : Bl w w') : DecR l w (.tuple #[.agg (ucells u00 ⟨none, 0, none, 0, none, 0, none, 0⟩).toArray, I 4]) w' :=
  dec_err (by unfold decE; rw [h]) (by unfold decU; rw [h]) hB
theorem oTxt_len (s : ByteArray) : s.size ≤ (oTxt s).length := by unfold oTxt; rw [List.length_append, ba_len]; omega
theorem flat_mem {α : Type} {f : α → List UInt8} {l : List α} {x : α} (h : x ∈ l) : (f x).length ≤ (l.flatMap f).length := by
  obtain ⟨i, hi⟩ := List.mem_iff_getElem?.1 h
  have := fm_take_le f hi
  omega
theorem parse_size {l : List UInt8} {u : Unt} (h : parse l = some u) : u.name.size ≤ l.length ∧ ∀ s ∈ u.pool, s.size ≤ l.length := by
  obtain ⟨rfl, _⟩ := parse_out h
  unfold enc
  rw [body_unt]
  unfold oUnt oList
  simp only [List.length_append]
  refine ⟨by have := oTxt_len u.name; omega, fun s hs => ?_⟩
  have h1 := flat_mem (f := oTxt) hs
  have h2 := oTxt_len s
  omega
/-- the bytes behind the first four, if these are right -/
def cur0 (l : List UInt8) : Option (List UInt8) := if l.take 4 = magic then some (l.drop 4) else none
theorem dec_chain (l : List UInt8) :
    (match (((((((((((cur0 l).bind rTxt).map (·.2)).bind (rList rTxt)).map (·.2)).bind (rList rCls)).map (·.2)).bind (rList rFld)).map (·.2)).bind (rList rMth)).map (·.2)).bind rNum with
    | none => parse l = none
    | some y => ∃ n p c s m, (cur0 l).bind rTxt = some n ∧ (((cur0 l).bind rTxt).map (·.2)).bind (rList rTxt) = some p ∧
        ((((((cur0 l).bind rTxt).map (·.2)).bind (rList rTxt)).map (·.2)).bind (rList rCls)) = some c ∧
        ((((((((cur0 l).bind rTxt).map (·.2)).bind (rList rTxt)).map (·.2)).bind (rList rCls)).map (·.2)).bind (rList rFld)) = some s ∧
        ((((((((((cur0 l).bind rTxt).map (·.2)).bind (rList rTxt)).map (·.2)).bind (rList rCls)).map (·.2)).bind (rList rFld)).map (·.2)).bind (rList rMth)) = some m ∧
        m.2.length ≤ l.length ∧ parse l = if y.2 = [] ∧ y.1 = sumB (l.take (l.length - m.2.length)) then some ⟨n.1, p.1, c.1, s.1, m.1⟩ else none) := by
  unfold cur0 parse
  by_cases hm : l.take 4 = magic
  · rw [if_pos hm, if_pos hm]
    unfold rUnt
    simp only [Option.bind_some]
    cases h1 : rTxt (l.drop 4) with
    | none => simp
    | some n =>
      simp only [Option.map_some, Option.bind_some]
      cases h2 : rList rTxt n.2 with
      | none => simp
      | some p =>
        simp only [Option.map_some, Option.bind_some]
        cases h3 : rList rCls p.2 with
        | none => simp
        | some c =>
          simp only [Option.map_some, Option.bind_some]
          cases h4 : rList rFld c.2 with
          | none => simp
          | some s =>
            simp only [Option.map_some, Option.bind_some]
            cases h5 : rList rMth s.2 with
            | none => simp
            | some m =>
              simp only [Option.map_some, Option.bind_some]
              cases h6 : rNum m.2 with
              | none => rfl
              | some y =>
                have g1 := min_txt _ _ _ h1
                have g2 := min_list min_txt.zero _ _ _ h2
                have g3 := min_list min_cls.zero _ _ _ h3
                have g4 := min_list min_fld.zero _ _ _ h4
                have g5 := min_list min_mth.zero _ _ _ h5
                rw [List.length_drop] at g1
                exact ⟨n, p, c, s, m, rfl, rfl, rfl, rfl, rfl, by omega, rfl⟩
  · rw [if_neg hm, if_neg hm]; rfl
theorem c_CloneB (l : List UInt8) (a : Option Addr) (cap : Nat) (S : Nat → Prop) (w : World) (hS : Sl eB S w a l) :
    Ret Tryz.prog 90 #[.slice a l.length cap] w fun v w' => ∃ a' cap', v = .slice a' l.length cap' ∧ OwP 1 encB w' w.heap.size 5 a' cap' l ∧ Bl w w' := by
  have hbig := hS.big
  refine entr (vs := [.slice a l.length cap]) [0, 2, 4] tabok Tryz.func90 (by kernel_rfl) ?_
  refine bnil ?_
  refine br (t := a.isNone) (fun h => ?_) (fun h => ?_)
  · have hl := sl_none hS h
    subst hl
    exact rt1 ⟨none, 0, rfl, Ow.nil .., Bl.refl _⟩
  refine bs (cs := []) fun b1 w1 h1 => ?_
  refine apl (enc := encB) (base := w.heap.size) (l0 := []) (l1 := l) (Ow.base (Ow.made (n := 0) h1 rfl (by omega)) (by rw [h1.blk]; exact Nat.le_refl _)) (src_of (hS.bl h1.bl)) (by rw [h1.size]; omega) (fun a' cap' w2 hO hA hf => ?_)
  exact rt1 ⟨a', cap', rfl, hO, bl_ap h1.bl hA fun g hg => by
    simp only [Option.some.injEq, Addr.mk.injEq, and_true] at hg
    rw [← hg, h1.blk]; exact Nat.le_refl _⟩
theorem u_SumS (bs : List UInt8) (a : Option Addr) (cap : Nat) (S : Nat → Prop) (w : World) (hS : Sl eB S w a bs) : Ret Tryz.prog 101 #[I 0, .slice a bs.length cap] w fun v w' => v = I (sumB bs) ∧ w' = w := by
  have hbig := hS.big
  refine entr (vs := [I 0, .slice a bs.length cap]) [0, 1, 4, 5, 7, 12, 13, 14, 15] tabok Tryz.func101 (by kernel_rfl) ?_
  refine iop (rem_run (b := 65521) (by decide)) ?_
  refine iop (rem_run (b := 65521) (by decide)) ?_
  refine lpk bs.length 14 [5] [(12, .slice a bs.length cap), (13, I bs.length)] (fun k vals w' => vals = [I (sumB (bs.take k))] ∧ w = w') ⟨rfl, rfl⟩ ?_
  rintro k vals _ hk ⟨rfl, rfl⟩ ih
  by_cases hlt : k < bs.length
  · refine brT ?_
    obtain ⟨x, b, o, cs, hx, rfl, _, hAt, rfl⟩ := at_some hS hlt
    refine ix ?_
    refine ld (hAt 0 _ rfl) ?_
    refine cv (ks := .u8) (kb := .i64) (by kernel_rfl) (by kernel_rfl) ?_
    refine iop (rem_run (b := 65521) (by decide)) ?_
    refine ih hlt ⟨lst1 (vi ?_), rfl⟩
    rw [sumB_snoc hx]
    exact sum_step (sumB_range _) x
  · refine brF ?_
    obtain rfl : k = bs.length := by omega
    rw [List.take_length]
    exact rt1 ⟨rfl, rfl⟩
theorem ow_cap {w : World} {base e esz n cap : Nat} {a : Option Addr} {xs : List Value} (h : Ow w base e esz a n cap xs) : n ≤ cap := by
  rcases h.shape with ⟨_, h0, _⟩ | ⟨g, cur, rfl, _⟩
  · omega
  · obtain ⟨_, _, _, _, hc, _⟩ := Eng.Ow.box h
    exact hc
theorem magic_take {l : List UInt8} : (takeS 4 l).map (fun x => ofL x.1) = some ⟨#[73, 83, 79, 49]⟩ ↔ l.take 4 = magic := by
  unfold takeS
  have key : ofL (l.take 4) = ⟨#[73, 83, 79, 49]⟩ ↔ l.take 4 = magic := by
    constructor
    · intro h
      have := congrArg (fun s : ByteArray => s.data.toList) h
      simp only [toL_ofL] at this
      exact this
    · intro h; rw [h]; rfl
  by_cases h4 : (4 : Int) ≤ l.length
  · rw [if_pos ⟨by decide, h4⟩]
    simp only [Option.map_some, Option.some.injEq]
    exact key
  · rw [if_neg fun h => h4 h.2]
    constructor
    · intro h; cases h
    · intro h
      have := congrArg List.length h
      rw [List.length_take] at this
      have e : magic.length = 4 := rfl
      omega
set_option maxHeartbeats 1000000 in
theorem u_Decode (l : List UInt8) (a : Option Addr) (c : Nat) (w : World) (hS : Sl eB T w a l) (hl : l.length ≤ 1048576) (hcap : l.length ≤ c) (hG : Gl w) : Ret Tryz.prog 37 #[.slice a l.length c] w (DecR l w) := by
  refine entr (vs := [.slice a l.length c]) [0, 2, 3, 4, 5, 6, 7, 8, 9, 10, 11, 12, 13, 72, 83] tabok Tryz.func37 (by kernel_rfl) ?_
  refine al fun b2 w1 h1 => ?_
  have z1 := h1.size
  have y1 := h1.blk
  refine cl (c_CloneB l a c T w1 (hS.bl h1.bl)) ?_
  rintro _ w2 ⟨ag, cg, rfl, hO2, B12⟩
  have z2 := B12.size
  have hcg := ow_cap hO2
  refine bd ?_
  refine bx (cs := [.slice ag l.length cg, .bool false]) fun rb w3 h3 => ?_
  have z3 := h3.size
  have y3 := h3.blk
  have B02 := h1.bl.trans B12
  have B03 := B02.trans h3.bl
  have R3 : RdS w3 rb rb (some l) := ⟨ag, cg, h3.box, owp_sl (enc := encB) (hO2.bl h3.bl) (by omega) fun g hg => by have := (hO2.lt hg).2; omega, hcg⟩
  have x3 := Bl.box (B12.trans h3.bl) h1.box
  -- the first four bytes
  refine cl (u_take rb rb 4 (some l) w3 R3 (Nat.le_refl _)) ?_
  rintro v w4 ⟨A4, R4, hv⟩
  obtain ⟨a4, c4, bs4, rfl, S4, iff4, hr4⟩ : ∃ a4 c4 bs4, v = .slice a4 bs4.length c4 ∧ Sl eB T w4 a4 bs4 ∧ (ofL bs4 = ⟨#[73, 83, 79, 49]⟩ ↔ l.take 4 = magic) ∧ (l.take 4 = magic → takeS 4 l = some (l.take 4, l.drop 4)) := by
    have mg := magic_take (l := l)
    have hv : match takeS 4 l with
      | some (x, _) => ∃ a c, v = .slice a x.length c ∧ Sl eB (· < rb) w4 a x
      | none => v = .slice none 0 0 := hv
    have ht2 : ∀ x, takeS 4 l = some x → x = (l.take 4, l.drop 4) := fun x h => by
      unfold takeS at h
      split at h
      · exact (Option.some.inj h).symm
      · cases h
    cases ht : takeS 4 l with
    | none =>
      rw [ht] at hv mg
      refine ⟨none, 0, [], hv, Sl.nil .., ⟨fun h => (by cases h), fun h => ?_⟩, fun h => ?_⟩
      · cases mg.2 h
      · cases mg.2 h
    | some x =>
      rw [ht] at hv mg
      obtain ⟨a', c', rfl, hS'⟩ := hv
      refine ⟨a', c', x.1, rfl, hS'.sub fun _ _ => trivial, ?_, fun _ => ?_⟩
      · simp only [Option.map_some, Option.some.injEq] at mg
        exact mg
      · rw [ht2 x ht]
  obtain ⟨x5, n5, q5, y5, hb4, hnx⟩ : ∃ x n q y, Box w4 rb 103 [.slice x n q, y] ∧ ∀ w5, Wr w4 rb w5 → Box w5 rb 103 [.slice x n q, .bool (decide (¬ ofL bs4 = ⟨#[73, 83, 79, 49]⟩))] → RdS w5 rb rb (cur0 l) := by
    by_cases hm : l.take 4 = magic
    · have e0 : cur0 l = some (l.drop 4) := by unfold cur0; rw [if_pos hm]
      have R4 : RdS w4 rb rb ((takeS 4 l).map (·.2)) := R4
      rw [hr4 hm] at R4
      obtain ⟨x, q, hb, hS, hc⟩ := R4
      refine ⟨x, _, q, _, hb, fun w5 k5 hb5 => ?_⟩
      rw [e0]
      rw [decide_eq_false (fun e => e (iff4.2 hm))] at hb5
      exact ⟨_, _, hb5, hS.kp (k5.kp fun i hi => by omega), hc⟩
    · have e0 : cur0 l = none := by unfold cur0; rw [if_neg hm]
      have key : ∀ {x n q y}, Box w4 rb 103 [.slice x n q, y] → ∃ x n q y, Box w4 rb 103 [.slice x n q, y] ∧ ∀ w5, Wr w4 rb w5 → Box w5 rb 103 [.slice x n q, .bool (decide (¬ ofL bs4 = ⟨#[73, 83, 79, 49]⟩))] → RdS w5 rb rb (cur0 l) := fun hb => ⟨_, _, _, _, hb, fun w5 k5 hb5 => by
        rw [e0]
        rw [decide_eq_true (show ¬ ofL bs4 = ⟨#[73, 83, 79, 49]⟩ from fun e => hm (iff4.1 e))] at hb5
        exact ⟨_, _, _, hb5⟩⟩
      cases hq : ((some l : Option (List UInt8)).bind (takeS 4)).map (·.2) with
      | none => rw [hq] at R4; obtain ⟨x, n, q, hb⟩ := R4; exact key hb
      | some r => rw [hq] at R4; obtain ⟨x, q, hb, _, _⟩ := R4; exact key hb
  refine cbl S4 rfl (fun _ => trivial) ?_
  refine st hb4 fun w5 k5 hb5 => ?_
  have R5 := hnx w5 k5 hb5
  have z4 := A4.size
  have z5 := k5.size
  have A35 : Ap w3 (some ⟨rb, 0, none⟩) w5 := A4.trans k5.ap
  refine cl (u_text rb rb _ w5 R5 (Nat.le_refl _)) ?_
  rintro v w6 ⟨A6, R6, ⟨s6, rfl⟩, k6⟩
  refine cl (u_getStr rb rb _ w6 R6 (Nat.le_refl _) 92 fun cur w h => u_text rb rb cur w h (Nat.le_refl _)) ?_
  rintro v w7 ⟨A7, R7, ⟨p7, n7, c7, rfl⟩, k7⟩
  refine cl (u_getCls rb rb _ w7 R7 (Nat.le_refl _) 95 fun cur w h => u_class rb rb cur w h (Nat.le_refl _)) ?_
  rintro v w8 ⟨A8, R8, ⟨p8, n8, c8, rfl⟩, k8⟩
  refine cl (u_getFld rb rb _ w8 R8 (Nat.le_refl _) 97 fun cur w h => u_field rb rb cur w h (Nat.le_refl _)) ?_
  rintro v w9 ⟨A9, R9, ⟨p9, n9, c9, rfl⟩, k9⟩
  refine cl (u_getMth rb rb _ w9 R9 (Nat.le_refl _) 99 fun cur w h => u_method rb rb cur w h (Nat.le_refl _)) ?_
  rintro v w10 ⟨A10, R10, ⟨p10, n10, c10, rfl⟩, k10⟩
  have z6 := A6.size
  have z7 := A7.size
  have z8 := A8.size
  have z9 := A9.size
  have z10 := A10.size
  obtain ⟨xi, ni, qi, yi, hb10, hni⟩ : ∃ x n q y, Box w10 rb 103 [.slice x n q, y] ∧ ∀ r, (((((((((((cur0 l).bind rTxt).map (·.2)).bind (rList rTxt)).map (·.2)).bind (rList rCls)).map (·.2)).bind (rList rFld)).map (·.2)).bind (rList rMth)).map (·.2)) = some r → n = r.length := by
    cases hq : (((((((((((cur0 l).bind rTxt).map (·.2)).bind (rList rTxt)).map (·.2)).bind (rList rCls)).map (·.2)).bind (rList rFld)).map (·.2)).bind (rList rMth)).map (·.2)) with
    | none => rw [hq] at R10; obtain ⟨x, n, q, hb⟩ := R10; exact ⟨x, n, q, _, hb, fun r h => by cases h⟩
    | some r => rw [hq] at R10; obtain ⟨x, q, hb, _, _⟩ := R10; exact ⟨x, _, q, _, hb, fun r' h => by rw [Option.some.inj h]⟩
  refine ld (hb10.cell rfl) ?_
  refine cl (u_number rb rb _ w10 R10 (Nat.le_refl _)) ?_
  rintro v w11 ⟨A11, R11, ⟨sum, rfl⟩, k11⟩
  have z11 := A11.size
  have A311 : Ap w3 (some ⟨rb, 0, none⟩) w11 := ((((((A35.trans A6).trans A7).trans A8).trans A9).trans A10).trans A11)
  have B011 : Bl w w11 := Below.trans B03 (A311.below (by omega) fun g hg => by simp only [Option.some.injEq, Addr.mk.injEq, and_true] at hg; omega)
  have x11 := A311.box x3 (ap_ne (by omega))
  have dc := dec_chain l
  cases hs : (((((((((((cur0 l).bind rTxt).map (·.2)).bind (rList rTxt)).map (·.2)).bind (rList rCls)).map (·.2)).bind (rList rFld)).map (·.2)).bind (rList rMth)).map (·.2)).bind rNum with
  | none =>
    rw [hs] at R11 dc
    have dc : parse l = none := dc
    obtain ⟨x, n, q, hb⟩ := R11
    refine ld (hb.cell rfl) ?_
    refine ldg (fun _ => hb.cell rfl) ?_
    refine spn (.slice none 0 0) ?_
    refine spn (I 0) ?_
    refine brt ?_
    refine bd ?_
    refine sta x11 fun w12 k12 x12 => ?_
    exact rtc2 x12.at (dec_none dc (B011.trans_wr k12 (by omega)))
  | some y =>
    rw [hs] at R11 dc
    obtain ⟨nn1, pp, cc, ss, mm, e1, e2, e3, e4, e5, hmm, hp⟩ := dc
    have hni : ni = mm.2.length := hni mm.2 (by rw [e5]; rfl)
    subst hni
    have hw : IntKind.i64.wrap ((l.length : Int) - (mm.2.length : Int)) = ((l.length - mm.2.length : Nat) : Int) := by rw [wrap_fit (by omega) (by omega)]; omega
    rw [hw]
    have R11 : RdS w11 rb rb (some y.2) := R11
    obtain ⟨x, q, hb, hS11, hc⟩ := R11
    have hsum : sum = y.1 := by
      have := k11 y.1 y.2 hs
      simp only [vNum, Value.int.injEq, true_and] at this
      exact this
    subst hsum
    refine ld (hb.cell rfl) ?_
    refine ldg (fun _ => hb.cell rfl) ?_
    by_cases hy : y.2 = []
    · have hy0 : ¬ (0 : Int) < (y.2.length : Int) := by rw [hy]; decide
      refine spt (.slice none 0 0) ?_ (hb := by rw [decide_eq_false hy0]; rfl)
      refine Eng.sl 0 (l.length - mm.2.length) ?_
      refine spt (I 0) ?_
      have hlen : (l.take (l.length - mm.2.length)).length = l.length - mm.2.length := by rw [List.length_take]; omega
      have hS0 : Sl eB T w11 (if c = 0 then a else a.map (·.add (0 * 1))) (l.take (l.length - mm.2.length)) := slB_if (n := 0) (slB_take (hS.bl B011) _) (by rw [hlen]; omega)
      have hcs := u_SumS (l.take (l.length - mm.2.length)) (if c = 0 then a else a.map (·.add (0 * 1))) (c - 0) T w11 hS0
      rw [hlen] at hcs
      refine cl hcs ?_
      rintro _ w11 ⟨rfl, rfl⟩
      refine br (fun h => ?_) (fun h => ?_)
      · have hno : parse l = none := by
          rw [hp, if_neg]
          rintro ⟨_, q⟩
          rw [Bool.false_or] at h
          exact of_decide_eq_true h q
        refine bd ?_
        refine sta x11 fun w12 k12 x12 => ?_
        exact rtc2 x12.at (dec_none hno (B011.trans_wr k12 (by omega)))
      have hsum : y.1 = sumB (l.take (l.length - mm.2.length)) := by
        rcases Classical.em (y.1 = sumB (l.take (l.length - mm.2.length))) with e | e
        · exact e
        · rw [Bool.false_or] at h; exact absurd e (of_decide_eq_false h)
      have hpu : parse l = some ⟨nn1.1, pp.1, cc.1, ss.1, mm.1⟩ := by rw [hp, if_pos ⟨hy, hsum⟩]
      have hz := parse_size hpu
      have E6 : Value.string s6 = .string nn1.1 := k6 _ _ e1
      obtain ⟨a7, d7, E7, S7⟩ := k7 _ _ e2
      obtain ⟨a8, d8, E8, S8⟩ := k8 _ _ e3
      obtain ⟨a9, d9, E9, S9⟩ := k9 _ _ e4
      obtain ⟨a10, d10, E10, S10⟩ := k10 _ _ e5
      obtain rfl := Value.string.inj E6
      obtain ⟨rfl, rfl, rfl⟩ := Value.slice.inj E7
      obtain ⟨rfl, rfl, rfl⟩ := Value.slice.inj E8
      obtain ⟨rfl, rfl, rfl⟩ := Value.slice.inj E9
      obtain ⟨rfl, rfl, rfl⟩ := Value.slice.inj E10
      have ne : ∀ i, w5.heap.size ≤ i → (some ⟨rb, 0, none⟩ : Option Addr) ≠ some ⟨i, 0, none⟩ := fun i hi => ap_ne (by omega)
      have hz7 := S7.big
      have U11 : UnR (fun i => w5.heap.size ≤ i) w11 ⟨nn1.1, pp.1, cc.1, ss.1, mm.1⟩ ⟨p7, c7, p8, c8, p9, c9, p10, c10⟩ := by
        have S7 := (((S7.kp (A8.kp.sub fun i hi => ne i (by omega))).kp (A9.kp.sub fun i hi => ne i (by omega))).kp (A10.kp.sub fun i hi => ne i (by omega))).kp (A11.kp.sub fun i hi => ne i (by omega))
        have S8 := ((S8.kp (A9.kp.sub fun i hi => ne i (by omega))).kp (A10.kp.sub fun i hi => ne i (by omega))).kp (A11.kp.sub fun i hi => ne i (by omega))
        have S9 := (S9.kp (A10.kp.sub fun i hi => ne i (by omega))).kp (A11.kp.sub fun i hi => ne i (by omega))
        have S10 := S10.kp (A11.kp.sub fun i hi => ne i (by omega))
        exact ⟨by omega, fun s hs => by have := hz.2 s hs; omega, S7.sub fun i hi => by omega, S8.sub fun i hi => by omega, S9.sub fun i hi => by omega, S10.sub fun i hi => by omega⟩
      refine bd ?_
      refine al fun b12 w12 h12 => ?_
      have y12 := h12.blk
      have z12 := h12.size
      refine sta h12.box fun w13 k13 x13 => ?_
      have z13 := k13.size
      have B1113 := h12.wr k13
      have B013 := B011.trans B1113
      have x213 := Bl.box B1113 x11
      refine lda x13.at ?_
      refine cl (u_Check ⟨nn1.1, pp.1, cc.1, ss.1, mm.1⟩ ⟨p7, c7, p8, c8, p9, c9, p10, c10⟩ w13 ((U11.bl B1113).all) (hG.bl B013)) ?_
      rintro _ w14 ⟨rfl, B1314⟩
      have B014 := B013.trans B1314
      refine br (t := decide (¬ checkE ⟨nn1.1, pp.1, cc.1, ss.1, mm.1⟩ = 0)) (fun h => ?_) (fun h => ?_)
      · have h0 := of_decide_eq_true h
        refine bd ?_
        refine sta (Bl.box B1314 x213) fun w15 k15 x15 => ?_
        exact rtc2 x15.at (dec_err (by unfold decE; rw [hpu]) (by unfold decU; rw [hpu]; exact if_neg h0) (B014.trans_wr k15 (by omega)))
      have h0 : checkE ⟨nn1.1, pp.1, cc.1, ss.1, mm.1⟩ = 0 := Classical.not_not.1 (of_decide_eq_false h)
      refine lda (Bl.box B1314 x13).at ?_
      refine sta (Bl.box B1314 x213) fun w15 k15 x15 => ?_
      have eE : decE l = 0 := by unfold decE; rw [hpu]; exact h0
      have eU : decU l = ⟨nn1.1, pp.1, cc.1, ss.1, mm.1⟩ := by unfold decU; rw [hpu]; exact if_pos h0
      refine rtc2 x15.at ⟨⟨p7, c7, p8, c8, p9, c9, p10, c10⟩, by rw [eE, eU]; rfl, ?_, B014.trans_wr k15 (by omega)⟩
      rw [eU]
      have U14 := (U11.bl B1113).bl B1314
      exact (U14.kp (k15.kp fun i hi => by omega)).all
    · have hy0 : (0 : Int) < (y.2.length : Int) := by
        have := List.length_pos_iff.2 hy
        omega
      have hno : parse l = none := by rw [hp, if_neg fun h => hy h.1]
      refine spn (.slice none 0 0) ?_ (hb := by rw [decide_eq_true hy0]; rfl)
      refine spn (I 0) ?_ (hb := by rw [decide_eq_true hy0]; rfl)
      refine brt ?_ (hp := by rw [decide_eq_true hy0]; rfl)
      refine bd ?_
      refine sta x11 fun w12 k12 x12 => ?_
      exact rtc2 x12.at (dec_none hno (B011.trans_wr k12 (by omega)))
end Go.Proofs.YtopjmiklpnejmaaGreatDoor

/- Walks: the document's reader of bytes: a number, a length, a text. -/
namespace Go.Proofs.YtopjmiklpnejmaaGreatDoor
open Eng Go.RowKit
/-- the reader's state: where it stands in the bytes, or: they are not of the form -/
structure RfS (w : World) (rb B : Nat) (a0 : Option Addr) (c0 : Nat) (l0 : List UInt8) (o : Option (List UInt8)) : Prop where
  box : ∃ at' : Int, Box w rb 181 [.slice a0 l0.length c0, I at', .bool o.isNone] ∧ ∀ r, o = some r → ∃ k : Nat, at' = k ∧ k ≤ l0.length ∧ r = l0.drop k
  sl : Sl eB (· < B) w a0 l0
  cap : l0.length ≤ c0
section
variable {rb B : Nat} {a0 : Option Addr} {c0 : Nat} {l0 : List UInt8}
theorem RfS.lt {w : World} {o : Option (List UInt8)} (h : RfS w rb B a0 c0 l0 o) : rb < w.heap.size := by obtain ⟨_, h, _⟩ := h.box; exact h.lt
theorem RfS.ap {w w' : World} {o : Option (List UInt8)} (h : RfS w rb B a0 c0 l0 o) {a : Option Addr} (k : Ap w a w') (hB : B ≤ rb) (ha : ∀ g, a = some ⟨g, 0, none⟩ → rb < g) : RfS w' rb B a0 c0 l0 o := by
  obtain ⟨at', hb, hr⟩ := h.box
  exact ⟨⟨at', k.box hb fun e => by have := ha _ e; omega, hr⟩, h.sl.kp (k.kp.sub fun i hi e => by have := ha _ e; omega), h.cap⟩
theorem RfS.bl {w w' : World} {o : Option (List UInt8)} (h : RfS w rb B a0 c0 l0 o) (k : Bl w w') (hB : B ≤ rb) : RfS w' rb B a0 c0 l0 o := h.ap (Ap.of_bl k none) hB fun _ h => absurd h nn
/-- what a reader of something gives -/
structure RfR {α : Type} (p : Prs α) (V : (Nat → Prop) → World → Value → α → Prop) (G : Value → Prop) (rb B : Nat) (a0 : Option Addr) (c0 : Nat) (l0 : List UInt8) (cur : Option (List UInt8)) (w : World) (v : Value) (w' : World) : Prop where
  ap : Ap w (some ⟨rb, 0, none⟩) w'
  st : RfS w' rb B a0 c0 l0 ((cur.bind p).map (·.2))
  sh : G v
  ok : ∀ x r, cur.bind p = some (x, r) → V (fun b => w.heap.size ≤ b ∧ b < w'.heap.size) w' v x
theorem r_residue2 (n : Int) (w : World) (h0 : 0 ≤ n) (h1 : n < 4294967296) : Ret Tryz.prog 232 #[I n] w fun v w' => v = I n ∧ w' = w := by
  have e : n.tmod 4294967296 = n := by rw [Int.tmod_eq_emod_of_nonneg h0]; omega
  refine entr (vs := [I n]) [0, 2, 3, 7] tabok Tryz.func232 (by kernel_rfl) ?_
  refine iop (rem_run (b := 4294967296) (by decide)) ?_
  rw [e]
  refine brF ?_
  exact rt1 ⟨rfl, rfl⟩
theorem r_Wrap (n : Int) (w : World) (h0 : 0 ≤ n) (h1 : n < 4294967296) : Ret Tryz.prog 229 #[I n] w fun v w' => v = I (IntKind.i64.wrap (IntKind.i32.wrap n)) ∧ w' = w := by
  refine entr (vs := [I n]) [0, 2, 3, 7] tabok Tryz.func229 (by kernel_rfl) ?_
  refine cl (r_residue2 n w h0 h1) ?_
  rintro _ _ ⟨rfl, rfl⟩
  have e : IntKind.i64.wrap (IntKind.i32.wrap n) = if 2147483648 ≤ n then n - 4294967296 else n := by
    simp only [IntKind.wrap, IntKind.bits, IntKind.signed]
    simp
    split <;> omega
  refine br (t := decide (2147483648 ≤ n)) (fun h => ?_) (fun h => ?_)
  · have := of_decide_eq_true h
    refine rt1 ⟨vi ?_, rfl⟩
    rw [e, if_pos this, wrap_fit (by omega) (by omega)]
  · have := of_decide_eq_false h
    refine rt1 ⟨vi ?_, rfl⟩
    rw [e, if_neg this]
theorem r_FromBytes (x y z t : UInt8) (a : Option Addr) (c : Nat) (S : Nat → Prop) (w : World) (hS : Sl eB S w a [x, y, z, t]) : Ret Tryz.prog 206 #[.slice a 4 c] w fun v w' => v = .tuple #[I (frm x y z t), I 0] ∧ w' = w := by
  refine entr (vs := [.slice a 4 c]) [0, 2, 3, 4, 5, 8, 10] tabok Tryz.func206 (by kernel_rfl) ?_
  refine brF ?_ (hp := by decide)
  refine lpk 4 5 [4] [(0, .slice a 4 c)] (fun k vals w' => vals = [I (accN ([x, y, z, t].take k) : Nat)] ∧ w' = w) ⟨rfl, rfl⟩ ?_
  rintro k vals _ hk ⟨rfl, rfl⟩ ih
  by_cases hlt : k < 4
  · refine brT ?_
    obtain ⟨u, b, o, cs, hu, rfl, _, hAt, rfl⟩ := at_some hS (i := k) hlt
    have hu1 := u.toNat_lt
    have ha : accN ([x, y, z, t].take k) < 256 ^ k := accN_lt k _ (by rw [List.length_take]; simp; omega)
    have ha2 : accN ([x, y, z, t].take k) < 16777216 := by
      have h5 : k = 0 ∨ k = 1 ∨ k = 2 ∨ k = 3 := by omega
      rcases h5 with rfl | rfl | rfl | rfl <;> simp only [Nat.pow_zero, Nat.pow_one, Nat.reducePow] at ha <;> omega
    refine ix ?_
    refine ld (hAt 0 _ rfl) ?_
    refine cv (ks := .u8) (kb := .i64) (by kernel_rfl) (by kernel_rfl) ?_
    refine ih hlt ⟨lst1 (vi ?_), rfl⟩
    rw [take_succ_some hu, accN_snoc]
    rw [wrap_fit (a := (u.toNat : Int)) (by omega) (by omega), wrap_fit (a := (accN ([x, y, z, t].take k) : Int) * 256) (by omega) (by omega), wrap_fit (by omega) (by omega)]
    omega
  refine brF ?_
  obtain rfl : k = 4 := by omega
  have hl : accN [x, y, z, t] < 256 ^ 4 := accN_lt 4 _ rfl
  refine cl (r_Wrap ((accN [x, y, z, t] : Nat) : Int) _ (by omega) (by omega)) ?_
  rintro _ _ ⟨rfl, rfl⟩
  refine rt2 ⟨?_, rfl⟩
  rw [frm_acc]
theorem rNum_some {l r : List UInt8} {n : Int} (h : rNum l = some (n, r)) : ∃ x y z t, l = [x, y, z, t] ++ r ∧ n = frm x y z t := by
  unfold rNum at h
  split at h
  · rename_i a b c d r'
    simp only [Option.some.injEq, Prod.mk.injEq] at h
    obtain ⟨rfl, rfl⟩ := h
    exact ⟨a, b, c, d, rfl, rfl⟩
  · cases h
theorem rNum_short {l : List UInt8} : rNum l = none ↔ l.length < 4 := by
  rcases l with _ | ⟨a, _ | ⟨b, _ | ⟨c, _ | ⟨d, r⟩⟩⟩⟩ <;> simp [rNum]
/-- bytes between two places -/
theorem slB_mid {S : Nat → Prop} {w : World} {a : Option Addr} {l : List UInt8} (h : Sl eB S w a l) {c i j : Nat} (hc : l.length ≤ c) : Sl eB S w (if c = i then a else a.map (·.add (i * 1))) ((l.drop i).take j) := slB_take (slB_if h hc) j
set_option maxHeartbeats 1000000 in
theorem r_number (cur : Option (List UInt8)) (w : World) (hR : RfS w rb B a0 c0 l0 cur) (hB : B ≤ rb) : Ret Tryz.prog 154 #[pr rb] w (RfR rNum vNum gNum rb B a0 c0 l0 cur w) := by
  have hbig := hR.sl.big
  refine entr (vs := [pr rb]) [0, 2, 3, 21] tabok Tryz.func154 (by kernel_rfl) ?_
  refine ds fun w1 h1 => ?_
  have R1 := hR.bl h1.bl hB
  obtain ⟨at', hb, hr⟩ := R1.box
  refine ld (hb.cell rfl) ?_
  cases cur with
  | none =>
    refine ldg (fun _ => hb.cell rfl) ?_
    refine ldg (fun _ => hb.cell rfl) ?_
    refine brt ?_
    refine st hb fun w2 k2 hb2 => ?_
    exact rt1 ⟨(Ap.bl h1.bl _).trans k2.ap, ⟨⟨at', hb2, fun r h => by cases h⟩, R1.sl.kp (k2.kp fun i hi => by omega), R1.cap⟩, ⟨_, rfl⟩, fun x r q => by cases q⟩
  | some r =>
    obtain ⟨k, rfl, hk, rfl⟩ := hr r rfl
    have hdl : (l0.drop k).length = l0.length - k := List.length_drop
    refine ldg (fun _ => hb.cell rfl) ?_
    refine ldg (fun _ => hb.cell rfl) ?_
    have hw : IntKind.i64.wrap ((l0.length : Int) - (k : Int)) = ((l0.length - k : Nat) : Int) := by rw [wrap_fit (by omega) (by omega)]; omega
    refine br (fun h => ?_) (fun h => ?_)
    all_goals rw [hw] at h
    · have hsh : l0.length - k < 4 := by simp at h; omega
      have hn : rNum (l0.drop k) = none := rNum_short.2 (by omega)
      refine st hb fun w2 k2 hb2 => ?_
      have e : (some (l0.drop k)).bind rNum = none := hn
      exact rt1 ⟨(Ap.bl h1.bl _).trans k2.ap, by rw [e]; exact ⟨⟨k, hb2, fun r h => by cases h⟩, R1.sl.kp (k2.kp fun i hi => by omega), R1.cap⟩, ⟨_, rfl⟩, fun x r q => by rw [e] at q; cases q⟩
    · have hsh : 4 ≤ l0.length - k := by simp at h; omega
      cases hn : rNum (l0.drop k) with
      | none => have := rNum_short.1 hn; omega
      | some xr =>
        obtain ⟨n, r⟩ := xr
        obtain ⟨x, y, z, t, hl, hfr⟩ := rNum_some hn
        have hr4 : r = l0.drop (k + 4) := by
          rw [← List.drop_drop, hl]; rfl
        have ht4 : (l0.drop k).take 4 = [x, y, z, t] := by rw [hl]; rfl
        refine dh T [0, 1, 2, 3, 4, 5, 6, 7, 8, 9, 10, 11, 12, 13, 14, 15, 16, 17, 18, 19] fun w2 h2 => ?_
        have hb2 := h2.box hb
        have hS2 := R1.sl.bl h2.bl
        refine ld (hb2.cell rfl) ?_
        refine ld (hb2.cell rfl) ?_
        refine ld (hb2.cell rfl) ?_
        have hw2 : IntKind.i64.wrap ((k : Int) + 4) = ((k + 4 : Nat) : Int) := by rw [wrap_fit (by omega) (by omega)]; omega
        have hcap := R1.cap
        refine Eng.sl k (k + 4) ?_ (h2 := by exact ⟨.i64, vi hw2⟩)
        have hS4 : Sl eB (· < B) w2 (if c0 = k then a0 else a0.map (·.add (k * 1))) [x, y, z, t] := by
          rw [← ht4]; exact slB_mid hS2 hcap
        have hc := r_FromBytes x y z t (if c0 = k then a0 else a0.map (·.add (k * 1))) (c0 - k) _ w2 hS4
        have e4 : k + 4 - k = 4 := by omega
        rw [e4]
        refine cl hc ?_
        rintro _ _ ⟨rfl, rfl⟩
        refine ld (hb2.cell rfl) ?_
        refine st hb2 fun w3 k3 hb3 => ?_
        rw [hw2] at hb3
        have e : (some (l0.drop k)).bind rNum = some (n, r) := hn
        refine rt1 ⟨((Ap.bl h1.bl _).thenBl h2.bl).trans k3.ap, by rw [e]; exact ⟨⟨((k + 4 : Nat) : Int), hb3, fun r' h => ⟨k + 4, rfl, by omega, by rw [← hr4]; exact (Option.some.inj h).symm⟩⟩, hS2.kp (k3.kp fun i hi => by omega), R1.cap⟩, ⟨_, rfl⟩, fun x' r' q => ?_⟩
        rw [e] at q
        simp only [Option.some.injEq, Prod.mk.injEq] at q
        rw [← q.1, hfr]
def rLen (m : Nat) : Prs Int := fun l => (rNum l).bind fun x => if x.1 < 0 ∨ ((x.2.length / m : Nat) : Int) < x.1 then none else some x
/-- a length: a natural number, 0 where something is wrong -/
abbrev gLen {α : Type} (n : Nat) (o : Option (Int × α)) : Value → Prop := fun v => ∃ m : Nat, v = I m ∧ (o = none → m = 0) ∧ m ≤ n
set_option maxHeartbeats 1000000 in
theorem r_length (m : Nat) (hm : 0 < m) (hm2 : m < 1000) (cur : Option (List UInt8)) (w : World) (hR : RfS w rb B a0 c0 l0 cur) (hB : B ≤ rb) : Ret Tryz.prog 203 #[pr rb, I (m : Nat)] w (RfR (rLen m) vNum (gLen l0.length (cur.bind (rLen m))) rb B a0 c0 l0 cur w) := by
  have hbig := hR.sl.big
  refine entr (vs := [pr rb, I (m : Nat)]) [0, 1, 4, 5, 31] tabok Tryz.func203 (by kernel_rfl) ?_
  refine cl (r_number cur w hR hB) ?_
  rintro v w1 ⟨hA, R1, ⟨n, rfl⟩, hok⟩
  refine ds fun w2 h2 => ?_
  have hA2 := hA.thenBl h2.bl
  have R2 := R1.bl h2.bl hB
  obtain ⟨at', hb, hr⟩ := R2.box
  have key : cur.bind (rLen m) = (cur.bind rNum).bind fun x => if x.1 < 0 ∨ ((x.2.length / m : Nat) : Int) < x.1 then none else some x := by cases cur <;> rfl
  refine ld (hb.cell rfl) ?_
  cases h1 : cur.bind rNum with
  | none =>
    rw [h1] at hb key
    have key : cur.bind (rLen m) = none := key
    refine spn (.slice none 0 0) ?_
    refine spn (I 0) ?_
    refine spn (I 0) ?_
    refine brt ?_
    refine st hb fun w3 k3 hb3 => ?_
    exact rt1 ⟨hA2.trans k3.ap, by rw [key]; exact ⟨⟨at', hb3, fun r h => by cases h⟩, R2.sl.kp (k3.kp fun i hi => by omega), R2.cap⟩, ⟨0, rfl, fun _ => rfl, Nat.zero_le _⟩, fun x r q => by rw [key] at q; cases q⟩
  | some xr =>
    obtain ⟨n0, r⟩ := xr
    have e0 := hok _ _ h1
    simp only [vNum, Value.int.injEq, true_and] at e0
    subst e0
    rw [h1] at hb hr key
    obtain ⟨k, rfl, hk, hrk⟩ := hr r rfl
    have hdl : r.length = l0.length - k := by rw [hrk, List.length_drop]
    by_cases hn : n < 0
    · have key : cur.bind (rLen m) = none := by rw [key]; exact if_pos (.inl hn)
      refine spn (.slice none 0 0) ?_ (hb := by rw [decide_eq_true hn]; rfl)
      refine spn (I 0) ?_ (hb := by rw [decide_eq_true hn]; rfl)
      refine spn (I 0) ?_ (hb := by rw [decide_eq_true hn]; rfl)
      refine brt ?_ (hp := by rw [decide_eq_true hn]; rfl)
      refine st hb fun w3 k3 hb3 => ?_
      exact rt1 ⟨hA2.trans k3.ap, by rw [key]; exact ⟨⟨k, hb3, fun r h => by cases h⟩, R2.sl.kp (k3.kp fun i hi => by omega), R2.cap⟩, ⟨0, rfl, fun _ => rfl, Nat.zero_le _⟩, fun x r q => by rw [key] at q; cases q⟩
    obtain ⟨j, rfl⟩ : ∃ j : Nat, n = (j : Int) := ⟨n.toNat, by omega⟩
    refine spt (.slice none 0 0) ?_ (hb := by rw [decide_eq_false hn]; rfl)
    refine ld (hb.cell rfl) ?_
    refine spt (I 0) ?_
    refine ld (hb.cell rfl) ?_
    have hw : IntKind.i64.wrap ((l0.length : Int) - (k : Int)) = ((r.length : Nat) : Int) := by rw [wrap_fit (by omega) (by omega)]; omega
    refine spt (I 0) ?_
    refine iop (quo_run (b := (m : Int)) (by omega)) ?_
    have hq : IntKind.i64.wrap ((IntKind.i64.wrap ((l0.length : Int) - (k : Int))).tdiv (m : Int)) = ((r.length / m : Nat) : Int) := by
      rw [hw]
      have h4 : (r.length : Int).tdiv (m : Int) = ((r.length / m : Nat) : Int) := by rw [Int.tdiv_eq_ediv_of_nonneg (by omega)]; rfl
      have h5 : r.length / m ≤ r.length := Nat.div_le_self ..
      rw [h4]
      generalize r.length / m = q at h5 ⊢
      rw [wrap_fit (by omega) (by omega)]
    rw [hq]
    refine br (fun h => ?_) (fun h => ?_)
    · have hbig : ((r.length / m : Nat) : Int) < (j : Int) := by simpa using h
      have key : cur.bind (rLen m) = none := by rw [key]; exact if_pos (.inr hbig)
      refine st hb fun w3 k3 hb3 => ?_
      exact rt1 ⟨hA2.trans k3.ap, by rw [key]; exact ⟨⟨k, hb3, fun r h => by cases h⟩, R2.sl.kp (k3.kp fun i hi => by omega), R2.cap⟩, ⟨0, rfl, fun _ => rfl, Nat.zero_le _⟩, fun x r q => by rw [key] at q; cases q⟩
    · have hsm : ¬ ((r.length / m : Nat) : Int) < (j : Int) := by simpa using h
      have key : cur.bind (rLen m) = some ((j : Int), r) := by rw [key]; exact if_neg fun q => q.elim hn hsm
      refine rt1 ⟨hA2, by rw [key]; exact ⟨⟨k, hb, hr⟩, R2.sl, R2.cap⟩, ⟨j, rfl, fun q => (by rw [key] at q; cases q), by have h9 := Nat.div_le_self r.length m; generalize r.length / m = z at hsm h9; omega⟩, fun x r' q => ?_⟩
      rw [key] at q
      simp only [Option.some.injEq, Prod.mk.injEq] at q
      rw [← q.1]
end
end Go.Proofs.YtopjmiklpnejmaaGreatDoor

/- Walks: the document's readers of texts, of lists, of structs. Printed by wip/tools/mkrf.py. -/
namespace Go.Proofs.YtopjmiklpnejmaaGreatDoor
open Eng Go.RowKit
/-- what is read of a list after k rounds -/
def clk {α : Type} (cur : Option (List UInt8)) (M : Nat) (p : Prs α) (k : Nat) : Option (List α × List UInt8) := (cur.bind (rLen M)).bind fun x => rRep p k x.2
theorem clk_succ {α : Type} (cur : Option (List UInt8)) (M : Nat) (p : Prs α) (k : Nat) : clk cur M p (k + 1) = (clk cur M p k).bind fun x => (p x.2).bind fun y => some (x.1 ++ [y.1], y.2) := by
  unfold clk
  cases cur.bind (rLen M) with
  | none => rfl
  | some x => exact rRep_snoc p k x.2
theorem clk_zero {α : Type} (cur : Option (List UInt8)) (M : Nat) (p : Prs α) : (clk cur M p 0).map (·.2) = (cur.bind (rLen M)).map (·.2) := by
  unfold clk; cases cur.bind (rLen M) <;> rfl
theorem clk_zero_nil {α : Type} {cur : Option (List UInt8)} {M : Nat} {p : Prs α} {xs : List α} {r : List UInt8} (h : clk cur M p 0 = some (xs, r)) : xs = [] := by
  unfold clk at h
  cases hq : cur.bind (rLen M) with
  | none => rw [hq] at h; cases h
  | some x => rw [hq] at h; simp only [Option.bind_some, rRep, Option.some.injEq, Prod.mk.injEq] at h; exact h.1.symm
theorem clk_none {α : Type} {cur : Option (List UInt8)} {M : Nat} {p : Prs α} {k n : Nat} (h : clk cur M p k = none) (hn : k ≤ n) : clk cur M p n = none := by
  unfold clk at *
  cases hq : cur.bind (rLen M) with
  | none => rfl
  | some x => rw [hq] at h; exact rRep_none h n hn
theorem clk_len {α : Type} {cur : Option (List UInt8)} {M : Nat} {p : Prs α} {k : Nat} {xs : List α} {r : List UInt8} (h : clk cur M p k = some (xs, r)) : xs.length = k := by
  unfold clk at h
  cases hq : cur.bind (rLen M) with
  | none => rw [hq] at h; cases h
  | some x => rw [hq] at h; exact rRep_len h
theorem clk_end {α : Type} {cur : Option (List UInt8)} {M : Nat} {p : Prs α} (hp : Min p M) (hM : 0 < M) {m : Nat} (h : ∀ x r, cur.bind (rLen M) = some (x, r) → I (m : Nat) = I x) : clk cur M p m = cur.bind (rList p) := by
  cases cur with
  | none => rfl
  | some l =>
    have h : ∀ x r, rLen M l = some (x, r) → I (m : Nat) = I x := h
    show (rLen M l).bind (fun x => rRep p m x.2) = rList p l
    unfold rList
    unfold rLen at h ⊢
    cases hn : rNum l with
    | none => rfl
    | some y =>
      obtain ⟨n, r⟩ := y
      rw [hn] at h
      simp only [Option.bind_some] at h ⊢
      by_cases h0 : n < 0
      · rw [if_pos (.inl h0), if_pos h0]; rfl
      · rw [if_neg h0]
        by_cases hb : ((r.length / M : Nat) : Int) < n
        · rw [if_pos (.inr hb)]
          cases hr : rRep p n.toNat r with
          | none => rfl
          | some z =>
            exfalso
            have h1 := rRep_min hp _ _ _ _ hr
            have h2 : n.toNat ≤ r.length / M := (Nat.le_div_iff_mul_le hM).2 (by omega)
            omega
        · rw [if_neg (fun q => q.elim h0 hb)] at h ⊢
          have := h n r rfl
          simp only [Value.int.injEq, true_and] at this
          have e : n.toNat = m := by omega
          rw [e]; rfl
section
variable {rb B : Nat} {a0 : Option Addr} {c0 : Nat} {l0 : List UInt8}
theorem rTxt_len (l : List UInt8) : rTxt l = (rLen 1 l).bind fun x => some (ofL (x.2.take x.1.toNat), x.2.drop x.1.toNat) := by
  unfold rTxt rLen
  cases rNum l with
  | none => rfl
  | some x =>
    simp only [Option.bind_some, Nat.div_one]
    split <;> rfl
set_option maxHeartbeats 1000000 in
theorem r_text (cur : Option (List UInt8)) (w : World) (hR : RfS w rb B a0 c0 l0 cur) (hB : B ≤ rb) : Ret Tryz.prog 202 #[pr rb] w (RfR rTxt vTxt gTxt rb B a0 c0 l0 cur w) := by
  have hbig := hR.sl.big
  refine entr (vs := [pr rb]) [0, 2, 3, 4, 10] tabok Tryz.func202 (by kernel_rfl) ?_
  refine cl (r_length 1 (by decide) (by decide) cur w hR hB) ?_
  rintro v w1 ⟨hA, R1, ⟨m, rfl, hm0, hml⟩, hok⟩
  have key : cur.bind rTxt = (cur.bind (rLen 1)).bind fun x => some (ofL (x.2.take x.1.toNat), x.2.drop x.1.toNat) := by
    cases cur with
    | none => rfl
    | some l => exact rTxt_len l
  obtain ⟨at1, hb1, hr1⟩ := R1.box
  refine ld (hb1.cell rfl) ?_
  cases h1 : cur.bind (rLen 1) with
  | none =>
    rw [h1] at key
    have key : cur.bind rTxt = none := key
    refine brt ?_
    rw [h1] at R1
    exact rt1 ⟨hA, by rw [key]; exact R1, ⟨_, rfl⟩, fun x r q => by rw [key] at q; cases q⟩
  | some xr =>
    obtain ⟨n, r⟩ := xr
    have e0 := hok _ _ h1
    simp only [vNum, Value.int.injEq, true_and] at e0
    subst e0
    rw [h1] at key hr1 hb1
    obtain ⟨k, rfl, hk, hrk⟩ := hr1 r rfl
    have key : cur.bind rTxt = some (ofL (r.take m), r.drop m) := key
    have hmr : m ≤ r.length := by
      cases cur with
      | none => cases h1
      | some l =>
        have h1 : rLen 1 l = some ((m : Int), r) := h1
        unfold rLen at h1
        obtain ⟨y, e1, e2⟩ := bind_some h1
        split at e2
        · cases e2
        · rename_i hno
          simp only [Option.some.injEq] at e2
          subst e2
          rw [Nat.div_one] at hno
          simp only at hno
          omega
    have hdl : r.length = l0.length - k := by rw [hrk, List.length_drop]
    refine brf ?_
    refine ds fun w2 h2 => ?_
    have hb2 := h2.box hb1
    have hS2 := R1.sl.bl h2.bl
    have hcap := R1.cap
    refine ld (hb2.cell rfl) ?_
    refine ld (hb2.cell rfl) ?_
    refine ld (hb2.cell rfl) ?_
    have hw : IntKind.i64.wrap ((k : Int) + (m : Int)) = ((k + m : Nat) : Int) := by rw [wrap_fit (by omega) (by omega)]; omega
    refine Eng.sl k (k + m) ?_ (h2 := by exact ⟨.i64, vi hw⟩)
    have hSm : Sl eB (· < B) w2 (if c0 = k then a0 else a0.map (·.add (k * 1))) (r.take m) := by
      rw [hrk]; exact slB_mid hS2 hcap
    refine cbl (n := k + m - k) hSm (by rw [List.length_take]; omega) (fun _ => trivial) ?_
    refine ld (hb2.cell rfl) ?_
    refine st hb2 fun w3 k3 hb3 => ?_
    rw [hw] at hb3
    refine rt1 ⟨(hA.thenBl h2.bl).trans k3.ap, by rw [key]; exact ⟨⟨((k + m : Nat) : Int), hb3, fun r' h => ⟨k + m, rfl, by omega, by rw [← Option.some.inj h, hrk, List.drop_drop]⟩⟩, hS2.kp (k3.kp fun i hi => by omega), hcap⟩, ⟨_, rfl⟩, fun x r' q => ?_⟩
    rw [key] at q
    simp only [Option.some.injEq, Prod.mk.injEq] at q
    rw [← q.1]
theorem r_typeOf (cur : Option (List UInt8)) (w : World) (hR : RfS w rb B a0 c0 l0 cur) (hB : B ≤ rb) : Ret Tryz.prog 227 #[pr rb] w (RfR rTy (vAgg eTy) gI2 rb B a0 c0 l0 cur w) := by
  have hlt := hR.lt
  refine entr (vs := [pr rb]) [0, 2, 3] tabok Tryz.func227 (by kernel_rfl) ?_
  refine al fun b1 w1 h1 => ?_
  have y1 := h1.blk
  have z1 := h1.size
  refine al fun b2 w2 h2 => ?_
  have y2 := h2.blk
  have z2 := h2.size
  have B02 := h1.bl.trans h2.bl
  have R2 := hR.bl B02 hB
  refine cl (r_number cur w2 R2 hB) ?_
  rintro v w3 ⟨A3, R3, ⟨n3, rfl⟩, k3⟩
  have z3 := A3.size
  have x3 := A3.box h2.box (ap_ne (by omega))
  refine st x3 fun w4 k4 x4 => ?_
  have R4 := R3.ap k4.ap hB fun g hg => by simp only [Option.some.injEq, Addr.mk.injEq, and_true] at hg; omega
  refine cl (r_number _ w4 R4 hB) ?_
  rintro v w5 ⟨A5, R5, ⟨n5, rfl⟩, k5⟩
  have z4 := k4.size
  have z5 := A5.size
  refine st (A5.box x4 (ap_ne (by omega))) fun w6 k6 x6 => ?_
  refine lda x6.at ?_
  have x16 := k6.box (A5.box (k4.box (A3.box (Bl.box h2.bl h1.box) (ap_ne (by omega))) (by omega)) (ap_ne (by omega))) (by omega)
  refine sta x16 fun w7 k7 x7 => ?_
  have z6 := k6.size
  have A07 : Ap w (some ⟨rb, 0, none⟩) w7 := (((((Ap.bl B02 _).trans A3).new k4 (by omega)).trans A5).new k6 (by omega)).new k7 (by omega)
  have R7 := (R5.ap k6.ap hB fun g hg => by simp only [Option.some.injEq, Addr.mk.injEq, and_true] at hg; omega).ap k7.ap hB fun g hg => by simp only [Option.some.injEq, Addr.mk.injEq, and_true] at hg; omega
  have e : cur.bind rTy = (cur.bind rNum).bind fun x => (rNum x.2).bind fun y => some (⟨x.1, y.1⟩, y.2) := by cases cur <;> rfl
  refine rtc x7.at ⟨A07, ?_, ⟨n3, n5, rfl⟩, fun t r q => ?_⟩
  · rw [e]
    cases h : cur.bind rNum with
    | none => rw [h] at R7; exact R7
    | some x =>
      rw [h] at R7
      have R7 : RfS w7 rb B a0 c0 l0 ((rNum x.2).map (·.2)) := R7
      simp only [Option.bind_some]
      cases h2 : rNum x.2 <;> (rw [h2] at R7; exact R7)
  · rw [e] at q
    obtain ⟨x, q1, q⟩ := bind_some q
    obtain ⟨y, q2, q⟩ := bind_some q
    simp only [Option.some.injEq, Prod.mk.injEq] at q
    obtain ⟨rfl, _⟩ := q
    have e2 := k3 x.1 x.2 q1
    have e3 := k5 y.1 y.2 (by rw [q1]; exact q2)
    simp only [vNum, Value.int.injEq, true_and] at e2 e3
    exact ⟨[I n3, I n5], rfl, by rw [e2, e3]; rfl⟩
set_option maxHeartbeats 1000000 in
theorem r_types (cur : Option (List UInt8)) (w : World) (hR : RfS w rb B a0 c0 l0 cur) (hB : B ≤ rb) : Ret Tryz.prog 228 #[pr rb] w (RfR (rList rTy) (vLst eTy) gLst rb B a0 c0 l0 cur w) := by
  have hbig := hR.sl.big
  have hlt := hR.lt
  refine entr (vs := [pr rb]) [0, 2, 3, 4, 5, 6, 18] tabok Tryz.func228 (by kernel_rfl) ?_
  refine cl (r_length 8 (by decide) (by decide) cur w hR hB) ?_
  rintro v w1 ⟨hA, R1, ⟨m, rfl, hm0, hml⟩, hok⟩
  have z1 := hA.size
  refine lpk m 5 [4] [(0, pr rb), (3, I m)] (fun k vals w' => Ap w (some ⟨rb, 0, none⟩) w' ∧ w1.heap.size ≤ w'.heap.size ∧ ∃ a j c, vals = [.slice a j c] ∧ RfS w' rb B a0 c0 l0 ((clk cur 8 rTy k).map (·.2)) ∧
    ∀ xs r', clk cur 8 rTy k = some (xs, r') → j = xs.length ∧ OwC eTy (fun b => w1.heap.size ≤ b) w' w1.heap.size 61 a c xs) ⟨hA, Nat.le_refl _, none, 0, 0, rfl, by rw [clk_zero]; exact R1, fun xs r' q => by rw [clk_zero_nil q]; exact ⟨rfl, OwC.nil ..⟩⟩ ?_
  rintro k vals w2 hk ⟨hA2, z2, a, j, c, rfl, R2, hI⟩ ih
  obtain ⟨at2, hb2, _⟩ := R2.box
  refine ldg (fun _ => hb2.cell rfl) ?_
  refine br (fun h => ?_) (fun h => ?_)
  · have hlt2 : k < m := by simp at h; omega
    obtain ⟨xs, r', hclk⟩ : ∃ xs r', clk cur 8 rTy k = some (xs, r') := by
      cases hq : clk cur 8 rTy k with
      | none => rw [hq] at h; simp at h
      | some x => exact ⟨x.1, x.2, rfl⟩
    have hxl := clk_len hclk
    obtain ⟨rfl, hO⟩ := hI _ _ hclk
    rw [hclk] at R2
    have R2 : RfS w2 rb B a0 c0 l0 (some r') := R2
    refine cl (r_typeOf (some r') w2 R2 hB) ?_
    rintro v w20 ⟨A20, R20, ⟨c1, c2, rfl⟩, k20⟩
    refine al fun b6 w6 h6 => ?_
    have y6 := h6.blk
    refine sta h6.box fun w3 k6 x6 => ?_
    have hE : RfR rTy (vAgg eTy) gI2 rb B a0 c0 l0 (some r') w2 (asV [I c1, I c2]) w3 := ⟨A20.thenBl (h6.wr k6), R20.bl (h6.wr k6) hB, ⟨_, _, rfl⟩, fun x r q => k20 x r q⟩
    refine lda x6.at ?_
    have hO3 := hO.rb hE.ap (by omega) fun i hi => by omega
    have z3 := hE.ap.size
    refine bs (cs := [I c1, I c2]) fun b4 w4 h4 => ?_
    have z4 := h4.size
    have y4 := h4.blk
    obtain ⟨ys, e1, e2, hOx, e4⟩ := (hO3.bl h4.bl).row
    refine ap hOx (.inr ⟨b4, 0, rfl, h4.box.at⟩) (by omega) (fun a5 c5 w5 hO5 hA5 hf5 => ?_)
    have hlo : ∀ g, a = some ⟨g, 0, none⟩ → w1.heap.size ≤ g := fun g hg => (hO.lt hg).1
    have hA05 : Ap w (some ⟨rb, 0, none⟩) w5 := ((hA2.trans hE.ap).thenBl h4.bl).ap hA5 fun g hg => by have := hlo g hg; omega
    have R5 := (hE.st.bl h4.bl hB).ap hA5 hB fun g hg => by have := hlo g hg; omega
    have z5 := hA5.size
    have es := clk_succ cur 8 rTy k
    rw [hclk] at es
    have es : clk cur 8 rTy (k + 1) = (rTy r').bind fun y => some (xs ++ [y.1], y.2) := es
    refine ih hlt2 ⟨hA05, by omega, a5, _, c5, rfl, ?_, fun xs' r2 q => ?_⟩
    · rw [es]
      have R5 : RfS w5 rb B a0 c0 l0 ((rTy r').map (·.2)) := R5
      cases hp : rTy r' <;> (rw [hp] at R5; exact R5)
    · rw [es] at q
      obtain ⟨y, hp, q⟩ := bind_some q
      simp only [Option.some.injEq, Prod.mk.injEq] at q
      obtain ⟨rfl, rfl⟩ := q
      have hv := hE.ok y.1 y.2 hp
      have hrel : (eTy).rel (fun b => w1.heap.size ≤ b ∧ a ≠ some ⟨b, 0, none⟩ ∧ b < w4.heap.size) w4 [I c1, I c2] y.1 := by
        refine (eTy).sub (S := fun b => w2.heap.size ≤ b ∧ b < w3.heap.size) (fun b hb => ⟨by omega, fun e => by have := (hO.lt e).2; omega, by omega⟩) ((eTy).kp (h4.bl.kp _) ?_)
        obtain ⟨cs, e, hr2⟩ := hv
        rw [agg_inj e]; exact hr2
      exact ⟨by rw [List.length_append]; rfl, OwC.push e1 e2 e4 hO5 hA5 hf5 hrel⟩
  · have hfin : clk cur 8 rTy k = cur.bind (rList rTy) := by
      have he := clk_end min_ty (by decide) hok
      by_cases hkm : k < m
      · cases hq : clk cur 8 rTy k with
        | none => rw [← he, clk_none hq hk]
        | some x => rw [hq] at h; simp at h; omega
      · obtain rfl : k = m := by omega
        exact he
    refine rt1 ⟨hA2, by rw [← hfin]; exact R2, ⟨_, _, _, rfl⟩, fun xs r q => ?_⟩
    rw [← hfin] at q
    obtain ⟨rfl, hO⟩ := hI _ _ q
    have := clk_len q
    exact ⟨_, _, rfl, (hO.sl2 (by omega)).sub fun i hi => ⟨by omega, hi.2⟩⟩
set_option maxHeartbeats 1000000 in
theorem r_fields (cur : Option (List UInt8)) (w : World) (hR : RfS w rb B a0 c0 l0 cur) (hB : B ≤ rb) : Ret Tryz.prog 204 #[pr rb] w (RfR (rList rFld) (vLst eFld) gLst rb B a0 c0 l0 cur w) := by
  have hbig := hR.sl.big
  have hlt := hR.lt
  refine entr (vs := [pr rb]) [0, 2, 3, 4, 5, 6, 18] tabok Tryz.func204 (by kernel_rfl) ?_
  refine cl (r_length 12 (by decide) (by decide) cur w hR hB) ?_
  rintro v w1 ⟨hA, R1, ⟨m, rfl, hm0, hml⟩, hok⟩
  have z1 := hA.size
  refine lpk m 5 [4] [(0, pr rb), (3, I m)] (fun k vals w' => Ap w (some ⟨rb, 0, none⟩) w' ∧ w1.heap.size ≤ w'.heap.size ∧ ∃ a j c, vals = [.slice a j c] ∧ RfS w' rb B a0 c0 l0 ((clk cur 12 rFld k).map (·.2)) ∧
    ∀ xs r', clk cur 12 rFld k = some (xs, r') → j = xs.length ∧ OwC eFld (fun b => w1.heap.size ≤ b) w' w1.heap.size 86 a c xs) ⟨hA, Nat.le_refl _, none, 0, 0, rfl, by rw [clk_zero]; exact R1, fun xs r' q => by rw [clk_zero_nil q]; exact ⟨rfl, OwC.nil ..⟩⟩ ?_
  rintro k vals w2 hk ⟨hA2, z2, a, j, c, rfl, R2, hI⟩ ih
  obtain ⟨at2, hb2, _⟩ := R2.box
  refine ldg (fun _ => hb2.cell rfl) ?_
  refine br (fun h => ?_) (fun h => ?_)
  · have hlt2 : k < m := by simp at h; omega
    obtain ⟨xs, r', hclk⟩ : ∃ xs r', clk cur 12 rFld k = some (xs, r') := by
      cases hq : clk cur 12 rFld k with
      | none => rw [hq] at h; simp at h
      | some x => exact ⟨x.1, x.2, rfl⟩
    have hxl := clk_len hclk
    obtain ⟨rfl, hO⟩ := hI _ _ hclk
    rw [hclk] at R2
    have R2 : RfS w2 rb B a0 c0 l0 (some r') := R2
    refine al fun b6 w20 h6 => ?_
    have y6 := h6.blk
    have z20 := h6.size
    refine cl (r_number (some r') w20 (R2.bl h6.bl hB) hB) ?_
    rintro v w21 ⟨A21, R21, ⟨c1, rfl⟩, k21⟩
    have z21 := A21.size
    refine st (A21.box h6.box (ap_ne (by omega))) fun w22 k22 x22 => ?_
    have z22 := k22.size
    have R22 := R21.ap k22.ap hB fun g hg => by simp only [Option.some.injEq, Addr.mk.injEq, and_true] at hg; omega
    refine cl (r_typeOf _ w22 R22 hB) ?_
    rintro v w23 ⟨A23, R23, ⟨c2, c3, rfl⟩, k23⟩
    have z23 := A23.size
    refine sta (A23.box x22 (ap_ne (by omega))) fun w3 k3 x3 => ?_
    have hE : RfR rFld (vAgg eFld) gI3 rb B a0 c0 l0 (some r') w2 (asV [I c1, I c2, I c3]) w3 := by
      have R3 := R23.ap k3.ap hB fun g hg => by simp only [Option.some.injEq, Addr.mk.injEq, and_true] at hg; omega
      refine ⟨((((Ap.bl h6.bl _).trans A21).new k22 (by omega)).trans A23).new k3 (by omega), ?_, ⟨_, _, _, rfl⟩, fun x r q => ?_⟩
      · have R3 : RfS w3 rb B a0 c0 l0 ((((rNum r').map (·.2)).bind rTy).map (·.2)) := R3
        show RfS w3 rb B a0 c0 l0 ((rFld r').map (·.2))
        unfold rFld
        cases h1 : rNum r' with
        | none => rw [h1] at R3; exact R3
        | some x =>
          rw [h1] at R3
          have R3 : RfS w3 rb B a0 c0 l0 ((rTy x.2).map (·.2)) := R3
          simp only [Option.bind_some]
          cases h2 : rTy x.2 <;> (rw [h2] at R3; exact R3)
      · have q : rFld r' = some (x, r) := q
        obtain ⟨u1, q1, q⟩ := bind_some q
        obtain ⟨u2, q2, q⟩ := bind_some q
        simp only [Option.some.injEq, Prod.mk.injEq] at q
        obtain ⟨rfl, _⟩ := q
        have e2 := k21 u1.1 u1.2 q1
        obtain ⟨cs, e3, e4⟩ := k23 u2.1 u2.2 (by show ((rNum r').map (·.2)).bind rTy = _; rw [q1]; exact q2)
        simp only [vNum, Value.int.injEq, true_and] at e2
        have e4 : cs = encTy u2.1 := e4
        have e5 : [I c2, I c3] = encTy u2.1 := (agg_inj e3).trans e4
        exact ⟨[I c1, I c2, I c3], rfl, by rw [e2]; exact congrArg (fun l => I u1.1 :: l) e5⟩
    refine lda x3.at ?_
    have hO3 := hO.rb hE.ap (by omega) fun i hi => by omega
    have z3 := hE.ap.size
    refine bs (cs := [I c1, I c2, I c3]) fun b4 w4 h4 => ?_
    have z4 := h4.size
    have y4 := h4.blk
    obtain ⟨ys, e1, e2, hOx, e4⟩ := (hO3.bl h4.bl).row
    refine ap hOx (.inr ⟨b4, 0, rfl, h4.box.at⟩) (by omega) (fun a5 c5 w5 hO5 hA5 hf5 => ?_)
    have hlo : ∀ g, a = some ⟨g, 0, none⟩ → w1.heap.size ≤ g := fun g hg => (hO.lt hg).1
    have hA05 : Ap w (some ⟨rb, 0, none⟩) w5 := ((hA2.trans hE.ap).thenBl h4.bl).ap hA5 fun g hg => by have := hlo g hg; omega
    have R5 := (hE.st.bl h4.bl hB).ap hA5 hB fun g hg => by have := hlo g hg; omega
    have z5 := hA5.size
    have es := clk_succ cur 12 rFld k
    rw [hclk] at es
    have es : clk cur 12 rFld (k + 1) = (rFld r').bind fun y => some (xs ++ [y.1], y.2) := es
    refine ih hlt2 ⟨hA05, by omega, a5, _, c5, rfl, ?_, fun xs' r2 q => ?_⟩
    · rw [es]
      have R5 : RfS w5 rb B a0 c0 l0 ((rFld r').map (·.2)) := R5
      cases hp : rFld r' <;> (rw [hp] at R5; exact R5)
    · rw [es] at q
      obtain ⟨y, hp, q⟩ := bind_some q
      simp only [Option.some.injEq, Prod.mk.injEq] at q
      obtain ⟨rfl, rfl⟩ := q
      have hv := hE.ok y.1 y.2 hp
      have hrel : (eFld).rel (fun b => w1.heap.size ≤ b ∧ a ≠ some ⟨b, 0, none⟩ ∧ b < w4.heap.size) w4 [I c1, I c2, I c3] y.1 := by
        refine (eFld).sub (S := fun b => w2.heap.size ≤ b ∧ b < w3.heap.size) (fun b hb => ⟨by omega, fun e => by have := (hO.lt e).2; omega, by omega⟩) ((eFld).kp (h4.bl.kp _) ?_)
        obtain ⟨cs, e, hr2⟩ := hv
        rw [agg_inj e]; exact hr2
      exact ⟨by rw [List.length_append]; rfl, OwC.push e1 e2 e4 hO5 hA5 hf5 hrel⟩
  · have hfin : clk cur 12 rFld k = cur.bind (rList rFld) := by
      have he := clk_end min_fld (by decide) hok
      by_cases hkm : k < m
      · cases hq : clk cur 12 rFld k with
        | none => rw [← he, clk_none hq hk]
        | some x => rw [hq] at h; simp at h; omega
      · obtain rfl : k = m := by omega
        exact he
    refine rt1 ⟨hA2, by rw [← hfin]; exact R2, ⟨_, _, _, rfl⟩, fun xs r q => ?_⟩
    rw [← hfin] at q
    obtain ⟨rfl, hO⟩ := hI _ _ q
    have := clk_len q
    exact ⟨_, _, rfl, (hO.sl2 (by omega)).sub fun i hi => ⟨by omega, hi.2⟩⟩
set_option maxHeartbeats 2000000 in
theorem r_method (cur : Option (List UInt8)) (w : World) (hR : RfS w rb B a0 c0 l0 cur) (hB : B ≤ rb) : Ret Tryz.prog 205 #[pr rb] w (RfR rMth (vAgg eMth) gMth rb B a0 c0 l0 cur w) := by
  have hbig := hR.sl.big
  have hlt := hR.lt
  refine entr (vs := [pr rb]) [0, 2, 3, 4, 5, 6, 33] tabok Tryz.func205 (by kernel_rfl) ?_
  refine al fun b2 w1 h1 => ?_
  have y1 := h1.blk
  have z1 := h1.size
  refine al fun b3 w2 h2 => ?_
  have y2 := h2.blk
  have z2 := h2.size
  have A02 : Ap w (some ⟨rb, 0, none⟩) w2 := Ap.bl (h1.bl.trans h2.bl) _
  have o2 := Bl.box h2.bl h1.box
  have x2 := h2.box
  have R2 := hR.bl (h1.bl.trans h2.bl) hB
  refine cl (r_number _ w2 R2 hB) ?_
  rintro v w2a ⟨A2a, R2a, ⟨n1, rfl⟩, k2a⟩
  have z2a := A2a.size
  refine st (A2a.box x2 (ap_ne (by omega))) fun w3 k2 x3 => ?_
  have z3 := k2.size
  have A03 : Ap w (some ⟨rb, 0, none⟩) w3 := (A02.trans A2a).new k2 (by omega)
  have o3 := k2.box (A2a.box o2 (ap_ne (by omega))) (by omega)
  have R3 := R2a.ap k2.ap hB fun g hg => by simp only [Option.some.injEq, Addr.mk.injEq, and_true] at hg; omega
  refine cl (r_number _ w3 R3 hB) ?_
  rintro v w3a ⟨A3a, R3a, ⟨n2, rfl⟩, k3a⟩
  have z3a := A3a.size
  refine st (A3a.box x3 (ap_ne (by omega))) fun w4 k3 x4 => ?_
  have z4 := k3.size
  have A04 : Ap w (some ⟨rb, 0, none⟩) w4 := (A03.trans A3a).new k3 (by omega)
  have o4 := k3.box (A3a.box o3 (ap_ne (by omega))) (by omega)
  have R4 := R3a.ap k3.ap hB fun g hg => by simp only [Option.some.injEq, Addr.mk.injEq, and_true] at hg; omega
  refine cl (r_types _ w4 R4 hB) ?_
  rintro v w4a ⟨A4a, R4a, ⟨p3, j3, q3, rfl⟩, k4a⟩
  have z4a := A4a.size
  refine st (A4a.box x4 (ap_ne (by omega))) fun w5 k4 x5 => ?_
  have z5 := k4.size
  have A05 : Ap w (some ⟨rb, 0, none⟩) w5 := (A04.trans A4a).new k4 (by omega)
  have o5 := k4.box (A4a.box o4 (ap_ne (by omega))) (by omega)
  have R5 := R4a.ap k4.ap hB fun g hg => by simp only [Option.some.injEq, Addr.mk.injEq, and_true] at hg; omega
  refine cl (r_types _ w5 R5 hB) ?_
  rintro v w5a ⟨A5a, R5a, ⟨p4, j4, q4, rfl⟩, k5a⟩
  have z5a := A5a.size
  refine st (A5a.box x5 (ap_ne (by omega))) fun w6 k5 x6 => ?_
  have z6 := k5.size
  have A06 : Ap w (some ⟨rb, 0, none⟩) w6 := (A05.trans A5a).new k5 (by omega)
  have o6 := k5.box (A5a.box o5 (ap_ne (by omega))) (by omega)
  have R6 := R5a.ap k5.ap hB fun g hg => by simp only [Option.some.injEq, Addr.mk.injEq, and_true] at hg; omega
  refine cl (r_typeOf _ w6 R6 hB) ?_
  rintro v w6a ⟨A6a, R6a, ⟨n5, n6, rfl⟩, k6a⟩
  have z6a := A6a.size
  refine sta (A6a.box x6 (ap_ne (by omega))) fun w7 k6 x7 => ?_
  have z7 := k6.size
  have A07 : Ap w (some ⟨rb, 0, none⟩) w7 := (A06.trans A6a).new k6 (by omega)
  have o7 := k6.box (A6a.box o6 (ap_ne (by omega))) (by omega)
  have R7 := R6a.ap k6.ap hB fun g hg => by simp only [Option.some.injEq, Addr.mk.injEq, and_true] at hg; omega
  refine cl (r_length 12 (by decide) (by decide) _ w7 R7 hB) ?_
  rintro v w8 ⟨A7a, R8, ⟨m, rfl, hm0, hml⟩, hok⟩
  have z8 := A7a.size
  have A08 := A07.trans A7a
  have o8 := A7a.box o7 (ap_ne (by omega))
  have x8 := A7a.box x7 (ap_ne (by omega))
  generalize hcur : Option.map (·.2) (Option.bind (Option.map (·.2) (Option.bind (Option.map (·.2) (Option.bind (Option.map (·.2) (Option.bind (Option.map (·.2) (Option.bind cur rNum)) rNum)) (rList rTy))) (rList rTy))) rTy) = cu at *
  refine lpk m 5 [] [(0, pr rb), (2, pr b2), (3, pr b3), (4, I m)] (fun k vals w' => vals = [] ∧ Ap w (some ⟨rb, 0, none⟩) w' ∧ w8.heap.size ≤ w'.heap.size ∧ (∀ i, b3 < i → i < w8.heap.size → w'.heap[i]? = w8.heap[i]?) ∧ Box w' b2 64 [I 0, I 0, .slice none 0 0, .slice none 0 0, I 0, I 0, .slice none 0 0] ∧ ∃ a j c, Box w' b3 64 [I n1, I n2, .slice p3 j3 q3, .slice p4 j4 q4, I n5, I n6, .slice a j c] ∧ RfS w' rb B a0 c0 l0 ((clk cu 12 rIns k).map (·.2)) ∧
    ∀ xs r', clk cu 12 rIns k = some (xs, r') → j = xs.length ∧ OwC eIns (fun b => w8.heap.size ≤ b) w' w8.heap.size 89 a c xs) ⟨rfl, A08, Nat.le_refl _, fun _ _ _ => rfl, o8, none, 0, 0, x8, by rw [clk_zero]; exact R8, fun xs r' q => by rw [clk_zero_nil q]; exact ⟨rfl, OwC.nil ..⟩⟩ ?_
  rintro k vals v2 hk ⟨rfl, hA2, z2, hkeep, ho2, a, j, c, hx2, R2, hI⟩ ih
  obtain ⟨at2, hb2, _⟩ := R2.box
  refine ldg (fun _ => hb2.cell rfl) ?_
  refine br (fun h => ?_) (fun h => ?_)
  · have hlt2 : k < m := by simp at h; omega
    obtain ⟨xs, r', hclk⟩ : ∃ xs r', clk cu 12 rIns k = some (xs, r') := by
      cases hq : clk cu 12 rIns k with
      | none => rw [hq] at h; simp at h
      | some x => exact ⟨x.1, x.2, rfl⟩
    have hxl := clk_len hclk
    obtain ⟨rfl, hO⟩ := hI _ _ hclk
    rw [hclk] at R2
    have R2 : RfS v2 rb B a0 c0 l0 (some r') := R2
    refine al fun b6 v20 h6 => ?_
    have y6 := h6.blk
    have z20 := h6.size
    refine cl (r_number (some r') v20 (R2.bl h6.bl hB) hB) ?_
    rintro v v21 ⟨A21, R21, ⟨d1, rfl⟩, k21⟩
    have z21 := A21.size
    refine st (A21.box h6.box (ap_ne (by omega))) fun v22 k22 x22 => ?_
    have z22 := k22.size
    have R22 := R21.ap k22.ap hB fun g hg => by simp only [Option.some.injEq, Addr.mk.injEq, and_true] at hg; omega
    refine cl (r_number _ v22 R22 hB) ?_
    rintro v v23 ⟨A23, R23, ⟨d2, rfl⟩, k23⟩
    have z23 := A23.size
    refine st (A23.box x22 (ap_ne (by omega))) fun v24 k24 x24 => ?_
    have z24 := k24.size
    have R24 := R23.ap k24.ap hB fun g hg => by simp only [Option.some.injEq, Addr.mk.injEq, and_true] at hg; omega
    refine cl (r_number _ v24 R24 hB) ?_
    rintro v v25 ⟨A25, R25, ⟨d3, rfl⟩, k25⟩
    have z25 := A25.size
    refine st (A25.box x24 (ap_ne (by omega))) fun v3 k3 x3 => ?_
    have hE : RfR rIns (vAgg eIns) gI3 rb B a0 c0 l0 (some r') v2 (asV [I d1, I d2, I d3]) v3 := by
      have R3 := R25.ap k3.ap hB fun g hg => by simp only [Option.some.injEq, Addr.mk.injEq, and_true] at hg; omega
      refine ⟨((((((Ap.bl h6.bl _).trans A21).new k22 (by omega)).trans A23).new k24 (by omega)).trans A25).new k3 (by omega), ?_, ⟨_, _, _, rfl⟩, fun x r q => ?_⟩
      · have R3 : RfS v3 rb B a0 c0 l0 ((((((rNum r').map (·.2)).bind rNum).map (·.2)).bind rNum).map (·.2)) := R3
        show RfS v3 rb B a0 c0 l0 ((rIns r').map (·.2))
        unfold rIns
        cases h1 : rNum r' with
        | none => rw [h1] at R3; exact R3
        | some x =>
          rw [h1] at R3
          have R3 : RfS v3 rb B a0 c0 l0 ((((rNum x.2).map (·.2)).bind rNum).map (·.2)) := R3
          simp only [Option.bind_some]
          cases h2 : rNum x.2 with
          | none => rw [h2] at R3; exact R3
          | some y =>
            rw [h2] at R3
            have R3 : RfS v3 rb B a0 c0 l0 ((rNum y.2).map (·.2)) := R3
            simp only [Option.bind_some]
            cases h3 : rNum y.2 <;> (rw [h3] at R3; exact R3)
      · have q : rIns r' = some (x, r) := q
        obtain ⟨u1, q1, q⟩ := bind_some q
        obtain ⟨u2, q2, q⟩ := bind_some q
        obtain ⟨u3, q3, q⟩ := bind_some q
        simp only [Option.some.injEq, Prod.mk.injEq] at q
        obtain ⟨rfl, _⟩ := q
        have c1 : ((rNum r').map (·.2)).bind rNum = some u2 := by rw [q1]; exact q2
        have e2 := k21 u1.1 u1.2 q1
        have e3 := k23 u2.1 u2.2 c1
        have e4 := k25 u3.1 u3.2 (by show (((((rNum r').map (·.2)).bind rNum).map (·.2)).bind rNum) = _; rw [c1]; exact q3)
        simp only [vNum, Value.int.injEq, true_and] at e2 e3 e4
        exact ⟨[I d1, I d2, I d3], rfl, by rw [e2, e3, e4]; rfl⟩
    have hO3 := hO.rb hE.ap (by omega) fun i hi => by omega
    have z3 := hE.ap.size
    have hx3 := hE.ap.box hx2 (ap_ne (by omega))
    refine ld (hx3.cell rfl) ?_
    refine lda x3.at ?_
    refine bs (cs := [I d1, I d2, I d3]) fun b4 v4 h4 => ?_
    have z4 := h4.size
    have y4 := h4.blk
    obtain ⟨ys, e1, e2, hOx, e4⟩ := (hO3.bl h4.bl).row
    refine ap hOx (.inr ⟨b4, 0, rfl, h4.box.at⟩) (by omega) (fun a5 c5 v5 hO5 hA5 hf5 => ?_)
    have hlo : ∀ g, a = some ⟨g, 0, none⟩ → w8.heap.size ≤ g := fun g hg => (hO.lt hg).1
    have nlo : ∀ i, i < w8.heap.size → a ≠ some ⟨i, 0, none⟩ := fun i hi e => by have := hlo i e; omega
    have hx5 := hA5.box (Bl.box h4.bl hx3) (nlo _ (by omega))
    have ho5 := hA5.box (Bl.box h4.bl (hE.ap.box ho2 (ap_ne (by omega)))) (nlo _ (by omega))
    have z5 := hA5.size
    refine st hx5 fun v6 k6 hx6 => ?_
    have z6 := k6.size
    have hA06 : Ap w (some ⟨rb, 0, none⟩) v6 := (((hA2.trans hE.ap).thenBl h4.bl).ap hA5 fun g hg => by have := hlo g hg; omega).new k6 (by omega)
    have R6 := ((hE.st.bl h4.bl hB).ap hA5 hB fun g hg => by have := hlo g hg; omega).ap k6.ap hB fun g hg => by simp only [Option.some.injEq, Addr.mk.injEq, and_true] at hg; omega
    have es := clk_succ cu 12 rIns k
    rw [hclk] at es
    have es : clk cu 12 rIns (k + 1) = (rIns r').bind fun y => some (xs ++ [y.1], y.2) := es
    refine ih hlt2 ⟨rfl, hA06, by omega, fun i h1 h2 => ?_, k6.box ho5 (by omega), a5, _, c5, hx6, ?_, fun xs' r2 q => ?_⟩
    · exact (k6.block i (by omega)).trans ((hA5.block i (by omega) (nlo i h2)).trans ((h4.bl.block i (by omega)).trans ((hE.ap.block i (by omega) (ap_ne (by omega))).trans (hkeep i h1 h2))))
    · rw [es]
      have R6 : RfS v6 rb B a0 c0 l0 ((rIns r').map (·.2)) := R6
      cases hp : rIns r' <;> (rw [hp] at R6; exact R6)
    · rw [es] at q
      obtain ⟨y, hp, q⟩ := bind_some q
      simp only [Option.some.injEq, Prod.mk.injEq] at q
      obtain ⟨rfl, rfl⟩ := q
      have hv := hE.ok y.1 y.2 hp
      have hrel : (eIns).rel (fun b => w8.heap.size ≤ b ∧ a ≠ some ⟨b, 0, none⟩ ∧ b < v4.heap.size) v4 [I d1, I d2, I d3] y.1 := by
        refine (eIns).sub (S := fun b => v2.heap.size ≤ b ∧ b < v3.heap.size) (fun b hb => ⟨by omega, fun e => by have := (hO.lt e).2; omega, by omega⟩) ((eIns).kp (h4.bl.kp _) ?_)
        obtain ⟨cs, e, hr2⟩ := hv
        rw [agg_inj e]; exact hr2
      exact ⟨by rw [List.length_append]; rfl, (OwC.push e1 e2 e4 hO5 hA5 hf5 hrel).wr k6 (by omega) fun i hi => by omega⟩
  have hfin : clk cu 12 rIns k = (cu).bind (rList rIns) := by
    have he := clk_end min_ins (by decide) hok
    by_cases hkm : k < m
    · cases hq : clk cu 12 rIns k with
      | none => rw [← he, clk_none hq hk]
      | some x => rw [hq] at h; simp at h; omega
    · obtain rfl : k = m := by omega
      exact he
  clear ih h
  rw [hfin] at R2
  have hsl : ∀ xs r, (cu).bind (rList rIns) = some (xs, r) → j = xs.length ∧ Sl eIns (fun i => w8.heap.size ≤ i ∧ i < v2.heap.size) v2 a xs := fun xs r q => by
    rw [← hfin] at q
    obtain ⟨h1, hO⟩ := hI _ _ q
    have := clk_len q
    exact ⟨h1, hO.sl2 (by omega)⟩
  refine lda hx2.at ?_
  refine sta ho2 fun w10 k10 x10 => ?_
  have z10 := k10.size
  have A010 := hA2.new k10 (by omega)
  have R10 := R2.ap k10.ap hB fun g hg => by simp only [Option.some.injEq, Addr.mk.injEq, and_true] at hg; omega
  have e : cur.bind rMth = (cur.bind rNum).bind fun x => (rNum x.2).bind fun y => (rList rTy y.2).bind fun p => (rList rTy p.2).bind fun q => (rTy q.2).bind fun t => (rList rIns t.2).bind fun c => some (⟨x.1, y.1, p.1, q.1, t.1, c.1⟩, c.2) := by cases cur <;> rfl
  refine rtc x10.at ⟨A010, ?_, ⟨n1, n2, p3, j3, q3, p4, j4, q4, n5, n6, a, j, c, rfl⟩, fun t r q => ?_⟩
  · rw [← hcur] at R10
    rw [e]
    cases h0 : cur.bind rNum with
    | none => rw [h0] at R10; exact R10
    | some x0 =>
      rw [h0] at R10
      have R10 : RfS w10 rb B a0 c0 l0 (((((((((((((((rNum) x0.2).map (·.2))).bind (rList rTy)).map (·.2))).bind (rList rTy)).map (·.2))).bind (rTy)).map (·.2))).bind (rList rIns)).map (·.2)) := R10
      simp only [Option.bind_some]
      cases h1 : (rNum) x0.2 with
      | none => rw [h1] at R10; exact R10
      | some x1 =>
        rw [h1] at R10
        have R10 : RfS w10 rb B a0 c0 l0 ((((((((((((rList rTy) x1.2).map (·.2))).bind (rList rTy)).map (·.2))).bind (rTy)).map (·.2))).bind (rList rIns)).map (·.2)) := R10
        simp only [Option.bind_some]
        cases h2 : (rList rTy) x1.2 with
        | none => rw [h2] at R10; exact R10
        | some x2 =>
          rw [h2] at R10
          have R10 : RfS w10 rb B a0 c0 l0 (((((((((rList rTy) x2.2).map (·.2))).bind (rTy)).map (·.2))).bind (rList rIns)).map (·.2)) := R10
          simp only [Option.bind_some]
          cases h3 : (rList rTy) x2.2 with
          | none => rw [h3] at R10; exact R10
          | some x3 =>
            rw [h3] at R10
            have R10 : RfS w10 rb B a0 c0 l0 ((((((rTy) x3.2).map (·.2))).bind (rList rIns)).map (·.2)) := R10
            simp only [Option.bind_some]
            cases h4 : (rTy) x3.2 with
            | none => rw [h4] at R10; exact R10
            | some x4 =>
              rw [h4] at R10
              have R10 : RfS w10 rb B a0 c0 l0 (((rList rIns) x4.2).map (·.2)) := R10
              simp only [Option.bind_some]
              cases h5 : (rList rIns) x4.2 <;> (rw [h5] at R10; exact R10)
  · rw [e] at q
    obtain ⟨u1, q1, q⟩ := bind_some q
    obtain ⟨u2, q2, q⟩ := bind_some q
    obtain ⟨u3, q3', q⟩ := bind_some q
    obtain ⟨u4, q4', q⟩ := bind_some q
    obtain ⟨u5, q5, q⟩ := bind_some q
    obtain ⟨u6, q6, q⟩ := bind_some q
    simp only [Option.some.injEq, Prod.mk.injEq] at q
    obtain ⟨rfl, _⟩ := q
    have c1 : ((cur.bind rNum).map (·.2)).bind rNum = some u2 := by rw [q1]; exact q2
    have c2 : ((((cur.bind rNum).map (·.2)).bind rNum).map (·.2)).bind (rList rTy) = some u3 := by rw [c1]; exact q3'
    have c3 : ((((((cur.bind rNum).map (·.2)).bind rNum).map (·.2)).bind (rList rTy)).map (·.2)).bind (rList rTy) = some u4 := by rw [c2]; exact q4'
    have c4 : ((((((((cur.bind rNum).map (·.2)).bind rNum).map (·.2)).bind (rList rTy)).map (·.2)).bind (rList rTy)).map (·.2)).bind rTy = some u5 := by rw [c3]; exact q5
    have ecu : cu = some u5.2 := by rw [← hcur, c4]; rfl
    have e2 := k2a u1.1 u1.2 q1
    have e3 := k3a u2.1 u2.2 c1
    obtain ⟨a4, d4, e4, S4⟩ := k4a u3.1 u3.2 c2
    obtain ⟨a5, d5, e5, S5⟩ := k5a u4.1 u4.2 c3
    obtain ⟨cs, e6, e7⟩ := k6a u5.1 u5.2 c4
    obtain ⟨e8, S6⟩ := hsl u6.1 u6.2 (by rw [ecu]; exact q6)
    simp only [vNum, Value.int.injEq, true_and] at e2 e3
    obtain ⟨rfl, rfl, rfl⟩ := Value.slice.inj e4
    obtain ⟨rfl, rfl, rfl⟩ := Value.slice.inj e5
    have e7 : cs = encTy u5.1 := e7
    have e9 : [I n5, I n6] = encTy u5.1 := (agg_inj e6).trans e7
    simp only [encTy, List.cons.injEq, Value.int.injEq, true_and, and_true] at e9
    obtain ⟨rfl, rfl⟩ := e9
    subst e2 e3 e8
    have K8 : ∀ i, b3 < i → i < w8.heap.size → w10.heap[i]? = w8.heap[i]? := fun i h1 h2 => (k10.block i (by omega)).trans (hkeep i h1 h2)
    have K5 : ∀ i, b3 < i → i < w5.heap.size → w10.heap[i]? = w5.heap[i]? := fun i h1 h2 => (K8 i h1 (by omega)).trans ((A7a.block i (by omega) (ap_ne (by omega))).trans ((k6.block i (by omega)).trans ((A6a.block i (by omega) (ap_ne (by omega))).trans ((k5.block i (by omega)).trans (A5a.block i h2 (ap_ne (by omega)))))))
    have K5a : ∀ i, b3 < i → i < w5a.heap.size → w10.heap[i]? = w5a.heap[i]? := fun i h1 h2 => (K8 i h1 (by omega)).trans ((A7a.block i (by omega) (ap_ne (by omega))).trans ((k6.block i (by omega)).trans ((A6a.block i (by omega) (ap_ne (by omega))).trans (k5.block i (by omega)))))
    have KP : ∀ {wx : World} {S : Nat → Prop}, (∀ i, b3 < i → i < wx.heap.size → w10.heap[i]? = wx.heap[i]?) → (∀ i, S i → b3 < i ∧ i < wx.heap.size) → Kp S wx w10 := fun K hS b o v hs hv => by
      have h1 := hS b hs
      rw [World.cell?_of_block (K b h1.1 h1.2)]; exact hv
    have S4 : Sl eTy (fun i => w.heap.size ≤ i ∧ i < w10.heap.size) w10 p3 u3.1 := ((S4.kp (k4.kp fun i hi => by omega)).kp (KP K5 fun i hi => by omega)).sub fun i hi => by omega
    have S5 : Sl eTy (fun i => w.heap.size ≤ i ∧ i < w10.heap.size) w10 p4 u4.1 := (S5.kp (KP K5a fun i hi => by omega)).sub fun i hi => by omega
    have S6 : Sl eIns (fun i => w.heap.size ≤ i ∧ i < w10.heap.size) w10 a u6.1 := (S6.kp (k10.kp fun i hi => by omega)).sub fun i hi => by omega
    exact ⟨_, rfl, p3, q3, p4, q4, a, c, rfl, S4, S5, S6⟩
abbrev vUnt : (Nat → Prop) → World → Value → Unt → Prop := fun S w v u => ∃ a : UA, v = asV (ucells u a) ∧ Sl eStr S w a.a1 u.pool ∧ Sl eCls S w a.a2 u.classes ∧ Sl eFld S w a.a3 u.statics ∧ Sl eMth S w a.a4 u.methods
abbrev gUnt : Value → Prop := fun v => ∃ s p1 n1 c1 p2 n2 c2 p3 n3 c3 p4 n4 c4, v = asV [.string s, .slice p1 n1 c1, .slice p2 n2 c2, .slice p3 n3 c3, .slice p4 n4 c4]
set_option maxHeartbeats 4000000 in
theorem r_unit (cur : Option (List UInt8)) (w : World) (hR : RfS w rb B a0 c0 l0 cur) (hB : B ≤ rb) : Ret Tryz.prog 153 #[pr rb] w (RfR rUnt vUnt gUnt rb B a0 c0 l0 cur w) := by
  have hbig := hR.sl.big
  have hlt := hR.lt
  refine entr (vs := [pr rb]) [0, 2, 3, 4, 5, 6, 7, 8, 9, 10, 25, 47, 79] tabok Tryz.func153 (by kernel_rfl) ?_
  refine al fun b2 w1 h1 => ?_
  have y1 := h1.blk
  have z1 := h1.size
  refine al fun b3 w2 h2 => ?_
  have y2 := h2.blk
  have z2 := h2.size
  have A02 : Ap w (some ⟨rb, 0, none⟩) w2 := Ap.bl (h1.bl.trans h2.bl) _
  have o2 := Bl.box h2.bl h1.box
  have x2 := h2.box
  have R2 := hR.bl (h1.bl.trans h2.bl) hB
  refine cl (r_text _ w2 R2 hB) ?_
  rintro v w2a ⟨A2a, R2a, ⟨nm, rfl⟩, k2a⟩
  have z2a := A2a.size
  refine st (A2a.box x2 (ap_ne (by omega))) fun w3 k2 x3 => ?_
  have z3 := k2.size
  have A03 : Ap w (some ⟨rb, 0, none⟩) w3 := (A02.trans A2a).new k2 (by omega)
  have o3 := k2.box (A2a.box o2 (ap_ne (by omega))) (by omega)
  have R3 := R2a.ap k2.ap hB fun g hg => by simp only [Option.some.injEq, Addr.mk.injEq, and_true] at hg; omega
  obtain ⟨cu1, hcu1⟩ : ∃ cu, cu = (cur.bind rTxt).map (·.2) := ⟨_, rfl⟩
  rw [← hcu1] at R3
  refine cl (r_length 4 (by decide) (by decide) _ w3 R3 hB) ?_
  rintro v w4 ⟨A3a, R4, ⟨m1, rfl, hm01, hml1⟩, hok1⟩
  have z4 := A3a.size
  have A04 := A03.trans A3a
  have o4 := A3a.box o3 (ap_ne (by omega))
  have x4 := A3a.box x3 (ap_ne (by omega))
  refine lpk m1 5 [] [(0, pr rb), (2, pr b2), (3, pr b3), (4, I m1)] (fun k vals w' => vals = [] ∧ Ap w (some ⟨rb, 0, none⟩) w' ∧ w4.heap.size ≤ w'.heap.size ∧ (∀ i, b3 < i → i < w4.heap.size → w'.heap[i]? = w4.heap[i]?) ∧ Box w' b2 30 [.string ⟨#[]⟩, .slice none 0 0, .slice none 0 0, .slice none 0 0, .slice none 0 0] ∧ ∃ aA jA cA, Box w' b3 30 [.string nm, .slice aA jA cA, .slice none 0 0, .slice none 0 0, .slice none 0 0] ∧ RfS w' rb B a0 c0 l0 ((clk cu1 4 rTxt k).map (·.2)) ∧
    ∀ xs r', clk cu1 4 rTxt k = some (xs, r') → jA = xs.length ∧ OwC eStr (fun b => w4.heap.size ≤ b) w' w4.heap.size 9 aA cA xs) ⟨rfl, A04, Nat.le_refl _, fun _ _ _ => rfl, o4, none, 0, 0, x4, by rw [clk_zero]; exact R4, fun xs r' q => by rw [clk_zero_nil q]; exact ⟨rfl, OwC.nil ..⟩⟩ ?_
  rintro k vals v2A hk ⟨rfl, hA2A, z2A, hkeepA, ho2A, aA, jA, cA, hx2A, R2A, hIA⟩ ih
  obtain ⟨at2, hb2, _⟩ := R2A.box
  refine ldg (fun _ => hb2.cell rfl) ?_
  refine br (fun h => ?_) (fun h => ?_)
  · have hlt2 : k < m1 := by simp at h; omega
    obtain ⟨xs, r', hclk⟩ : ∃ xs r', clk cu1 4 rTxt k = some (xs, r') := by
      cases hq : clk cu1 4 rTxt k with
      | none => rw [hq] at h; simp at h
      | some x => exact ⟨x.1, x.2, rfl⟩
    have hxl := clk_len hclk
    obtain ⟨rfl, hO⟩ := hIA _ _ hclk
    rw [hclk] at R2A
    have R2A : RfS v2A rb B a0 c0 l0 (some r') := R2A
    refine cl (r_text (some r') v2A R2A hB) ?_
    rintro v v3 ⟨A3, R3', ⟨d1, rfl⟩, k3⟩
    have hE : RfR rTxt vTxt gTxt rb B a0 c0 l0 (some r') v2A (.string d1) v3 := ⟨A3, R3', ⟨_, rfl⟩, k3⟩
    have hO3 := hO.rb hE.ap (by omega) fun i hi => by omega
    have z3 := hE.ap.size
    have hx3 := hE.ap.box hx2A (ap_ne (by omega))
    refine ld (hx3.cell rfl) ?_
    refine bs (cs := [.string d1]) fun b4 v4 h4 => ?_
    have z4 := h4.size
    have y4 := h4.blk
    obtain ⟨ys, e1, e2, hOx, e4⟩ := (hO3.bl h4.bl).row
    refine ap hOx (.inr ⟨b4, 0, rfl, h4.box.at⟩) (by omega) (fun a5 c5 v5 hO5 hA5 hf5 => ?_)
    have hlo : ∀ g, aA = some ⟨g, 0, none⟩ → w4.heap.size ≤ g := fun g hg => (hO.lt hg).1
    have nlo : ∀ i, i < w4.heap.size → aA ≠ some ⟨i, 0, none⟩ := fun i hi e => by have := hlo i e; omega
    have hx5 := hA5.box (Bl.box h4.bl hx3) (nlo _ (by omega))
    have ho5 := hA5.box (Bl.box h4.bl (hE.ap.box ho2A (ap_ne (by omega)))) (nlo _ (by omega))
    have z5 := hA5.size
    refine st hx5 fun v6 k6 hx6 => ?_
    have z6 := k6.size
    have hA06 : Ap w (some ⟨rb, 0, none⟩) v6 := (((hA2A.trans hE.ap).thenBl h4.bl).ap hA5 fun g hg => by have := hlo g hg; omega).new k6 (by omega)
    have R6 := ((hE.st.bl h4.bl hB).ap hA5 hB fun g hg => by have := hlo g hg; omega).ap k6.ap hB fun g hg => by simp only [Option.some.injEq, Addr.mk.injEq, and_true] at hg; omega
    have es := clk_succ cu1 4 rTxt k
    rw [hclk] at es
    have es : clk cu1 4 rTxt (k + 1) = (rTxt r').bind fun y => some (xs ++ [y.1], y.2) := es
    refine ih hlt2 ⟨rfl, hA06, by omega, fun i h1 h2 => ?_, k6.box ho5 (by omega), a5, _, c5, hx6, ?_, fun xs' r2 q => ?_⟩
    · exact (k6.block i (by omega)).trans ((hA5.block i (by omega) (nlo i h2)).trans ((h4.bl.block i (by omega)).trans ((hE.ap.block i (by omega) (ap_ne (by omega))).trans (hkeepA i h1 h2))))
    · rw [es]
      have R6 : RfS v6 rb B a0 c0 l0 ((rTxt r').map (·.2)) := R6
      cases hp : rTxt r' <;> (rw [hp] at R6; exact R6)
    · rw [es] at q
      obtain ⟨y, hp, q⟩ := bind_some q
      simp only [Option.some.injEq, Prod.mk.injEq] at q
      obtain ⟨rfl, rfl⟩ := q
      have hv := hE.ok y.1 y.2 hp
      have hrel : (eStr).rel (fun b => w4.heap.size ≤ b ∧ aA ≠ some ⟨b, 0, none⟩ ∧ b < v4.heap.size) v4 [.string d1] y.1 := by
        refine (eStr).sub (S := fun b => v2A.heap.size ≤ b ∧ b < v3.heap.size) (fun b hb => ⟨by omega, fun e => by have := (hO.lt e).2; omega, by omega⟩) ((eStr).kp (h4.bl.kp _) ?_)
        have hv : Value.string d1 = .string y.1 := hv
        rw [hv]; rfl
      exact ⟨by rw [List.length_append]; rfl, (OwC.push e1 e2 e4 hO5 hA5 hf5 hrel).wr k6 (by omega) fun i hi => by omega⟩
  have hfinA : clk cu1 4 rTxt k = (cu1).bind (rList rTxt) := by
    have he := clk_end min_txt (by decide) hok1
    by_cases hkm : k < m1
    · cases hq : clk cu1 4 rTxt k with
      | none => rw [← he, clk_none hq hk]
      | some x => rw [hq] at h; simp at h; omega
    · obtain rfl : k = m1 := by omega
      exact he
  clear ih h
  rw [hfinA] at R2A
  have hslA : ∀ xs r, (cu1).bind (rList rTxt) = some (xs, r) → jA = xs.length ∧ Sl eStr (fun i => w4.heap.size ≤ i ∧ i < v2A.heap.size) v2A aA xs := fun xs r q => by
    rw [← hfinA] at q
    obtain ⟨h1, hO⟩ := hIA _ _ q
    have := clk_len q
    exact ⟨h1, hO.sl2 (by omega)⟩
  obtain ⟨cu2, hcu2⟩ : ∃ cu, cu = (cu1.bind (rList rTxt)).map (·.2) := ⟨_, rfl⟩
  rw [← hcu2] at R2A
  refine cl (r_length 12 (by decide) (by decide) _ v2A R2A hB) ?_
  rintro v w6 ⟨A5a, R6, ⟨m2, rfl, hm02, hml2⟩, hok2⟩
  have z6 := A5a.size
  have A06 := hA2A.trans A5a
  have o6 := A5a.box ho2A (ap_ne (by omega))
  have x6 := A5a.box hx2A (ap_ne (by omega))
  refine lpk m2 7 [] [(0, pr rb), (2, pr b2), (3, pr b3), (4, I m2)] (fun k vals w' => vals = [] ∧ Ap w (some ⟨rb, 0, none⟩) w' ∧ w6.heap.size ≤ w'.heap.size ∧ (∀ i, b3 < i → i < w6.heap.size → w'.heap[i]? = w6.heap[i]?) ∧ Box w' b2 30 [.string ⟨#[]⟩, .slice none 0 0, .slice none 0 0, .slice none 0 0, .slice none 0 0] ∧ ∃ aB jB cB, Box w' b3 30 [.string nm, .slice aA jA cA, .slice aB jB cB, .slice none 0 0, .slice none 0 0] ∧ RfS w' rb B a0 c0 l0 ((clk cu2 12 rCls k).map (·.2)) ∧
    ∀ xs r', clk cu2 12 rCls k = some (xs, r') → jB = xs.length ∧ OwC eCls (fun b => w6.heap.size ≤ b) w' w6.heap.size 58 aB cB xs) ⟨rfl, A06, Nat.le_refl _, fun _ _ _ => rfl, o6, none, 0, 0, x6, by rw [clk_zero]; exact R6, fun xs r' q => by rw [clk_zero_nil q]; exact ⟨rfl, OwC.nil ..⟩⟩ ?_
  rintro k vals v2B hk ⟨rfl, hA2B, z2B, hkeepB, ho2B, aB, jB, cB, hx2B, R2B, hIB⟩ ih
  obtain ⟨at2, hb2, _⟩ := R2B.box
  refine ldg (fun _ => hb2.cell rfl) ?_
  refine br (fun h => ?_) (fun h => ?_)
  · have hlt2 : k < m2 := by simp at h; omega
    obtain ⟨xs, r', hclk⟩ : ∃ xs r', clk cu2 12 rCls k = some (xs, r') := by
      cases hq : clk cu2 12 rCls k with
      | none => rw [hq] at h; simp at h
      | some x => exact ⟨x.1, x.2, rfl⟩
    have hxl := clk_len hclk
    obtain ⟨rfl, hO⟩ := hIB _ _ hclk
    rw [hclk] at R2B
    have R2B : RfS v2B rb B a0 c0 l0 (some r') := R2B
    refine al fun b6 v20 h6 => ?_
    have y6 := h6.blk
    have z20 := h6.size
    refine cl (r_number (some r') v20 (R2B.bl h6.bl hB) hB) ?_
    rintro v v21 ⟨A21, R21, ⟨d1, rfl⟩, k21⟩
    have z21 := A21.size
    refine st (A21.box h6.box (ap_ne (by omega))) fun v22 k22 x22 => ?_
    have z22 := k22.size
    have R22 := R21.ap k22.ap hB fun g hg => by simp only [Option.some.injEq, Addr.mk.injEq, and_true] at hg; omega
    refine cl (r_number _ v22 R22 hB) ?_
    rintro v v23 ⟨A23, R23, ⟨d2, rfl⟩, k23⟩
    have z23 := A23.size
    refine st (A23.box x22 (ap_ne (by omega))) fun v24 k24 x24 => ?_
    have z24 := k24.size
    have R24 := R23.ap k24.ap hB fun g hg => by simp only [Option.some.injEq, Addr.mk.injEq, and_true] at hg; omega
    refine cl (r_fields _ v24 R24 hB) ?_
    rintro v v25 ⟨A25, R25, ⟨d3, d4, d5, rfl⟩, k25⟩
    have z25 := A25.size
    refine st (A25.box x24 (ap_ne (by omega))) fun v3 k3 x3 => ?_
    have zk3 := k3.size
    have hE : RfR rCls (vAgg eCls) gCls rb B a0 c0 l0 (some r') v2B (asV [I d1, I d2, .slice d3 d4 d5]) v3 := by
      have R3 := R25.ap k3.ap hB fun g hg => by simp only [Option.some.injEq, Addr.mk.injEq, and_true] at hg; omega
      refine ⟨((((((Ap.bl h6.bl _).trans A21).new k22 (by omega)).trans A23).new k24 (by omega)).trans A25).new k3 (by omega), ?_, ⟨_, _, _, _, _, rfl⟩, fun x r q => ?_⟩
      · have R3 : RfS v3 rb B a0 c0 l0 ((((((rNum r').map (·.2)).bind rNum).map (·.2)).bind (rList rFld)).map (·.2)) := R3
        show RfS v3 rb B a0 c0 l0 ((rCls r').map (·.2))
        unfold rCls
        cases h1 : rNum r' with
        | none => rw [h1] at R3; exact R3
        | some x =>
          rw [h1] at R3
          have R3 : RfS v3 rb B a0 c0 l0 ((((rNum x.2).map (·.2)).bind (rList rFld)).map (·.2)) := R3
          simp only [Option.bind_some]
          cases h2 : rNum x.2 with
          | none => rw [h2] at R3; exact R3
          | some y =>
            rw [h2] at R3
            have R3 : RfS v3 rb B a0 c0 l0 ((rList rFld y.2).map (·.2)) := R3
            simp only [Option.bind_some]
            cases h3 : rList rFld y.2 <;> (rw [h3] at R3; exact R3)
      · have q : rCls r' = some (x, r) := q
        obtain ⟨u1, q1, q⟩ := bind_some q
        obtain ⟨u2, q2, q⟩ := bind_some q
        obtain ⟨u3, q3, q⟩ := bind_some q
        simp only [Option.some.injEq, Prod.mk.injEq] at q
        obtain ⟨rfl, _⟩ := q
        have c1 : ((rNum r').map (·.2)).bind rNum = some u2 := by rw [q1]; exact q2
        have e2 := k21 u1.1 u1.2 q1
        have e3 := k23 u2.1 u2.2 c1
        obtain ⟨p4, d4', e4, hS⟩ := k25 u3.1 u3.2 (by show (((((rNum r').map (·.2)).bind rNum).map (·.2)).bind (rList rFld)) = _; rw [c1]; exact q3)
        simp only [vNum, Value.int.injEq, true_and] at e2 e3
        obtain ⟨rfl, rfl, rfl⟩ := Value.slice.inj e4
        exact ⟨[I d1, I d2, .slice d3 u3.1.length d5], rfl, d3, d5, by rw [e2, e3], (hS.kp (k3.kp fun i hi => by omega)).sub fun i hi => ⟨by omega, by omega⟩⟩
    have hO3 := hO.rb hE.ap (by omega) fun i hi => by omega
    have z3 := hE.ap.size
    have hx3 := hE.ap.box hx2B (ap_ne (by omega))
    refine ld (hx3.cell rfl) ?_
    refine lda x3.at ?_
    refine bs (cs := [I d1, I d2, .slice d3 d4 d5]) fun b4 v4 h4 => ?_
    have z4 := h4.size
    have y4 := h4.blk
    obtain ⟨ys, e1, e2, hOx, e4⟩ := (hO3.bl h4.bl).row
    refine ap hOx (.inr ⟨b4, 0, rfl, h4.box.at⟩) (by omega) (fun a5 c5 v5 hO5 hA5 hf5 => ?_)
    have hlo : ∀ g, aB = some ⟨g, 0, none⟩ → w6.heap.size ≤ g := fun g hg => (hO.lt hg).1
    have nlo : ∀ i, i < w6.heap.size → aB ≠ some ⟨i, 0, none⟩ := fun i hi e => by have := hlo i e; omega
    have hx5 := hA5.box (Bl.box h4.bl hx3) (nlo _ (by omega))
    have ho5 := hA5.box (Bl.box h4.bl (hE.ap.box ho2B (ap_ne (by omega)))) (nlo _ (by omega))
    have z5 := hA5.size
    refine st hx5 fun v6 k6 hx6 => ?_
    have z6 := k6.size
    have hA06 : Ap w (some ⟨rb, 0, none⟩) v6 := (((hA2B.trans hE.ap).thenBl h4.bl).ap hA5 fun g hg => by have := hlo g hg; omega).new k6 (by omega)
    have R6 := ((hE.st.bl h4.bl hB).ap hA5 hB fun g hg => by have := hlo g hg; omega).ap k6.ap hB fun g hg => by simp only [Option.some.injEq, Addr.mk.injEq, and_true] at hg; omega
    have es := clk_succ cu2 12 rCls k
    rw [hclk] at es
    have es : clk cu2 12 rCls (k + 1) = (rCls r').bind fun y => some (xs ++ [y.1], y.2) := es
    refine ih hlt2 ⟨rfl, hA06, by omega, fun i h1 h2 => ?_, k6.box ho5 (by omega), a5, _, c5, hx6, ?_, fun xs' r2 q => ?_⟩
    · exact (k6.block i (by omega)).trans ((hA5.block i (by omega) (nlo i h2)).trans ((h4.bl.block i (by omega)).trans ((hE.ap.block i (by omega) (ap_ne (by omega))).trans (hkeepB i h1 h2))))
    · rw [es]
      have R6 : RfS v6 rb B a0 c0 l0 ((rCls r').map (·.2)) := R6
      cases hp : rCls r' <;> (rw [hp] at R6; exact R6)
    · rw [es] at q
      obtain ⟨y, hp, q⟩ := bind_some q
      simp only [Option.some.injEq, Prod.mk.injEq] at q
      obtain ⟨rfl, rfl⟩ := q
      have hv := hE.ok y.1 y.2 hp
      have hrel : (eCls).rel (fun b => w6.heap.size ≤ b ∧ aB ≠ some ⟨b, 0, none⟩ ∧ b < v4.heap.size) v4 [I d1, I d2, .slice d3 d4 d5] y.1 := by
        refine (eCls).sub (S := fun b => v2B.heap.size ≤ b ∧ b < v3.heap.size) (fun b hb => ⟨by omega, fun e => by have := (hO.lt e).2; omega, by omega⟩) ((eCls).kp (h4.bl.kp _) ?_)
        obtain ⟨cs, e, hr2⟩ := hv
        rw [agg_inj e]; exact hr2
      exact ⟨by rw [List.length_append]; rfl, (OwC.push e1 e2 e4 hO5 hA5 hf5 hrel).wr k6 (by omega) fun i hi => by omega⟩
  have hfinB : clk cu2 12 rCls k = (cu2).bind (rList rCls) := by
    have he := clk_end min_cls (by decide) hok2
    by_cases hkm : k < m2
    · cases hq : clk cu2 12 rCls k with
      | none => rw [← he, clk_none hq hk]
      | some x => rw [hq] at h; simp at h; omega
    · obtain rfl : k = m2 := by omega
      exact he
  clear ih h
  rw [hfinB] at R2B
  have hslB : ∀ xs r, (cu2).bind (rList rCls) = some (xs, r) → jB = xs.length ∧ Sl eCls (fun i => w6.heap.size ≤ i ∧ i < v2B.heap.size) v2B aB xs := fun xs r q => by
    rw [← hfinB] at q
    obtain ⟨h1, hO⟩ := hIB _ _ q
    have := clk_len q
    exact ⟨h1, hO.sl2 (by omega)⟩
  obtain ⟨cu3, hcu3⟩ : ∃ cu, cu = (cu2.bind (rList rCls)).map (·.2) := ⟨_, rfl⟩
  rw [← hcu3] at R2B
  refine cl (r_fields _ v2B R2B hB) ?_
  rintro v w7 ⟨A7, R7, ⟨pF, nF, cF, rfl⟩, k7⟩
  have z7 := A7.size
  refine st (A7.box hx2B (ap_ne (by omega))) fun w8 k8 x8 => ?_
  have z8 := k8.size
  have R8 := R7.ap k8.ap hB fun g hg => by simp only [Option.some.injEq, Addr.mk.injEq, and_true] at hg; omega
  obtain ⟨cu4, hcu4⟩ : ∃ cu, cu = (cu3.bind (rList rFld)).map (·.2) := ⟨_, rfl⟩
  rw [← hcu4] at R8
  have o8 := k8.box (A7.box ho2B (ap_ne (by omega))) (by omega)
  refine cl (r_length 28 (by decide) (by decide) _ w8 R8 hB) ?_
  rintro v w9 ⟨A8a, R9, ⟨m3, rfl, hm03, hml3⟩, hok3⟩
  have z9 := A8a.size
  have A09 := ((hA2B.trans A7).new k8 (by omega)).trans A8a
  have o9 := A8a.box o8 (ap_ne (by omega))
  have x9 := A8a.box x8 (ap_ne (by omega))
  refine lpk m3 9 [] [(0, pr rb), (2, pr b2), (3, pr b3), (4, I m3)] (fun k vals w' => vals = [] ∧ Ap w (some ⟨rb, 0, none⟩) w' ∧ w9.heap.size ≤ w'.heap.size ∧ (∀ i, b3 < i → i < w9.heap.size → w'.heap[i]? = w9.heap[i]?) ∧ Box w' b2 30 [.string ⟨#[]⟩, .slice none 0 0, .slice none 0 0, .slice none 0 0, .slice none 0 0] ∧ ∃ aC jC cC, Box w' b3 30 [.string nm, .slice aA jA cA, .slice aB jB cB, .slice pF nF cF, .slice aC jC cC] ∧ RfS w' rb B a0 c0 l0 ((clk cu4 28 rMth k).map (·.2)) ∧
    ∀ xs r', clk cu4 28 rMth k = some (xs, r') → jC = xs.length ∧ OwC eMth (fun b => w9.heap.size ≤ b) w' w9.heap.size 64 aC cC xs) ⟨rfl, A09, Nat.le_refl _, fun _ _ _ => rfl, o9, none, 0, 0, x9, by rw [clk_zero]; exact R9, fun xs r' q => by rw [clk_zero_nil q]; exact ⟨rfl, OwC.nil ..⟩⟩ ?_
  rintro k vals v2C hk ⟨rfl, hA2C, z2C, hkeepC, ho2C, aC, jC, cC, hx2C, R2C, hIC⟩ ih
  obtain ⟨at2, hb2, _⟩ := R2C.box
  refine ldg (fun _ => hb2.cell rfl) ?_
  refine br (fun h => ?_) (fun h => ?_)
  · have hlt2 : k < m3 := by simp at h; omega
    obtain ⟨xs, r', hclk⟩ : ∃ xs r', clk cu4 28 rMth k = some (xs, r') := by
      cases hq : clk cu4 28 rMth k with
      | none => rw [hq] at h; simp at h
      | some x => exact ⟨x.1, x.2, rfl⟩
    have hxl := clk_len hclk
    obtain ⟨rfl, hO⟩ := hIC _ _ hclk
    rw [hclk] at R2C
    have R2C : RfS v2C rb B a0 c0 l0 (some r') := R2C
    refine cl (r_method (some r') v2C R2C hB) ?_
    rintro v v20 ⟨A20, R20, ⟨d1, d2, d3, d4, d5, d6, d7, d8, d9, d10, d11, d12, d13, rfl⟩, k20⟩
    refine al fun b6 v21 h6 => ?_
    have y6 := h6.blk
    have z20 := A20.size
    have z21 := h6.size
    refine sta h6.box fun v3 k3 x3 => ?_
    have zk3 := k3.size
    have hE : RfR rMth (vAgg eMth) gMth rb B a0 c0 l0 (some r') v2C (asV [I d1, I d2, .slice d3 d4 d5, .slice d6 d7 d8, I d9, I d10, .slice d11 d12 d13]) v3 := by
      refine ⟨A20.thenBl (h6.wr k3), R20.bl (h6.wr k3) hB, ⟨_, _, _, _, _, _, _, _, _, _, _, _, _, rfl⟩, fun x r q => ?_⟩
      obtain ⟨cs, e1, e2⟩ := k20 x r q
      exact ⟨cs, e1, eMth.sub (fun i hi => ⟨hi.1, by omega⟩) (eMth.kp ((h6.wr k3).kp _) e2)⟩
    have hO3 := hO.rb hE.ap (by omega) fun i hi => by omega
    have z3 := hE.ap.size
    have hx3 := hE.ap.box hx2C (ap_ne (by omega))
    refine ld (hx3.cell rfl) ?_
    refine lda x3.at ?_
    refine bs (cs := [I d1, I d2, .slice d3 d4 d5, .slice d6 d7 d8, I d9, I d10, .slice d11 d12 d13]) fun b4 v4 h4 => ?_
    have z4 := h4.size
    have y4 := h4.blk
    obtain ⟨ys, e1, e2, hOx, e4⟩ := (hO3.bl h4.bl).row
    refine ap hOx (.inr ⟨b4, 0, rfl, h4.box.at⟩) (by omega) (fun a5 c5 v5 hO5 hA5 hf5 => ?_)
    have hlo : ∀ g, aC = some ⟨g, 0, none⟩ → w9.heap.size ≤ g := fun g hg => (hO.lt hg).1
    have nlo : ∀ i, i < w9.heap.size → aC ≠ some ⟨i, 0, none⟩ := fun i hi e => by have := hlo i e; omega
    have hx5 := hA5.box (Bl.box h4.bl hx3) (nlo _ (by omega))
    have ho5 := hA5.box (Bl.box h4.bl (hE.ap.box ho2C (ap_ne (by omega)))) (nlo _ (by omega))
    have z5 := hA5.size
    refine st hx5 fun v6 k6 hx6 => ?_
    have z6 := k6.size
    have hA06 : Ap w (some ⟨rb, 0, none⟩) v6 := (((hA2C.trans hE.ap).thenBl h4.bl).ap hA5 fun g hg => by have := hlo g hg; omega).new k6 (by omega)
    have R6 := ((hE.st.bl h4.bl hB).ap hA5 hB fun g hg => by have := hlo g hg; omega).ap k6.ap hB fun g hg => by simp only [Option.some.injEq, Addr.mk.injEq, and_true] at hg; omega
    have es := clk_succ cu4 28 rMth k
    rw [hclk] at es
    have es : clk cu4 28 rMth (k + 1) = (rMth r').bind fun y => some (xs ++ [y.1], y.2) := es
    refine ih hlt2 ⟨rfl, hA06, by omega, fun i h1 h2 => ?_, k6.box ho5 (by omega), a5, _, c5, hx6, ?_, fun xs' r2 q => ?_⟩
    · exact (k6.block i (by omega)).trans ((hA5.block i (by omega) (nlo i h2)).trans ((h4.bl.block i (by omega)).trans ((hE.ap.block i (by omega) (ap_ne (by omega))).trans (hkeepC i h1 h2))))
    · rw [es]
      have R6 : RfS v6 rb B a0 c0 l0 ((rMth r').map (·.2)) := R6
      cases hp : rMth r' <;> (rw [hp] at R6; exact R6)
    · rw [es] at q
      obtain ⟨y, hp, q⟩ := bind_some q
      simp only [Option.some.injEq, Prod.mk.injEq] at q
      obtain ⟨rfl, rfl⟩ := q
      have hv := hE.ok y.1 y.2 hp
      have hrel : (eMth).rel (fun b => w9.heap.size ≤ b ∧ aC ≠ some ⟨b, 0, none⟩ ∧ b < v4.heap.size) v4 [I d1, I d2, .slice d3 d4 d5, .slice d6 d7 d8, I d9, I d10, .slice d11 d12 d13] y.1 := by
        refine (eMth).sub (S := fun b => v2C.heap.size ≤ b ∧ b < v3.heap.size) (fun b hb => ⟨by omega, fun e => by have := (hO.lt e).2; omega, by omega⟩) ((eMth).kp (h4.bl.kp _) ?_)
        obtain ⟨cs, e, hr2⟩ := hv
        rw [agg_inj e]; exact hr2
      exact ⟨by rw [List.length_append]; rfl, (OwC.push e1 e2 e4 hO5 hA5 hf5 hrel).wr k6 (by omega) fun i hi => by omega⟩
  have hfinC : clk cu4 28 rMth k = (cu4).bind (rList rMth) := by
    have he := clk_end min_mth (by decide) hok3
    by_cases hkm : k < m3
    · cases hq : clk cu4 28 rMth k with
      | none => rw [← he, clk_none hq hk]
      | some x => rw [hq] at h; simp at h; omega
    · obtain rfl : k = m3 := by omega
      exact he
  clear ih h
  rw [hfinC] at R2C
  have hslC : ∀ xs r, (cu4).bind (rList rMth) = some (xs, r) → jC = xs.length ∧ Sl eMth (fun i => w9.heap.size ≤ i ∧ i < v2C.heap.size) v2C aC xs := fun xs r q => by
    rw [← hfinC] at q
    obtain ⟨h1, hO⟩ := hIC _ _ q
    have := clk_len q
    exact ⟨h1, hO.sl2 (by omega)⟩
  refine lda hx2C.at ?_
  refine sta ho2C fun w10 k10 x10 => ?_
  have z10 := k10.size
  have A010 := hA2C.new k10 (by omega)
  have R10 := R2C.ap k10.ap hB fun g hg => by simp only [Option.some.injEq, Addr.mk.injEq, and_true] at hg; omega
  have e : cur.bind rUnt = (cur.bind rTxt).bind fun n => (rList rTxt n.2).bind fun p => (rList rCls p.2).bind fun c => (rList rFld c.2).bind fun s => (rList rMth s.2).bind fun m => some (⟨n.1, p.1, c.1, s.1, m.1⟩, m.2) := by cases cur <;> rfl
  refine rtc x10.at ⟨A010, ?_, ⟨_, _, _, _, _, _, _, _, _, _, _, _, _, rfl⟩, fun t r q => ?_⟩
  · rw [hcu4, hcu3, hcu2, hcu1] at R10
    rw [e]
    cases h0 : cur.bind rTxt with
    | none => rw [h0] at R10; exact R10
    | some x0 =>
      rw [h0] at R10
      have R10 : RfS w10 rb B a0 c0 l0 ((((((((((((rList rTxt) x0.2).map (·.2))).bind (rList rCls)).map (·.2))).bind (rList rFld)).map (·.2))).bind (rList rMth)).map (·.2)) := R10
      simp only [Option.bind_some]
      cases h1 : (rList rTxt) x0.2 with
      | none => rw [h1] at R10; exact R10
      | some x1 =>
        rw [h1] at R10
        have R10 : RfS w10 rb B a0 c0 l0 (((((((((rList rCls) x1.2).map (·.2))).bind (rList rFld)).map (·.2))).bind (rList rMth)).map (·.2)) := R10
        simp only [Option.bind_some]
        cases h2 : (rList rCls) x1.2 with
        | none => rw [h2] at R10; exact R10
        | some x2 =>
          rw [h2] at R10
          have R10 : RfS w10 rb B a0 c0 l0 ((((((rList rFld) x2.2).map (·.2))).bind (rList rMth)).map (·.2)) := R10
          simp only [Option.bind_some]
          cases h3 : (rList rFld) x2.2 with
          | none => rw [h3] at R10; exact R10
          | some x3 =>
            rw [h3] at R10
            have R10 : RfS w10 rb B a0 c0 l0 (((rList rMth) x3.2).map (·.2)) := R10
            simp only [Option.bind_some]
            cases h4 : (rList rMth) x3.2 <;> (rw [h4] at R10; exact R10)
  · rw [e] at q
    obtain ⟨u1, q1, q⟩ := bind_some q
    obtain ⟨u2, q2, q⟩ := bind_some q
    obtain ⟨u3, q3, q⟩ := bind_some q
    obtain ⟨u4, q4, q⟩ := bind_some q
    obtain ⟨u5, q5, q⟩ := bind_some q
    simp only [Option.some.injEq, Prod.mk.injEq] at q
    obtain ⟨rfl, _⟩ := q
    have d1 : cu1 = some u1.2 := by rw [hcu1, q1]; rfl
    have c2 : cu1.bind (rList rTxt) = some u2 := by rw [d1]; exact q2
    have d2 : cu2 = some u2.2 := by rw [hcu2, c2]; rfl
    have c3 : cu2.bind (rList rCls) = some u3 := by rw [d2]; exact q3
    have d3 : cu3 = some u3.2 := by rw [hcu3, c3]; rfl
    have c4 : cu3.bind (rList rFld) = some u4 := by rw [d3]; exact q4
    have d4 : cu4 = some u4.2 := by rw [hcu4, c4]; rfl
    have c5 : cu4.bind (rList rMth) = some u5 := by rw [d4]; exact q5
    have e1 : Value.string nm = .string u1.1 := k2a u1.1 u1.2 q1
    obtain ⟨e2, S2⟩ := hslA u2.1 u2.2 c2
    obtain ⟨e3, S3⟩ := hslB u3.1 u3.2 c3
    obtain ⟨a4, d4', e4, S4⟩ := k7 u4.1 u4.2 c4
    obtain ⟨e5, S5⟩ := hslC u5.1 u5.2 c5
    obtain rfl := Value.string.inj e1
    obtain ⟨rfl, rfl, rfl⟩ := Value.slice.inj e4
    subst e2 e3 e5
    have K9 : ∀ i, b3 < i → i < w9.heap.size → w10.heap[i]? = w9.heap[i]? := fun i h1 h2 => (k10.block i (by omega)).trans (hkeepC i h1 h2)
    have K7 : ∀ i, b3 < i → i < w7.heap.size → w10.heap[i]? = w7.heap[i]? := fun i h1 h2 => (K9 i h1 (by omega)).trans ((A8a.block i (by omega) (ap_ne (by omega))).trans (k8.block i (by omega)))
    have KB : ∀ i, b3 < i → i < v2B.heap.size → w10.heap[i]? = v2B.heap[i]? := fun i h1 h2 => (K7 i h1 (by omega)).trans (A7.block i h2 (ap_ne (by omega)))
    have K6 : ∀ i, b3 < i → i < w6.heap.size → w10.heap[i]? = w6.heap[i]? := fun i h1 h2 => (KB i h1 (by omega)).trans (hkeepB i h1 h2)
    have KA : ∀ i, b3 < i → i < v2A.heap.size → w10.heap[i]? = v2A.heap[i]? := fun i h1 h2 => (K6 i h1 (by omega)).trans (A5a.block i h2 (ap_ne (by omega)))
    have KP : ∀ {wx : World} {S : Nat → Prop}, (∀ i, b3 < i → i < wx.heap.size → w10.heap[i]? = wx.heap[i]?) → (∀ i, S i → b3 < i ∧ i < wx.heap.size) → Kp S wx w10 := fun K hS b o v hs hv => by
      have h1 := hS b hs
      rw [World.cell?_of_block (K b h1.1 h1.2)]; exact hv
    have S2 : Sl eStr (fun i => w.heap.size ≤ i ∧ i < w10.heap.size) w10 aA u2.1 := (S2.kp (KP KA fun i hi => by omega)).sub fun i hi => by omega
    have S3 : Sl eCls (fun i => w.heap.size ≤ i ∧ i < w10.heap.size) w10 aB u3.1 := (S3.kp (KP KB fun i hi => by omega)).sub fun i hi => by omega
    have S4 : Sl eFld (fun i => w.heap.size ≤ i ∧ i < w10.heap.size) w10 pF u4.1 := (S4.kp (KP K7 fun i hi => by omega)).sub fun i hi => by omega
    have S5 : Sl eMth (fun i => w.heap.size ≤ i ∧ i < w10.heap.size) w10 aC u5.1 := (S5.kp (k10.kp fun i hi => by omega)).sub fun i hi => by omega
    exact ⟨⟨aA, cA, aB, cB, pF, cF, aC, cC⟩, rfl, S2, S3, S4, S5⟩
end
end Go.Proofs.YtopjmiklpnejmaaGreatDoor

/- Walks: a unit read, in the document. -/
namespace Go.Proofs.YtopjmiklpnejmaaGreatDoor
open Eng Go.RowKit
theorem r_SumS (bs : List UInt8) (a : Option Addr) (cap : Nat) (S : Nat → Prop) (w : World) (hS : Sl eB S w a bs) : Ret Tryz.prog 155 #[I 0, .slice a bs.length cap] w fun v w' => v = I (sumB bs) ∧ w' = w := by
  have hbig := hS.big
  refine entr (vs := [I 0, .slice a bs.length cap]) [0, 1, 4, 5, 6, 10, 16] tabok Tryz.func155 (by kernel_rfl) ?_
  refine iop (rem_run (b := 65521) (by decide)) ?_
  refine brF ?_ (hp := by decide)
  refine lpk bs.length 6 [5] [(1, .slice a bs.length cap)] (fun k vals w' => vals = [I (sumB (bs.take k))] ∧ w = w') ⟨rfl, rfl⟩ ?_
  rintro k vals _ hk ⟨rfl, rfl⟩ ih
  by_cases hlt : k < bs.length
  · refine brT ?_
    obtain ⟨x, b, o, cs, hx, rfl, _, hAt, rfl⟩ := at_some hS hlt
    refine ix ?_
    refine ld (hAt 0 _ rfl) ?_
    refine cv (ks := .u8) (kb := .i64) (by kernel_rfl) (by kernel_rfl) ?_
    refine iop (rem_run (b := 65521) (by decide)) ?_
    refine ih hlt ⟨lst1 (vi ?_), rfl⟩
    rw [sumB_snoc hx]
    exact sum_step (sumB_range _) x
  · refine brF ?_
    obtain rfl : k = bs.length := by omega
    rw [List.take_length]
    exact rt1 ⟨rfl, rfl⟩
abbrev ua00 : UA := ⟨none, 0, none, 0, none, 0, none, 0⟩
/-- what Read answers -/
def ReadR (l : List UInt8) (w : World) (v : Value) (w' : World) : Prop := match parse l with
  | some u => ∃ a', v = .tuple #[.agg (ucells u a').toArray, .bool true] ∧ UnR (fun b => w.heap.size ≤ b) w' u a' ∧ Bl w w'
  | none => v = .tuple #[.agg (ucells u00 ua00).toArray, .bool false] ∧ Bl w w'
theorem read_none {l : List UInt8} {w w' : World} (h : parse l = none) (hB : Bl w w') : ReadR l w (.tuple #[.agg (ucells u00 ua00).toArray, .bool false]) w' := by
  unfold ReadR; rw [h]; exact ⟨rfl, hB⟩
theorem parse_ok {l : List UInt8} (h : l.take 4 = magic) : parse l = (rUnt (l.drop 4)).bind fun x => (rNum x.2).bind fun y => if y.2 = [] ∧ y.1 = sumB (l.take (l.length - x.2.length)) then some x.1 else none := by
  unfold parse; rw [if_pos h]
theorem magic_of (l : List UInt8) : ofL l = ⟨#[73, 83, 79, 49]⟩ ↔ l = magic := by
  constructor
  · intro h
    have := congrArg (fun s : ByteArray => s.data.toList) h
    simp only [toL_ofL] at this
    exact this
  · intro h; rw [h]; rfl
set_option maxHeartbeats 1000000 in
theorem r_Read (l : List UInt8) (a : Option Addr) (c : Nat) (w : World) (hS : Sl eB T w a l) (hl : l.length ≤ 1048576) (hcap : l.length ≤ c) : Ret Tryz.prog 102 #[.slice a l.length c] w (ReadR l w) := by
  have hS0 : Sl eB (· < w.heap.size) w a l := Sl.lt (by decide) hS
  refine entr (vs := [.slice a l.length c]) [0, 2, 3, 4, 5, 6, 7, 16, 49] tabok Tryz.func102 (by kernel_rfl) ?_
  refine al fun b2 w1 h1 => ?_
  have z1 := h1.size
  have y1 := h1.blk
  by_cases h4 : l.length < 4
  · have hno : parse l = none := by
      unfold parse
      rw [if_neg fun e => by
        have := congrArg List.length e
        rw [List.length_take] at this
        have e : magic.length = 4 := rfl
        omega]
    have h4' : (l.length : Int) < 4 := by omega
    refine spn (.slice none 0 0) ?_ (hb := by rw [decide_eq_true h4']; rfl)
    refine spn (.string ⟨#[]⟩) ?_ (hb := by rw [decide_eq_true h4']; rfl)
    refine brt ?_ (hp := by rw [decide_eq_true h4']; rfl)
    refine bd ?_
    refine sta h1.box fun w2 k2 x2 => ?_
    exact rtc2 x2.at (read_none hno (h1.bl.trans_wr k2 (by omega)))
  have h4' : ¬ (l.length : Int) < 4 := by omega
  refine spt (.slice none 0 0) ?_ (hb := by rw [decide_eq_false h4'])
  refine Eng.sl 0 4 ?_
  refine spt (.string ⟨#[]⟩) ?_
  have hS4 : Sl eB T w1 (if c = 0 then a else a.map (·.add (0 * 1))) (l.take 4) := slB_if (n := 0) (slB_take (hS.bl h1.bl) 4) (by rw [List.length_take]; omega)
  refine cbl (n := 4 - 0) hS4 (by rw [List.length_take]; omega) (fun _ => trivial) ?_
  refine br (fun h => ?_) (fun h => ?_)
  · rw [Bool.false_or] at h
    have hno : parse l = none := by
      unfold parse
      rw [if_neg fun e => of_decide_eq_true h ((magic_of _).2 e)]
    refine bd ?_
    refine sta h1.box fun w2 k2 x2 => ?_
    exact rtc2 x2.at (read_none hno (h1.bl.trans_wr k2 (by omega)))
  rw [Bool.false_or] at h
  have hm : l.take 4 = magic := (magic_of _).1 (Classical.not_not.1 (of_decide_eq_false h))
  have hpar := parse_ok hm
  refine bd ?_
  refine bx (cs := [.slice a l.length c, I 4, .bool false]) fun rb w2 h2 => ?_
  have z2 := h2.size
  have y2 := h2.blk
  have B02 := h1.bl.trans h2.bl
  have R2 : RfS w2 rb rb a c l (some (l.drop 4)) := ⟨⟨4, h2.box, fun r hr => ⟨4, rfl, by omega, (Option.some.inj hr).symm⟩⟩, (hS0.bl B02).sub fun i hi => by omega, hcap⟩
  have o2 := Bl.box h2.bl h1.box
  refine cl (r_unit _ w2 R2 (Nat.le_refl _)) ?_
  rintro v w3 ⟨A3, R3, ⟨nm, p1, n1, c1, p2, n2, c2, p3, n3, c3, p4, n4, c4, rfl⟩, k3⟩
  have z3 := A3.size
  have o3 := A3.box o2 (ap_ne (by omega))
  refine al fun b5 w4 h4 => ?_
  have z4 := h4.size
  have y4 := h4.blk
  refine sta h4.box fun w5 k5 x5 => ?_
  have z5 := k5.size
  have B35 := h4.wr k5
  have R5 := R3.bl B35 (Nat.le_refl _)
  have o5 := Bl.box B35 o3
  obtain ⟨at5, hb5, hr5⟩ := R5.box
  refine ld (hb5.cell rfl) ?_
  refine cl (r_number _ w5 R5 (Nat.le_refl _)) ?_
  rintro v w6 ⟨A6, R6, ⟨sum, rfl⟩, k6⟩
  have z6 := A6.size
  have A26 : Ap w2 (some ⟨rb, 0, none⟩) w6 := (A3.thenBl B35).trans A6
  have B06 : Bl w w6 := Below.trans B02 (A26.below (by omega) fun g hg => by simp only [Option.some.injEq, Addr.mk.injEq, and_true] at hg; omega)
  have o6 := A6.box o5 (ap_ne (by omega))
  have x6 := A6.box x5 (ap_ne (by omega))
  obtain ⟨at6, hb6, hr6⟩ := R6.box
  refine ld (hb6.cell rfl) ?_
  cases e1 : rUnt (l.drop 4) with
  | none =>
    have hno : parse l = none := by rw [hpar, e1]; rfl
    have e0 : ((Option.map (·.2) (Option.bind (some (l.drop 4)) rUnt)).bind rNum).map (·.2) = none := by show ((Option.map (·.2) (rUnt (l.drop 4))).bind rNum).map (·.2) = none; rw [e1]; rfl
    rw [e0] at hb6
    refine ldg (fun _ => hb6.cell rfl) ?_
    rw [e0]
    refine spn (.slice none 0 0) ?_
    refine spn (I 0) ?_
    refine brt ?_
    refine bd ?_
    refine sta o6 fun w7 k7 x7 => ?_
    exact rtc2 x7.at (read_none hno (B06.trans_wr k7 (by omega)))
  | some x =>
    have eA : Option.map (·.2) (Option.bind (some (l.drop 4)) rUnt) = some x.2 := by show Option.map (·.2) (rUnt (l.drop 4)) = _; rw [e1]; rfl
    rw [eA] at hr5 hb6 hr6 k6 ⊢
    obtain ⟨k, rfl, hk, hxk⟩ := hr5 x.2 rfl
    have hxl : x.2.length = l.length - k := by rw [hxk, List.length_drop]
    have ekk : l.length - x.2.length = k := by omega
    cases e2 : rNum x.2 with
    | none =>
      have hno : parse l = none := by rw [hpar, e1]; show (rNum x.2).bind _ = none; rw [e2]; rfl
      have e0 : ((some x.2).bind rNum).map (·.2) = none := by show (rNum x.2).map (·.2) = none; rw [e2]; rfl
      rw [e0] at hb6 ⊢
      refine ldg (fun _ => hb6.cell rfl) ?_
      refine spn (.slice none 0 0) ?_
      refine spn (I 0) ?_
      refine brt ?_
      refine bd ?_
      refine sta o6 fun w7 k7 x7 => ?_
      exact rtc2 x7.at (read_none hno (B06.trans_wr k7 (by omega)))
    | some y =>
      have e0 : ((some x.2).bind rNum).map (·.2) = some y.2 := by show (rNum x.2).map (·.2) = _; rw [e2]; rfl
      rw [e0] at hb6 hr6 ⊢
      obtain ⟨kk, rfl, hkk, hyk⟩ := hr6 y.2 rfl
      have hsum : sum = y.1 := by
        have := k6 y.1 y.2 e2
        simp only [vNum, Value.int.injEq, true_and] at this
        exact this
      subst hsum
      have hp : parse l = if y.2 = [] ∧ y.1 = sumB (l.take k) then some x.1 else none := by
        rw [hpar, e1]
        show (rNum x.2).bind _ = _
        rw [e2, ← ekk]; rfl
      have hyl : y.2.length = l.length - kk := by rw [hyk, List.length_drop]
      refine ldg (fun _ => hb6.cell rfl) ?_
      by_cases hy : kk = l.length
      · have hy0 : ¬ ¬ (kk : Int) = (l.length : Int) := fun q => q (by omega)
        have hynil : y.2 = [] := List.eq_nil_of_length_eq_zero (by omega)
        refine spt (.slice none 0 0) ?_ (hb := by rw [decide_eq_false hy0]; rfl)
        refine Eng.sl 0 k ?_
        refine spt (I 0) ?_
        have hlen : (l.take k).length = k := by rw [List.length_take]; omega
        have hSk : Sl eB T w6 (if c = 0 then a else a.map (·.add (0 * 1))) (l.take k) := slB_if (n := 0) (slB_take (hS.bl B06) _) (by rw [hlen]; omega)
        have hcs := r_SumS (l.take k) (if c = 0 then a else a.map (·.add (0 * 1))) (c - 0) T w6 hSk
        rw [hlen] at hcs
        refine cl hcs ?_
        rintro _ w6 ⟨rfl, rfl⟩
        refine br (fun h => ?_) (fun h => ?_)
        · rw [Bool.false_or] at h
          have hno : parse l = none := by rw [hp, if_neg fun q => of_decide_eq_true h q.2]
          refine bd ?_
          refine sta o6 fun w7 k7 x7 => ?_
          exact rtc2 x7.at (read_none hno (B06.trans_wr k7 (by omega)))
        · rw [Bool.false_or] at h
          have hsm : y.1 = sumB (l.take k) := Classical.not_not.1 (of_decide_eq_false h)
          have hpu : parse l = some x.1 := by rw [hp, if_pos ⟨hynil, hsm⟩]
          have hz := parse_size hpu
          obtain ⟨ua, eu, S1, S2, S3, S4⟩ := k3 x.1 x.2 e1
          have eu := agg_inj eu
          refine lda x6.at ?_
          refine sta o6 fun w7 k7 x7 => ?_
          have z7 := k7.size
          refine rtc2 x7.at ?_
          have K : Kp (fun i => w2.heap.size ≤ i ∧ i < w3.heap.size) w3 w7 := (B35.kp _).trans (((A6.kp.sub fun i hi => ap_ne (by omega))).trans (k7.kp fun i hi => by omega))
          unfold ReadR
          rw [hpu]
          refine ⟨ua, by rw [← eu], ?_, B06.trans_wr k7 (by omega)⟩
          exact ⟨by have := hz.1; omega, fun s hs => by have := hz.2 s hs; omega, (S1.kp K).sub fun i hi => by omega, (S2.kp K).sub fun i hi => by omega, (S3.kp K).sub fun i hi => by omega, (S4.kp K).sub fun i hi => by omega⟩
      · have hy0 : ¬ (kk : Int) = (l.length : Int) := by omega
        have hno : parse l = none := by
          rw [hp, if_neg fun q => by
            have := congrArg List.length q.1
            rw [List.length_nil] at this
            omega]
        refine spn (.slice none 0 0) ?_ (hb := by rw [decide_eq_true hy0]; rfl)
        refine spn (I 0) ?_ (hb := by rw [decide_eq_true hy0]; rfl)
        refine brt ?_ (hp := by rw [decide_eq_true hy0]; rfl)
        refine bd ?_
        refine sta o6 fun w7 k7 x7 => ?_
        exact rtc2 x7.at (read_none hno (B06.trans_wr k7 (by omega)))
set_option maxHeartbeats 1000000 in
theorem r_Decode (l : List UInt8) (a : Option Addr) (c : Nat) (w : World) (hS : Sl eB T w a l) (hl : l.length ≤ 1048576) (hcap : l.length ≤ c) : Ret Tryz.prog 38 #[.slice a l.length c] w (DecR l w) := by
  refine entr (vs := [.slice a l.length c]) [0, 2, 3, 4, 5, 6, 13, 18] tabok Tryz.func38 (by kernel_rfl) ?_
  refine al fun b2 w1 h1 => ?_
  have z1 := h1.size
  have y1 := h1.blk
  refine cl (r_Read l a c w1 (hS.bl h1.bl) hl hcap) ?_
  intro v w2 hv
  unfold ReadR at hv
  cases hpu : parse l with
  | none =>
    rw [hpu] at hv
    obtain ⟨rfl, B12⟩ := hv
    have z2 := B12.size
    refine al fun b4 w3 h3 => ?_
    have y3 := h3.blk
    refine sta h3.box fun w4 k4 x4 => ?_
    have B04 := (h1.bl.trans B12).trans (h3.wr k4)
    refine brt ?_
    refine bd ?_
    refine sta (Bl.box (B12.trans (h3.wr k4)) h1.box) fun w5 k5 x5 => ?_
    exact rtc2 x5.at (dec_none hpu (B04.trans_wr k5 (by omega)))
  | some u =>
    rw [hpu] at hv
    obtain ⟨a', rfl, hU, B12⟩ := hv
    have z2 := B12.size
    refine al fun b4 w3 h3 => ?_
    have y3 := h3.blk
    have z3 := h3.size
    refine sta (cs' := ucells u a') h3.box fun w4 k4 x4 => ?_
    have z4 := k4.size
    have B24 := h3.wr k4
    have B04 := (h1.bl.trans B12).trans B24
    have x2 := Bl.box (B12.trans B24) h1.box
    refine brf ?_
    refine lda x4.at ?_
    refine cl (r_Check u a' w4 ((hU.bl B24).all)) ?_
    rintro _ w5 ⟨rfl, B45⟩
    have B05 := B04.trans B45
    have z5 := B45.size
    refine br (t := decide (¬ checkE u = 0)) (fun h => ?_) (fun h => ?_)
    · have h0 := of_decide_eq_true h
      refine bd ?_
      refine sta (Bl.box B45 x2) fun w6 k6 x6 => ?_
      exact rtc2 x6.at (dec_err (by unfold decE; rw [hpu]) (by unfold decU; rw [hpu]; exact if_neg h0) (B05.trans_wr k6 (by omega)))
    have h0 : checkE u = 0 := Classical.not_not.1 (of_decide_eq_false h)
    refine lda (Bl.box B45 x4).at ?_
    refine sta (Bl.box B45 x2) fun w6 k6 x6 => ?_
    have eE : decE l = 0 := by unfold decE; rw [hpu]; exact h0
    have eU : decU l = u := by unfold decU; rw [hpu]; exact if_pos h0
    refine rtc2 x6.at ⟨a', ?_, ?_, B05.trans_wr k6 (by omega)⟩
    · rw [eE, eU]; rfl
    · rw [eU]
      exact ((((hU.bl B24).bl B45).kp (k6.kp fun i hi => by omega))).all
end Go.Proofs.YtopjmiklpnejmaaGreatDoor
