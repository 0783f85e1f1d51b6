import Derived.Test.YtopjmiklpnejmaaGreatDoorM4
import Derived.Laws.BitsAllLaws
import Derived.Test.YtopjmiklpnejmaaGreatDoorM2
/- Walks: the program's reader of bytes: bytes taken, a number, a text. -/
namespace Go.Proofs.YtopjmiklpnejmaaGreatDoor
open Eng Go.RowKit
theorem slB_take {S : Nat → Prop} {w : World} {a : Option Addr} {l : List UInt8} (h : Sl eB S w a l) (n : Nat) : Sl eB S w a (l.take n) := by
  refine ⟨by have := h.big; rw [List.length_take]; omega, fun i x hx => ?_⟩
  rw [List.getElem?_take] at hx
  split at hx
  · exact h.el i x hx
  · cases hx
theorem slB_drop {S : Nat → Prop} {w : World} {a : Option Addr} {l : List UInt8} (h : Sl eB S w a l) (n : Nat) : Sl eB S w (a.map (·.add n)) (l.drop n) := by
  refine ⟨by have := h.big; rw [List.length_drop]; omega, fun i x hx => ?_⟩
  rw [List.getElem?_drop] at hx
  obtain ⟨b, o, cs, rfl, hb, hA, hr⟩ := h.el (n + i) x hx
  refine ⟨b, o + n, cs, by simp [add_none], hb, ?_, hr⟩
  have e : o + (n + i) * eB.sz = o + n + i * eB.sz := by show o + (n + i) * 1 = o + n + i * 1; omega
  rw [e] at hA; exact hA
theorem slB_if {S : Nat → Prop} {w : World} {a : Option Addr} {l : List UInt8} {c n : Nat} (h : Sl eB S w a l) (hc : l.length ≤ c) : Sl eB S w (if c = n then a else a.map (·.add (n * 1))) (l.drop n) := by
  split
  · rename_i e
    have : l.drop n = [] := List.drop_eq_nil_of_le (by omega)
    rw [this]; exact Sl.nil ..
  · rw [Nat.mul_one]; exact slB_drop h n
/-- the cells of bytes that lie in memory -/
theorem slB_at {S : Nat → Prop} {w : World} {a : Option Addr} {l : List UInt8} (h : Sl eB S w a l) (hne : l ≠ []) : ∃ b o, a = some ⟨b, o, none⟩ ∧ S b ∧ At w b o (bC l) := by
  obtain ⟨x, l', rfl⟩ := List.exists_cons_of_ne_nil hne
  obtain ⟨b, o, cs, rfl, hb, _, _⟩ := h.el 0 x rfl
  refine ⟨b, o, rfl, hb, fun j v hj => ?_⟩
  have hlt : j < (x :: l').length := by rw [← bC_length]; exact (List.getElem?_eq_some_iff.1 hj).1
  obtain ⟨y, hy⟩ := some_of_lt hlt
  obtain ⟨b2, o2, cs2, e, hb2, hA, rfl⟩ := h.el j y hy
  simp only [Option.some.injEq, Addr.mk.injEq, and_true] at e
  obtain ⟨rfl, rfl⟩ := e
  have hv : v = .int .u8 (y.toNat : Int) := by
    have := flat_get (sz := 1) (enc := encB) (fun _ => rfl) hy 0 (by decide)
    rw [Nat.mul_one, Nat.add_zero] at this
    have e2 : (bC (x :: l'))[j]? = (encB y)[0]? := this
    rw [e2] at hj
    exact (Option.some.inj hj).symm
  subst hv
  have := hA 0 _ rfl
  rw [Nat.add_zero, show j * eB.sz = j from Nat.mul_one j] at this
  exact this
section
variable {C : Cx} {s : St} {w : World}
/-- no bytes as a string -/
theorem cbn {md : Option Md} {ops : Array Oper} {T U : TypeId} {x : Operand} {d : Nat} {ty : TypeId} {pos : String} {af : Array Edge} {g : Option (Nat × Bool)} {rest : List Oper} {k : List Item} {l : Env} {c : CEnv} {cap n : Nat}
    (h : Wk C (.reg md ops rest k ((d, .string ⟨#[]⟩) :: l) c) w)
    (hs : adv C.tab C.n C.ks 400 s = .opn md ops ⟨some d, .convert T U x, ty, pos, af, g⟩ rest k l c [] := by rfl) (hx : evc l c [] x = some (.slice none n cap) := by rfl) (hT : C.P.underlying T = some (.slice 5) := by kernel_rfl) (hU : C.P.underlying U = some .string := by kernel_rfl) (he : C.P.underlying 5 = some (.int .u8) := by kernel_rfl) (hf : fresh d l c [] = true := by rfl) : Wk C s w := by
  refine rd (p := []) (fun _ _ hA hp w' hm => ?_) h hs rfl hf (okR_no rfl)
  simp only [execOp, evc_ok hA.k hA.kc.c hp hx]
  refine (run_bind_ok (P := C.P) (x := .string ⟨#[]⟩) (w' := w') ?_).trans rfl
  rw [run_convert_bytes_string w' T U 5 _ _ _ hT he hU]
  rfl
/-- bytes as a string, some or none -/
theorem cbl {md : Option Md} {ops : Array Oper} {T U : TypeId} {x : Operand} {d : Nat} {ty : TypeId} {pos : String} {af : Array Edge} {g : Option (Nat × Bool)} {rest : List Oper} {k : List Item} {l : Env} {c : CEnv} {a : Option Addr} {cap n : Nat} {bs : List UInt8} {S : Nat → Prop} (hS : Sl eB S w a bs) (hn : n = bs.length) (hmd : ∀ b, mdB md b)
    (h : Wk C (.reg md ops rest k ((d, .string (ofL bs)) :: l) c) w)
    (hs : adv C.tab C.n C.ks 400 s = .opn md ops ⟨some d, .convert T U x, ty, pos, af, g⟩ rest k l c [] := by rfl) (hx : evc l c [] x = some (.slice a n cap) := by rfl) (hT : C.P.underlying T = some (.slice 5) := by kernel_rfl) (hU : C.P.underlying U = some .string := by kernel_rfl) (he : C.P.underlying 5 = some (.int .u8) := by kernel_rfl) (hf : fresh d l c [] = true := by rfl) : Wk C s w := by
  by_cases hne : bs = []
  · subst hne
    subst hn
    cases a with
    | none => exact cbn h hs hx hT hU he hf
    | some ad =>
      refine rd (p := []) (fun _ _ hA hp w' hm => ?_) h hs rfl hf (okR_no rfl)
      simp only [execOp, evc_ok hA.k hA.kc.c hp hx]
      refine (run_bind_ok (P := C.P) (x := .string ⟨#[]⟩) (w' := w') ?_).trans rfl
      rw [run_convert_bytes_string w' T U 5 _ _ _ hT he hU]
      rfl
  · obtain ⟨b, o, rfl, _, hat⟩ := slB_at hS hne
    exact cbs hat hn (hmd b) h hs hx hT hU he hf
end
/-- the reader's state: the bytes that are left, or: they are not of the form -/
def RdS (w : World) (br B : Nat) : Option (List UInt8) → Prop
  | some l => ∃ a c, Box w br 103 [.slice a l.length c, .bool false] ∧ Sl eB (· < B) w a l ∧ l.length ≤ c
  | none => ∃ a n c, Box w br 103 [.slice a n c, .bool true]
theorem RdS.lt {w : World} {br B : Nat} {o : Option (List UInt8)} (h : RdS w br B o) : br < w.heap.size := by
  cases o with
  | none => obtain ⟨_, _, _, h⟩ := h; exact h.lt
  | some l => obtain ⟨_, _, h, _⟩ := h; exact h.lt
theorem RdS.ap {w w' : World} {br B : Nat} {o : Option (List UInt8)} (h : RdS w br B o) {a : Option Addr} (k : Ap w a w') (hB : B ≤ br) (ha : ∀ g, a = some ⟨g, 0, none⟩ → br < g) : RdS w' br B o := by
  cases o with
  | none => obtain ⟨x, n, c, h⟩ := h; exact ⟨x, n, c, k.box h fun e => by have := ha _ e; omega⟩
  | some l =>
    obtain ⟨x, c, h, hS, hc⟩ := h
    exact ⟨x, c, k.box h fun e => by have := ha _ e; omega, hS.kp (k.kp.sub fun i hi e => by have := ha _ e; omega), hc⟩
theorem RdS.bl {w w' : World} {br B : Nat} {o : Option (List UInt8)} (h : RdS w br B o) (k : Bl w w') (hB : B ≤ br) : RdS w' br B o := h.ap (Ap.of_bl k none) hB fun _ h => absurd h nn
def takeS (n : Int) (l : List UInt8) : Option (List UInt8 × List UInt8) := if 0 ≤ n ∧ n ≤ l.length then some (l.take n.toNat, l.drop n.toNat) else none
abbrev pr (br : Nat) : Value := .pointer (some ⟨br, 0, none⟩)
theorem u_take (br B : Nat) (n : Int) (cur : Option (List UInt8)) (w : World) (hR : RdS w br B cur) (hB : B ≤ br) : Ret Tryz.prog 91 #[pr br, I n] w fun v w' => Ap w (some ⟨br, 0, none⟩) w' ∧ RdS w' br B ((cur.bind (takeS n)).map (·.2)) ∧
    match cur.bind (takeS n) with
    | some (x, _) => ∃ a c, v = .slice a x.length c ∧ Sl eB (· < B) w' a x
    | none => v = .slice none 0 0 := by
  refine entr (vs := [pr br, I n]) [0, 1, 4, 5, 22] tabok Tryz.func91 (by kernel_rfl) ?_
  cases cur with
  | none =>
    obtain ⟨a, m, c, hb⟩ := hR
    refine ld (hb.cell rfl) ?_
    refine ldg (fun _ => hb.cell rfl) ?_
    refine brt ?_
    refine st hb fun w1 k1 hb1 => ?_
    exact rt1 ⟨k1.ap, ⟨_, _, _, hb1⟩, rfl⟩
  | some l =>
    obtain ⟨a, c, hb, hS, hc⟩ := hR
    refine ld (hb.cell rfl) ?_
    refine ldg (fun _ => hb.cell rfl) ?_
    simp only [Option.bind_some]
    refine Eng.br (fun h => ?_) (fun h => ?_)
    · have hno : ¬ (0 ≤ n ∧ n ≤ l.length) := by simp at h; omega
      have e : takeS n l = none := by unfold takeS; rw [if_neg hno]
      rw [e]
      refine st hb fun w1 k1 hb1 => ?_
      exact rt1 ⟨k1.ap, ⟨_, _, _, hb1⟩, rfl⟩
    · have hyes : 0 ≤ n ∧ n ≤ l.length := by simp at h; omega
      obtain ⟨m, rfl⟩ : ∃ m : Nat, n = (m : Int) := ⟨n.toNat, by omega⟩
      have e : takeS (m : Int) l = some (l.take m, l.drop m) := by unfold takeS; rw [if_pos hyes]; rfl
      rw [e]
      have hm : m ≤ l.length := by omega
      refine ld (hb.cell rfl) ?_
      refine Eng.sl 0 m ?_
      refine ld (hb.cell rfl) ?_
      refine Eng.sl m l.length ?_
      refine st hb fun w1 k1 hb1 => ?_
      have hS1 : Sl eB (· < B) w1 a l := hS.kp (k1.kp fun i hi => by omega)
      refine rt1 ⟨k1.ap, ⟨_, c - m, by rw [List.length_drop]; exact hb1, slB_if hS1 hc, by rw [List.length_drop]; omega⟩, ⟨if c = 0 then a else a.map (·.add (0 * 1)), c - 0, ?_, ?_⟩⟩
      · rw [List.length_take, Nat.min_eq_left hm]; rfl
      · have := slB_if (n := 0) (slB_take hS1 m) (c := c) (by rw [List.length_take]; omega)
        exact this
def accN (l : List UInt8) : Nat := l.foldl (fun n c => n * 256 + c.toNat) 0
theorem accN_snoc (l : List UInt8) (c : UInt8) : accN (l ++ [c]) = accN l * 256 + c.toNat := by unfold accN; rw [List.foldl_append]; rfl
theorem accN_lt : ∀ (k : Nat) (l : List UInt8), l.length = k → accN l < 256 ^ k := by
  intro k
  induction k with
  | zero => intro l h; rw [List.eq_nil_of_length_eq_zero h]; decide
  | succ k ih =>
    intro l h
    have hne : l ≠ [] := fun e => by rw [e] at h; cases h
    obtain ⟨l', c, rfl⟩ : ∃ l' c, l = l' ++ [c] := ⟨l.dropLast, l.getLast hne, (List.dropLast_concat_getLast hne).symm⟩
    rw [List.length_append, List.length_singleton] at h
    have h1 := ih l' (by omega)
    have h2 := c.toNat_lt
    rw [accN_snoc, Nat.pow_succ]; omega
theorem or_run {T : TypeId} {a b : Nat} (ha : a * 256 < 4294967296) (hb : b < 256) : ∀ P w, (binOp .or T (.int .u32 ((a * 256 : Nat) : Int)) (.int .u32 (b : Int))).run P w = .ok (.int .u32 ((a * 256 + b : Nat) : Int)) w := fun P w => by
  have e : binOp .or T (.int .u32 ((a * 256 : Nat) : Int)) (.int .u32 (b : Int)) = pure (.int .u32 (bits .or .u32 ((a * 256 : Nat) : Int) (b : Int))) := by simp [binOp]; rfl
  rw [e, u32_or_nat _ _ ha (by omega), nat_join 8 _ _ (by omega) (by omega)]
  rfl
theorem frm_acc (a b c d : UInt8) : frm a b c d = IntKind.i64.wrap (IntKind.i32.wrap (accN [a, b, c, d] : Int)) := by
  have h1 := a.toNat_lt
  have h2 := b.toNat_lt
  have h3 := c.toNat_lt
  have h4 := d.toNat_lt
  have e : accN [a, b, c, d] = ((a.toNat * 256 + b.toNat) * 256 + c.toNat) * 256 + d.toNat := by simp [accN]
  rw [e]
  unfold frm
  simp only [IntKind.wrap, IntKind.bits, IntKind.signed]
  simp
  split <;> omega
theorem w_FromBytes (bs : List UInt8) (a : Option Addr) (c : Nat) (S : Nat → Prop) (w : World) (hS : Sl eB S w a bs) : Ret Tryz.prog 152 #[.slice a bs.length c] w fun v w' => ∃ m e, v = .tuple #[I m, I e] ∧ (∀ x y z t, bs = [x, y, z, t] → m = frm x y z t) ∧ w' = w := by
  refine entr (vs := [.slice a bs.length c]) [0, 2, 3, 4, 6, 9, 10, 11, 12, 13] tabok Tryz.func152 (by kernel_rfl) ?_
  refine br (t := decide (¬ (bs.length : Int) = 4)) (fun h => ?_) (fun h => ?_)
  · have h4 := of_decide_eq_true h
    exact rt2 ⟨_, _, rfl, fun x y z t e => absurd (by rw [e]; rfl) h4, rfl⟩
  have h4 : bs.length = 4 := by have := of_decide_eq_false h; omega
  refine lpk bs.length 12 [4] [(10, .slice a bs.length c), (11, I bs.length)] (fun k vals w' => vals = [.int .u32 (accN (bs.take k) : Int)] ∧ w' = w) ⟨rfl, rfl⟩ ?_
  rintro k vals _ hk ⟨rfl, rfl⟩ ih
  by_cases hlt : k < bs.length
  · refine brT ?_
    obtain ⟨x, b, o, cs, hx, e2, _, hAt, rfl⟩ := at_some hS hlt
    have hx1 := x.toNat_lt
    have ha : accN (bs.take k) < 256 ^ k := accN_lt k _ (by rw [List.length_take]; omega)
    have ha2 : accN (bs.take k) * 256 < 4294967296 := by
      have h5 : k = 0 ∨ k = 1 ∨ k = 2 ∨ k = 3 := by omega
      rcases h5 with rfl | rfl | rfl | rfl <;> simp only [Nat.pow_zero, Nat.pow_one, Nat.reducePow] at ha <;> omega
    rw [e2]
    refine ix ?_
    refine ld (hAt 0 _ rfl) ?_
    refine iop (shl_run (k := .u32) (n := 8) (by decide)) ?_
    refine cv (ks := .u8) (kb := .u32) (by kernel_rfl) (by kernel_rfl) ?_
    have w1 : IntKind.u32.wrap ((accN (bs.take k) : Int) * 2 ^ 8) = ((accN (bs.take k) * 256 : Nat) : Int) := by
      rw [IntKind.wrap_u32']; omega
    have w2 : IntKind.u32.wrap (x.toNat : Int) = ((x.toNat : Nat) : Int) := by rw [IntKind.wrap_u32']; omega
    rw [w1, w2]
    refine iop (or_run ha2 hx1) ?_
    refine ih hlt ⟨?_, rfl⟩ (hsub := by simp only [e2]; repeat (first | exact True.intro | (refine ⟨rfl, ?_⟩)))
    rw [take_succ_some hx, accN_snoc]
  refine brF ?_
  obtain rfl : k = bs.length := by omega
  rw [List.take_length]
  refine cv (ks := .u32) (kb := .i32) (by kernel_rfl) (by kernel_rfl) ?_
  refine cv (ks := .i32) (kb := .i64) (by kernel_rfl) (by kernel_rfl) ?_
  refine rt2 ⟨_, _, rfl, fun x y z t e => ?_, rfl⟩
  rw [frm_acc, e]
theorem rNum_take (l : List UInt8) : rNum l = (takeS 4 l).bind fun x => match x.1 with
    | [a, b, c, d] => some (frm a b c d, x.2)
    | _ => none := by
  unfold takeS
  rcases l with _ | ⟨a, _ | ⟨b, _ | ⟨c, _ | ⟨d, r⟩⟩⟩⟩ <;> simp [rNum]
  split
  · rfl
  · omega
/-- what a reader of something gives: a value of some shape; what is read, where the bytes are of the form -/
structure RdR {α : Type} (p : Prs α) (V : (Nat → Prop) → World → Value → α → Prop) (G : Value → Prop) (br B : Nat) (cur : Option (List UInt8)) (w : World) (v : Value) (w' : World) : Prop where
  ap : Ap w (some ⟨br, 0, none⟩) w'
  st : RdS w' br B ((cur.bind p).map (·.2))
  sh : G v
  ok : ∀ x r, cur.bind p = some (x, r) → V (fun b => w.heap.size ≤ b ∧ b < w'.heap.size) w' v x
abbrev vNum : (Nat → Prop) → World → Value → Int → Prop := fun _ _ v x => v = I x
abbrev gNum : Value → Prop := fun v => ∃ n, v = I n
theorem u_number (br B : Nat) (cur : Option (List UInt8)) (w : World) (hR : RdS w br B cur) (hB : B ≤ br) : Ret Tryz.prog 100 #[pr br] w (RdR rNum vNum gNum br B cur w) := by
  refine entr (vs := [pr br]) [0, 2, 3] tabok Tryz.func100 (by kernel_rfl) ?_
  refine cl (u_take br B 4 cur w hR hB) ?_
  rintro v w1 ⟨hA, hst, hv⟩
  have key : cur.bind rNum = (cur.bind (takeS 4)).bind fun x => match x.1 with
    | [a, b, c, d] => some (frm a b c d, x.2)
    | _ => none := by
    cases cur with
    | none => rfl
    | some l => exact rNum_take l
  cases ht : cur.bind (takeS 4) with
  | none =>
    rw [ht] at hv hst key
    subst hv
    refine cl (w_FromBytes [] none 0 T w1 (Sl.nil ..)) ?_
    rintro _ _ ⟨m, e, rfl, _, rfl⟩
    exact rt1 ⟨hA, by rw [key]; exact hst, ⟨_, rfl⟩, fun x r q => by rw [key] at q; cases q⟩
  | some xr =>
    obtain ⟨x, r⟩ := xr
    rw [ht] at hv hst key
    obtain ⟨a, c, rfl, hS⟩ := hv
    have hx : x.length = 4 := by
      cases cur with
      | none => cases ht
      | some l =>
        have ht : takeS 4 l = some (x, r) := ht
        unfold takeS at ht
        split at ht
        · simp only [Option.some.injEq, Prod.mk.injEq] at ht
          rw [← ht.1, List.length_take]; omega
        · cases ht
    refine cl (w_FromBytes x a c _ w1 hS) ?_
    rintro _ _ ⟨m, e, rfl, hm, rfl⟩
    obtain ⟨x0, x1, x2, x3, rfl⟩ : ∃ x0 x1 x2 x3, x = [x0, x1, x2, x3] := by
      rcases x with _ | ⟨x0, _ | ⟨x1, _ | ⟨x2, _ | ⟨x3, _ | ⟨x4, x5⟩⟩⟩⟩⟩ <;> simp at hx
      exact ⟨_, _, _, _, rfl⟩
    have key : cur.bind rNum = some (frm x0 x1 x2 x3, r) := key
    refine rt1 ⟨hA, by rw [key]; exact hst, ⟨_, rfl⟩, fun y r' q => ?_⟩
    rw [key] at q
    simp only [Option.some.injEq, Prod.mk.injEq] at q
    rw [hm _ _ _ _ rfl, q.1]
abbrev vTxt : (Nat → Prop) → World → Value → ByteArray → Prop := fun _ _ v x => v = .string x
abbrev gTxt : Value → Prop := fun v => ∃ s, v = .string s
theorem rTxt_take (l : List UInt8) : rTxt l = (rNum l).bind fun x => (takeS x.1 x.2).bind fun y => some (ofL y.1, y.2) := by
  unfold rTxt
  cases rNum l with
  | none => rfl
  | some x =>
    simp only [Option.bind_some, takeS]
    by_cases h : x.1 < 0 ∨ (x.2.length : Int) < x.1
    · rw [if_pos h, if_neg (by omega)]; rfl
    · rw [if_neg h, if_pos (by omega)]; rfl
theorem u_text (br B : Nat) (cur : Option (List UInt8)) (w : World) (hR : RdS w br B cur) (hB : B ≤ br) : Ret Tryz.prog 92 #[pr br] w (RdR rTxt vTxt gTxt br B cur w) := by
  refine entr (vs := [pr br]) [0, 2] tabok Tryz.func92 (by kernel_rfl) ?_
  refine cl (u_number br B cur w hR hB) ?_
  rintro v w1 ⟨hA, hst, ⟨n, rfl⟩, hok⟩
  refine cl (u_take br B n _ w1 hst hB) ?_
  rintro v2 w2 ⟨hA2, hst2, hv2⟩
  have hA12 : Ap w (some ⟨br, 0, none⟩) w2 := hA.trans hA2
  have key : cur.bind rTxt = (((cur.bind rNum).map (·.2)).bind (takeS n)).bind fun y => some (ofL y.1, y.2) := by
    cases cur with
    | none => rfl
    | some l =>
      show rTxt l = (((rNum l).map (·.2)).bind (takeS n)).bind fun y => some (ofL y.1, y.2)
      rw [rTxt_take]
      cases hq : rNum l with
      | none => rfl
      | some x =>
        have := hok x.1 x.2 hq
        simp only [vNum, Value.int.injEq, true_and] at this
        rw [this]; rfl
  cases ht : ((cur.bind rNum).map (·.2)).bind (takeS n) with
  | none =>
    rw [ht] at hv2 hst2 key
    subst hv2
    refine cbn ?_
    exact rt1 ⟨hA12, by rw [key]; exact hst2, ⟨_, rfl⟩, fun x r q => by rw [key] at q; cases q⟩
  | some xr =>
    obtain ⟨x, r⟩ := xr
    rw [ht] at hv2 hst2 key
    obtain ⟨a, c, rfl, hS⟩ := hv2
    refine cbl hS rfl (fun _ => trivial) ?_
    refine rt1 ⟨hA12, by rw [key]; exact hst2, ⟨_, rfl⟩, fun y r' q => ?_⟩
    rw [key] at q
    simp only [Option.bind_some, Option.some.injEq, Prod.mk.injEq] at q
    rw [q.1]
end Go.Proofs.YtopjmiklpnejmaaGreatDoor

/- Walks: the program's readers of lists and of structs. Printed by wip/tools/mkget.py. -/
namespace Go.Proofs.YtopjmiklpnejmaaGreatDoor
open Eng Go.RowKit
/-- what is read takes so many bytes at least -/
def Min {α : Type} (p : Prs α) (m : Nat) : Prop := ∀ l x r, p l = some (x, r) → r.length + m ≤ l.length
theorem min_num : Min rNum 4 := fun l x r h => by
  unfold rNum at h
  split at h
  · simp only [Option.some.injEq, Prod.mk.injEq] at h
    obtain ⟨_, rfl⟩ := h
    simp only [List.length_cons]; omega
  · cases h
theorem rRep_min {α : Type} {p : Prs α} {m : Nat} (h : Min p m) : ∀ n l x r, rRep p n l = some (x, r) → r.length + n * m ≤ l.length
  | 0, l, x, r, e => by simp only [rRep, Option.some.injEq, Prod.mk.injEq] at e; rw [e.2]; omega
  | n + 1, l, x, r, e => by
    simp only [rRep] at e
    obtain ⟨⟨y, l2⟩, e1, e⟩ := bind_some e
    obtain ⟨⟨ys, l3⟩, e2, e⟩ := bind_some e
    simp only [Option.some.injEq, Prod.mk.injEq] at e
    obtain ⟨_, rfl⟩ := e
    have h1 := h _ _ _ e1
    have h2 := rRep_min h n _ _ _ e2
    dsimp only at h2
    rw [Nat.succ_mul]; omega
theorem min_txt : Min rTxt 4 := fun l x r h => by
  obtain ⟨⟨n, l2⟩, e1, h⟩ := bind_some h
  have := min_num _ _ _ e1
  dsimp only at h
  split at h
  · cases h
  · simp only [Option.some.injEq, Prod.mk.injEq] at h
    obtain ⟨_, rfl⟩ := h
    rw [List.length_drop]; omega
theorem min_ty : Min rTy 8 := fun l x r h => by
  obtain ⟨⟨a, l2⟩, e1, h⟩ := bind_some h
  obtain ⟨⟨b, l3⟩, e2, h⟩ := bind_some h
  simp only [Option.some.injEq, Prod.mk.injEq] at h
  obtain ⟨_, rfl⟩ := h
  have h1 := min_num _ _ _ e1
  have h2 := min_num _ _ _ e2
  dsimp only at h2; omega
theorem min_fld : Min rFld 12 := fun l x r h => by
  obtain ⟨⟨a, l2⟩, e1, h⟩ := bind_some h
  obtain ⟨⟨b, l3⟩, e2, h⟩ := bind_some h
  simp only [Option.some.injEq, Prod.mk.injEq] at h
  obtain ⟨_, rfl⟩ := h
  have h1 := min_num _ _ _ e1
  have h2 := min_ty _ _ _ e2
  dsimp only at h2; omega
theorem min_ins : Min rIns 12 := fun l x r h => by
  obtain ⟨⟨a, l2⟩, e1, h⟩ := bind_some h
  obtain ⟨⟨b, l3⟩, e2, h⟩ := bind_some h
  obtain ⟨⟨c, l4⟩, e3, h⟩ := bind_some h
  simp only [Option.some.injEq, Prod.mk.injEq] at h
  obtain ⟨_, rfl⟩ := h
  have h1 := min_num _ _ _ e1
  have h2 := min_num _ _ _ e2
  have h3 := min_num _ _ _ e3
  dsimp only at h2 h3; omega
theorem min_list {α : Type} {p : Prs α} (hz : Min p 0) : Min (rList p) 4 := fun l x r h => by
  obtain ⟨⟨a, l2⟩, e1, h⟩ := bind_some h
  dsimp only at h
  split at h
  · cases h
  · have h1 := min_num _ _ _ e1
    have h2 := rRep_min (p := p) (m := 0) hz _ _ _ _ h
    omega
theorem Min.zero {α : Type} {p : Prs α} {m : Nat} (h : Min p m) : Min p 0 := fun l x r e => by have := h l x r e; omega
theorem min_cls : Min rCls 12 := fun l x r h => by
  obtain ⟨⟨a, l2⟩, e1, h⟩ := bind_some h
  obtain ⟨⟨b, l3⟩, e2, h⟩ := bind_some h
  obtain ⟨⟨c, l4⟩, e3, h⟩ := bind_some h
  simp only [Option.some.injEq, Prod.mk.injEq] at h
  obtain ⟨_, rfl⟩ := h
  have h1 := min_num _ _ _ e1
  have h2 := min_num _ _ _ e2
  have h3 := min_list min_fld.zero _ _ _ e3
  dsimp only at h2 h3; omega
theorem min_mth : Min rMth 28 := fun l x r h => by
  obtain ⟨⟨a, l2⟩, e1, h⟩ := bind_some h
  obtain ⟨⟨b, l3⟩, e2, h⟩ := bind_some h
  obtain ⟨⟨c, l4⟩, e3, h⟩ := bind_some h
  obtain ⟨⟨d, l5⟩, e4, h⟩ := bind_some h
  obtain ⟨⟨e, l6⟩, e5, h⟩ := bind_some h
  obtain ⟨⟨f, l7⟩, e6, h⟩ := bind_some h
  simp only [Option.some.injEq, Prod.mk.injEq] at h
  obtain ⟨_, rfl⟩ := h
  have h1 := min_num _ _ _ e1
  have h2 := min_num _ _ _ e2
  have h3 := min_list min_ty.zero _ _ _ e3
  have h4 := min_list min_ty.zero _ _ _ e4
  have h5 := min_ty _ _ _ e5
  have h6 := min_list min_ins.zero _ _ _ e6
  dsimp only at h2 h3 h4 h5 h6; omega
theorem rRep_snoc {α : Type} (p : Prs α) : ∀ k l, rRep p (k + 1) l = (rRep p k l).bind fun x => (p x.2).bind fun y => some (x.1 ++ [y.1], y.2)
  | 0, l => by simp [rRep]
  | k + 1, l => by
    have ih := rRep_snoc p k
    conv => lhs; rw [rRep]
    conv => rhs; rw [rRep]
    cases p l with
    | none => rfl
    | some x =>
      simp only [Option.bind_some]
      rw [ih]
      cases rRep p k x.2 with
      | none => rfl
      | some y =>
        simp only [Option.bind_some]
        cases p y.2 <;> simp
theorem rRep_none {α : Type} {p : Prs α} {k : Nat} {l : List UInt8} (h : rRep p k l = none) : ∀ n, k ≤ n → rRep p n l = none
  | 0, hn => by obtain rfl : k = 0 := by omega
                exact h
  | n + 1, hn => by
    rcases Nat.lt_or_ge n k with q | q
    · obtain rfl : k = n + 1 := by omega
      exact h
    · rw [rRep_snoc, rRep_none h n q]; rfl
theorem rRep_len {α : Type} {p : Prs α} : ∀ {n l x r}, rRep p n l = some (x, r) → x.length = n
  | 0, l, x, r, e => by simp only [rRep, Option.some.injEq, Prod.mk.injEq] at e; rw [← e.1]; rfl
  | n + 1, l, x, r, e => by
    simp only [rRep] at e
    obtain ⟨⟨y, l2⟩, e1, e⟩ := bind_some e
    obtain ⟨⟨ys, l3⟩, e2, e⟩ := bind_some e
    simp only [Option.some.injEq, Prod.mk.injEq] at e
    rw [← e.1, List.length_cons, rRep_len e2]
/-- a row of the call's own while a block outside of it turns -/
theorem OwC.rb {α : Type} {E : El α} {R : Nat → Prop} {w w' : World} {base e cap b : Nat} {a : Option Addr} {l : List α} (h : OwC E R w base e a cap l) (k : Ap w (some ⟨b, 0, none⟩) w') (hb : b < base) (hR : ∀ i, R i → i ≠ b) : OwC E R w' base e a cap l := by
  obtain ⟨xs, h1, h2, h3, h4⟩ := h.row
  have ne : ∀ g, g ≠ b → (some ⟨b, 0, none⟩ : Option Addr) ≠ some ⟨g, 0, none⟩ := fun g hg e => hg (by simp only [Option.some.injEq, Addr.mk.injEq, and_true] at e; exact e.symm)
  exact ⟨xs, h1, h2, h3.same fun g hg => k.block g (h3.lt hg).2 (ne g (by have := (h3.lt hg).1; omega)), fun i cs x hi hl => E.sub (fun b hb => ⟨hb.1, hb.2.1, Nat.lt_of_lt_of_le hb.2.2 k.size⟩) (E.kp (k.kp.sub fun i hi => ne i (hR i hi.1)) (h4 i cs x hi hl))⟩
/-- one new block after another, beside the reader's -/
theorem Eng.Ap.new {w w1 w2 : World} {a : Option Addr} {b : Nat} (h : Ap w a w1) (k : Wr w1 b w2) (hb : w.heap.size ≤ b) : Ap w a w2 :=
  ⟨k.os.trans h.os, k.tape.trans h.tape, k.output.trans h.output, by rw [k.size]; exact h.size, fun i hi hn => (k.block i (by omega)).trans (h.block i hi hn)⟩
theorem Eng.Ap.ap {w w1 w2 : World} {a x : Option Addr} (h : Ap w a w1) (k : Ap w1 x w2) (hb : ∀ g, x = some ⟨g, 0, none⟩ → w.heap.size ≤ g) : Ap w a w2 :=
  ⟨k.os.trans h.os, k.tape.trans h.tape, k.output.trans h.output, Nat.le_trans h.size k.size, fun i hi hn => (k.block i (Nat.lt_of_lt_of_le hi h.size) fun e => by have := hb i e; omega).trans (h.block i hi hn)⟩
theorem Eng.Ap.thenBl {w w1 w2 : World} {a : Option Addr} (h : Ap w a w1) (k : Bl w1 w2) : Ap w a w2 := h.trans (Ap.bl k a)
abbrev vLst {α : Type} (E : El α) : (Nat → Prop) → World → Value → List α → Prop := fun S w v xs => ∃ a c, v = .slice a xs.length c ∧ Sl E S w a xs
abbrev gLst : Value → Prop := fun v => ∃ a n c, v = .slice a n c
abbrev vAgg {α : Type} (E : El α) : (Nat → Prop) → World → Value → α → Prop := fun S w v x => ∃ cs, v = .agg cs.toArray ∧ E.rel S w cs x
theorem agg_inj {a b : List Value} (h : Value.agg a.toArray = .agg b.toArray) : a = b := by
  have := Value.agg.inj h
  exact congrArg Array.toList this
abbrev gI2 : Value → Prop := fun v => ∃ a b, v = asV [I a, I b]
abbrev gI3 : Value → Prop := fun v => ∃ a b c, v = asV [I a, I b, I c]
abbrev gCls : Value → Prop := fun v => ∃ a b p n c, v = asV [I a, I b, .slice p n c]
abbrev gMth : Value → Prop := fun v => ∃ a b p1 n1 c1 p2 n2 c2 x y p3 n3 c3, v = asV [I a, I b, .slice p1 n1 c1, .slice p2 n2 c2, I x, I y, .slice p3 n3 c3]
theorem cur_list {α : Type} {p : Prs α} {cur : Option (List UInt8)} : cur.bind (rList p) = (cur.bind rNum).bind fun x => if x.1 < 0 then none else rRep p x.1.toNat x.2 := by
  cases cur <;> rfl
set_option maxHeartbeats 1000000 in
theorem u_getStr (rb B : Nat) (cur : Option (List UInt8)) (w : World) (hR : RdS w rb B cur) (hB : B ≤ rb) (gf : FuncId) (one : ∀ cur w, RdS w rb B cur → Ret Tryz.prog gf #[pr rb] w (RdR rTxt vTxt gTxt rb B cur w)) :
    Ret Tryz.prog 93 #[pr rb, .func (.func gf) #[pr rb] #[]] w (RdR (rList rTxt) (vLst eStr) gLst rb B cur w) := by
  have hlt := hR.lt
  refine entr (vs := [pr rb, .func (.func gf) #[pr rb] #[]]) [0, 1, 4, 5, 6, 7, 21, 34] tabok Tryz.func93 (by kernel_rfl) ?_
  refine cl (u_number rb B cur w hR hB) ?_
  rintro v w1 ⟨hA, hst, ⟨n, rfl⟩, hok⟩
  have z1 := hA.size
  have ck := cur_list (p := rTxt) (cur := cur)
  cases h1 : cur.bind rNum with
  | none =>
    rw [h1] at hst ck
    have hk : cur.bind (rList rTxt) = none := ck
    obtain ⟨a0, n0, c0, hb⟩ := hst
    refine sp (.slice none 0 0) (fun q => ?_) (fun q => ?_)
    · refine ld (hb.cell rfl) ?_
      refine spt (I 0) ?_
      refine iop (quo_run (b := 4) (by decide)) ?_
      refine br (fun h => ?_) (fun h => ?_)
      · refine st hb fun w2 k2 hb2 => ?_
        refine lp (vals := [.slice none 0 0, I 0]) [6, 7] [(0, pr rb), (1, .func (.func gf) #[pr rb] #[]), (5, I n)] (fun m vals w' => vals = [.slice none 0 0, I 0] ∧ w' = w2) ⟨rfl, rfl, rfl, trivial⟩ (m := 0) ⟨rfl, rfl⟩ ?_
        rintro m vals _ ⟨rfl, rfl⟩ _
        refine ldg (fun _ => hb2.cell rfl) ?_
        refine brf ?_
        exact rt1 ⟨hA.trans k2.ap, by rw [hk]; exact ⟨_, _, _, hb2⟩, ⟨_, _, _, rfl⟩, fun x r q => by rw [hk] at q; cases q⟩
      · skip
        refine lp (vals := [.slice none 0 0, I 0]) [6, 7] [(0, pr rb), (1, .func (.func gf) #[pr rb] #[]), (5, I n)] (fun m vals w' => vals = [.slice none 0 0, I 0] ∧ w' = w1) ⟨rfl, rfl, rfl, trivial⟩ (m := 0) ⟨rfl, rfl⟩ ?_
        rintro m vals _ ⟨rfl, rfl⟩ _
        refine ldg (fun _ => hb.cell rfl) ?_
        refine brf ?_
        exact rt1 ⟨hA, by rw [hk]; exact ⟨_, _, _, hb⟩, ⟨_, _, _, rfl⟩, fun x r q => by rw [hk] at q; cases q⟩
    · have hneg : n < 0 := by simpa using q
      refine spn (I 0) ?_
      refine brt ?_ (hp := by simp [hneg])
      refine st hb fun w2 k2 hb2 => ?_
      refine lp (vals := [.slice none 0 0, I 0]) [6, 7] [(0, pr rb), (1, .func (.func gf) #[pr rb] #[]), (5, I n)] (fun m vals w' => vals = [.slice none 0 0, I 0] ∧ w' = w2) ⟨rfl, rfl, rfl, trivial⟩ (m := 0) ⟨rfl, rfl⟩ ?_
      rintro m vals _ ⟨rfl, rfl⟩ _
      refine ldg (fun _ => hb2.cell rfl) ?_
      refine brf ?_
      exact rt1 ⟨hA.trans k2.ap, by rw [hk]; exact ⟨_, _, _, hb2⟩, ⟨_, _, _, rfl⟩, fun x r q => by rw [hk] at q; cases q⟩
  | some xr =>
    obtain ⟨m0, r⟩ := xr
    have e0 := hok _ _ h1
    simp only [vNum, Value.int.injEq, true_and] at e0
    subst e0
    rw [h1] at hst ck
    obtain ⟨a0, c0, hb, hS, hc⟩ := hst
    have hlen : r.length ≤ 4194304 := hS.big
    have hc : r.length ≤ c0 := hc
    refine sp (.slice none 0 0) (fun q => ?_) (fun q => ?_)
    · have hn0 : 0 ≤ n := by simpa using q
      obtain ⟨m, rfl⟩ : ∃ m : Nat, n = (m : Int) := ⟨n.toNat, by omega⟩
      have ck : cur.bind (rList rTxt) = rRep rTxt m r := by rw [ck]; simp only [Option.bind_some]; rw [if_neg (by omega)]; rfl
      refine ld (hb.cell rfl) ?_
      refine spt (I 0) ?_
      refine iop (quo_run (b := 4) (by decide)) ?_
      have hq : IntKind.i64.wrap ((r.length : Int).tdiv 4) = ((r.length / 4 : Nat) : Int) := by
        have : (r.length : Int).tdiv 4 = ((r.length / 4 : Nat) : Int) := by rw [Int.tdiv_eq_ediv_of_nonneg (by omega)]; omega
        rw [this, wrap_fit (by omega) (by omega)]
      rw [hq]
      refine br (fun h => ?_) (fun h => ?_)
      · have hbig : r.length / 4 < m := by simp at h; omega
        have hk : cur.bind (rList rTxt) = none := by
          rw [ck]
          cases hr : rRep rTxt m r with
          | none => rfl
          | some y =>
            have := rRep_min min_txt _ _ _ _ hr
            omega
        refine st hb fun w2 k2 hb2 => ?_
        refine lp (vals := [.slice none 0 0, I 0]) [6, 7] [(0, pr rb), (1, .func (.func gf) #[pr rb] #[]), (5, I (m : Int))] (fun m vals w' => vals = [.slice none 0 0, I 0] ∧ w' = w2) ⟨rfl, rfl, rfl, trivial⟩ (m := 0) ⟨rfl, rfl⟩ ?_
        rintro m vals _ ⟨rfl, rfl⟩ _
        refine ldg (fun _ => hb2.cell rfl) ?_
        refine brf ?_
        exact rt1 ⟨hA.trans k2.ap, by rw [hk]; exact ⟨_, _, _, hb2⟩, ⟨_, _, _, rfl⟩, fun x r q => by rw [hk] at q; cases q⟩
      · have hsm : m ≤ r.length / 4 := by simp at h; omega
        refine lpk m 7 [6] [(0, pr rb), (1, .func (.func gf) #[pr rb] #[]), (5, I m)] (fun k vals w' => Ap w (some ⟨rb, 0, none⟩) w' ∧ w1.heap.size ≤ w'.heap.size ∧ ((∃ xs r', rRep rTxt k r = some (xs, r') ∧ RdS w' rb B (some r') ∧ ∃ a c, vals = [.slice a xs.length c] ∧ OwC eStr (fun b => w1.heap.size ≤ b) w' w1.heap.size 9 a c xs) ∨
          (rRep rTxt k r = none ∧ RdS w' rb B none ∧ ∃ a j c, vals = [.slice a j c]))) ⟨hA, Nat.le_refl _, .inl ⟨[], r, rfl, ⟨a0, c0, hb, hS, hc⟩, none, 0, rfl, OwC.nil ..⟩⟩ ?_
        rintro k vals w2 hk ⟨hA2, z2, hI⟩ ih
        rcases hI with ⟨xs, r', hr, hst2, a, c, rfl, hO⟩ | ⟨hr, hst2, a, j, c, rfl⟩
        · have hxl := rRep_len hr
          have hst2' := hst2
          obtain ⟨a2, c2, hb2, hS2, hc2⟩ := hst2
          by_cases hlt2 : k < m
          · refine ldg (fun _ => hb2.cell rfl) ?_
            refine brt ?_ (hp := by simp [hlt2])
            refine cl (one (some r') w2 hst2') ?_
            rintro v3 w3 ⟨hA3, hst3, ⟨s, rfl⟩, hok3⟩
            have z3 := hA3.size
            have hO3 := hO.rb hA3 (by omega) fun i hi => by omega
            refine bs (cs := [.string s]) fun b4 w4 h4 => ?_
            have z4 := h4.size
            have y4 := h4.blk
            obtain ⟨ys, e1, e2, hOx, e4⟩ := (hO3.bl h4.bl).row
            refine ap hOx (.inr ⟨b4, 0, rfl, h4.box.at⟩) (by omega) (fun a5 c5 w5 hO5 hA5 hf5 => ?_)
            have hlo : ∀ g, a = some ⟨g, 0, none⟩ → w1.heap.size ≤ g := fun g hg => (hO.lt hg).1
            have hA05 : Ap w (some ⟨rb, 0, none⟩) w5 := ((hA2.trans hA3).thenBl h4.bl).ap hA5 fun g hg => by have := hlo g hg; omega
            have hst5 := (hst3.bl h4.bl hB).ap hA5 hB fun g hg => by have := hlo g hg; omega
            have z5 := hA5.size
            have es := rRep_snoc rTxt k r
            rw [hr] at es
            cases hp : rTxt r' with
            | none =>
              have hst5 : RdS w5 rb B none := by rw [show (some r' : Option (List UInt8)).bind rTxt = none from hp] at hst5; exact hst5
              refine ih hlt2 ⟨hA05, by omega, .inr ⟨by rw [es]; simp only [Option.bind_some]; rw [hp]; rfl, hst5, _, _, _, rfl⟩⟩
            | some yr =>
              obtain ⟨y, r2⟩ := yr
              have hst5 : RdS w5 rb B (some r2) := by rw [show (some r' : Option (List UInt8)).bind rTxt = some (y, r2) from hp] at hst5; exact hst5
              have hv := hok3 y r2 hp
              have hrel : (eStr).rel (fun b => w1.heap.size ≤ b ∧ a ≠ some ⟨b, 0, none⟩ ∧ b < w4.heap.size) w4 [.string s] y := by
                refine (eStr).sub (S := fun b => w2.heap.size ≤ b ∧ b < w3.heap.size) (fun b hb => ⟨by omega, fun e => by have := (hO.lt e).2; omega, by omega⟩) ((eStr).kp (h4.bl.kp _) ?_)
                have hv : Value.string s = .string y := hv
                rw [hv]; rfl
              have hO6 := OwC.push e1 e2 e4 hO5 hA5 hf5 hrel
              refine ih hlt2 ⟨hA05, by omega, .inl ⟨xs ++ [y], r2, ?_, hst5, a5, c5, ?_, hO6⟩⟩
              · rw [es]; simp only [Option.bind_some]; rw [hp]; rfl
              · rw [List.length_append]; rfl
          · refine ldg (fun _ => hb2.cell rfl) ?_
            refine brf ?_ (hp := by simp [hlt2])
            obtain rfl : k = m := by omega
            have hk2 : cur.bind (rList rTxt) = some (xs, r') := ck.trans hr
            refine rt1 ⟨hA2, by rw [hk2]; exact hst2', ⟨_, _, _, rfl⟩, fun x y q => ?_⟩
            rw [hk2] at q
            simp only [Option.some.injEq, Prod.mk.injEq] at q
            obtain ⟨rfl, rfl⟩ := q
            exact ⟨_, _, rfl, (hO.sl2 (by omega)).sub fun i hi => ⟨by omega, hi.2⟩⟩
        · have hk2 : cur.bind (rList rTxt) = none := ck.trans (rRep_none hr m hk)
          obtain ⟨a2, n2, c2, hb2⟩ := hst2
          refine ldg (fun _ => hb2.cell rfl) ?_
          refine brf ?_
          exact rt1 ⟨hA2, by rw [hk2]; exact ⟨_, _, _, hb2⟩, ⟨_, _, _, rfl⟩, fun x y q => by rw [hk2] at q; cases q⟩
    · have hneg : n < 0 := by simpa using q
      have hk : cur.bind (rList rTxt) = none := by rw [ck]; simp only [Option.bind_some]; rw [if_pos hneg]
      refine spn (I 0) ?_
      refine brt ?_ (hp := by simp [hneg])
      refine st hb fun w2 k2 hb2 => ?_
      refine lp (vals := [.slice none 0 0, I 0]) [6, 7] [(0, pr rb), (1, .func (.func gf) #[pr rb] #[]), (5, I n)] (fun m vals w' => vals = [.slice none 0 0, I 0] ∧ w' = w2) ⟨rfl, rfl, rfl, trivial⟩ (m := 0) ⟨rfl, rfl⟩ ?_
      rintro m vals _ ⟨rfl, rfl⟩ _
      refine ldg (fun _ => hb2.cell rfl) ?_
      refine brf ?_
      exact rt1 ⟨hA.trans k2.ap, by rw [hk]; exact ⟨_, _, _, hb2⟩, ⟨_, _, _, rfl⟩, fun x r q => by rw [hk] at q; cases q⟩
theorem u_kind (rb B : Nat) (cur : Option (List UInt8)) (w : World) (hR : RdS w rb B cur) (hB : B ≤ rb) : Ret Tryz.prog 148 #[pr rb] w (RdR rTy (vAgg eTy) gI2 rb B cur w) := by
  have hlt := hR.lt
  refine entr (vs := [pr rb]) [0, 2, 3] tabok Tryz.func148 (by kernel_rfl) ?_
  refine al fun b1 w1 h1 => ?_
  have y1 := h1.blk
  have z1 := h1.size
  have R1 := hR.bl h1.bl hB
  refine cl (u_number rb B cur w1 R1 hB) ?_
  rintro v w2 ⟨A2, R2, ⟨n2, rfl⟩, k2⟩
  refine cl (u_number rb B _ w2 R2 hB) ?_
  rintro v w3 ⟨A3, R3, ⟨n3, rfl⟩, k3⟩
  refine bd ?_
  have x3 := A3.box (A2.box h1.box (ap_ne (by omega))) (ap_ne (by omega))
  refine sta x3 fun w4 k4 x4 => ?_
  have A04 : Ap w (some ⟨rb, 0, none⟩) w4 := (((Ap.bl h1.bl _).trans A2).trans A3).new k4 (by omega)
  have R4 := R3.ap k4.ap hB fun g hg => by simp only [Option.some.injEq, Addr.mk.injEq, and_true] at hg; omega
  have e : cur.bind rTy = (cur.bind rNum).bind fun x => (rNum x.2).bind fun y => some (⟨x.1, y.1⟩, y.2) := by cases cur <;> rfl
  refine rtc x4.at ⟨A04, ?_, ⟨n2, n3, rfl⟩, fun t r q => ?_⟩
  · rw [e]
    cases h : cur.bind rNum with
    | none => rw [h] at R4; exact R4
    | some x =>
      rw [h] at R4
      have R4 : RdS w4 rb B ((rNum x.2).map (·.2)) := R4
      simp only [Option.bind_some]
      cases h2 : rNum x.2 <;> (rw [h2] at R4; exact R4)
  · rw [e] at q
    obtain ⟨x, q1, q⟩ := bind_some q
    obtain ⟨y, q2, q⟩ := bind_some q
    simp only [Option.some.injEq, Prod.mk.injEq] at q
    obtain ⟨rfl, _⟩ := q
    have e2 := k2 x.1 x.2 q1
    have e3 := k3 y.1 y.2 (by rw [q1]; exact q2)
    simp only [vNum, Value.int.injEq, true_and] at e2 e3
    exact ⟨[I n2, I n3], rfl, by rw [e2, e3]; rfl⟩
set_option maxHeartbeats 1000000 in
theorem u_getTy (rb B : Nat) (cur : Option (List UInt8)) (w : World) (hR : RdS w rb B cur) (hB : B ≤ rb) (gf : FuncId) (one : ∀ cur w, RdS w rb B cur → Ret Tryz.prog gf #[pr rb] w (RdR rTy (vAgg eTy) gI2 rb B cur w)) :
    Ret Tryz.prog 149 #[pr rb, .func (.func gf) #[pr rb] #[]] w (RdR (rList rTy) (vLst eTy) gLst rb B cur w) := by
  have hlt := hR.lt
  refine entr (vs := [pr rb, .func (.func gf) #[pr rb] #[]]) [0, 1, 4, 5, 6, 7, 21, 34] tabok Tryz.func149 (by kernel_rfl) ?_
  refine cl (u_number rb B cur w hR hB) ?_
  rintro v w1 ⟨hA, hst, ⟨n, rfl⟩, hok⟩
  have z1 := hA.size
  have ck := cur_list (p := rTy) (cur := cur)
  cases h1 : cur.bind rNum with
  | none =>
    rw [h1] at hst ck
    have hk : cur.bind (rList rTy) = none := ck
    obtain ⟨a0, n0, c0, hb⟩ := hst
    refine sp (.slice none 0 0) (fun q => ?_) (fun q => ?_)
    · refine ld (hb.cell rfl) ?_
      refine spt (I 0) ?_
      refine iop (quo_run (b := 4) (by decide)) ?_
      refine br (fun h => ?_) (fun h => ?_)
      · refine st hb fun w2 k2 hb2 => ?_
        refine lp (vals := [.slice none 0 0, I 0]) [6, 7] [(0, pr rb), (1, .func (.func gf) #[pr rb] #[]), (5, I n)] (fun m vals w' => vals = [.slice none 0 0, I 0] ∧ w' = w2) ⟨rfl, rfl, rfl, trivial⟩ (m := 0) ⟨rfl, rfl⟩ ?_
        rintro m vals _ ⟨rfl, rfl⟩ _
        refine ldg (fun _ => hb2.cell rfl) ?_
        refine brf ?_
        exact rt1 ⟨hA.trans k2.ap, by rw [hk]; exact ⟨_, _, _, hb2⟩, ⟨_, _, _, rfl⟩, fun x r q => by rw [hk] at q; cases q⟩
      · skip
        refine lp (vals := [.slice none 0 0, I 0]) [6, 7] [(0, pr rb), (1, .func (.func gf) #[pr rb] #[]), (5, I n)] (fun m vals w' => vals = [.slice none 0 0, I 0] ∧ w' = w1) ⟨rfl, rfl, rfl, trivial⟩ (m := 0) ⟨rfl, rfl⟩ ?_
        rintro m vals _ ⟨rfl, rfl⟩ _
        refine ldg (fun _ => hb.cell rfl) ?_
        refine brf ?_
        exact rt1 ⟨hA, by rw [hk]; exact ⟨_, _, _, hb⟩, ⟨_, _, _, rfl⟩, fun x r q => by rw [hk] at q; cases q⟩
    · have hneg : n < 0 := by simpa using q
      refine spn (I 0) ?_
      refine brt ?_ (hp := by simp [hneg])
      refine st hb fun w2 k2 hb2 => ?_
      refine lp (vals := [.slice none 0 0, I 0]) [6, 7] [(0, pr rb), (1, .func (.func gf) #[pr rb] #[]), (5, I n)] (fun m vals w' => vals = [.slice none 0 0, I 0] ∧ w' = w2) ⟨rfl, rfl, rfl, trivial⟩ (m := 0) ⟨rfl, rfl⟩ ?_
      rintro m vals _ ⟨rfl, rfl⟩ _
      refine ldg (fun _ => hb2.cell rfl) ?_
      refine brf ?_
      exact rt1 ⟨hA.trans k2.ap, by rw [hk]; exact ⟨_, _, _, hb2⟩, ⟨_, _, _, rfl⟩, fun x r q => by rw [hk] at q; cases q⟩
  | some xr =>
    obtain ⟨m0, r⟩ := xr
    have e0 := hok _ _ h1
    simp only [vNum, Value.int.injEq, true_and] at e0
    subst e0
    rw [h1] at hst ck
    obtain ⟨a0, c0, hb, hS, hc⟩ := hst
    have hlen : r.length ≤ 4194304 := hS.big
    have hc : r.length ≤ c0 := hc
    refine sp (.slice none 0 0) (fun q => ?_) (fun q => ?_)
    · have hn0 : 0 ≤ n := by simpa using q
      obtain ⟨m, rfl⟩ : ∃ m : Nat, n = (m : Int) := ⟨n.toNat, by omega⟩
      have ck : cur.bind (rList rTy) = rRep rTy m r := by rw [ck]; simp only [Option.bind_some]; rw [if_neg (by omega)]; rfl
      refine ld (hb.cell rfl) ?_
      refine spt (I 0) ?_
      refine iop (quo_run (b := 4) (by decide)) ?_
      have hq : IntKind.i64.wrap ((r.length : Int).tdiv 4) = ((r.length / 4 : Nat) : Int) := by
        have : (r.length : Int).tdiv 4 = ((r.length / 4 : Nat) : Int) := by rw [Int.tdiv_eq_ediv_of_nonneg (by omega)]; omega
        rw [this, wrap_fit (by omega) (by omega)]
      rw [hq]
      refine br (fun h => ?_) (fun h => ?_)
      · have hbig : r.length / 4 < m := by simp at h; omega
        have hk : cur.bind (rList rTy) = none := by
          rw [ck]
          cases hr : rRep rTy m r with
          | none => rfl
          | some y =>
            have := rRep_min min_ty _ _ _ _ hr
            omega
        refine st hb fun w2 k2 hb2 => ?_
        refine lp (vals := [.slice none 0 0, I 0]) [6, 7] [(0, pr rb), (1, .func (.func gf) #[pr rb] #[]), (5, I (m : Int))] (fun m vals w' => vals = [.slice none 0 0, I 0] ∧ w' = w2) ⟨rfl, rfl, rfl, trivial⟩ (m := 0) ⟨rfl, rfl⟩ ?_
        rintro m vals _ ⟨rfl, rfl⟩ _
        refine ldg (fun _ => hb2.cell rfl) ?_
        refine brf ?_
        exact rt1 ⟨hA.trans k2.ap, by rw [hk]; exact ⟨_, _, _, hb2⟩, ⟨_, _, _, rfl⟩, fun x r q => by rw [hk] at q; cases q⟩
      · have hsm : m ≤ r.length / 4 := by simp at h; omega
        refine lpk m 7 [6] [(0, pr rb), (1, .func (.func gf) #[pr rb] #[]), (5, I m)] (fun k vals w' => Ap w (some ⟨rb, 0, none⟩) w' ∧ w1.heap.size ≤ w'.heap.size ∧ ((∃ xs r', rRep rTy k r = some (xs, r') ∧ RdS w' rb B (some r') ∧ ∃ a c, vals = [.slice a xs.length c] ∧ OwC eTy (fun b => w1.heap.size ≤ b) w' w1.heap.size 61 a c xs) ∨
          (rRep rTy k r = none ∧ RdS w' rb B none ∧ ∃ a j c, vals = [.slice a j c]))) ⟨hA, Nat.le_refl _, .inl ⟨[], r, rfl, ⟨a0, c0, hb, hS, hc⟩, none, 0, rfl, OwC.nil ..⟩⟩ ?_
        rintro k vals w2 hk ⟨hA2, z2, hI⟩ ih
        rcases hI with ⟨xs, r', hr, hst2, a, c, rfl, hO⟩ | ⟨hr, hst2, a, j, c, rfl⟩
        · have hxl := rRep_len hr
          have hst2' := hst2
          obtain ⟨a2, c2, hb2, hS2, hc2⟩ := hst2
          by_cases hlt2 : k < m
          · refine ldg (fun _ => hb2.cell rfl) ?_
            refine brt ?_ (hp := by simp [hlt2])
            refine cl (one (some r') w2 hst2') ?_
            rintro v3 w3 ⟨hA3, hst3, ⟨c1, c2, rfl⟩, hok3⟩
            have z3 := hA3.size
            have hO3 := hO.rb hA3 (by omega) fun i hi => by omega
            refine bs (cs := [I c1, I c2]) fun b4 w4 h4 => ?_
            have z4 := h4.size
            have y4 := h4.blk
            obtain ⟨ys, e1, e2, hOx, e4⟩ := (hO3.bl h4.bl).row
            refine ap hOx (.inr ⟨b4, 0, rfl, h4.box.at⟩) (by omega) (fun a5 c5 w5 hO5 hA5 hf5 => ?_)
            have hlo : ∀ g, a = some ⟨g, 0, none⟩ → w1.heap.size ≤ g := fun g hg => (hO.lt hg).1
            have hA05 : Ap w (some ⟨rb, 0, none⟩) w5 := ((hA2.trans hA3).thenBl h4.bl).ap hA5 fun g hg => by have := hlo g hg; omega
            have hst5 := (hst3.bl h4.bl hB).ap hA5 hB fun g hg => by have := hlo g hg; omega
            have z5 := hA5.size
            have es := rRep_snoc rTy k r
            rw [hr] at es
            cases hp : rTy r' with
            | none =>
              have hst5 : RdS w5 rb B none := by rw [show (some r' : Option (List UInt8)).bind rTy = none from hp] at hst5; exact hst5
              refine ih hlt2 ⟨hA05, by omega, .inr ⟨by rw [es]; simp only [Option.bind_some]; rw [hp]; rfl, hst5, _, _, _, rfl⟩⟩
            | some yr =>
              obtain ⟨y, r2⟩ := yr
              have hst5 : RdS w5 rb B (some r2) := by rw [show (some r' : Option (List UInt8)).bind rTy = some (y, r2) from hp] at hst5; exact hst5
              have hv := hok3 y r2 hp
              have hrel : (eTy).rel (fun b => w1.heap.size ≤ b ∧ a ≠ some ⟨b, 0, none⟩ ∧ b < w4.heap.size) w4 [I c1, I c2] y := by
                refine (eTy).sub (S := fun b => w2.heap.size ≤ b ∧ b < w3.heap.size) (fun b hb => ⟨by omega, fun e => by have := (hO.lt e).2; omega, by omega⟩) ((eTy).kp (h4.bl.kp _) ?_)
                obtain ⟨cs, e, hr2⟩ := hv
                rw [agg_inj e]; exact hr2
              have hO6 := OwC.push e1 e2 e4 hO5 hA5 hf5 hrel
              refine ih hlt2 ⟨hA05, by omega, .inl ⟨xs ++ [y], r2, ?_, hst5, a5, c5, ?_, hO6⟩⟩
              · rw [es]; simp only [Option.bind_some]; rw [hp]; rfl
              · rw [List.length_append]; rfl
          · refine ldg (fun _ => hb2.cell rfl) ?_
            refine brf ?_ (hp := by simp [hlt2])
            obtain rfl : k = m := by omega
            have hk2 : cur.bind (rList rTy) = some (xs, r') := ck.trans hr
            refine rt1 ⟨hA2, by rw [hk2]; exact hst2', ⟨_, _, _, rfl⟩, fun x y q => ?_⟩
            rw [hk2] at q
            simp only [Option.some.injEq, Prod.mk.injEq] at q
            obtain ⟨rfl, rfl⟩ := q
            exact ⟨_, _, rfl, (hO.sl2 (by omega)).sub fun i hi => ⟨by omega, hi.2⟩⟩
        · have hk2 : cur.bind (rList rTy) = none := ck.trans (rRep_none hr m hk)
          obtain ⟨a2, n2, c2, hb2⟩ := hst2
          refine ldg (fun _ => hb2.cell rfl) ?_
          refine brf ?_
          exact rt1 ⟨hA2, by rw [hk2]; exact ⟨_, _, _, hb2⟩, ⟨_, _, _, rfl⟩, fun x y q => by rw [hk2] at q; cases q⟩
    · have hneg : n < 0 := by simpa using q
      have hk : cur.bind (rList rTy) = none := by rw [ck]; simp only [Option.bind_some]; rw [if_pos hneg]
      refine spn (I 0) ?_
      refine brt ?_ (hp := by simp [hneg])
      refine st hb fun w2 k2 hb2 => ?_
      refine lp (vals := [.slice none 0 0, I 0]) [6, 7] [(0, pr rb), (1, .func (.func gf) #[pr rb] #[]), (5, I n)] (fun m vals w' => vals = [.slice none 0 0, I 0] ∧ w' = w2) ⟨rfl, rfl, rfl, trivial⟩ (m := 0) ⟨rfl, rfl⟩ ?_
      rintro m vals _ ⟨rfl, rfl⟩ _
      refine ldg (fun _ => hb2.cell rfl) ?_
      refine brf ?_
      exact rt1 ⟨hA.trans k2.ap, by rw [hk]; exact ⟨_, _, _, hb2⟩, ⟨_, _, _, rfl⟩, fun x r q => by rw [hk] at q; cases q⟩
theorem u_field (rb B : Nat) (cur : Option (List UInt8)) (w : World) (hR : RdS w rb B cur) (hB : B ≤ rb) : Ret Tryz.prog 97 #[pr rb] w (RdR rFld (vAgg eFld) gI3 rb B cur w) := by
  have hlt := hR.lt
  refine entr (vs := [pr rb]) [0, 2, 3] tabok Tryz.func97 (by kernel_rfl) ?_
  refine al fun b1 w1 h1 => ?_
  have y1 := h1.blk
  have z1 := h1.size
  have R1 := hR.bl h1.bl hB
  refine cl (u_number rb B cur w1 R1 hB) ?_
  rintro v w2 ⟨A2, R2, ⟨n2, rfl⟩, k2⟩
  refine cl (u_kind rb B _ w2 R2 hB) ?_
  rintro v w3 ⟨A3, R3, ⟨n3, n4, rfl⟩, k3⟩
  refine bd ?_
  have x3 := A3.box (A2.box h1.box (ap_ne (by omega))) (ap_ne (by omega))
  refine sta x3 fun w4 k4 x4 => ?_
  have A04 : Ap w (some ⟨rb, 0, none⟩) w4 := (((Ap.bl h1.bl _).trans A2).trans A3).new k4 (by omega)
  have R4 := R3.ap k4.ap hB fun g hg => by simp only [Option.some.injEq, Addr.mk.injEq, and_true] at hg; omega
  have e : cur.bind rFld = (cur.bind rNum).bind fun x => (rTy x.2).bind fun y => some (⟨x.1, y.1⟩, y.2) := by cases cur <;> rfl
  refine rtc x4.at ⟨A04, ?_, ⟨n2, n3, n4, rfl⟩, fun t r q => ?_⟩
  · rw [e]
    cases h : cur.bind rNum with
    | none => rw [h] at R4; exact R4
    | some x =>
      rw [h] at R4
      have R4 : RdS w4 rb B ((rTy x.2).map (·.2)) := R4
      simp only [Option.bind_some]
      cases h2 : rTy x.2 <;> (rw [h2] at R4; exact R4)
  · rw [e] at q
    obtain ⟨x, q1, q⟩ := bind_some q
    obtain ⟨y, q2, q⟩ := bind_some q
    simp only [Option.some.injEq, Prod.mk.injEq] at q
    obtain ⟨rfl, _⟩ := q
    have e2 := k2 x.1 x.2 q1
    obtain ⟨cs, e3, e4⟩ := k3 y.1 y.2 (by rw [q1]; exact q2)
    simp only [vNum, Value.int.injEq, true_and] at e2
    have e4 : cs = encTy y.1 := e4
    have e5 : [I n3, I n4] = encTy y.1 := (agg_inj e3).trans e4
    exact ⟨[I n2, I n3, I n4], rfl, by rw [e2]; exact congrArg (fun l => I x.1 :: l) e5⟩
set_option maxHeartbeats 1000000 in
theorem u_getFld (rb B : Nat) (cur : Option (List UInt8)) (w : World) (hR : RdS w rb B cur) (hB : B ≤ rb) (gf : FuncId) (one : ∀ cur w, RdS w rb B cur → Ret Tryz.prog gf #[pr rb] w (RdR rFld (vAgg eFld) gI3 rb B cur w)) :
    Ret Tryz.prog 96 #[pr rb, .func (.func gf) #[pr rb] #[]] w (RdR (rList rFld) (vLst eFld) gLst rb B cur w) := by
  have hlt := hR.lt
  refine entr (vs := [pr rb, .func (.func gf) #[pr rb] #[]]) [0, 1, 4, 5, 6, 7, 21, 34] tabok Tryz.func96 (by kernel_rfl) ?_
  refine cl (u_number rb B cur w hR hB) ?_
  rintro v w1 ⟨hA, hst, ⟨n, rfl⟩, hok⟩
  have z1 := hA.size
  have ck := cur_list (p := rFld) (cur := cur)
  cases h1 : cur.bind rNum with
  | none =>
    rw [h1] at hst ck
    have hk : cur.bind (rList rFld) = none := ck
    obtain ⟨a0, n0, c0, hb⟩ := hst
    refine sp (.slice none 0 0) (fun q => ?_) (fun q => ?_)
    · refine ld (hb.cell rfl) ?_
      refine spt (I 0) ?_
      refine iop (quo_run (b := 4) (by decide)) ?_
      refine br (fun h => ?_) (fun h => ?_)
      · refine st hb fun w2 k2 hb2 => ?_
        refine lp (vals := [.slice none 0 0, I 0]) [6, 7] [(0, pr rb), (1, .func (.func gf) #[pr rb] #[]), (5, I n)] (fun m vals w' => vals = [.slice none 0 0, I 0] ∧ w' = w2) ⟨rfl, rfl, rfl, trivial⟩ (m := 0) ⟨rfl, rfl⟩ ?_
        rintro m vals _ ⟨rfl, rfl⟩ _
        refine ldg (fun _ => hb2.cell rfl) ?_
        refine brf ?_
        exact rt1 ⟨hA.trans k2.ap, by rw [hk]; exact ⟨_, _, _, hb2⟩, ⟨_, _, _, rfl⟩, fun x r q => by rw [hk] at q; cases q⟩
      · skip
        refine lp (vals := [.slice none 0 0, I 0]) [6, 7] [(0, pr rb), (1, .func (.func gf) #[pr rb] #[]), (5, I n)] (fun m vals w' => vals = [.slice none 0 0, I 0] ∧ w' = w1) ⟨rfl, rfl, rfl, trivial⟩ (m := 0) ⟨rfl, rfl⟩ ?_
        rintro m vals _ ⟨rfl, rfl⟩ _
        refine ldg (fun _ => hb.cell rfl) ?_
        refine brf ?_
        exact rt1 ⟨hA, by rw [hk]; exact ⟨_, _, _, hb⟩, ⟨_, _, _, rfl⟩, fun x r q => by rw [hk] at q; cases q⟩
    · have hneg : n < 0 := by simpa using q
      refine spn (I 0) ?_
      refine brt ?_ (hp := by simp [hneg])
      refine st hb fun w2 k2 hb2 => ?_
      refine lp (vals := [.slice none 0 0, I 0]) [6, 7] [(0, pr rb), (1, .func (.func gf) #[pr rb] #[]), (5, I n)] (fun m vals w' => vals = [.slice none 0 0, I 0] ∧ w' = w2) ⟨rfl, rfl, rfl, trivial⟩ (m := 0) ⟨rfl, rfl⟩ ?_
      rintro m vals _ ⟨rfl, rfl⟩ _
      refine ldg (fun _ => hb2.cell rfl) ?_
      refine brf ?_
      exact rt1 ⟨hA.trans k2.ap, by rw [hk]; exact ⟨_, _, _, hb2⟩, ⟨_, _, _, rfl⟩, fun x r q => by rw [hk] at q; cases q⟩
  | some xr =>
    obtain ⟨m0, r⟩ := xr
    have e0 := hok _ _ h1
    simp only [vNum, Value.int.injEq, true_and] at e0
    subst e0
    rw [h1] at hst ck
    obtain ⟨a0, c0, hb, hS, hc⟩ := hst
    have hlen : r.length ≤ 4194304 := hS.big
    have hc : r.length ≤ c0 := hc
    refine sp (.slice none 0 0) (fun q => ?_) (fun q => ?_)
    · have hn0 : 0 ≤ n := by simpa using q
      obtain ⟨m, rfl⟩ : ∃ m : Nat, n = (m : Int) := ⟨n.toNat, by omega⟩
      have ck : cur.bind (rList rFld) = rRep rFld m r := by rw [ck]; simp only [Option.bind_some]; rw [if_neg (by omega)]; rfl
      refine ld (hb.cell rfl) ?_
      refine spt (I 0) ?_
      refine iop (quo_run (b := 4) (by decide)) ?_
      have hq : IntKind.i64.wrap ((r.length : Int).tdiv 4) = ((r.length / 4 : Nat) : Int) := by
        have : (r.length : Int).tdiv 4 = ((r.length / 4 : Nat) : Int) := by rw [Int.tdiv_eq_ediv_of_nonneg (by omega)]; omega
        rw [this, wrap_fit (by omega) (by omega)]
      rw [hq]
      refine br (fun h => ?_) (fun h => ?_)
      · have hbig : r.length / 4 < m := by simp at h; omega
        have hk : cur.bind (rList rFld) = none := by
          rw [ck]
          cases hr : rRep rFld m r with
          | none => rfl
          | some y =>
            have := rRep_min min_fld _ _ _ _ hr
            omega
        refine st hb fun w2 k2 hb2 => ?_
        refine lp (vals := [.slice none 0 0, I 0]) [6, 7] [(0, pr rb), (1, .func (.func gf) #[pr rb] #[]), (5, I (m : Int))] (fun m vals w' => vals = [.slice none 0 0, I 0] ∧ w' = w2) ⟨rfl, rfl, rfl, trivial⟩ (m := 0) ⟨rfl, rfl⟩ ?_
        rintro m vals _ ⟨rfl, rfl⟩ _
        refine ldg (fun _ => hb2.cell rfl) ?_
        refine brf ?_
        exact rt1 ⟨hA.trans k2.ap, by rw [hk]; exact ⟨_, _, _, hb2⟩, ⟨_, _, _, rfl⟩, fun x r q => by rw [hk] at q; cases q⟩
      · have hsm : m ≤ r.length / 4 := by simp at h; omega
        refine lpk m 7 [6] [(0, pr rb), (1, .func (.func gf) #[pr rb] #[]), (5, I m)] (fun k vals w' => Ap w (some ⟨rb, 0, none⟩) w' ∧ w1.heap.size ≤ w'.heap.size ∧ ((∃ xs r', rRep rFld k r = some (xs, r') ∧ RdS w' rb B (some r') ∧ ∃ a c, vals = [.slice a xs.length c] ∧ OwC eFld (fun b => w1.heap.size ≤ b) w' w1.heap.size 86 a c xs) ∨
          (rRep rFld k r = none ∧ RdS w' rb B none ∧ ∃ a j c, vals = [.slice a j c]))) ⟨hA, Nat.le_refl _, .inl ⟨[], r, rfl, ⟨a0, c0, hb, hS, hc⟩, none, 0, rfl, OwC.nil ..⟩⟩ ?_
        rintro k vals w2 hk ⟨hA2, z2, hI⟩ ih
        rcases hI with ⟨xs, r', hr, hst2, a, c, rfl, hO⟩ | ⟨hr, hst2, a, j, c, rfl⟩
        · have hxl := rRep_len hr
          have hst2' := hst2
          obtain ⟨a2, c2, hb2, hS2, hc2⟩ := hst2
          by_cases hlt2 : k < m
          · refine ldg (fun _ => hb2.cell rfl) ?_
            refine brt ?_ (hp := by simp [hlt2])
            refine cl (one (some r') w2 hst2') ?_
            rintro v3 w3 ⟨hA3, hst3, ⟨c1, c2, c3, rfl⟩, hok3⟩
            have z3 := hA3.size
            have hO3 := hO.rb hA3 (by omega) fun i hi => by omega
            refine bs (cs := [I c1, I c2, I c3]) fun b4 w4 h4 => ?_
            have z4 := h4.size
            have y4 := h4.blk
            obtain ⟨ys, e1, e2, hOx, e4⟩ := (hO3.bl h4.bl).row
            refine ap hOx (.inr ⟨b4, 0, rfl, h4.box.at⟩) (by omega) (fun a5 c5 w5 hO5 hA5 hf5 => ?_)
            have hlo : ∀ g, a = some ⟨g, 0, none⟩ → w1.heap.size ≤ g := fun g hg => (hO.lt hg).1
            have hA05 : Ap w (some ⟨rb, 0, none⟩) w5 := ((hA2.trans hA3).thenBl h4.bl).ap hA5 fun g hg => by have := hlo g hg; omega
            have hst5 := (hst3.bl h4.bl hB).ap hA5 hB fun g hg => by have := hlo g hg; omega
            have z5 := hA5.size
            have es := rRep_snoc rFld k r
            rw [hr] at es
            cases hp : rFld r' with
            | none =>
              have hst5 : RdS w5 rb B none := by rw [show (some r' : Option (List UInt8)).bind rFld = none from hp] at hst5; exact hst5
              refine ih hlt2 ⟨hA05, by omega, .inr ⟨by rw [es]; simp only [Option.bind_some]; rw [hp]; rfl, hst5, _, _, _, rfl⟩⟩
            | some yr =>
              obtain ⟨y, r2⟩ := yr
              have hst5 : RdS w5 rb B (some r2) := by rw [show (some r' : Option (List UInt8)).bind rFld = some (y, r2) from hp] at hst5; exact hst5
              have hv := hok3 y r2 hp
              have hrel : (eFld).rel (fun b => w1.heap.size ≤ b ∧ a ≠ some ⟨b, 0, none⟩ ∧ b < w4.heap.size) w4 [I c1, I c2, I c3] y := by
                refine (eFld).sub (S := fun b => w2.heap.size ≤ b ∧ b < w3.heap.size) (fun b hb => ⟨by omega, fun e => by have := (hO.lt e).2; omega, by omega⟩) ((eFld).kp (h4.bl.kp _) ?_)
                obtain ⟨cs, e, hr2⟩ := hv
                rw [agg_inj e]; exact hr2
              have hO6 := OwC.push e1 e2 e4 hO5 hA5 hf5 hrel
              refine ih hlt2 ⟨hA05, by omega, .inl ⟨xs ++ [y], r2, ?_, hst5, a5, c5, ?_, hO6⟩⟩
              · rw [es]; simp only [Option.bind_some]; rw [hp]; rfl
              · rw [List.length_append]; rfl
          · refine ldg (fun _ => hb2.cell rfl) ?_
            refine brf ?_ (hp := by simp [hlt2])
            obtain rfl : k = m := by omega
            have hk2 : cur.bind (rList rFld) = some (xs, r') := ck.trans hr
            refine rt1 ⟨hA2, by rw [hk2]; exact hst2', ⟨_, _, _, rfl⟩, fun x y q => ?_⟩
            rw [hk2] at q
            simp only [Option.some.injEq, Prod.mk.injEq] at q
            obtain ⟨rfl, rfl⟩ := q
            exact ⟨_, _, rfl, (hO.sl2 (by omega)).sub fun i hi => ⟨by omega, hi.2⟩⟩
        · have hk2 : cur.bind (rList rFld) = none := ck.trans (rRep_none hr m hk)
          obtain ⟨a2, n2, c2, hb2⟩ := hst2
          refine ldg (fun _ => hb2.cell rfl) ?_
          refine brf ?_
          exact rt1 ⟨hA2, by rw [hk2]; exact ⟨_, _, _, hb2⟩, ⟨_, _, _, rfl⟩, fun x y q => by rw [hk2] at q; cases q⟩
    · have hneg : n < 0 := by simpa using q
      have hk : cur.bind (rList rFld) = none := by rw [ck]; simp only [Option.bind_some]; rw [if_pos hneg]
      refine spn (I 0) ?_
      refine brt ?_ (hp := by simp [hneg])
      refine st hb fun w2 k2 hb2 => ?_
      refine lp (vals := [.slice none 0 0, I 0]) [6, 7] [(0, pr rb), (1, .func (.func gf) #[pr rb] #[]), (5, I n)] (fun m vals w' => vals = [.slice none 0 0, I 0] ∧ w' = w2) ⟨rfl, rfl, rfl, trivial⟩ (m := 0) ⟨rfl, rfl⟩ ?_
      rintro m vals _ ⟨rfl, rfl⟩ _
      refine ldg (fun _ => hb2.cell rfl) ?_
      refine brf ?_
      exact rt1 ⟨hA.trans k2.ap, by rw [hk]; exact ⟨_, _, _, hb2⟩, ⟨_, _, _, rfl⟩, fun x r q => by rw [hk] at q; cases q⟩
theorem u_instr (rb B : Nat) (cur : Option (List UInt8)) (w : World) (hR : RdS w rb B cur) (hB : B ≤ rb) : Ret Tryz.prog 151 #[pr rb] w (RdR rIns (vAgg eIns) gI3 rb B cur w) := by
  have hlt := hR.lt
  refine entr (vs := [pr rb]) [0, 2, 3, 4] tabok Tryz.func151 (by kernel_rfl) ?_
  refine al fun b1 w1 h1 => ?_
  have y1 := h1.blk
  have z1 := h1.size
  have R1 := hR.bl h1.bl hB
  refine cl (u_number rb B cur w1 R1 hB) ?_
  rintro v w2 ⟨A2, R2, ⟨n2, rfl⟩, k2⟩
  refine cl (u_number rb B _ w2 R2 hB) ?_
  rintro v w3 ⟨A3, R3, ⟨n3, rfl⟩, k3⟩
  refine cl (u_number rb B _ w3 R3 hB) ?_
  rintro v w4 ⟨A4, R4, ⟨n4, rfl⟩, k4⟩
  refine bd ?_
  have x4 := A4.box (A3.box (A2.box h1.box (ap_ne (by omega))) (ap_ne (by omega))) (ap_ne (by omega))
  refine sta x4 fun w5 k5 x5 => ?_
  have A05 : Ap w (some ⟨rb, 0, none⟩) w5 := ((((Ap.bl h1.bl _).trans A2).trans A3).trans A4).new k5 (by omega)
  have R5 := R4.ap k5.ap hB fun g hg => by simp only [Option.some.injEq, Addr.mk.injEq, and_true] at hg; omega
  have e : cur.bind rIns = (cur.bind rNum).bind fun x => (rNum x.2).bind fun y => (rNum y.2).bind fun z => some (⟨x.1, y.1, z.1⟩, z.2) := by cases cur <;> rfl
  refine rtc x5.at ⟨A05, ?_, ⟨n2, n3, n4, rfl⟩, fun t r q => ?_⟩
  · rw [e]
    cases h : cur.bind rNum with
    | none => rw [h] at R5; exact R5
    | some x =>
      rw [h] at R5
      have R5 : RdS w5 rb B ((((rNum x.2).map (·.2)).bind rNum).map (·.2)) := R5
      simp only [Option.bind_some]
      cases h2 : rNum x.2 with
      | none => rw [h2] at R5; exact R5
      | some y =>
        rw [h2] at R5
        have R5 : RdS w5 rb B ((rNum y.2).map (·.2)) := R5
        simp only [Option.bind_some]
        cases h3 : rNum y.2 <;> (rw [h3] at R5; exact R5)
  · rw [e] at q
    obtain ⟨x, q1, q⟩ := bind_some q
    obtain ⟨y, q2, q⟩ := bind_some q
    obtain ⟨z, q3, q⟩ := bind_some q
    simp only [Option.some.injEq, Prod.mk.injEq] at q
    obtain ⟨rfl, _⟩ := q
    have c1 : (((cur.bind rNum).map (·.2)).bind rNum) = some y := by rw [q1]; exact q2
    have e2 := k2 x.1 x.2 q1
    have e3 := k3 y.1 y.2 c1
    have e4 := k4 z.1 z.2 (by rw [c1]; exact q3)
    simp only [vNum, Value.int.injEq, true_and] at e2 e3 e4
    exact ⟨[I n2, I n3, I n4], rfl, by rw [e2, e3, e4]; rfl⟩
set_option maxHeartbeats 1000000 in
theorem u_getIns (rb B : Nat) (cur : Option (List UInt8)) (w : World) (hR : RdS w rb B cur) (hB : B ≤ rb) (gf : FuncId) (one : ∀ cur w, RdS w rb B cur → Ret Tryz.prog gf #[pr rb] w (RdR rIns (vAgg eIns) gI3 rb B cur w)) :
    Ret Tryz.prog 150 #[pr rb, .func (.func gf) #[pr rb] #[]] w (RdR (rList rIns) (vLst eIns) gLst rb B cur w) := by
  have hlt := hR.lt
  refine entr (vs := [pr rb, .func (.func gf) #[pr rb] #[]]) [0, 1, 4, 5, 6, 7, 21, 34] tabok Tryz.func150 (by kernel_rfl) ?_
  refine cl (u_number rb B cur w hR hB) ?_
  rintro v w1 ⟨hA, hst, ⟨n, rfl⟩, hok⟩
  have z1 := hA.size
  have ck := cur_list (p := rIns) (cur := cur)
  cases h1 : cur.bind rNum with
  | none =>
    rw [h1] at hst ck
    have hk : cur.bind (rList rIns) = none := ck
    obtain ⟨a0, n0, c0, hb⟩ := hst
    refine sp (.slice none 0 0) (fun q => ?_) (fun q => ?_)
    · refine ld (hb.cell rfl) ?_
      refine spt (I 0) ?_
      refine iop (quo_run (b := 4) (by decide)) ?_
      refine br (fun h => ?_) (fun h => ?_)
      · refine st hb fun w2 k2 hb2 => ?_
        refine lp (vals := [.slice none 0 0, I 0]) [6, 7] [(0, pr rb), (1, .func (.func gf) #[pr rb] #[]), (5, I n)] (fun m vals w' => vals = [.slice none 0 0, I 0] ∧ w' = w2) ⟨rfl, rfl, rfl, trivial⟩ (m := 0) ⟨rfl, rfl⟩ ?_
        rintro m vals _ ⟨rfl, rfl⟩ _
        refine ldg (fun _ => hb2.cell rfl) ?_
        refine brf ?_
        exact rt1 ⟨hA.trans k2.ap, by rw [hk]; exact ⟨_, _, _, hb2⟩, ⟨_, _, _, rfl⟩, fun x r q => by rw [hk] at q; cases q⟩
      · skip
        refine lp (vals := [.slice none 0 0, I 0]) [6, 7] [(0, pr rb), (1, .func (.func gf) #[pr rb] #[]), (5, I n)] (fun m vals w' => vals = [.slice none 0 0, I 0] ∧ w' = w1) ⟨rfl, rfl, rfl, trivial⟩ (m := 0) ⟨rfl, rfl⟩ ?_
        rintro m vals _ ⟨rfl, rfl⟩ _
        refine ldg (fun _ => hb.cell rfl) ?_
        refine brf ?_
        exact rt1 ⟨hA, by rw [hk]; exact ⟨_, _, _, hb⟩, ⟨_, _, _, rfl⟩, fun x r q => by rw [hk] at q; cases q⟩
    · have hneg : n < 0 := by simpa using q
      refine spn (I 0) ?_
      refine brt ?_ (hp := by simp [hneg])
      refine st hb fun w2 k2 hb2 => ?_
      refine lp (vals := [.slice none 0 0, I 0]) [6, 7] [(0, pr rb), (1, .func (.func gf) #[pr rb] #[]), (5, I n)] (fun m vals w' => vals = [.slice none 0 0, I 0] ∧ w' = w2) ⟨rfl, rfl, rfl, trivial⟩ (m := 0) ⟨rfl, rfl⟩ ?_
      rintro m vals _ ⟨rfl, rfl⟩ _
      refine ldg (fun _ => hb2.cell rfl) ?_
      refine brf ?_
      exact rt1 ⟨hA.trans k2.ap, by rw [hk]; exact ⟨_, _, _, hb2⟩, ⟨_, _, _, rfl⟩, fun x r q => by rw [hk] at q; cases q⟩
  | some xr =>
    obtain ⟨m0, r⟩ := xr
    have e0 := hok _ _ h1
    simp only [vNum, Value.int.injEq, true_and] at e0
    subst e0
    rw [h1] at hst ck
    obtain ⟨a0, c0, hb, hS, hc⟩ := hst
    have hlen : r.length ≤ 4194304 := hS.big
    have hc : r.length ≤ c0 := hc
    refine sp (.slice none 0 0) (fun q => ?_) (fun q => ?_)
    · have hn0 : 0 ≤ n := by simpa using q
      obtain ⟨m, rfl⟩ : ∃ m : Nat, n = (m : Int) := ⟨n.toNat, by omega⟩
      have ck : cur.bind (rList rIns) = rRep rIns m r := by rw [ck]; simp only [Option.bind_some]; rw [if_neg (by omega)]; rfl
      refine ld (hb.cell rfl) ?_
      refine spt (I 0) ?_
      refine iop (quo_run (b := 4) (by decide)) ?_
      have hq : IntKind.i64.wrap ((r.length : Int).tdiv 4) = ((r.length / 4 : Nat) : Int) := by
        have : (r.length : Int).tdiv 4 = ((r.length / 4 : Nat) : Int) := by rw [Int.tdiv_eq_ediv_of_nonneg (by omega)]; omega
        rw [this, wrap_fit (by omega) (by omega)]
      rw [hq]
      refine br (fun h => ?_) (fun h => ?_)
      · have hbig : r.length / 4 < m := by simp at h; omega
        have hk : cur.bind (rList rIns) = none := by
          rw [ck]
          cases hr : rRep rIns m r with
          | none => rfl
          | some y =>
            have := rRep_min min_ins _ _ _ _ hr
            omega
        refine st hb fun w2 k2 hb2 => ?_
        refine lp (vals := [.slice none 0 0, I 0]) [6, 7] [(0, pr rb), (1, .func (.func gf) #[pr rb] #[]), (5, I (m : Int))] (fun m vals w' => vals = [.slice none 0 0, I 0] ∧ w' = w2) ⟨rfl, rfl, rfl, trivial⟩ (m := 0) ⟨rfl, rfl⟩ ?_
        rintro m vals _ ⟨rfl, rfl⟩ _
        refine ldg (fun _ => hb2.cell rfl) ?_
        refine brf ?_
        exact rt1 ⟨hA.trans k2.ap, by rw [hk]; exact ⟨_, _, _, hb2⟩, ⟨_, _, _, rfl⟩, fun x r q => by rw [hk] at q; cases q⟩
      · have hsm : m ≤ r.length / 4 := by simp at h; omega
        refine lpk m 7 [6] [(0, pr rb), (1, .func (.func gf) #[pr rb] #[]), (5, I m)] (fun k vals w' => Ap w (some ⟨rb, 0, none⟩) w' ∧ w1.heap.size ≤ w'.heap.size ∧ ((∃ xs r', rRep rIns k r = some (xs, r') ∧ RdS w' rb B (some r') ∧ ∃ a c, vals = [.slice a xs.length c] ∧ OwC eIns (fun b => w1.heap.size ≤ b) w' w1.heap.size 89 a c xs) ∨
          (rRep rIns k r = none ∧ RdS w' rb B none ∧ ∃ a j c, vals = [.slice a j c]))) ⟨hA, Nat.le_refl _, .inl ⟨[], r, rfl, ⟨a0, c0, hb, hS, hc⟩, none, 0, rfl, OwC.nil ..⟩⟩ ?_
        rintro k vals w2 hk ⟨hA2, z2, hI⟩ ih
        rcases hI with ⟨xs, r', hr, hst2, a, c, rfl, hO⟩ | ⟨hr, hst2, a, j, c, rfl⟩
        · have hxl := rRep_len hr
          have hst2' := hst2
          obtain ⟨a2, c2, hb2, hS2, hc2⟩ := hst2
          by_cases hlt2 : k < m
          · refine ldg (fun _ => hb2.cell rfl) ?_
            refine brt ?_ (hp := by simp [hlt2])
            refine cl (one (some r') w2 hst2') ?_
            rintro v3 w3 ⟨hA3, hst3, ⟨c1, c2, c3, rfl⟩, hok3⟩
            have z3 := hA3.size
            have hO3 := hO.rb hA3 (by omega) fun i hi => by omega
            refine bs (cs := [I c1, I c2, I c3]) fun b4 w4 h4 => ?_
            have z4 := h4.size
            have y4 := h4.blk
            obtain ⟨ys, e1, e2, hOx, e4⟩ := (hO3.bl h4.bl).row
            refine ap hOx (.inr ⟨b4, 0, rfl, h4.box.at⟩) (by omega) (fun a5 c5 w5 hO5 hA5 hf5 => ?_)
            have hlo : ∀ g, a = some ⟨g, 0, none⟩ → w1.heap.size ≤ g := fun g hg => (hO.lt hg).1
            have hA05 : Ap w (some ⟨rb, 0, none⟩) w5 := ((hA2.trans hA3).thenBl h4.bl).ap hA5 fun g hg => by have := hlo g hg; omega
            have hst5 := (hst3.bl h4.bl hB).ap hA5 hB fun g hg => by have := hlo g hg; omega
            have z5 := hA5.size
            have es := rRep_snoc rIns k r
            rw [hr] at es
            cases hp : rIns r' with
            | none =>
              have hst5 : RdS w5 rb B none := by rw [show (some r' : Option (List UInt8)).bind rIns = none from hp] at hst5; exact hst5
              refine ih hlt2 ⟨hA05, by omega, .inr ⟨by rw [es]; simp only [Option.bind_some]; rw [hp]; rfl, hst5, _, _, _, rfl⟩⟩
            | some yr =>
              obtain ⟨y, r2⟩ := yr
              have hst5 : RdS w5 rb B (some r2) := by rw [show (some r' : Option (List UInt8)).bind rIns = some (y, r2) from hp] at hst5; exact hst5
              have hv := hok3 y r2 hp
              have hrel : (eIns).rel (fun b => w1.heap.size ≤ b ∧ a ≠ some ⟨b, 0, none⟩ ∧ b < w4.heap.size) w4 [I c1, I c2, I c3] y := by
                refine (eIns).sub (S := fun b => w2.heap.size ≤ b ∧ b < w3.heap.size) (fun b hb => ⟨by omega, fun e => by have := (hO.lt e).2; omega, by omega⟩) ((eIns).kp (h4.bl.kp _) ?_)
                obtain ⟨cs, e, hr2⟩ := hv
                rw [agg_inj e]; exact hr2
              have hO6 := OwC.push e1 e2 e4 hO5 hA5 hf5 hrel
              refine ih hlt2 ⟨hA05, by omega, .inl ⟨xs ++ [y], r2, ?_, hst5, a5, c5, ?_, hO6⟩⟩
              · rw [es]; simp only [Option.bind_some]; rw [hp]; rfl
              · rw [List.length_append]; rfl
          · refine ldg (fun _ => hb2.cell rfl) ?_
            refine brf ?_ (hp := by simp [hlt2])
            obtain rfl : k = m := by omega
            have hk2 : cur.bind (rList rIns) = some (xs, r') := ck.trans hr
            refine rt1 ⟨hA2, by rw [hk2]; exact hst2', ⟨_, _, _, rfl⟩, fun x y q => ?_⟩
            rw [hk2] at q
            simp only [Option.some.injEq, Prod.mk.injEq] at q
            obtain ⟨rfl, rfl⟩ := q
            exact ⟨_, _, rfl, (hO.sl2 (by omega)).sub fun i hi => ⟨by omega, hi.2⟩⟩
        · have hk2 : cur.bind (rList rIns) = none := ck.trans (rRep_none hr m hk)
          obtain ⟨a2, n2, c2, hb2⟩ := hst2
          refine ldg (fun _ => hb2.cell rfl) ?_
          refine brf ?_
          exact rt1 ⟨hA2, by rw [hk2]; exact ⟨_, _, _, hb2⟩, ⟨_, _, _, rfl⟩, fun x y q => by rw [hk2] at q; cases q⟩
    · have hneg : n < 0 := by simpa using q
      have hk : cur.bind (rList rIns) = none := by rw [ck]; simp only [Option.bind_some]; rw [if_pos hneg]
      refine spn (I 0) ?_
      refine brt ?_ (hp := by simp [hneg])
      refine st hb fun w2 k2 hb2 => ?_
      refine lp (vals := [.slice none 0 0, I 0]) [6, 7] [(0, pr rb), (1, .func (.func gf) #[pr rb] #[]), (5, I n)] (fun m vals w' => vals = [.slice none 0 0, I 0] ∧ w' = w2) ⟨rfl, rfl, rfl, trivial⟩ (m := 0) ⟨rfl, rfl⟩ ?_
      rintro m vals _ ⟨rfl, rfl⟩ _
      refine ldg (fun _ => hb2.cell rfl) ?_
      refine brf ?_
      exact rt1 ⟨hA.trans k2.ap, by rw [hk]; exact ⟨_, _, _, hb2⟩, ⟨_, _, _, rfl⟩, fun x r q => by rw [hk] at q; cases q⟩
theorem u_class (rb B : Nat) (cur : Option (List UInt8)) (w : World) (hR : RdS w rb B cur) (hB : B ≤ rb) : Ret Tryz.prog 95 #[pr rb] w (RdR rCls (vAgg eCls) gCls rb B cur w) := by
  have hlt := hR.lt
  refine entr (vs := [pr rb]) [0, 2, 3, 4] tabok Tryz.func95 (by kernel_rfl) ?_
  refine al fun b1 w1 h1 => ?_
  have y1 := h1.blk
  have z1 := h1.size
  have R1 := hR.bl h1.bl hB
  refine cl (u_number rb B cur w1 R1 hB) ?_
  rintro v w2 ⟨A2, R2, ⟨n2, rfl⟩, k2⟩
  refine cl (u_number rb B _ w2 R2 hB) ?_
  rintro v w3 ⟨A3, R3, ⟨n3, rfl⟩, k3⟩
  refine cl (u_getFld rb B _ w3 R3 hB 97 fun cur w h => u_field rb B cur w h hB) ?_
  rintro v w4 ⟨A4, R4, ⟨p4, n4, c4, rfl⟩, k4⟩
  refine bd ?_
  have x4 := A4.box (A3.box (A2.box h1.box (ap_ne (by omega))) (ap_ne (by omega))) (ap_ne (by omega))
  refine sta x4 fun w5 k5 x5 => ?_
  have z2 := A2.size
  have z3 := A3.size
  have z5 := k5.size
  have A05 : Ap w (some ⟨rb, 0, none⟩) w5 := ((((Ap.bl h1.bl _).trans A2).trans A3).trans A4).new k5 (by omega)
  have R5 := R4.ap k5.ap hB fun g hg => by simp only [Option.some.injEq, Addr.mk.injEq, and_true] at hg; omega
  have e : cur.bind rCls = (cur.bind rNum).bind fun x => (rNum x.2).bind fun y => (rList rFld y.2).bind fun z => some (⟨x.1, y.1, z.1⟩, z.2) := by cases cur <;> rfl
  refine rtc x5.at ⟨A05, ?_, ⟨n2, n3, p4, n4, c4, rfl⟩, fun t r q => ?_⟩
  · rw [e]
    cases h : cur.bind rNum with
    | none => rw [h] at R5; exact R5
    | some x =>
      rw [h] at R5
      have R5 : RdS w5 rb B ((((rNum x.2).map (·.2)).bind (rList rFld)).map (·.2)) := R5
      simp only [Option.bind_some]
      cases h2 : rNum x.2 with
      | none => rw [h2] at R5; exact R5
      | some y =>
        rw [h2] at R5
        have R5 : RdS w5 rb B ((rList rFld y.2).map (·.2)) := R5
        simp only [Option.bind_some]
        cases h3 : rList rFld y.2 <;> (rw [h3] at R5; exact R5)
  · rw [e] at q
    obtain ⟨x, q1, q⟩ := bind_some q
    obtain ⟨y, q2, q⟩ := bind_some q
    obtain ⟨z, q3, q⟩ := bind_some q
    simp only [Option.some.injEq, Prod.mk.injEq] at q
    obtain ⟨rfl, _⟩ := q
    have c1 : (((cur.bind rNum).map (·.2)).bind rNum) = some y := by rw [q1]; exact q2
    have e2 := k2 x.1 x.2 q1
    have e3 := k3 y.1 y.2 c1
    obtain ⟨a4, d4, e4, hS⟩ := k4 z.1 z.2 (by rw [c1]; exact q3)
    simp only [vNum, Value.int.injEq, true_and] at e2 e3
    obtain ⟨rfl, rfl, rfl⟩ := Value.slice.inj e4
    exact ⟨[I n2, I n3, .slice p4 z.1.length c4], rfl, p4, c4, by rw [e2, e3], (hS.kp (k5.kp fun i hi => by omega)).sub fun i hi => ⟨by omega, by omega⟩⟩
set_option maxHeartbeats 1000000 in
theorem u_getCls (rb B : Nat) (cur : Option (List UInt8)) (w : World) (hR : RdS w rb B cur) (hB : B ≤ rb) (gf : FuncId) (one : ∀ cur w, RdS w rb B cur → Ret Tryz.prog gf #[pr rb] w (RdR rCls (vAgg eCls) gCls rb B cur w)) :
    Ret Tryz.prog 94 #[pr rb, .func (.func gf) #[pr rb] #[]] w (RdR (rList rCls) (vLst eCls) gLst rb B cur w) := by
  have hlt := hR.lt
  refine entr (vs := [pr rb, .func (.func gf) #[pr rb] #[]]) [0, 1, 4, 5, 6, 7, 21, 34] tabok Tryz.func94 (by kernel_rfl) ?_
  refine cl (u_number rb B cur w hR hB) ?_
  rintro v w1 ⟨hA, hst, ⟨n, rfl⟩, hok⟩
  have z1 := hA.size
  have ck := cur_list (p := rCls) (cur := cur)
  cases h1 : cur.bind rNum with
  | none =>
    rw [h1] at hst ck
    have hk : cur.bind (rList rCls) = none := ck
    obtain ⟨a0, n0, c0, hb⟩ := hst
    refine sp (.slice none 0 0) (fun q => ?_) (fun q => ?_)
    · refine ld (hb.cell rfl) ?_
      refine spt (I 0) ?_
      refine iop (quo_run (b := 4) (by decide)) ?_
      refine br (fun h => ?_) (fun h => ?_)
      · refine st hb fun w2 k2 hb2 => ?_
        refine lp (vals := [.slice none 0 0, I 0]) [6, 7] [(0, pr rb), (1, .func (.func gf) #[pr rb] #[]), (5, I n)] (fun m vals w' => vals = [.slice none 0 0, I 0] ∧ w' = w2) ⟨rfl, rfl, rfl, trivial⟩ (m := 0) ⟨rfl, rfl⟩ ?_
        rintro m vals _ ⟨rfl, rfl⟩ _
        refine ldg (fun _ => hb2.cell rfl) ?_
        refine brf ?_
        exact rt1 ⟨hA.trans k2.ap, by rw [hk]; exact ⟨_, _, _, hb2⟩, ⟨_, _, _, rfl⟩, fun x r q => by rw [hk] at q; cases q⟩
      · skip
        refine lp (vals := [.slice none 0 0, I 0]) [6, 7] [(0, pr rb), (1, .func (.func gf) #[pr rb] #[]), (5, I n)] (fun m vals w' => vals = [.slice none 0 0, I 0] ∧ w' = w1) ⟨rfl, rfl, rfl, trivial⟩ (m := 0) ⟨rfl, rfl⟩ ?_
        rintro m vals _ ⟨rfl, rfl⟩ _
        refine ldg (fun _ => hb.cell rfl) ?_
        refine brf ?_
        exact rt1 ⟨hA, by rw [hk]; exact ⟨_, _, _, hb⟩, ⟨_, _, _, rfl⟩, fun x r q => by rw [hk] at q; cases q⟩
    · have hneg : n < 0 := by simpa using q
      refine spn (I 0) ?_
      refine brt ?_ (hp := by simp [hneg])
      refine st hb fun w2 k2 hb2 => ?_
      refine lp (vals := [.slice none 0 0, I 0]) [6, 7] [(0, pr rb), (1, .func (.func gf) #[pr rb] #[]), (5, I n)] (fun m vals w' => vals = [.slice none 0 0, I 0] ∧ w' = w2) ⟨rfl, rfl, rfl, trivial⟩ (m := 0) ⟨rfl, rfl⟩ ?_
      rintro m vals _ ⟨rfl, rfl⟩ _
      refine ldg (fun _ => hb2.cell rfl) ?_
      refine brf ?_
      exact rt1 ⟨hA.trans k2.ap, by rw [hk]; exact ⟨_, _, _, hb2⟩, ⟨_, _, _, rfl⟩, fun x r q => by rw [hk] at q; cases q⟩
  | some xr =>
    obtain ⟨m0, r⟩ := xr
    have e0 := hok _ _ h1
    simp only [vNum, Value.int.injEq, true_and] at e0
    subst e0
    rw [h1] at hst ck
    obtain ⟨a0, c0, hb, hS, hc⟩ := hst
    have hlen : r.length ≤ 4194304 := hS.big
    have hc : r.length ≤ c0 := hc
    refine sp (.slice none 0 0) (fun q => ?_) (fun q => ?_)
    · have hn0 : 0 ≤ n := by simpa using q
      obtain ⟨m, rfl⟩ : ∃ m : Nat, n = (m : Int) := ⟨n.toNat, by omega⟩
      have ck : cur.bind (rList rCls) = rRep rCls m r := by rw [ck]; simp only [Option.bind_some]; rw [if_neg (by omega)]; rfl
      refine ld (hb.cell rfl) ?_
      refine spt (I 0) ?_
      refine iop (quo_run (b := 4) (by decide)) ?_
      have hq : IntKind.i64.wrap ((r.length : Int).tdiv 4) = ((r.length / 4 : Nat) : Int) := by
        have : (r.length : Int).tdiv 4 = ((r.length / 4 : Nat) : Int) := by rw [Int.tdiv_eq_ediv_of_nonneg (by omega)]; omega
        rw [this, wrap_fit (by omega) (by omega)]
      rw [hq]
      refine br (fun h => ?_) (fun h => ?_)
      · have hbig : r.length / 4 < m := by simp at h; omega
        have hk : cur.bind (rList rCls) = none := by
          rw [ck]
          cases hr : rRep rCls m r with
          | none => rfl
          | some y =>
            have := rRep_min min_cls _ _ _ _ hr
            omega
        refine st hb fun w2 k2 hb2 => ?_
        refine lp (vals := [.slice none 0 0, I 0]) [6, 7] [(0, pr rb), (1, .func (.func gf) #[pr rb] #[]), (5, I (m : Int))] (fun m vals w' => vals = [.slice none 0 0, I 0] ∧ w' = w2) ⟨rfl, rfl, rfl, trivial⟩ (m := 0) ⟨rfl, rfl⟩ ?_
        rintro m vals _ ⟨rfl, rfl⟩ _
        refine ldg (fun _ => hb2.cell rfl) ?_
        refine brf ?_
        exact rt1 ⟨hA.trans k2.ap, by rw [hk]; exact ⟨_, _, _, hb2⟩, ⟨_, _, _, rfl⟩, fun x r q => by rw [hk] at q; cases q⟩
      · have hsm : m ≤ r.length / 4 := by simp at h; omega
        refine lpk m 7 [6] [(0, pr rb), (1, .func (.func gf) #[pr rb] #[]), (5, I m)] (fun k vals w' => Ap w (some ⟨rb, 0, none⟩) w' ∧ w1.heap.size ≤ w'.heap.size ∧ ((∃ xs r', rRep rCls k r = some (xs, r') ∧ RdS w' rb B (some r') ∧ ∃ a c, vals = [.slice a xs.length c] ∧ OwC eCls (fun b => w1.heap.size ≤ b) w' w1.heap.size 58 a c xs) ∨
          (rRep rCls k r = none ∧ RdS w' rb B none ∧ ∃ a j c, vals = [.slice a j c]))) ⟨hA, Nat.le_refl _, .inl ⟨[], r, rfl, ⟨a0, c0, hb, hS, hc⟩, none, 0, rfl, OwC.nil ..⟩⟩ ?_
        rintro k vals w2 hk ⟨hA2, z2, hI⟩ ih
        rcases hI with ⟨xs, r', hr, hst2, a, c, rfl, hO⟩ | ⟨hr, hst2, a, j, c, rfl⟩
        · have hxl := rRep_len hr
          have hst2' := hst2
          obtain ⟨a2, c2, hb2, hS2, hc2⟩ := hst2
          by_cases hlt2 : k < m
          · refine ldg (fun _ => hb2.cell rfl) ?_
            refine brt ?_ (hp := by simp [hlt2])
            refine cl (one (some r') w2 hst2') ?_
            rintro v3 w3 ⟨hA3, hst3, ⟨d1, d2, d3, d4, d5, rfl⟩, hok3⟩
            have z3 := hA3.size
            have hO3 := hO.rb hA3 (by omega) fun i hi => by omega
            refine bs (cs := [I d1, I d2, .slice d3 d4 d5]) fun b4 w4 h4 => ?_
            have z4 := h4.size
            have y4 := h4.blk
            obtain ⟨ys, e1, e2, hOx, e4⟩ := (hO3.bl h4.bl).row
            refine ap hOx (.inr ⟨b4, 0, rfl, h4.box.at⟩) (by omega) (fun a5 c5 w5 hO5 hA5 hf5 => ?_)
            have hlo : ∀ g, a = some ⟨g, 0, none⟩ → w1.heap.size ≤ g := fun g hg => (hO.lt hg).1
            have hA05 : Ap w (some ⟨rb, 0, none⟩) w5 := ((hA2.trans hA3).thenBl h4.bl).ap hA5 fun g hg => by have := hlo g hg; omega
            have hst5 := (hst3.bl h4.bl hB).ap hA5 hB fun g hg => by have := hlo g hg; omega
            have z5 := hA5.size
            have es := rRep_snoc rCls k r
            rw [hr] at es
            cases hp : rCls r' with
            | none =>
              have hst5 : RdS w5 rb B none := by rw [show (some r' : Option (List UInt8)).bind rCls = none from hp] at hst5; exact hst5
              refine ih hlt2 ⟨hA05, by omega, .inr ⟨by rw [es]; simp only [Option.bind_some]; rw [hp]; rfl, hst5, _, _, _, rfl⟩⟩
            | some yr =>
              obtain ⟨y, r2⟩ := yr
              have hst5 : RdS w5 rb B (some r2) := by rw [show (some r' : Option (List UInt8)).bind rCls = some (y, r2) from hp] at hst5; exact hst5
              have hv := hok3 y r2 hp
              have hrel : (eCls).rel (fun b => w1.heap.size ≤ b ∧ a ≠ some ⟨b, 0, none⟩ ∧ b < w4.heap.size) w4 [I d1, I d2, .slice d3 d4 d5] y := by
                refine (eCls).sub (S := fun b => w2.heap.size ≤ b ∧ b < w3.heap.size) (fun b hb => ⟨by omega, fun e => by have := (hO.lt e).2; omega, by omega⟩) ((eCls).kp (h4.bl.kp _) ?_)
                obtain ⟨cs, e, hr2⟩ := hv
                rw [agg_inj e]; exact hr2
              have hO6 := OwC.push e1 e2 e4 hO5 hA5 hf5 hrel
              refine ih hlt2 ⟨hA05, by omega, .inl ⟨xs ++ [y], r2, ?_, hst5, a5, c5, ?_, hO6⟩⟩
              · rw [es]; simp only [Option.bind_some]; rw [hp]; rfl
              · rw [List.length_append]; rfl
          · refine ldg (fun _ => hb2.cell rfl) ?_
            refine brf ?_ (hp := by simp [hlt2])
            obtain rfl : k = m := by omega
            have hk2 : cur.bind (rList rCls) = some (xs, r') := ck.trans hr
            refine rt1 ⟨hA2, by rw [hk2]; exact hst2', ⟨_, _, _, rfl⟩, fun x y q => ?_⟩
            rw [hk2] at q
            simp only [Option.some.injEq, Prod.mk.injEq] at q
            obtain ⟨rfl, rfl⟩ := q
            exact ⟨_, _, rfl, (hO.sl2 (by omega)).sub fun i hi => ⟨by omega, hi.2⟩⟩
        · have hk2 : cur.bind (rList rCls) = none := ck.trans (rRep_none hr m hk)
          obtain ⟨a2, n2, c2, hb2⟩ := hst2
          refine ldg (fun _ => hb2.cell rfl) ?_
          refine brf ?_
          exact rt1 ⟨hA2, by rw [hk2]; exact ⟨_, _, _, hb2⟩, ⟨_, _, _, rfl⟩, fun x y q => by rw [hk2] at q; cases q⟩
    · have hneg : n < 0 := by simpa using q
      have hk : cur.bind (rList rCls) = none := by rw [ck]; simp only [Option.bind_some]; rw [if_pos hneg]
      refine spn (I 0) ?_
      refine brt ?_ (hp := by simp [hneg])
      refine st hb fun w2 k2 hb2 => ?_
      refine lp (vals := [.slice none 0 0, I 0]) [6, 7] [(0, pr rb), (1, .func (.func gf) #[pr rb] #[]), (5, I n)] (fun m vals w' => vals = [.slice none 0 0, I 0] ∧ w' = w2) ⟨rfl, rfl, rfl, trivial⟩ (m := 0) ⟨rfl, rfl⟩ ?_
      rintro m vals _ ⟨rfl, rfl⟩ _
      refine ldg (fun _ => hb2.cell rfl) ?_
      refine brf ?_
      exact rt1 ⟨hA.trans k2.ap, by rw [hk]; exact ⟨_, _, _, hb2⟩, ⟨_, _, _, rfl⟩, fun x r q => by rw [hk] at q; cases q⟩
set_option maxHeartbeats 1000000 in
theorem u_method (rb B : Nat) (cur : Option (List UInt8)) (w : World) (hR : RdS w rb B cur) (hB : B ≤ rb) : Ret Tryz.prog 99 #[pr rb] w (RdR rMth (vAgg eMth) gMth rb B cur w) := by
  have hlt := hR.lt
  refine entr (vs := [pr rb]) [0, 2, 3, 4, 5, 6, 7] tabok Tryz.func99 (by kernel_rfl) ?_
  refine al fun b1 w1 h1 => ?_
  have y1 := h1.blk
  have z1 := h1.size
  have R1 := hR.bl h1.bl hB
  refine cl (u_number rb B cur w1 R1 hB) ?_
  rintro v w2 ⟨A2, R2, ⟨n2, rfl⟩, k2⟩
  refine cl (u_number rb B _ w2 R2 hB) ?_
  rintro v w3 ⟨A3, R3, ⟨n3, rfl⟩, k3⟩
  refine cl (u_getTy rb B _ w3 R3 hB 148 fun cur w h => u_kind rb B cur w h hB) ?_
  rintro v w4 ⟨A4, R4, ⟨p4, n4, c4, rfl⟩, k4⟩
  refine cl (u_getTy rb B _ w4 R4 hB 148 fun cur w h => u_kind rb B cur w h hB) ?_
  rintro v w5 ⟨A5, R5, ⟨p5, n5, c5, rfl⟩, k5⟩
  refine cl (u_kind rb B _ w5 R5 hB) ?_
  rintro v w6 ⟨A6, R6, ⟨n6, n7, rfl⟩, k6⟩
  refine al fun b7 w7 h7 => ?_
  have z2 := A2.size
  have z3 := A3.size
  have z4 := A4.size
  have z5 := A5.size
  have z6 := A6.size
  have y7 := h7.blk
  have z7 := h7.size
  refine sta h7.box fun w8 k8 x8 => ?_
  have z8 := k8.size
  have B68 : Bl w6 w8 := h7.wr k8
  have R8 := R6.bl B68 hB
  refine dh (fun i => i = b7) (List.range 11) fun w9 h9 => ?_
  have R9 := R8.bl h9.bl hB
  have B69 := B68.trans h9.bl
  have z9 := B69.size
  refine lda (h9.box x8).at ?_ (hm := by exact rfl)
  refine cl (u_getIns rb B _ w9 R9 hB 151 fun cur w h => u_instr rb B cur w h hB) ?_ (hm := by
    intro _ _ r
    exact r.ap.kp.sub fun i hi e => by
      simp only [Option.some.injEq, Addr.mk.injEq, and_true] at e
      omega)
  rintro v w10 ⟨A10, R10, ⟨p10, n10, c10, rfl⟩, k10⟩
  refine bd ?_
  have xb := A10.box (Bl.box B69 (A6.box (A5.box (A4.box (A3.box (A2.box h1.box (ap_ne (by omega))) (ap_ne (by omega))) (ap_ne (by omega))) (ap_ne (by omega))) (ap_ne (by omega)))) (ap_ne (by omega))
  refine sta xb (fun w11 k11 x11 => ?_) (hm := wrS (by omega))
  have z10 := A10.size
  have z11 := k11.size
  have A011 : Ap w (some ⟨rb, 0, none⟩) w11 := ((((((((Ap.bl h1.bl _).trans A2).trans A3).trans A4).trans A5).trans A6).thenBl B69).trans A10).new k11 (by omega)
  have R11 := R10.ap k11.ap hB fun g hg => by simp only [Option.some.injEq, Addr.mk.injEq, and_true] at hg; omega
  have e : cur.bind rMth = (cur.bind rNum).bind fun x => (rNum x.2).bind fun y => (rList rTy y.2).bind fun p => (rList rTy p.2).bind fun q => (rTy q.2).bind fun t => (rList rIns t.2).bind fun c => some (⟨x.1, y.1, p.1, q.1, t.1, c.1⟩, c.2) := by cases cur <;> rfl
  refine rtc x11.at ⟨A011, ?_, ⟨n2, n3, p4, n4, c4, p5, n5, c5, n6, n7, p10, n10, c10, rfl⟩, fun t r q => ?_⟩
  · rw [e]
    cases h0 : cur.bind rNum with
    | none => rw [h0] at R11; exact R11
    | some x0 =>
      rw [h0] at R11
      have R11 : RdS w11 rb B (((((((((((((((rNum) x0.2).map (·.2))).bind (rList rTy)).map (·.2))).bind (rList rTy)).map (·.2))).bind (rTy)).map (·.2))).bind (rList rIns)).map (·.2)) := R11
      simp only [Option.bind_some]
      cases h1 : (rNum) x0.2 with
      | none => rw [h1] at R11; exact R11
      | some x1 =>
        rw [h1] at R11
        have R11 : RdS w11 rb B ((((((((((((rList rTy) x1.2).map (·.2))).bind (rList rTy)).map (·.2))).bind (rTy)).map (·.2))).bind (rList rIns)).map (·.2)) := R11
        simp only [Option.bind_some]
        cases h2 : (rList rTy) x1.2 with
        | none => rw [h2] at R11; exact R11
        | some x2 =>
          rw [h2] at R11
          have R11 : RdS w11 rb B (((((((((rList rTy) x2.2).map (·.2))).bind (rTy)).map (·.2))).bind (rList rIns)).map (·.2)) := R11
          simp only [Option.bind_some]
          cases h3 : (rList rTy) x2.2 with
          | none => rw [h3] at R11; exact R11
          | some x3 =>
            rw [h3] at R11
            have R11 : RdS w11 rb B ((((((rTy) x3.2).map (·.2))).bind (rList rIns)).map (·.2)) := R11
            simp only [Option.bind_some]
            cases h4 : (rTy) x3.2 with
            | none => rw [h4] at R11; exact R11
            | some x4 =>
              rw [h4] at R11
              have R11 : RdS w11 rb B (((rList rIns) x4.2).map (·.2)) := R11
              simp only [Option.bind_some]
              cases h5 : (rList rIns) x4.2 <;> (rw [h5] at R11; exact R11)
  · rw [e] at q
    obtain ⟨x, q1, q⟩ := bind_some q
    obtain ⟨y, q2, q⟩ := bind_some q
    obtain ⟨lp, q3, q⟩ := bind_some q
    obtain ⟨lq, q4, q⟩ := bind_some q
    obtain ⟨lt, q5, q⟩ := bind_some q
    obtain ⟨lc, q6, q⟩ := bind_some q
    simp only [Option.some.injEq, Prod.mk.injEq] at q
    obtain ⟨rfl, _⟩ := q
    have c1 : (((cur.bind rNum).map (·.2)).bind rNum) = some y := by rw [q1]; exact q2
    have c2 : (((((cur.bind rNum).map (·.2)).bind rNum).map (·.2)).bind (rList rTy)) = some lp := by rw [c1]; exact q3
    have c3 : (((((((cur.bind rNum).map (·.2)).bind rNum).map (·.2)).bind (rList rTy)).map (·.2)).bind (rList rTy)) = some lq := by rw [c2]; exact q4
    have c4' : (((((((((cur.bind rNum).map (·.2)).bind rNum).map (·.2)).bind (rList rTy)).map (·.2)).bind (rList rTy)).map (·.2)).bind rTy) = some lt := by rw [c3]; exact q5
    have e2 := k2 x.1 x.2 q1
    have e3 := k3 y.1 y.2 c1
    obtain ⟨a4, d4, e4, S4⟩ := k4 lp.1 lp.2 c2
    obtain ⟨a5, d5, e5, S5⟩ := k5 lq.1 lq.2 c3
    obtain ⟨cs, e6, e7⟩ := k6 lt.1 lt.2 c4'
    obtain ⟨a10, d10, e10, S10⟩ := k10 lc.1 lc.2 (by rw [c4']; exact q6)
    simp only [vNum, Value.int.injEq, true_and] at e2 e3
    obtain ⟨rfl, rfl, rfl⟩ := Value.slice.inj e4
    obtain ⟨rfl, rfl, rfl⟩ := Value.slice.inj e5
    obtain ⟨rfl, rfl, rfl⟩ := Value.slice.inj e10
    have e7 : cs = encTy lt.1 := e7
    have e8 : [I n6, I n7] = encTy lt.1 := (agg_inj e6).trans e7
    simp only [encTy, List.cons.injEq, Value.int.injEq, true_and, and_true] at e8
    obtain ⟨rfl, rfl⟩ := e8
    subst e2 e3
    have nb : ∀ i, i < w6.heap.size → i ≠ rb → (some ⟨rb, 0, none⟩ : Option Addr) ≠ some ⟨i, 0, none⟩ := fun i _ hi e => hi (by simp only [Option.some.injEq, Addr.mk.injEq, and_true] at e; exact e.symm)
    have K : ∀ {S : Nat → Prop}, (∀ i, S i → w1.heap.size ≤ i ∧ i < w6.heap.size) → Kp S w6 w11 := fun hS b o v hs hv => by
      have h1 := hS b hs
      rw [World.cell?_of_block (w := w6) ((k11.block b (by omega)).trans ((A10.block b (by omega) (nb b h1.2 (by omega))).trans (B69.block b h1.2)))]; exact hv
    have S4 := ((S4.kp (A5.kp.sub fun i hi => nb i (by omega) (by omega))).kp (A6.kp.sub fun i hi => nb i (by omega) (by omega))).kp (K fun i hi => by omega)
    have S5 := (S5.kp (A6.kp.sub fun i hi => nb i (by omega) (by omega))).kp (K fun i hi => by omega)
    have S10 := S10.kp (k11.kp fun i hi => by omega)
    exact ⟨[I x.1, I y.1, .slice p4 lp.1.length c4, .slice p5 lq.1.length c5, I lt.1.kind, I lt.1.cls, .slice p10 lc.1.length c10], rfl, p4, c4, p5, c5, p10, c10, rfl, S4.sub fun i hi => ⟨by omega, by omega⟩, S5.sub fun i hi => ⟨by omega, by omega⟩, S10.sub fun i hi => ⟨by omega, by omega⟩⟩
set_option maxHeartbeats 1000000 in
theorem u_getMth (rb B : Nat) (cur : Option (List UInt8)) (w : World) (hR : RdS w rb B cur) (hB : B ≤ rb) (gf : FuncId) (one : ∀ cur w, RdS w rb B cur → Ret Tryz.prog gf #[pr rb] w (RdR rMth (vAgg eMth) gMth rb B cur w)) :
    Ret Tryz.prog 98 #[pr rb, .func (.func gf) #[pr rb] #[]] w (RdR (rList rMth) (vLst eMth) gLst rb B cur w) := by
  have hlt := hR.lt
  refine entr (vs := [pr rb, .func (.func gf) #[pr rb] #[]]) [0, 1, 4, 5, 6, 7, 21, 34] tabok Tryz.func98 (by kernel_rfl) ?_
  refine cl (u_number rb B cur w hR hB) ?_
  rintro v w1 ⟨hA, hst, ⟨n, rfl⟩, hok⟩
  have z1 := hA.size
  have ck := cur_list (p := rMth) (cur := cur)
  cases h1 : cur.bind rNum with
  | none =>
    rw [h1] at hst ck
    have hk : cur.bind (rList rMth) = none := ck
    obtain ⟨a0, n0, c0, hb⟩ := hst
    refine sp (.slice none 0 0) (fun q => ?_) (fun q => ?_)
    · refine ld (hb.cell rfl) ?_
      refine spt (I 0) ?_
      refine iop (quo_run (b := 4) (by decide)) ?_
      refine br (fun h => ?_) (fun h => ?_)
      · refine st hb fun w2 k2 hb2 => ?_
        refine lp (vals := [.slice none 0 0, I 0]) [6, 7] [(0, pr rb), (1, .func (.func gf) #[pr rb] #[]), (5, I n)] (fun m vals w' => vals = [.slice none 0 0, I 0] ∧ w' = w2) ⟨rfl, rfl, rfl, trivial⟩ (m := 0) ⟨rfl, rfl⟩ ?_
        rintro m vals _ ⟨rfl, rfl⟩ _
        refine ldg (fun _ => hb2.cell rfl) ?_
        refine brf ?_
        exact rt1 ⟨hA.trans k2.ap, by rw [hk]; exact ⟨_, _, _, hb2⟩, ⟨_, _, _, rfl⟩, fun x r q => by rw [hk] at q; cases q⟩
      · skip
        refine lp (vals := [.slice none 0 0, I 0]) [6, 7] [(0, pr rb), (1, .func (.func gf) #[pr rb] #[]), (5, I n)] (fun m vals w' => vals = [.slice none 0 0, I 0] ∧ w' = w1) ⟨rfl, rfl, rfl, trivial⟩ (m := 0) ⟨rfl, rfl⟩ ?_
        rintro m vals _ ⟨rfl, rfl⟩ _
        refine ldg (fun _ => hb.cell rfl) ?_
        refine brf ?_
        exact rt1 ⟨hA, by rw [hk]; exact ⟨_, _, _, hb⟩, ⟨_, _, _, rfl⟩, fun x r q => by rw [hk] at q; cases q⟩
    · have hneg : n < 0 := by simpa using q
      refine spn (I 0) ?_
      refine brt ?_ (hp := by simp [hneg])
      refine st hb fun w2 k2 hb2 => ?_
      refine lp (vals := [.slice none 0 0, I 0]) [6, 7] [(0, pr rb), (1, .func (.func gf) #[pr rb] #[]), (5, I n)] (fun m vals w' => vals = [.slice none 0 0, I 0] ∧ w' = w2) ⟨rfl, rfl, rfl, trivial⟩ (m := 0) ⟨rfl, rfl⟩ ?_
      rintro m vals _ ⟨rfl, rfl⟩ _
      refine ldg (fun _ => hb2.cell rfl) ?_
      refine brf ?_
      exact rt1 ⟨hA.trans k2.ap, by rw [hk]; exact ⟨_, _, _, hb2⟩, ⟨_, _, _, rfl⟩, fun x r q => by rw [hk] at q; cases q⟩
  | some xr =>
    obtain ⟨m0, r⟩ := xr
    have e0 := hok _ _ h1
    simp only [vNum, Value.int.injEq, true_and] at e0
    subst e0
    rw [h1] at hst ck
    obtain ⟨a0, c0, hb, hS, hc⟩ := hst
    have hlen : r.length ≤ 4194304 := hS.big
    have hc : r.length ≤ c0 := hc
    refine sp (.slice none 0 0) (fun q => ?_) (fun q => ?_)
    · have hn0 : 0 ≤ n := by simpa using q
      obtain ⟨m, rfl⟩ : ∃ m : Nat, n = (m : Int) := ⟨n.toNat, by omega⟩
      have ck : cur.bind (rList rMth) = rRep rMth m r := by rw [ck]; simp only [Option.bind_some]; rw [if_neg (by omega)]; rfl
      refine ld (hb.cell rfl) ?_
      refine spt (I 0) ?_
      refine iop (quo_run (b := 4) (by decide)) ?_
      have hq : IntKind.i64.wrap ((r.length : Int).tdiv 4) = ((r.length / 4 : Nat) : Int) := by
        have : (r.length : Int).tdiv 4 = ((r.length / 4 : Nat) : Int) := by rw [Int.tdiv_eq_ediv_of_nonneg (by omega)]; omega
        rw [this, wrap_fit (by omega) (by omega)]
      rw [hq]
      refine br (fun h => ?_) (fun h => ?_)
      · have hbig : r.length / 4 < m := by simp at h; omega
        have hk : cur.bind (rList rMth) = none := by
          rw [ck]
          cases hr : rRep rMth m r with
          | none => rfl
          | some y =>
            have := rRep_min min_mth _ _ _ _ hr
            omega
        refine st hb fun w2 k2 hb2 => ?_
        refine lp (vals := [.slice none 0 0, I 0]) [6, 7] [(0, pr rb), (1, .func (.func gf) #[pr rb] #[]), (5, I (m : Int))] (fun m vals w' => vals = [.slice none 0 0, I 0] ∧ w' = w2) ⟨rfl, rfl, rfl, trivial⟩ (m := 0) ⟨rfl, rfl⟩ ?_
        rintro m vals _ ⟨rfl, rfl⟩ _
        refine ldg (fun _ => hb2.cell rfl) ?_
        refine brf ?_
        exact rt1 ⟨hA.trans k2.ap, by rw [hk]; exact ⟨_, _, _, hb2⟩, ⟨_, _, _, rfl⟩, fun x r q => by rw [hk] at q; cases q⟩
      · have hsm : m ≤ r.length / 4 := by simp at h; omega
        refine lpk m 7 [6] [(0, pr rb), (1, .func (.func gf) #[pr rb] #[]), (5, I m)] (fun k vals w' => Ap w (some ⟨rb, 0, none⟩) w' ∧ w1.heap.size ≤ w'.heap.size ∧ ((∃ xs r', rRep rMth k r = some (xs, r') ∧ RdS w' rb B (some r') ∧ ∃ a c, vals = [.slice a xs.length c] ∧ OwC eMth (fun b => w1.heap.size ≤ b) w' w1.heap.size 64 a c xs) ∨
          (rRep rMth k r = none ∧ RdS w' rb B none ∧ ∃ a j c, vals = [.slice a j c]))) ⟨hA, Nat.le_refl _, .inl ⟨[], r, rfl, ⟨a0, c0, hb, hS, hc⟩, none, 0, rfl, OwC.nil ..⟩⟩ ?_
        rintro k vals w2 hk ⟨hA2, z2, hI⟩ ih
        rcases hI with ⟨xs, r', hr, hst2, a, c, rfl, hO⟩ | ⟨hr, hst2, a, j, c, rfl⟩
        · have hxl := rRep_len hr
          have hst2' := hst2
          obtain ⟨a2, c2, hb2, hS2, hc2⟩ := hst2
          by_cases hlt2 : k < m
          · refine ldg (fun _ => hb2.cell rfl) ?_
            refine brt ?_ (hp := by simp [hlt2])
            refine cl (one (some r') w2 hst2') ?_
            rintro v3 w3 ⟨hA3, hst3, ⟨d1, d2, d3, d4, d5, d6, d7, d8, d9, d10, d11, d12, d13, rfl⟩, hok3⟩
            have z3 := hA3.size
            have hO3 := hO.rb hA3 (by omega) fun i hi => by omega
            refine bs (cs := [I d1, I d2, .slice d3 d4 d5, .slice d6 d7 d8, I d9, I d10, .slice d11 d12 d13]) fun b4 w4 h4 => ?_
            have z4 := h4.size
            have y4 := h4.blk
            obtain ⟨ys, e1, e2, hOx, e4⟩ := (hO3.bl h4.bl).row
            refine ap hOx (.inr ⟨b4, 0, rfl, h4.box.at⟩) (by omega) (fun a5 c5 w5 hO5 hA5 hf5 => ?_)
            have hlo : ∀ g, a = some ⟨g, 0, none⟩ → w1.heap.size ≤ g := fun g hg => (hO.lt hg).1
            have hA05 : Ap w (some ⟨rb, 0, none⟩) w5 := ((hA2.trans hA3).thenBl h4.bl).ap hA5 fun g hg => by have := hlo g hg; omega
            have hst5 := (hst3.bl h4.bl hB).ap hA5 hB fun g hg => by have := hlo g hg; omega
            have z5 := hA5.size
            have es := rRep_snoc rMth k r
            rw [hr] at es
            cases hp : rMth r' with
            | none =>
              have hst5 : RdS w5 rb B none := by rw [show (some r' : Option (List UInt8)).bind rMth = none from hp] at hst5; exact hst5
              refine ih hlt2 ⟨hA05, by omega, .inr ⟨by rw [es]; simp only [Option.bind_some]; rw [hp]; rfl, hst5, _, _, _, rfl⟩⟩
            | some yr =>
              obtain ⟨y, r2⟩ := yr
              have hst5 : RdS w5 rb B (some r2) := by rw [show (some r' : Option (List UInt8)).bind rMth = some (y, r2) from hp] at hst5; exact hst5
              have hv := hok3 y r2 hp
              have hrel : (eMth).rel (fun b => w1.heap.size ≤ b ∧ a ≠ some ⟨b, 0, none⟩ ∧ b < w4.heap.size) w4 [I d1, I d2, .slice d3 d4 d5, .slice d6 d7 d8, I d9, I d10, .slice d11 d12 d13] y := by
                refine (eMth).sub (S := fun b => w2.heap.size ≤ b ∧ b < w3.heap.size) (fun b hb => ⟨by omega, fun e => by have := (hO.lt e).2; omega, by omega⟩) ((eMth).kp (h4.bl.kp _) ?_)
                obtain ⟨cs, e, hr2⟩ := hv
                rw [agg_inj e]; exact hr2
              have hO6 := OwC.push e1 e2 e4 hO5 hA5 hf5 hrel
              refine ih hlt2 ⟨hA05, by omega, .inl ⟨xs ++ [y], r2, ?_, hst5, a5, c5, ?_, hO6⟩⟩
              · rw [es]; simp only [Option.bind_some]; rw [hp]; rfl
              · rw [List.length_append]; rfl
          · refine ldg (fun _ => hb2.cell rfl) ?_
            refine brf ?_ (hp := by simp [hlt2])
            obtain rfl : k = m := by omega
            have hk2 : cur.bind (rList rMth) = some (xs, r') := ck.trans hr
            refine rt1 ⟨hA2, by rw [hk2]; exact hst2', ⟨_, _, _, rfl⟩, fun x y q => ?_⟩
            rw [hk2] at q
            simp only [Option.some.injEq, Prod.mk.injEq] at q
            obtain ⟨rfl, rfl⟩ := q
            exact ⟨_, _, rfl, (hO.sl2 (by omega)).sub fun i hi => ⟨by omega, hi.2⟩⟩
        · have hk2 : cur.bind (rList rMth) = none := ck.trans (rRep_none hr m hk)
          obtain ⟨a2, n2, c2, hb2⟩ := hst2
          refine ldg (fun _ => hb2.cell rfl) ?_
          refine brf ?_
          exact rt1 ⟨hA2, by rw [hk2]; exact ⟨_, _, _, hb2⟩, ⟨_, _, _, rfl⟩, fun x y q => by rw [hk2] at q; cases q⟩
    · have hneg : n < 0 := by simpa using q
      have hk : cur.bind (rList rMth) = none := by rw [ck]; simp only [Option.bind_some]; rw [if_pos hneg]
      refine spn (I 0) ?_
      refine brt ?_ (hp := by simp [hneg])
      refine st hb fun w2 k2 hb2 => ?_
      refine lp (vals := [.slice none 0 0, I 0]) [6, 7] [(0, pr rb), (1, .func (.func gf) #[pr rb] #[]), (5, I n)] (fun m vals w' => vals = [.slice none 0 0, I 0] ∧ w' = w2) ⟨rfl, rfl, rfl, trivial⟩ (m := 0) ⟨rfl, rfl⟩ ?_
      rintro m vals _ ⟨rfl, rfl⟩ _
      refine ldg (fun _ => hb2.cell rfl) ?_
      refine brf ?_
      exact rt1 ⟨hA.trans k2.ap, by rw [hk]; exact ⟨_, _, _, hb2⟩, ⟨_, _, _, rfl⟩, fun x r q => by rw [hk] at q; cases q⟩
end Go.Proofs.YtopjmiklpnejmaaGreatDoor

/- Walks: a pool takes in a string, in the program and in the document. -/
namespace Go.Proofs.YtopjmiklpnejmaaGreatDoor
open Eng Go.RowKit
theorem own_shape {w : World} {base e esz n : Nat} {v : Value} {xs : List Value} (h : w.ownsRow base e esz v n xs) : ∃ a cap, v = .slice a n cap ∧ Ow w base e esz a n cap xs := by
  obtain ⟨h1, h2⟩ := h
  rcases h2 with ⟨rfl, rfl⟩ | ⟨g, cap, cur, rfl, h3⟩
  · exact ⟨none, 0, rfl, ⟨h1, .inl ⟨rfl, rfl⟩⟩⟩
  · exact ⟨_, _, rfl, ⟨h1, .inr ⟨g, cap, cur, rfl, h3⟩⟩⟩
theorem str_cells {S : Nat → Prop} {w : World} {a : Option Addr} {x : ByteArray} {l : List ByteArray} (h : Sl eStr S w a (x :: l)) : ∃ b o, a = some ⟨b, o, none⟩ ∧ ∀ j, j < (x :: l).length → w.cell? ⟨b, o + j, none⟩ = some (.string ((x :: l).getD j ByteArray.empty)) := by
  obtain ⟨b, o, cs, e, _, _, _⟩ := h.el 0 x rfl
  refine ⟨b, o, e, fun j hj => ?_⟩
  obtain ⟨y, hy⟩ := some_of_lt hj
  obtain ⟨b', o', cs', e', _, hat, rfl⟩ := h.el j y hy
  rw [e] at e'
  simp only [Option.some.injEq, Addr.mk.injEq, and_true] at e'
  obtain ⟨rfl, rfl⟩ := e'
  have hc := hat 0 _ rfl
  have hd : (x :: l).getD j ByteArray.empty = y := by rw [List.getD_eq_getElem?_getD, hy]; rfl
  rw [hd]
  simpa [eStr, plainEl] using hc
theorem c_CloneStr (l : List ByteArray) (a : Option Addr) (cap : Nat) (S : Nat → Prop) (w : World) (hS : Sl eStr S w a l) :
    Ret Tryz.prog 70 #[.slice a l.length cap] w fun v w' => ∃ a' cap', v = .slice a' l.length cap' ∧ OwP 1 encStr w' w.heap.size 9 a' cap' l ∧ Bl w w' := by
  have hbig := hS.big
  refine ⟨by kernel_rfl, ?_⟩
  cases l with
  | nil =>
    cases a with
    | none =>
      refine (Tryz.slices_Clone_string_nil 0 cap w).mono ?_
      rintro e w' ⟨rfl, rfl⟩
      exact ⟨none, 0, rfl, Ow.nil .., Bl.refl _⟩
    | some a =>
      refine (Tryz.slices_Clone_string_zero a cap w).mono ?_
      rintro e w' ⟨v, rfl, h1, _, h2⟩
      obtain ⟨a', cap', rfl, hO⟩ := own_shape h1
      exact ⟨a', cap', rfl, hO, h2⟩
  | cons x l =>
    obtain ⟨b, o, rfl, hc⟩ := str_cells hS
    refine (Tryz.slices_Clone_string b o (x :: l).length cap (x :: l) w (Nat.le_refl _) (by omega) hc).mono ?_
    rintro e w' ⟨v, rfl, h1, _, h2⟩
    obtain ⟨a', cap', rfl, hO⟩ := own_shape h1
    rw [List.take_length, List.map_eq_flatMap] at hO
    exact ⟨a', cap', rfl, hO, h2⟩
theorem c_IndexStr (l : List ByteArray) (a : Option Addr) (cap : Nat) (s : ByteArray) (S : Nat → Prop) (w : World) (hS : Sl eStr S w a l) :
    Ret Tryz.prog 67 #[.slice a l.length cap, .string s] w fun v w' => v = I (Lib.idxOfS l s) ∧ w' = w := by
  have hbig := hS.big
  refine ⟨by kernel_rfl, ?_⟩
  cases l with
  | nil =>
    refine (Tryz.slices_Index_string_empty a cap s w).mono ?_
    rintro e w' ⟨rfl, rfl⟩
    exact ⟨rfl, rfl⟩
  | cons x l =>
    obtain ⟨b, o, rfl, hc⟩ := str_cells hS
    refine (Tryz.slices_Index_string b o (x :: l).length cap (x :: l) s w (Nat.le_refl _) (by omega) hc).mono ?_
    rintro e w' ⟨rfl, rfl⟩
    rw [List.take_length]
    exact ⟨rfl, rfl⟩
def noP (x : ByteArray) : Bool := decide ((path x : Int) = 0)
def inE (l : List ByteArray) (s : ByteArray) : Int :=
  if (noP s || l.any noP) = true then 8 else if dup l = true then 9 else if 60 < l.length ∨ (Lib.idxOfS l s < 0 ∧ l.length = 60) then 2 else 0
def inL (l : List ByteArray) (s : ByteArray) : List ByteArray := if inE l s = 0 then (if Lib.idxOfS l s < 0 then l ++ [s] else l) else []
def inA (l : List ByteArray) (s : ByteArray) : Int := if inE l s = 0 then (if Lib.idxOfS l s < 0 then (l.length : Int) else Lib.idxOfS l s) else 0
/-- what both give -/
def InR (l : List ByteArray) (s : ByteArray) (w : World) (v : Value) (w' : World) : Prop := ∃ a cap, v = .tuple #[.slice a (inL l s).length cap, I (inA l s), I (inE l s)] ∧ Sl eStr T w' a (inL l s) ∧ Bl w w'
theorem inR_no {l : List ByteArray} {s : ByteArray} {w w' : World} {e : Int} (h : inE l s = e) (h0 : e ≠ 0) (hB : Bl w w') : InR l s w (.tuple #[.slice none 0 0, I 0, I e]) w' := by
  refine ⟨none, 0, ?_, ?_, hB⟩
  · unfold inL inA; rw [h, if_neg h0, if_neg h0]; rfl
  · unfold inL; rw [h, if_neg h0]; exact Sl.nil ..
theorem inR_yes {l m : List ByteArray} {s : ByteArray} {w w' : World} {a : Option Addr} {cap : Nat} {i : Int} (h : inE l s = 0) (hm : m = if Lib.idxOfS l s < 0 then l ++ [s] else l) (hi : i = if Lib.idxOfS l s < 0 then (l.length : Int) else Lib.idxOfS l s) (hS : Sl eStr T w' a m) (hB : Bl w w') :
    InR l s w (.tuple #[.slice a m.length cap, I i, I 0]) w' := by
  have e1 : inL l s = m := by unfold inL; rw [if_pos h, hm]
  have e2 : inA l s = i := by unfold inA; rw [if_pos h, hi]
  exact ⟨a, cap, by rw [e1, e2, h], by rw [e1]; exact hS, hB⟩
theorem u_Intern1 (s : ByteArray) (w : World) (hs : s.size ≤ 1048576) (hG : Gl w) : Ret Tryz.prog 68 #[.string s] w fun v w' => v = .bool (noP s) ∧ Bl w w' := by
  refine entr (vs := [.string s]) [0, 2] tabok Tryz.func68 (by kernel_rfl) ?_
  refine cl (u_Path s w hs hG) ?_
  rintro _ w1 ⟨rfl, h1⟩
  exact rt1 ⟨rfl, h1⟩
theorem u_Intern (l : List ByteArray) (a : Option Addr) (cap : Nat) (s : ByteArray) (w : World) (hS : Sl eStr T w a l) (hl : ∀ x ∈ l, x.size ≤ 1048576) (hs : s.size ≤ 1048576) (hG : Gl w) :
    Ret Tryz.prog 24 #[.slice a l.length cap, .string s] w (InR l s w) := by
  have hbig := hS.big
  refine entr (vs := [.slice a l.length cap, .string s]) [0, 1, 4, 5, 6, 7, 11, 19, 22, 35] tabok Tryz.func24 (by kernel_rfl) ?_
  refine cl (c_IndexStr l a cap s T w hS) ?_
  rintro _ w ⟨rfl, rfl⟩
  refine cl (u_Path s w hs hG) ?_
  rintro _ w1 ⟨rfl, h1⟩
  by_cases hp : (path s : Int) = 0
  · refine sp (.bool true) (fun q => ?_) (fun _ => ?_)
    · exact absurd q (by simp [hp])
    refine brt ?_ (hp := by simp [hp])
    exact rt3 (inR_no (by unfold inE; rw [if_pos (by simp [noP, hp])]) (by decide) h1)
  refine spt (.bool true) ?_ (hb := by rw [decide_eq_false hp])
  refine cl (ContainsFunc_str l a cap 68 [] noP T w1 (hS.bl h1) (fun x cs hx w' hB hr => by
    have e : cs = encStr x := hr
    subst e
    exact u_Intern1 x w' (hl x hx) (hG.bl (h1.trans hB)))) ?_
  rintro _ w2 ⟨rfl, h2⟩
  have h02 := h1.trans h2
  refine br (fun h => ?_) (fun h => ?_)
  · have h' : l.any noP = true := by simpa [hp] using h
    exact rt3 (inR_no (by unfold inE; rw [if_pos (by rw [h']; simp)]) (by decide) h02)
  have h' : l.any noP = false := by simpa [hp] using h
  have hn0 : (noP s || l.any noP) = false := by rw [h', Bool.or_false]; exact decide_eq_false hp
  refine cl (u_twice l a cap T w2 (hS.bl h02)) ?_
  rintro _ w3 ⟨rfl, h3⟩
  have h03 := h02.trans h3
  refine br (fun hd => ?_) (fun hd => ?_)
  · exact rt3 (inR_no (e := 9) (by unfold inE; rw [hn0, hd]; simp) (by decide) h03)
  refine br (fun h => ?_) (fun h => ?_)
  · refine rt3 (inR_no (by unfold inE; rw [hn0, hd, if_neg (by decide), if_neg (by decide), if_pos]; simp only [Bool.or_eq_true, Bool.and_eq_true, decide_eq_true_eq] at h; omega) (by decide) h03)
  have hE : inE l s = 0 := by
    unfold inE
    rw [hn0, hd, if_neg (by decide), if_neg (by decide), if_neg]
    simp only [Bool.or_eq_false_iff, Bool.and_eq_false_iff, decide_eq_false_iff_not] at h
    omega
  refine br (fun hi => ?_) (fun hi => ?_)
  · have hi := of_decide_eq_true hi
    refine cl (c_CloneStr l a cap T w3 (hS.bl h03)) ?_
    rintro _ w4 ⟨a4, cap4, rfl, hO4, h4⟩
    refine bs fun b5 w5 h5 => ?_
    refine apl (enc := encStr) (l0 := l) (l1 := [s]) (hO4.bl h5.bl) (.inr ⟨b5, 0, rfl, h5.box.at⟩) (by have := h4.size; have := h5.size; omega) (fun a6 cap6 w6 hO6 hA6 hf6 => ?_)
    have h36 : Bl w3 w6 := (hO4.bl h5.bl).below hA6 (h4.trans h5.bl) (by have := h4.size; have := h5.size; omega)
    refine rt3 (inR_yes hE (by rw [if_pos hi]) (by rw [if_pos hi]) (owp_sl hO6 (by simp only [List.length_append, List.length_cons, List.length_nil]; simp only [Bool.or_eq_false_iff, Bool.and_eq_false_iff, decide_eq_false_iff_not] at h; omega) fun _ _ => trivial) (h03.trans h36))
  · have hi := of_decide_eq_false hi
    refine cl (c_CloneStr l a cap T w3 (hS.bl h03)) ?_
    rintro _ w4 ⟨a4, cap4, rfl, hO4, h4⟩
    exact rt3 (inR_yes hE (by rw [if_neg hi]) (by rw [if_neg hi]) (owp_sl hO4 hbig fun _ _ => trivial) (h03.trans h4))
theorem last_idx {l : List ByteArray} {s : ByteArray} {i : Int} (hd : dup l = false) (h1 : s ∈ l → 0 ≤ i ∧ l[i.toNat]? = some s) (h2 : s ∉ l → i = -1) : i = Lib.idxOfS l s := by
  by_cases hm : s ∈ l
  · obtain ⟨h0, hi⟩ := h1 hm
    have hlt := (List.getElem?_eq_some_iff.1 hi).1
    have hnd : (l.map toL).Nodup := by
      have h := dup_nodup l
      rw [hd] at h
      simpa using h
    have := Lib.idxOfS_hit l l.length i.toNat s hlt (Nat.le_refl _) (by rw [List.getD_eq_getElem?_getD, hi]; rfl) (fun j hj e => by
      have hjl : j < l.length := by omega
      rw [List.getD_eq_getElem?_getD, List.getElem?_eq_getElem hjl] at e
      have e' : l[j] = s := e
      have hi' : l[i.toNat] = s := (List.getElem?_eq_some_iff.1 hi).2
      have h3 := List.pairwise_iff_getElem.1 hnd j i.toNat (by rw [List.length_map]; exact hjl) (by rw [List.length_map]; exact hlt) hj
      rw [List.getElem_map, List.getElem_map, e', hi'] at h3
      exact h3 rfl)
    rw [List.take_length] at this
    rw [this]; omega
  · rw [h2 hm]
    have := Lib.idxOfS_miss l l.length s (fun j hj e => hm (by
      rw [List.getD_eq_getElem?_getD, List.getElem?_eq_getElem hj] at e
      have e' : l[j] = s := e
      rw [← e']; exact List.getElem_mem hj))
    rw [List.take_length] at this
    exact this.symm
theorem r_Intern (l : List ByteArray) (a : Option Addr) (cap : Nat) (s : ByteArray) (w : World) (hS : Sl eStr T w a l) (hl : ∀ x ∈ l, x.size ≤ 1048576) (hs : s.size ≤ 1048576) :
    Ret Tryz.prog 25 #[.slice a l.length cap, .string s] w (InR l s w) := by
  have hbig := hS.big
  refine entr (vs := [.slice a l.length cap, .string s]) [0, 1, 4, 5, 6, 7, 8, 9, 10, 14, 22, 25, 27, 33, 41, 44, 53] tabok Tryz.func25 (by kernel_rfl) ?_
  refine lpk l.length 7 [] [(0, .slice a l.length cap), (1, .string s)] (fun k vals w' => vals = [] ∧ (l.take k).any noP = false ∧ Bl w w') ⟨rfl, rfl, Bl.refl _⟩ ?_
  rintro k vals w1 hk ⟨rfl, ha, h1⟩ ih
  by_cases hlt : k < l.length
  · refine brT ?_
    obtain ⟨x, b, o, cs, hx, rfl, _, hAt, rfl⟩ := at_some (hS.bl h1) hlt
    refine ix ?_
    refine ld (hAt 0 _ rfl) ?_
    refine cl (r_Path x w1 (hl x (List.mem_of_getElem? hx))) ?_
    rintro _ w2 ⟨rfl, h2⟩
    refine br (fun h => ?_) (fun h => ?_)
    · have : l.any noP = true := any_hit (p := noP) hx h
      exact rt3 (inR_no (by unfold inE; rw [if_pos (by rw [this]; simp)]) (by decide) (h1.trans h2))
    · exact ih hlt ⟨rfl, any_snoc (p := noP) hx ha h, h1.trans h2⟩
  refine brF ?_
  obtain rfl : k = l.length := by omega
  clear ih
  rw [List.take_length] at ha
  refine cl (r_Path s w1 hs) ?_
  rintro _ w2 ⟨rfl, h2⟩
  have h02 := h1.trans h2
  refine br (fun h => ?_) (fun h => ?_)
  · exact rt3 (inR_no (by unfold inE; rw [if_pos (by simp only [noP, h, Bool.true_or])]) (by decide) h02)
  have hn0 : (noP s || l.any noP) = false := by rw [ha]; simp only [noP, h]; rfl
  refine cl (r_twice l a cap T w2 (hS.bl h02)) ?_
  rintro _ w3 ⟨rfl, h3⟩
  have h03 := h02.trans h3
  refine br (fun hd => ?_) (fun hd => ?_)
  · exact rt3 (inR_no (e := 9) (by unfold inE; rw [hn0, hd]; simp) (by decide) h03)
  refine apl (enc := encStr) (base := w3.heap.size) (l0 := []) (l1 := l) (Ow.nil ..) (src_of (hS.bl h03)) (Nat.le_refl _) (fun a4 cap4 w4 hO4 hA4 hf4 => ?_)
  have h34 : Bl w3 w4 := hA4.below (Nat.le_refl _) fun g hg => absurd hg nn
  have h04 := h03.trans h34
  refine lpk l.length 10 [9] [(0, .slice a l.length cap), (1, .string s), (8, .slice a4 l.length cap4)] (fun k vals w' => ∃ i : Int, vals = [I i] ∧ (s ∈ l.take k → 0 ≤ i ∧ l[i.toNat]? = some s) ∧ (s ∉ l.take k → i = -1) ∧ w' = w4) ⟨-1, rfl, by simp, fun _ => rfl, rfl⟩ ?_
  rintro k vals _ hk ⟨i, rfl, hi1, hi2, rfl⟩ ih
  by_cases hlt : k < l.length
  · refine brT ?_
    obtain ⟨x, b, o, cs, hx, rfl, _, hAt, rfl⟩ := at_some (hS.bl h04) hlt
    refine ix ?_
    refine ld (hAt 0 _ rfl) ?_
    refine br (fun h => ?_) (fun h => ?_)
    · have h := of_decide_eq_true h
      refine ih hlt ⟨k, rfl, fun _ => ⟨by omega, ?_⟩, fun hn => absurd ?_ hn, rfl⟩
      · rw [Int.toNat_natCast, hx, h]
      · rw [take_succ_some hx, h]; simp
    · have h := of_decide_eq_false h
      refine ih hlt ⟨i, rfl, fun hm => hi1 ?_, fun hm => hi2 fun hn => hm ?_, rfl⟩
      · rw [take_succ_some hx, List.mem_append] at hm
        rcases hm with hm | hm
        · exact hm
        · exact absurd (List.mem_singleton.1 hm).symm h
      · rw [take_succ_some hx]; exact List.mem_append_left _ hn
  refine brF ?_
  obtain rfl : k = l.length := by omega
  clear ih
  rw [List.take_length] at hi1 hi2
  obtain rfl := last_idx hd hi1 hi2
  have hres : ∀ (hx : 60 < l.length ∨ (Lib.idxOfS l s < 0 ∧ l.length = 60)), inE l s = 2 := fun hx => by
    unfold inE; rw [hn0, hd, if_neg (by decide), if_neg (by decide), if_pos hx]
  have hres0 : ∀ (hx : ¬ (60 < l.length ∨ (Lib.idxOfS l s < 0 ∧ l.length = 60))), inE l s = 0 := fun hx => by
    unfold inE; rw [hn0, hd, if_neg (by decide), if_neg (by decide), if_neg hx]
  refine br (fun hi => ?_) (fun hi => ?_)
  · have hi := of_decide_eq_true hi
    refine bs fun b5 w5 h5 => ?_
    refine apl (enc := encStr) (l0 := l) (l1 := [s]) (Eng.Ow.bl hO4 h5.bl) (.inr ⟨b5, 0, rfl, h5.box.at⟩) (by have := h34.size; have := h5.size; omega) (fun a6 cap6 w6 hO6 hA6 hf6 => ?_)
    have h36 : Bl w3 w6 := (Eng.Ow.bl hO4 h5.bl).below hA6 (h34.trans h5.bl) (by have := h34.size; have := h5.size; omega)
    refine br (fun h => ?_) (fun h => ?_)
    · have h := of_decide_eq_true h
      simp only [List.length_append, List.length_cons, List.length_nil] at h
      exact rt3 (inR_no (hres (by omega)) (by decide) (h03.trans h36))
    · have h := of_decide_eq_false h
      simp only [List.length_append, List.length_cons, List.length_nil] at h
      refine rt3 (inR_yes (hres0 (by omega)) (by rw [if_pos hi]) (by rw [if_pos hi]) (owp_sl hO6 (by simp only [List.length_append, List.length_cons, List.length_nil]; omega) fun _ _ => trivial) (h03.trans h36))
  · have hi := of_decide_eq_false hi
    refine br (fun h => ?_) (fun h => ?_)
    · have h := of_decide_eq_true h
      exact rt3 (inR_no (hres (by have : ([] ++ l).length = l.length := rfl; omega)) (by decide) h04)
    · have h := of_decide_eq_false h
      exact rt3 (inR_yes (hres0 (by have : ([] ++ l).length = l.length := rfl; omega)) (by rw [if_neg hi]; rfl) (by rw [if_neg hi]) (owp_sl hO4 hbig fun _ _ => trivial) h04)
end Go.Proofs.YtopjmiklpnejmaaGreatDoor

/- Walks: slices.Clone at structs (printed by mkcl.py); a unit cloned, in the program. -/
namespace Go.Proofs.YtopjmiklpnejmaaGreatDoor
open Eng Go.RowKit
theorem sl_none {α : Type} {E : El α} {S : Nat → Prop} {w : World} {a : Option Addr} {l : List α} (h : Sl E S w a l) (ha : a.isNone = true) : l = [] := by
  cases l with
  | nil => rfl
  | cons x l =>
    obtain ⟨b, o, cs, e, _⟩ := h.el 0 x rfl
    rw [e] at ha; cases ha
theorem bl_ap {w w' w'' : World} {a : Option Addr} (h : Bl w w') (k : Ap w' a w'') (ha : ∀ g, a = some ⟨g, 0, none⟩ → w.heap.size ≤ g) : Bl w w'' := Below.trans h (k.below h.size ha)
theorem eql_nil {P : Program} {w : World} {t e : TypeId} {a : Option Addr} {n c : Nat} (h : P.underlying t = some (.slice e)) : (binOp .eql t (.slice a n c) (.slice none 0 0)).run P w = .ok (.bool a.isNone) w := by
  have h1 : ∀ d : Nat, (Op.equalIn (d + 1) t (.slice a n c) (.slice none 0 0)).run P w = .ok a.isNone w := fun d => by
    cases a <;> simp [Op.equalIn, run_underlying h]
  have h2 : (Op.equal t (.slice a n c) (.slice none 0 0)).run P w = .ok a.isNone w := h1 9999
  simp [binOp, h2]
/-- a slice against nil -/
theorem Eng.bnil {C : Cx} {s : St} {w : World} {md : Option Md} {ops : Array Oper} {T T' : TypeId} {x y : Operand} {d : Nat} {ty : TypeId} {pos : String} {af : Array Edge} {g : Option (Nat × Bool)} {rest : List Oper} {k : List Item} {l : Env} {c : CEnv} {a : Option Addr} {n cp : Nat} {e esz by' sz : Nat} {ag : Bool} {zr : List Value}
    (h : Wk C (.reg md ops rest k ((d, .bool a.isNone) :: l) c) w)
    (hs : adv C.tab C.n C.ks 400 s = .opn md ops ⟨some d, .binOp .eql T x y T', ty, pos, af, g⟩ rest k l c [] := by rfl) (hx : evc l c [] x = some (.slice a n cp) := by rfl) (hy : evc l c [] y = some (.slice none 0 0) := by rfl) (ht : C.tab.at T = some ⟨.slice e esz by', sz, ag, zr⟩ := by rfl) (hf : fresh d l c [] = true := by rfl) : Wk C s w :=
  rd (p := []) (fun hT _ hA hp w' _ => by
    obtain ⟨dd, x0, z0, hTT⟩ := tiOk_und (tab_at hT ht)
    obtain ⟨rfl, _⟩ := hTT.sl _ _ _ rfl
    simp only [execOp, evc_ok hA.k hA.kc.c hp hx, evc_ok hA.k hA.kc.c hp hy]
    exact run_bind_ok (run_bind_ok (show (eqGuard .eql T x y (.slice a n cp) (.slice none 0 0)).run C.P w' = .ok () w' from rfl) |>.trans (eql_nil hTT.und)) |>.trans rfl) h hs rfl hf (okR_no rfl)
theorem c_CloneCls (l : List ClR) (a : Option Addr) (cap : Nat) (S : Nat → Prop) (w : World) (hS : Sl eC S w a l) :
    Ret Tryz.prog 138 #[.slice a l.length cap] w fun v w' => ∃ a' cap', v = .slice a' l.length cap' ∧ OwP 3 encC w' w.heap.size 58 a' cap' l ∧ Bl w w' := by
  have hbig := hS.big
  refine entr (vs := [.slice a l.length cap]) [0, 2, 4] tabok Tryz.func138 (by kernel_rfl) ?_
  refine bnil ?_
  refine br (t := a.isNone) (fun h => ?_) (fun h => ?_)
  · have hl := sl_none hS h
    subst hl
    exact rt1 ⟨none, 0, rfl, Ow.nil .., Bl.refl _⟩
  refine bs (cs := []) fun b1 w1 h1 => ?_
  refine apl (enc := encC) (base := w.heap.size) (l0 := []) (l1 := l) (Ow.base (Ow.made (n := 0) h1 rfl (by omega)) (by rw [h1.blk]; exact Nat.le_refl _)) (src_of (hS.bl h1.bl)) (by rw [h1.size]; omega) (fun a' cap' w2 hO hA hf => ?_)
  exact rt1 ⟨a', cap', rfl, hO, bl_ap h1.bl hA fun g hg => by
    simp only [Option.some.injEq, Addr.mk.injEq, and_true] at hg
    rw [← hg, h1.blk]; exact Nat.le_refl _⟩
theorem c_CloneFld (l : List Fld) (a : Option Addr) (cap : Nat) (S : Nat → Prop) (w : World) (hS : Sl eFld S w a l) :
    Ret Tryz.prog 139 #[.slice a l.length cap] w fun v w' => ∃ a' cap', v = .slice a' l.length cap' ∧ OwP 3 encFld w' w.heap.size 86 a' cap' l ∧ Bl w w' := by
  have hbig := hS.big
  refine entr (vs := [.slice a l.length cap]) [0, 2, 4] tabok Tryz.func139 (by kernel_rfl) ?_
  refine bnil ?_
  refine br (t := a.isNone) (fun h => ?_) (fun h => ?_)
  · have hl := sl_none hS h
    subst hl
    exact rt1 ⟨none, 0, rfl, Ow.nil .., Bl.refl _⟩
  refine bs (cs := []) fun b1 w1 h1 => ?_
  refine apl (enc := encFld) (base := w.heap.size) (l0 := []) (l1 := l) (Ow.base (Ow.made (n := 0) h1 rfl (by omega)) (by rw [h1.blk]; exact Nat.le_refl _)) (src_of (hS.bl h1.bl)) (by rw [h1.size]; omega) (fun a' cap' w2 hO hA hf => ?_)
  exact rt1 ⟨a', cap', rfl, hO, bl_ap h1.bl hA fun g hg => by
    simp only [Option.some.injEq, Addr.mk.injEq, and_true] at hg
    rw [← hg, h1.blk]; exact Nat.le_refl _⟩
theorem c_CloneMth (l : List MtR) (a : Option Addr) (cap : Nat) (S : Nat → Prop) (w : World) (hS : Sl eM S w a l) :
    Ret Tryz.prog 140 #[.slice a l.length cap] w fun v w' => ∃ a' cap', v = .slice a' l.length cap' ∧ OwP 7 encM w' w.heap.size 64 a' cap' l ∧ Bl w w' := by
  have hbig := hS.big
  refine entr (vs := [.slice a l.length cap]) [0, 2, 4] tabok Tryz.func140 (by kernel_rfl) ?_
  refine bnil ?_
  refine br (t := a.isNone) (fun h => ?_) (fun h => ?_)
  · have hl := sl_none hS h
    subst hl
    exact rt1 ⟨none, 0, rfl, Ow.nil .., Bl.refl _⟩
  refine bs (cs := []) fun b1 w1 h1 => ?_
  refine apl (enc := encM) (base := w.heap.size) (l0 := []) (l1 := l) (Ow.base (Ow.made (n := 0) h1 rfl (by omega)) (by rw [h1.blk]; exact Nat.le_refl _)) (src_of (hS.bl h1.bl)) (by rw [h1.size]; omega) (fun a' cap' w2 hO hA hf => ?_)
  exact rt1 ⟨a', cap', rfl, hO, bl_ap h1.bl hA fun g hg => by
    simp only [Option.some.injEq, Addr.mk.injEq, and_true] at hg
    rw [← hg, h1.blk]; exact Nat.le_refl _⟩
theorem c_CloneTy (l : List Ty) (a : Option Addr) (cap : Nat) (S : Nat → Prop) (w : World) (hS : Sl eTy S w a l) :
    Ret Tryz.prog 141 #[.slice a l.length cap] w fun v w' => ∃ a' cap', v = .slice a' l.length cap' ∧ OwP 2 encTy w' w.heap.size 61 a' cap' l ∧ Bl w w' := by
  have hbig := hS.big
  refine entr (vs := [.slice a l.length cap]) [0, 2, 4] tabok Tryz.func141 (by kernel_rfl) ?_
  refine bnil ?_
  refine br (t := a.isNone) (fun h => ?_) (fun h => ?_)
  · have hl := sl_none hS h
    subst hl
    exact rt1 ⟨none, 0, rfl, Ow.nil .., Bl.refl _⟩
  refine bs (cs := []) fun b1 w1 h1 => ?_
  refine apl (enc := encTy) (base := w.heap.size) (l0 := []) (l1 := l) (Ow.base (Ow.made (n := 0) h1 rfl (by omega)) (by rw [h1.blk]; exact Nat.le_refl _)) (src_of (hS.bl h1.bl)) (by rw [h1.size]; omega) (fun a' cap' w2 hO hA hf => ?_)
  exact rt1 ⟨a', cap', rfl, hO, bl_ap h1.bl hA fun g hg => by
    simp only [Option.some.injEq, Addr.mk.injEq, and_true] at hg
    rw [← hg, h1.blk]; exact Nat.le_refl _⟩
theorem c_CloneIns (l : List Ins) (a : Option Addr) (cap : Nat) (S : Nat → Prop) (w : World) (hS : Sl eIns S w a l) :
    Ret Tryz.prog 142 #[.slice a l.length cap] w fun v w' => ∃ a' cap', v = .slice a' l.length cap' ∧ OwP 3 encIns w' w.heap.size 89 a' cap' l ∧ Bl w w' := by
  have hbig := hS.big
  refine entr (vs := [.slice a l.length cap]) [0, 2, 4] tabok Tryz.func142 (by kernel_rfl) ?_
  refine bnil ?_
  refine br (t := a.isNone) (fun h => ?_) (fun h => ?_)
  · have hl := sl_none hS h
    subst hl
    exact rt1 ⟨none, 0, rfl, Ow.nil .., Bl.refl _⟩
  refine bs (cs := []) fun b1 w1 h1 => ?_
  refine apl (enc := encIns) (base := w.heap.size) (l0 := []) (l1 := l) (Ow.base (Ow.made (n := 0) h1 rfl (by omega)) (by rw [h1.blk]; exact Nat.le_refl _)) (src_of (hS.bl h1.bl)) (by rw [h1.size]; omega) (fun a' cap' w2 hO hA hf => ?_)
  exact rt1 ⟨a', cap', rfl, hO, bl_ap h1.bl hA fun g hg => by
    simp only [Option.some.injEq, Addr.mk.injEq, and_true] at hg
    rw [← hg, h1.blk]; exact Nat.le_refl _⟩
theorem flat_set {α : Type} {sz : Nat} {enc : α → List Value} (h : ∀ x, (enc x).length = sz) : ∀ {l : List α} {i : Nat} {x y : α} {j : Nat} {v : Value}, l[i]? = some x → j < sz → enc y = (enc x).set j v → (l.flatMap enc).set (i * sz + j) v = (l.set i y).flatMap enc
  | [], i, x, y, j, v, hx, _, _ => by simp at hx
  | z :: l, 0, x, y, j, v, hx, hj, he => by
    simp at hx; subst hx
    rw [Nat.zero_mul, Nat.zero_add, List.flatMap_cons, List.set_append_left _ _ (by rw [h]; exact hj), ← he]
    rfl
  | z :: l, i + 1, x, y, j, v, hx, hj, he => by
    have ih := flat_set h (l := l) (i := i) (by simpa using hx) hj he
    rw [List.flatMap_cons, List.set_append_right _ _ (by rw [h, Nat.succ_mul]; omega), h, show (i + 1) * sz + j - sz = i * sz + j by rw [Nat.succ_mul]; omega, ih]
    rfl
theorem row_keys {R R' : Key → Rw} (h : ∀ k, R k = R' k) : R = R' := funext h
theorem take_set_get {α : Type} {l : List α} {k : Nat} (hk : k < l.length) (y : α) (i : Nat) : ((l.set k y).take (k + 1))[i]? = if i = k then some y else (l.take k)[i]? := by
  rw [List.getElem?_take, List.getElem?_take, List.getElem?_set]
  by_cases h : i = k
  · subst h; simp [hk]
  · rcases Nat.lt_or_ge i k with q | q
    · simp [h, q, show i < k + 1 by omega, Ne.symm h]
    · simp [h, show ¬ i < k + 1 by omega, show ¬ i < k by omega]
/-- a class's fields lie in a row of their own now -/
theorem rowN_fld {X : UX} {k j : Nat} {x : ClR} {a' : Option Addr} {q' : Nat} (hx : X.cl[k]? = some x) : setR (setR (rowN X k j) (.fld k) (rwF ⟨x.c, a', q'⟩)) .cls ⟨58, 3, X.a2, (X.cl.set k ⟨x.c, a', q'⟩).length, X.c2, (X.cl.set k ⟨x.c, a', q'⟩).flatMap encC⟩ = rowN { X with cl := X.cl.set k ⟨x.c, a', q'⟩ } (k + 1) j := by
  have hk := (List.getElem?_eq_some_iff.1 hx).1
  funext key
  cases key with
  | fld i =>
    simp only [setR, rowN, reduceCtorEq, if_false, Key.fld.injEq, take_set_get hk]
    by_cases h : i = k
    · rw [if_pos h, if_pos h]; rfl
    · rw [if_neg h, if_neg h]
  | _ => simp [setR, rowN]
theorem rowN_mth {X : UX} {i k : Nat} {x : MtR} {a1 a2 a3 : Option Addr} {c1 c2 c3 : Nat} (hx : X.ml[k]? = some x) : setR (setR (setR (setR (rowN X i k) (.prm k) (rwP ⟨x.m, a1, c1, a2, c2, a3, c3⟩)) (.loc k) (rwL ⟨x.m, a1, c1, a2, c2, a3, c3⟩)) (.cod k) (rwI ⟨x.m, a1, c1, a2, c2, a3, c3⟩)) .mth ⟨64, 7, X.a4, (X.ml.set k ⟨x.m, a1, c1, a2, c2, a3, c3⟩).length, X.c4, (X.ml.set k ⟨x.m, a1, c1, a2, c2, a3, c3⟩).flatMap encM⟩ = rowN { X with ml := X.ml.set k ⟨x.m, a1, c1, a2, c2, a3, c3⟩ } i (k + 1) := by
  have hk := (List.getElem?_eq_some_iff.1 hx).1
  have key3 : ∀ (j : Nat) (f : MtR → Rw), (if j = k then f ⟨x.m, a1, c1, a2, c2, a3, c3⟩ else (((X.ml.take k)[j]?).map f).getD (Rw.no 0 0)) = ((((X.ml.set k ⟨x.m, a1, c1, a2, c2, a3, c3⟩).take (k + 1))[j]?).map f).getD (Rw.no 0 0) := fun j f => by
    rw [take_set_get hk]
    by_cases h : j = k
    · rw [if_pos h, if_pos h]; rfl
    · rw [if_neg h, if_neg h]
  funext key
  cases key with
  | prm j => simpa [setR, rowN] using key3 j rwP
  | loc j => simpa [setR, rowN] using key3 j rwL
  | cod j => simpa [setR, rowN] using key3 j rwI
  | _ => simp [setR, rowN]
/-- a unit cloned: in rows of its own -/
theorem u_clone (u : Unt) (a : UA) (w : World) (hU : UnR T w u a) : Ret Tryz.prog 80 #[.agg (ucells u a).toArray] w fun v w' => ∃ X, v = .agg X.cells.toArray ∧ X.u = u ∧ SepU w' w.heap.size X ∧ Bl w w' := by
  obtain ⟨xs0, hxs, hC, hF⟩ := cls_rows hU.cls
  obtain ⟨ms0, hms, hM, hP⟩ := mth_rows hU.mth
  have hz := hU.siz
  have n2 : xs0.length = u.classes.length := by rw [← hxs, List.length_map]
  have n4 : ms0.length = u.methods.length := by rw [← hms, List.length_map]
  have m1 := hz.pool
  have m2 := hz.cls
  have m3 := hz.sta
  have m4 := hz.mth
  refine entr (vs := [.agg (ucells u a).toArray]) [0, 1, 2, 3, 4, 5, 24, 25, 26, 43, 44, 45] tabok Tryz.func80 (by kernel_rfl) ?_
  refine bx (cs := ucells u a) fun b1 w1 h1 => ?_
  refine al fun b2 w2 h2 => ?_
  have B02 := h1.bl.trans h2.bl
  have hx1 := Bl.box h2.bl h1.box
  have hx2 := h2.box
  have z1 := h1.size
  have z2 := h2.size
  have y1 := h1.blk
  have y2 := h2.blk
  refine dht 7 T [0, 1, 3, 4, 6, 7, 9, 10, 2, 12, 5, 8, 11] fun w3 h3 => ?_
  have B03 := B02.trans h3.bl
  replace hx1 := Bl.box h3.bl hx1
  replace hx2 := Bl.box h3.bl hx2
  have z3 : w3.heap.size = w2.heap.size := by rw [h3.heap]
  refine ld (hx1.cell rfl) ?_ (hm := trivial)
  refine ld (hx1.cell rfl) ?_ (hm := trivial)
  refine ld (hx1.cell rfl) ?_ (hm := trivial)
  refine ld (hx1.cell rfl) ?_ (hm := trivial)
  refine cl (c_CloneStr u.pool a.a1 a.c1 T w3 (hU.bl B03).pool) ?_ (hm := fun _ _ r => by obtain ⟨_, _, _, _, hB⟩ := r; exact mdW_bl hB)
  rintro _ w4 ⟨a1, c1, rfl, hO1, B34⟩
  have B04 := B03.trans B34
  have k2 := c_CloneCls xs0 a.a2 a.c2 T w4 (hC.bl B04)
  rw [n2] at k2
  refine cl k2 ?_ (hm := fun _ _ r => by obtain ⟨_, _, _, _, hB⟩ := r; exact mdW_bl hB)
  rintro _ w5 ⟨a2, c2, rfl, hO2, B45⟩
  have B05 := B04.trans B45
  refine cl (c_CloneFld u.statics a.a3 a.c3 T w5 (hU.bl B05).sta) ?_ (hm := fun _ _ r => by obtain ⟨_, _, _, _, hB⟩ := r; exact mdW_bl hB)
  rintro _ w6 ⟨a3, c3, rfl, hO3, B56⟩
  have B06 := B05.trans B56
  have k4 := c_CloneMth ms0 a.a4 a.c4 T w6 (hM.bl B06)
  rw [n4] at k4
  refine cl k4 ?_ (hm := fun _ _ r => by obtain ⟨_, _, _, _, hB⟩ := r; exact mdW_bl hB)
  rintro _ w7 ⟨a4, c4, rfl, hO4, B67⟩
  have B07 := B06.trans B67
  have s4 := B34.size
  have s5 := B45.size
  have s6 := B56.size
  have s7 := B67.size
  have hx17 := Bl.box (((B34.trans B45).trans B56).trans B67) hx1
  refine st hx17 fun w8 k8 hx8 => ?_
  refine st hx8 fun w9 k9 hx9 => ?_
  refine st hx9 fun w10 k10 hx10 => ?_
  refine st hx10 fun w11 k11 hx11 => ?_
  have K := ((k8.trans k9).trans k10).trans k11
  clear k8 k9 k10 hx8 hx9 hx10 hx17
  have hS7 : SepR w7 w3.heap.size (rowN ⟨u.name, a1, c1, u.pool, a2, c2, xs0, a3, c3, u.statics, a4, c4, ms0⟩ 0 0) := by
    have q0 : SepR w3 w3.heap.size fun _ => Rw.no 0 0 := SepR.no _ _ _ fun _ => ⟨0, 0, rfl⟩
    have q1 := q0.upd .pool (r := ⟨9, 1, a1, u.pool.length, c1, u.pool.flatMap encStr⟩) (Ap.of_bl B34 _) hO1 fun g hg => .inr (Ow.lt hO1 hg).1
    have q2 := q1.upd .cls (r := ⟨58, 3, a2, xs0.length, c2, xs0.flatMap encC⟩) (Ap.of_bl B45 _) (Ow.base hO2 s4) fun g hg => .inr (Ow.lt hO2 hg).1
    have q3 := q2.upd .sta (r := ⟨86, 3, a3, u.statics.length, c3, u.statics.flatMap encFld⟩) (Ap.of_bl B56 _) (Ow.base hO3 (Nat.le_trans s4 s5)) fun g hg => .inr (Ow.lt hO3 hg).1
    have q4 := q3.upd .mth (r := ⟨64, 7, a4, ms0.length, c4, ms0.flatMap encM⟩) (Ap.of_bl B67 _) (Ow.base hO4 (Nat.le_trans s4 (Nat.le_trans s5 s6))) fun g hg => .inr (Ow.lt hO4 hg).1
    refine cast (congrArg (SepR w7 w3.heap.size) (row_keys fun k => ?_)) q4
    cases k <;> simp [setR, rowN]
  have hS11 := hS7.wr K (by omega)
  have hx21 := K.box (Bl.box (((B34.trans B45).trans B56).trans B67) hx2) (by omega)
  have B11 : Bl w w11 := B07.trans_wr K (by omega)
  refine ld (hx11.cell rfl) ?_
  refine lpk u.classes.length 25 [] [(1, .pointer (some ⟨b1, 0, none⟩)), (2, .pointer (some ⟨b2, 0, none⟩)), (24, I u.classes.length)] (fun k vals w' => vals = [] ∧ ∃ xs : List ClR, xs.map (·.c) = u.classes ∧ (∀ i, k ≤ i → xs[i]? = xs0[i]?) ∧ SepR w' w3.heap.size (rowN ⟨u.name, a1, c1, u.pool, a2, c2, xs, a3, c3, u.statics, a4, c4, ms0⟩ k 0) ∧
    Box w' b1 30 [.string u.name, .slice a1 u.pool.length c1, .slice a2 u.classes.length c2, .slice a3 u.statics.length c3, .slice a4 u.methods.length c4] ∧ Box w' b2 30 [.string ⟨#[]⟩, .slice none 0 0, .slice none 0 0, .slice none 0 0, .slice none 0 0] ∧ Bl w w') ⟨rfl, xs0, hxs, fun _ _ => rfl, hS11, hx11, hx21, B11⟩ ?_
  rintro k vals w12 hk ⟨rfl, xs, hxk, hold, hS, hy1, hy2, B12⟩ ih
  have lxs : xs.length = u.classes.length := by have := congrArg List.length hxk; rw [List.length_map] at this; exact this
  by_cases hlt : k < u.classes.length
  · refine brT ?_
    obtain ⟨x, hx⟩ := some_of_lt (l := xs) (k := k) (by omega)
    have hx0 : xs0[k]? = some x := by rw [← hold k (Nat.le_refl _)]; exact hx
    obtain ⟨g, cur, ea, hgb, hln, hAt, hg⟩ := hS.box .cls (by show 0 < xs.length; omega)
    obtain rfl : a2 = some ⟨g, 0, none⟩ := ea
    have hln : xs.length * 3 ≤ cur.length := hln
    have hAx := at_elem (sz := 3) (enc := encC) hAt hx fun _ => rfl
    have hfx := (hF x (List.mem_of_getElem? hx0)).bl B12
    refine dht 3 T [0, 1, 2, 3, 4, 5, 6, 7, 8, 9] fun w13 h13 => ?_
    refine ld ((h13.box hy1).cell rfl) ?_ (hm := trivial)
    refine ld ((h13.box hy1).cell rfl) ?_ (hm := trivial)
    refine ix ?_
    refine ld ((hAx.bl h13.bl) 2 _ rfl) ?_ (hm := trivial)
    refine cl (c_CloneFld x.c.fields x.a x.q T w13 (hfx.bl h13.bl)) ?_ (hm := fun _ _ r => by obtain ⟨_, _, _, _, hB⟩ := r; exact mdW_bl hB)
    rintro _ w14 ⟨a', q', rfl, hO, hB14⟩
    have B1214 := h13.bl.trans hB14
    have z13 : w13.heap.size = w12.heap.size := by rw [h13.heap]
    have z14 := B1214.size
    have q1 := hS.upd (.fld k) (r := rwF ⟨x.c, a', q'⟩) (Ap.of_bl B1214 _) (Ow.base hO (by omega)) fun g hg => .inr (by have := (Ow.lt hO hg).1; omega)
    refine ix ?_
    refine stx (Bl.box B1214 hgb) (fun w15 k15 hb15 => ?_) (ho := by omega)
    have q2 := q1.set .cls (g := g) rfl (Bl.box B1214 hgb) k15 hb15 (r := ⟨58, 3, some ⟨g, 0, none⟩, (xs.set k ⟨x.c, a', q'⟩).length, c2, (xs.set k ⟨x.c, a', q'⟩).flatMap encC⟩) (by
      rw [← flat_set (sz := 3) (enc := encC) (fun _ => rfl) hx (j := 2) (v := .slice a' x.c.fields.length q') (by omega) rfl, List.length_set, Nat.zero_add]; rfl)
    have hr := rowN_fld (X := ⟨u.name, a1, c1, u.pool, some ⟨g, 0, none⟩, c2, xs, a3, c3, u.statics, a4, c4, ms0⟩) (k := k) (j := 0) (a' := a') (q' := q') hx
    refine ih hlt ⟨rfl, xs.set k ⟨x.c, a', q'⟩, ?_, fun i hi => ?_, ?_, k15.box (Bl.box B1214 hy1) (by omega), k15.box (Bl.box B1214 hy2) (by omega), (B12.trans B1214).trans_wr k15 (by omega)⟩
    · rw [List.map_set, hxk]
      refine List.ext_getElem? fun i => ?_
      rw [List.getElem?_set]
      split
      · rename_i e
        subst e
        have : u.classes[k]? = some x.c := by rw [← hxk, List.getElem?_map, hx]; rfl
        rw [this]
      · rfl
    · rw [List.getElem?_set, if_neg (by omega)]
      exact hold i (by omega)
    · rw [← hr]; exact q2
  refine brF ?_
  obtain rfl : k = u.classes.length := by omega
  clear ih hS11 hx11 hx21
  refine ld (hy1.cell rfl) ?_
  refine lpk u.methods.length 44 [] [(1, .pointer (some ⟨b1, 0, none⟩)), (2, .pointer (some ⟨b2, 0, none⟩)), (43, I u.methods.length)] (fun k vals w' => vals = [] ∧ ∃ ms : List MtR, ms.map (·.m) = u.methods ∧ (∀ i, k ≤ i → ms[i]? = ms0[i]?) ∧ SepR w' w3.heap.size (rowN ⟨u.name, a1, c1, u.pool, a2, c2, xs, a3, c3, u.statics, a4, c4, ms⟩ u.classes.length k) ∧
    Box w' b1 30 [.string u.name, .slice a1 u.pool.length c1, .slice a2 u.classes.length c2, .slice a3 u.statics.length c3, .slice a4 u.methods.length c4] ∧ Box w' b2 30 [.string ⟨#[]⟩, .slice none 0 0, .slice none 0 0, .slice none 0 0, .slice none 0 0] ∧ Bl w w') ⟨rfl, ms0, hms, fun _ _ => rfl, hS, hy1, hy2, B12⟩ ?_
  clear hS hy1 hy2 B12
  rintro k vals w20 hk ⟨rfl, ms, hmk, hold2, hS, hy1, hy2, B20⟩ ih
  have lms : ms.length = u.methods.length := by have := congrArg List.length hmk; rw [List.length_map] at this; exact this
  by_cases hlt : k < u.methods.length
  · refine brT ?_
    obtain ⟨x, hx⟩ := some_of_lt (l := ms) (k := k) (by omega)
    have hx0 : ms0[k]? = some x := by rw [← hold2 k (Nat.le_refl _)]; exact hx
    obtain ⟨g, cur, ea, hgb, hln, hAt, hg⟩ := hS.box .mth (by show 0 < ms.length; omega)
    obtain rfl : a4 = some ⟨g, 0, none⟩ := ea
    have hln : ms.length * 7 ≤ cur.length := hln
    have hAx := at_elem (sz := 7) (enc := encM) hAt hx fun _ => rfl
    obtain ⟨f1, f2, f3⟩ := hP x (List.mem_of_getElem? hx0)
    refine ld (hy1.cell rfl) ?_
    refine ix ?_
    refine dht 9 T [0, 1, 2, 3, 4, 5, 6, 8, 9, 10, 11, 13, 14, 15, 16, 7, 12, 17] fun w21 h21 => ?_
    have B021 := B20.trans h21.bl
    refine ld ((hAx.bl h21.bl) 2 _ rfl) ?_ (hm := trivial)
    refine ld ((hAx.bl h21.bl) 3 _ rfl) ?_ (hm := trivial)
    refine ld ((hAx.bl h21.bl) 6 _ rfl) ?_ (hm := trivial)
    refine cl (c_CloneTy x.m.params x.a1 x.c1 T w21 (f1.bl B021)) ?_ (hm := fun _ _ r => by obtain ⟨_, _, _, _, hB⟩ := r; exact mdW_bl hB)
    rintro _ w22 ⟨p1, d1, rfl, hO1, hB22⟩
    refine cl (c_CloneTy x.m.locals x.a2 x.c2 T w22 (f2.bl (B021.trans hB22))) ?_ (hm := fun _ _ r => by obtain ⟨_, _, _, _, hB⟩ := r; exact mdW_bl hB)
    rintro _ w23 ⟨p2, d2, rfl, hO2, hB23⟩
    refine cl (c_CloneIns x.m.code x.a3 x.c3 T w23 (f3.bl ((B021.trans hB22).trans hB23))) ?_ (hm := fun _ _ r => by obtain ⟨_, _, _, _, hB⟩ := r; exact mdW_bl hB)
    rintro _ w24 ⟨p3, d3, rfl, hO3, hB24⟩
    have B2024 := ((h21.bl.trans hB22).trans hB23).trans hB24
    have z21 : w21.heap.size = w20.heap.size := by rw [h21.heap]
    have z22 := hB22.size
    have z23 := hB23.size
    have z24 := hB24.size
    have zz : w3.heap.size ≤ w20.heap.size := by omega
    have q1 := hS.upd (.prm k) (r := rwP ⟨x.m, p1, d1, p2, d2, p3, d3⟩) (Ap.of_bl (h21.bl.trans hB22) _) (Ow.base hO1 (by omega)) fun g hg => .inr (by have := (Ow.lt hO1 hg).1; omega)
    have q2 := q1.upd (.loc k) (r := rwL ⟨x.m, p1, d1, p2, d2, p3, d3⟩) (Ap.of_bl hB23 _) (Ow.base hO2 (by omega)) fun g hg => .inr (by have := (Ow.lt hO2 hg).1; omega)
    have q3 := q2.upd (.cod k) (r := rwI ⟨x.m, p1, d1, p2, d2, p3, d3⟩) (Ap.of_bl hB24 _) (Ow.base hO3 (by omega)) fun g hg => .inr (by have := (Ow.lt hO3 hg).1; omega)
    have hb24 := Bl.box B2024 hgb
    refine stx hb24 (fun w25 k25 hb25 => ?_) (ho := by omega)
    refine stx hb25 (fun w26 k26 hb26 => ?_) (ho := by rw [List.length_set]; omega)
    refine stx hb26 (fun w27 k27 hb27 => ?_) (ho := by rw [List.length_set, List.length_set]; omega)
    have s1 := q3.set .mth (g := g) rfl hb24 k25 hb25 (r := ⟨64, 7, some ⟨g, 0, none⟩, ms.length, c4, (ms.flatMap encM).set (0 + k * 7 + 2) (.slice p1 x.m.params.length d1)⟩) rfl
    have s2 := s1.set .mth (g := g) rfl hb25 k26 hb26 (r := ⟨64, 7, some ⟨g, 0, none⟩, ms.length, c4, ((ms.flatMap encM).set (0 + k * 7 + 2) (.slice p1 x.m.params.length d1)).set (0 + k * 7 + 3) (.slice p2 x.m.locals.length d2)⟩) rfl
    have s3 := s2.set .mth (g := g) rfl hb26 k27 hb27 (r := ⟨64, 7, some ⟨g, 0, none⟩, (ms.set k ⟨x.m, p1, d1, p2, d2, p3, d3⟩).length, c4, (ms.set k ⟨x.m, p1, d1, p2, d2, p3, d3⟩).flatMap encM⟩) (by
      have g1 := flat_set (sz := 7) (enc := encM) (fun _ => rfl) hx (y := ⟨x.m, p1, d1, x.a2, x.c2, x.a3, x.c3⟩) (j := 2) (v := .slice p1 x.m.params.length d1) (by omega) rfl
      have g2 := flat_set (sz := 7) (enc := encM) (fun _ => rfl) (l := ms.set k ⟨x.m, p1, d1, x.a2, x.c2, x.a3, x.c3⟩) (i := k) (x := ⟨x.m, p1, d1, x.a2, x.c2, x.a3, x.c3⟩) (y := ⟨x.m, p1, d1, p2, d2, x.a3, x.c3⟩) (by rw [List.getElem?_set_self (by omega)]) (j := 3) (v := .slice p2 x.m.locals.length d2) (by omega) rfl
      have g3 := flat_set (sz := 7) (enc := encM) (fun _ => rfl) (l := ms.set k ⟨x.m, p1, d1, p2, d2, x.a3, x.c3⟩) (i := k) (x := ⟨x.m, p1, d1, p2, d2, x.a3, x.c3⟩) (y := ⟨x.m, p1, d1, p2, d2, p3, d3⟩) (by rw [List.getElem?_set_self (by omega)]) (j := 6) (v := .slice p3 x.m.code.length d3) (by omega) rfl
      rw [List.set_set] at g2 g3
      rw [← g3, ← g2, ← g1, List.length_set]
      simp only [Nat.zero_add]; rfl)
    rw [setR_setR, setR_setR, rowN_mth (X := ⟨u.name, a1, c1, u.pool, a2, c2, xs, a3, c3, u.statics, some ⟨g, 0, none⟩, c4, ms⟩) (i := u.classes.length) hx] at s3
    have K := (k25.trans k26).trans k27
    refine ih hlt ⟨rfl, ms.set k ⟨x.m, p1, d1, p2, d2, p3, d3⟩, ?_, fun i hi => ?_, s3, K.box (Bl.box B2024 hy1) (by omega), K.box (Bl.box B2024 hy2) (by omega), (B20.trans B2024).trans_wr K (by omega)⟩
    · rw [List.map_set, hmk]
      refine List.ext_getElem? fun i => ?_
      rw [List.getElem?_set]
      split
      · rename_i e
        subst e
        have : u.methods[k]? = some x.m := by rw [← hmk, List.getElem?_map, hx]; rfl
        rw [this]
      · rfl
    · rw [List.getElem?_set, if_neg (by omega)]
      exact hold2 i (by omega)
  refine brF ?_
  obtain rfl : k = u.methods.length := by omega
  refine lda hy1.at ?_
  refine sta hy2 fun wB kB hxB => ?_
  refine rtc hxB.at ⟨⟨u.name, a1, c1, u.pool, a2, c2, xs, a3, c3, u.statics, a4, c4, ms⟩, ?_, ?_, ?_, B20.trans_wr kB (by omega)⟩
  · simp only [UX.cells, lxs, lms]
  · simp only [UX.u, hxk, hmk]
  · unfold SepU UX.row
    rw [lxs, lms]
    exact (hS.wr kB (by omega)).base (by omega)
end Go.Proofs.YtopjmiklpnejmaaGreatDoor

/- A unit gets another name, and its own again. No program stands here. -/
namespace Go.Proofs.YtopjmiklpnejmaaGreatDoor
open Eng Go.RowKit
/-- a text behind a name and a point gets another name -/
def renL (n m s : List UInt8) : List UInt8 := if (n ++ [46]).isPrefixOf s = true then m ++ 46 :: s.drop (n.length + 1) else s
def ren (n m s : ByteArray) : ByteArray := ofL (renL n.data.toList m.data.toList s.data.toList)
theorem pre_iff {n s : List UInt8} : (n ++ [46]).isPrefixOf s = true ↔ ∃ r, s = n ++ 46 :: r := by
  rw [List.isPrefixOf_iff_prefix]
  constructor
  · rintro ⟨r, e⟩
    exact ⟨r, by rw [← e]; simp⟩
  · rintro ⟨r, e⟩
    exact ⟨r, by rw [e]; simp⟩
theorem renL_hit (n m r : List UInt8) : renL n m (n ++ 46 :: r) = m ++ 46 :: r := by
  unfold renL
  rw [if_pos (pre_iff.2 ⟨r, rfl⟩)]
  congr 2
  have : (n ++ 46 :: r).drop (n.length + 1) = r := by
    rw [List.drop_append]; simp
  exact this
theorem renL_miss {n m s : List UInt8} (h : ¬ ∃ r, s = n ++ 46 :: r) : renL n m s = s := by
  unfold renL
  rw [if_neg fun q => h (pre_iff.1 q)]
theorem cutDot_name : ∀ {n r : List UInt8}, (46 : UInt8) ∉ n → cutDot (n ++ 46 :: r) = n :: cutDot r
  | [], r, _ => by simp [cutDot]
  | c :: n, r, h => by
    have h1 : c ≠ 46 := fun e => h (by rw [e]; exact List.mem_cons_self ..)
    have ih := cutDot_name (n := n) (r := r) fun e => h (List.mem_cons_of_mem _ e)
    simp only [List.cons_append, cutDot, if_neg h1, ih]
/-- the parts, put together again -/
theorem cutDot_join : ∀ {l p : List UInt8} {ps : List (List UInt8)}, cutDot l = p :: ps → l = p ++ ps.flatMap (fun q => 46 :: q)
  | [], p, ps, h => by
    simp only [cutDot, List.cons.injEq] at h
    obtain ⟨rfl, rfl⟩ := h; rfl
  | c :: r, p, ps, h => by
    simp only [cutDot] at h
    cases hr : cutDot r with
    | nil => exact absurd hr (cutDot_ne r)
    | cons q qs =>
      have ih := cutDot_join hr
      by_cases h1 : c = 46
      · rw [if_pos h1, hr] at h
        simp only [List.cons.injEq] at h
        obtain ⟨rfl, rfl⟩ := h
        rw [h1]
        simp only [List.flatMap_cons, List.nil_append]
        rw [List.cons_append, ← ih]
      · rw [if_neg h1, hr] at h
        simp only [List.cons.injEq] at h
        obtain ⟨rfl, rfl⟩ := h
        rw [List.cons_append, ← ih]
/-- the document's way -/
theorem renL_parts {n m s p : List UInt8} {ps : List (List UInt8)} (hn : (46 : UInt8) ∉ n) (h : cutDot s = p :: ps) : renL n m s = if 1 < ps.length + 1 ∧ p = n then m ++ ps.flatMap (fun q => 46 :: q) else s := by
  have e := cutDot_join h
  by_cases hc : 1 < ps.length + 1 ∧ p = n
  · rw [if_pos hc]
    obtain ⟨h1, rfl⟩ := hc
    cases ps with
    | nil => simp at h1
    | cons q qs =>
      simp only [List.flatMap_cons, List.cons_append] at e ⊢
      rw [e, renL_hit]
  · rw [if_neg hc]
    refine renL_miss ?_
    rintro ⟨r, rfl⟩
    rw [cutDot_name hn] at h
    simp only [List.cons.injEq] at h
    obtain ⟨rfl, rfl⟩ := h
    refine hc ⟨?_, rfl⟩
    have := cutDot_ne r
    cases hr : cutDot r with
    | nil => exact absurd hr this
    | cons a b => simp
theorem pathL_ren {n m s : List UInt8} (hn : simpleL n = true) (hm : simpleL m = true) : pathL (renL n m s) = pathL s := by
  by_cases h : ∃ r, s = n ++ 46 :: r
  · obtain ⟨r, rfl⟩ := h
    rw [renL_hit]
    unfold pathL
    rw [cutDot_name (simple_nodot hn), cutDot_name (simple_nodot hm)]
    simp only [List.length_cons, List.all_cons, hn, hm]
  · rw [renL_miss h]
theorem path_ren {n m s : ByteArray} (hn : simple n = true) (hm : simple m = true) : path (ren n m s) = path s := by
  unfold path ren
  rw [show (ofL (renL n.data.toList m.data.toList s.data.toList)).data.toList = renL n.data.toList m.data.toList s.data.toList from toL_ofL _]
  exact pathL_ren hn hm
def renPool (u : Unt) (name : ByteArray) : List ByteArray := u.pool.map (ren u.name name)
def renE (u : Unt) (name : ByteArray) : Int := if checkE u = 0 then (if simple name = false then 8 else if dup (renPool u name) = true then 9 else 0) else checkE u
def u00 : Unt := ⟨⟨#[]⟩, [], [], [], []⟩
def renU (u : Unt) (name : ByteArray) : Unt := if renE u name = 0 then { u with name := name, pool := renPool u name } else u00
/-- no path of the pool begins with the name -/
def freeU (u : Unt) (name : ByteArray) : Bool := u.pool.all fun s => !(decide (1 < (partsB s).length) && decide ((partsB s).head? = some name))
theorem renE_zero {u : Unt} {name : ByteArray} (h : renE u name = 0) : checkE u = 0 ∧ simple name = true ∧ dup (renPool u name) = false := by
  unfold renE at h
  split at h
  · rename_i h1
    split at h
    · cases h
    rename_i h2
    split at h
    · cases h
    rename_i h3
    exact ⟨h1, by simpa using h2, by simpa using h3⟩
  · rename_i h1; exact absurd h h1
theorem mvTy_id (t : Ty) : mvTy id t = t := by unfold mvTy; split <;> rfl
theorem mvFld_id (x : Fld) : mvFld id x = x := by unfold mvFld; rw [mvTy_id]; rfl
theorem mvIns_id (i : Ins) : mvIns id i = i := by unfold mvIns; split <;> (try split) <;> rfl
theorem mvU_id (name : ByteArray) (pool : List ByteArray) (u : Unt) : mvU id name pool u = { u with name := name, pool := pool } := by
  have e1 : mvFld id = id := funext mvFld_id
  have e2 : mvTy id = id := funext mvTy_id
  have e3 : mvIns id = id := funext mvIns_id
  have e4 : mvCls id = id := funext fun c => by unfold mvCls; rw [e1, List.map_id]; rfl
  have e5 : mvMth id = id := funext fun c => by unfold mvMth; rw [e2, e3, List.map_id, List.map_id, List.map_id]; rfl
  unfold mvU
  rw [e1, e4, e5, List.map_id, List.map_id, List.map_id]
theorem dup_inj {l : List ByteArray} (h : dup l = false) {i j : Nat} {x : ByteArray} (hi : l[i]? = some x) (hj : l[j]? = some x) : i = j := by
  rw [← Bool.not_eq_true, dup_iff] at h
  rcases Nat.lt_trichotomy i j with q | q | q
  · exact absurd ⟨j, i, q, x, hj, hi⟩ h
  · exact q
  · exact absurd ⟨i, j, q, x, hi, hj⟩ h
theorem all_in {u : Unt} (hC : CkU u) {r : Rf} (hr : r ∈ allRefs u) (h0 : 0 ≤ r.at') : r.at' < u.pool.length ∧ (path (nm u r.at') : Int) = r.parts := by
  rcases List.mem_append.1 hr with h | h
  · rcases ref_in hC h with ⟨q, _⟩ | ⟨_, q⟩
    · omega
    · exact q
  · obtain ⟨m, hm, h⟩ := List.mem_flatMap.1 h
    obtain ⟨i, hi, h⟩ := List.mem_flatMap.1 h
    split at h
    · rename_i hp
      rw [List.mem_singleton] at h
      subst h
      exact (op_in hC hm hi hp).2
    · cases h
theorem getD_at {l : List ByteArray} {i : Nat} (h : i < l.length) : l[i]? = some (l.getD i ⟨#[]⟩) := by
  rw [List.getD_eq_getElem?_getD, List.getElem?_eq_getElem h]; rfl
theorem ren_check {u : Unt} {name : ByteArray} (h : renE u name = 0) : checkE { u with name := name, pool := renPool u name } = 0 := by
  obtain ⟨h1, h2, h3⟩ := renE_zero h
  have hC := (ckU_iff u).1 h1
  have hlen : (renPool u name).length = u.pool.length := by simp [renPool]
  have hat : ∀ i : Nat, i < u.pool.length → (renPool u name).getD i ⟨#[]⟩ = ren u.name name (u.pool.getD i ⟨#[]⟩) := fun i hi => by
    have := getD_at hi
    have h2 : (renPool u name)[i]? = some (ren u.name name (u.pool.getD i ⟨#[]⟩)) := by unfold renPool; rw [List.getElem?_map, this]; rfl
    rw [List.getD_eq_getElem?_getD, h2]; rfl
  have hl : u.pool.length ≤ 60 := (lim_of hC.lim).pool
  rw [← mvU_id]
  refine checkE_mv ⟨fun _ => Iff.rfl, h2, by omega, fun s hs => ?_, h3, fun r hr h0 => ⟨h0, ?_⟩, fun r hr h0 => ?_, fun r hr q hq h0 h0' e => ?_⟩ h1
  · obtain ⟨x, hx, rfl⟩ := List.mem_map.1 hs
    rw [path_ren hC.nm h2]
    exact of_decide_eq_true (List.all_eq_true.1 hC.ps x hx)
  · have := (all_in hC hr h0).1
    simp only [id]; omega
  · have := (all_in hC hr h0).1
    simp only [id]
    rw [hat _ (by omega), path_ren hC.nm h2]; rfl
  · have a := (all_in hC hr h0).1
    have b := (all_in hC hq h0').1
    simp only [id] at e
    have e1 := getD_at (l := renPool u name) (i := r.at'.toNat) (by omega)
    have e2 := getD_at (l := renPool u name) (i := q.at'.toNat) (by omega)
    rw [e] at e1
    have := dup_inj h3 e1 e2
    unfold nm; rw [this]
/-- there and back -/
theorem ren_back {u : Unt} {name : ByteArray} (h : renE u name = 0) (hf : freeU u name = true) : renE (renU u name) u.name = 0 ∧ renU (renU u name) u.name = u := by
  obtain ⟨h1, h2, h3⟩ := renE_zero h
  have hC := (ckU_iff u).1 h1
  have e0 : renU u name = { u with name := name, pool := renPool u name } := by unfold renU; rw [if_pos h]
  have hb : renPool (renU u name) u.name = u.pool := by
    rw [e0]
    unfold renPool
    simp only [List.map_map]
    conv => rhs; rw [← List.map_id u.pool]
    refine List.map_congr_left fun s hs => ?_
    simp only [Function.comp, id]
    refine ba_ext ?_
    unfold ren
    rw [toL_ofL, toL_ofL]
    by_cases hp : ∃ r, s.data.toList = u.name.data.toList ++ 46 :: r
    · obtain ⟨r, e⟩ := hp
      rw [e, renL_hit, renL_hit]
    · rw [renL_miss hp]
      refine renL_miss ?_
      rintro ⟨r, e⟩
      have := List.all_eq_true.1 hf s hs
      have hc := cutDot_name (r := r) (simple_nodot h2)
      rw [← e] at hc
      have hl : 1 < (partsB s).length := by
        rw [partsB_length, hc]
        cases hr : cutDot r with
        | nil => exact absurd hr (cutDot_ne r)
        | cons a b => simp
      have hh : (partsB s).head? = some name := by
        unfold partsB; rw [hc]; simp only [List.map_cons, List.head?_cons]
        exact congrArg some (ba_ext (toL_ofL _))
      rw [decide_eq_true hl, decide_eq_true hh] at this
      cases this
  have hn : (renU u name).name = name := by rw [e0]
  have hz : renE (renU u name) u.name = 0 := by
    unfold renE
    rw [hb, e0, if_pos (ren_check h), hC.nm]
    have hd := hC.db
    simp only [doubled, Bool.or_eq_false_iff] at hd
    rw [hd.1.1.1]; rfl
  refine ⟨hz, ?_⟩
  have e1 : renU (renU u name) u.name = { (renU u name) with name := u.name, pool := renPool (renU u name) u.name } := if_pos hz
  rw [e1, hb, e0]
theorem renU_size {u : Unt} {name : ByteArray} (h : renE u name = 0) : ∀ s ∈ renPool u name, s.size ≤ 38 := fun s hs => by
  obtain ⟨h1, h2, h3⟩ := renE_zero h
  have hC := (ckU_iff u).1 h1
  obtain ⟨x, hx, rfl⟩ := List.mem_map.1 hs
  have := path_ren (s := x) hC.nm h2
  have h4 := of_decide_eq_true (List.all_eq_true.1 hC.ps x hx)
  rcases Nat.lt_or_ge 38 (ren u.name name x).size with q | q
  · have := path_long q; omega
  · exact q
end Go.Proofs.YtopjmiklpnejmaaGreatDoor

/- Walks: a unit renamed, in the program. -/
namespace Go.Proofs.YtopjmiklpnejmaaGreatDoor
open Eng Go.RowKit
def preB (p s : ByteArray) : Bool := p.data.toList.isPrefixOf s.data.toList
theorem pre_take {p s : ByteArray} : preB p s = decide (p.size ≤ s.size ∧ s.extract 0 p.size = p) := by
  have e : (s.extract 0 p.size).data.toList = s.data.toList.take p.size := by rw [Lib.extract_data]; simp
  rw [Bool.eq_iff_iff, decide_eq_true_eq]
  unfold preB
  rw [List.isPrefixOf_iff_prefix, List.prefix_iff_eq_take, ba_len]
  constructor
  · intro h
    have hl := congrArg List.length h
    rw [List.length_take, ba_len, ba_len] at hl
    exact ⟨by omega, ba_ext (by rw [e, ← h])⟩
  · rintro ⟨_, h⟩
    rw [← e, h]
theorem c_HasPrefix (s p : ByteArray) (w : World) : Ret Tryz.prog 186 #[.string s, .string p] w fun v w' => v = .bool (preB p s) ∧ w' = w := by
  refine entr (vs := [.string s, .string p]) [0, 1, 4] tabok Tryz.func186 (by kernel_rfl) ?_
  refine sp (.string ⟨#[]⟩) (fun q => ?_) (fun q => ?_)
  · have q' : p.size ≤ s.size := by simpa using q
    refine sls 0 p.size ?_
    refine rt1 ⟨vb ?_, rfl⟩
    rw [pre_take]
    simp [q']
  · have q' : ¬ p.size ≤ s.size := by simpa using q
    refine rt1 ⟨vb ?_, rfl⟩
    rw [pre_take]
    simp [q']
def cutS (p s : ByteArray) : ByteArray := if preB p s = true then s.extract p.size s.size else s
theorem cutS_size (p s : ByteArray) : (cutS p s).size ≤ s.size := by
  unfold cutS
  split
  · rw [← ba_len, Lib.extract_data, List.length_take, List.length_drop, ba_len]; omega
  · exact Nat.le_refl _
theorem c_CutPrefix (s p : ByteArray) (w : World) : Ret Tryz.prog 81 #[.string s, .string p] w fun v w' => v = .tuple #[.string (cutS p s), .bool (preB p s)] ∧ w' = w := by
  refine entr (vs := [.string s, .string p]) [0, 1, 4, 5] tabok Tryz.func81 (by kernel_rfl) ?_
  refine cl (R := fun v w' => v = .tuple #[.string (cutS p s), .bool (preB p s)] ∧ w' = w) ?_ ?_
  · refine entr (vs := [.string s, .string p]) [0, 1, 4, 5, 9] tabok Tryz.func143 (by kernel_rfl) ?_
    refine cl (c_HasPrefix s p w) ?_
    rintro _ _ ⟨rfl, rfl⟩
    refine br (t := !preB p s) (fun h => ?_) (fun h => ?_)
    · have h' : preB p s = false := by simpa using h
      exact rt2 ⟨by unfold cutS; rw [h'], rfl⟩
    · have h' : preB p s = true := by simpa using h
      have hle : p.size ≤ s.size := by rw [pre_take] at h'; exact (of_decide_eq_true h').1
      refine sls p.size s.size ?_
      exact rt2 ⟨by unfold cutS; rw [h'], rfl⟩
  rintro _ _ ⟨rfl, rfl⟩
  exact rt2 ⟨rfl, rfl⟩
theorem ren_cut (n m s : ByteArray) : ren n m s = if preB (n ++ ⟨#[46]⟩) s = true then (m ++ ⟨#[46]⟩) ++ cutS (n ++ ⟨#[46]⟩) s else s := by
  have e1 : (n ++ ⟨#[46]⟩ : ByteArray).data.toList = n.data.toList ++ [46] := by rw [ByteArray.data_append]; simp
  have e2 : (m ++ ⟨#[46]⟩ : ByteArray).data.toList = m.data.toList ++ [46] := by rw [ByteArray.data_append]; simp
  apply ba_ext
  unfold ren
  rw [toL_ofL]
  unfold renL
  have ep : preB (n ++ ⟨#[46]⟩) s = (n.data.toList ++ [46]).isPrefixOf s.data.toList := by unfold preB; rw [e1]
  rw [ep]
  by_cases h : (n.data.toList ++ [46]).isPrefixOf s.data.toList = true
  · rw [if_pos h, if_pos h]
    rw [Joins.data_append, e2]
    have : (cutS (n ++ ⟨#[46]⟩) s).data.toList = s.data.toList.drop (n.data.toList.length + 1) := by
      unfold cutS
      rw [ep, if_pos h, Lib.extract_data]
      have hs : (n ++ ⟨#[46]⟩ : ByteArray).size = n.data.toList.length + 1 := by rw [← ba_len, e1]; simp
      rw [hs]
      exact List.take_of_length_le (by rw [List.length_drop, ba_len]; exact Nat.le_refl _)
    rw [this]; simp
  · rw [if_neg h, if_neg h]
theorem unr_nil (S : Nat → Prop) (w : World) : UnR S w u00 ⟨none, 0, none, 0, none, 0, none, 0⟩ :=
  ⟨by decide, by simp [u00], ⟨by decide, by simp [u00]⟩, ⟨by decide, by simp [u00]⟩, ⟨by decide, by simp [u00]⟩, ⟨by decide, by simp [u00]⟩⟩
/-- what Rename answers -/
def RenR (u : Unt) (name : ByteArray) (w : World) (v : Value) (w' : World) : Prop := ∃ a', v = .tuple #[.agg (ucells (renU u name) a').toArray, I (renE u name)] ∧ UnR (fun b => w.heap.size ≤ b) w' (renU u name) a' ∧ Bl w w'
theorem ren_err {u : Unt} {name : ByteArray} {w w' : World} {e : Int} (he : renE u name = e) (h0 : ¬ e = 0) (hB : Bl w w') : RenR u name w (.tuple #[.agg (ucells u00 ⟨none, 0, none, 0, none, 0, none, 0⟩).toArray, I e]) w' := by
  have hu : renU u name = u00 := by unfold renU; rw [he, if_neg h0]
  exact ⟨⟨none, 0, none, 0, none, 0, none, 0⟩, by rw [hu, he], by rw [hu]; exact unr_nil _ _, hB⟩
/-- the pool of a unit in rows of its own, other texts in it -/
theorem SepU.pool {w : World} {base : Nat} {X : UX} {P : List ByteArray} (h : SepR w base (setR X.row .pool ⟨9, 1, X.a1, P.length, X.c1, P.flatMap encStr⟩)) (name : ByteArray) : SepU w base { X with name := name, pool := P } := by
  refine cast (congrArg (SepR w base) (funext fun k => ?_)) h
  cases k <;> simp [setR, UX.row, rowN]
/-- the first k texts renamed -/
def renK (u : Unt) (name : ByteArray) (k : Nat) : List ByteArray := (u.pool.take k).map (ren u.name name) ++ u.pool.drop k
theorem renK_len (u : Unt) (name : ByteArray) (k : Nat) : (renK u name k).length = u.pool.length := by unfold renK; simp; omega
theorem renK_set {u : Unt} {name s : ByteArray} {k : Nat} (h : u.pool[k]? = some s) : (renK u name k)[k]? = some s ∧ (renK u name k).set k (ren u.name name s) = renK u name (k + 1) := by
  obtain ⟨hk, rfl⟩ := List.getElem?_eq_some_iff.1 h
  have hl : ((u.pool.take k).map (ren u.name name)).length = k := by simp; omega
  unfold renK
  constructor
  · rw [List.getElem?_append_right (by omega), hl, Nat.sub_self, List.drop_eq_getElem_cons hk]; rfl
  · rw [List.set_append_right _ _ (by omega), hl, Nat.sub_self, List.drop_eq_getElem_cons hk, take_succ_some h, List.map_append]
    simp only [List.set_cons_zero, List.map_cons, List.map_nil, List.append_assoc, List.singleton_append]
theorem renK_end (u : Unt) (name : ByteArray) : renK u name u.pool.length = renPool u name := by unfold renK renPool; simp
theorem renK_zero (u : Unt) (name : ByteArray) : renK u name 0 = u.pool := by unfold renK; simp
theorem ren_size {n m s : ByteArray} (hn : simple n = true) (hm : simple m = true) (hs : path s ≠ 0) : (ren n m s).size ≤ 38 := path_size (by rw [path_ren hn hm]; exact hs)
set_option maxHeartbeats 1000000 in
theorem u_Rename (u : Unt) (a : UA) (name : ByteArray) (w : World) (hU : UnR T w u a) (hs : name.size ≤ 1048576) (hG : Gl w) : Ret Tryz.prog 28 #[.agg (ucells u a).toArray, .string name] w (RenR u name w) := by
  refine entr (vs := [.agg (ucells u a).toArray, .string name]) [0, 1, 2, 4, 5, 6, 7, 8, 9, 10, 14, 19, 24, 25, 26, 27, 39, 51] tabok Tryz.func28 (by kernel_rfl) ?_
  refine bx (cs := ucells u a) fun b1 w1 h1 => ?_
  refine al fun b2 w2 h2 => ?_
  have B02 := h1.bl.trans h2.bl
  have z1 := h1.size
  have z2 := h2.size
  have y1 := h1.blk
  have y2 := h2.blk
  have hx1 := Bl.box h2.bl h1.box
  have hx2 := h2.box
  refine lda hx1.at ?_
  refine cl (u_Check u a w2 (hU.bl B02) (hG.bl B02)) ?_
  rintro _ w3 ⟨rfl, B23⟩
  have B03 := B02.trans B23
  replace hx1 := Bl.box B23 hx1
  replace hx2 := Bl.box B23 hx2
  have z3 := B23.size
  refine br (t := decide (¬ checkE u = 0)) (fun h => ?_) (fun h => ?_)
  · have h0 := of_decide_eq_true h
    refine bd ?_
    refine sta hx2 fun w4 k4 hx4 => ?_
    exact rtc2 hx4.at (ren_err (by unfold renE; rw [if_neg h0]) h0 (B03.trans_wr k4 (by omega)))
  have h0 : checkE u = 0 := Classical.not_not.1 (of_decide_eq_false h)
  have hC := (ckU_iff u).1 h0
  refine cl (u_Simple name w3 hs) ?_
  rintro _ w3 ⟨rfl, rfl⟩
  refine br (t := !simple name) (fun h => ?_) (fun h => ?_)
  · have h1 : simple name = false := by simpa using h
    refine bd ?_
    refine sta hx2 fun w4 k4 hx4 => ?_
    exact rtc2 hx4.at (ren_err (by unfold renE; rw [if_pos h0, if_pos h1]) (by decide) (B03.trans_wr k4 (by omega)))
  have h1 : simple name = true := by simpa using h
  have hns : name.size ≤ 12 := by
    have := simpleL_len (l := name.data.toList) h1
    rw [ba_len] at this; exact this.2
  have hus : u.name.size ≤ 12 := by
    have := simpleL_len (l := u.name.data.toList) hC.nm
    rw [ba_len] at this; exact this.2
  refine lda hx1.at ?_
  refine cl (u_clone u a w3 (hU.bl B03)) ?_
  rintro _ w4 ⟨X, rfl, hXu, hS4, B34⟩
  have B04 := B03.trans B34
  replace hx1 := Bl.box B34 hx1
  replace hx2 := Bl.box B34 hx2
  have z4 := B34.size
  have hpX : X.pool = u.pool := congrArg Unt.pool hXu
  have hnX : X.name = u.name := congrArg Unt.name hXu
  refine sta (cs' := X.cells) hx1 fun w5 k5 hx5 => ?_
  have z5 := k5.size
  have B05 := B04.trans_wr k5 (by omega)
  have hx25 := k5.box hx2 (by omega)
  have hS5 := hS4.wr k5 (by omega)
  refine ld (hx5.cell rfl) ?_
  have hpl := (lim_of hC.lim).pool
  have hpl2 : X.pool.length ≤ 60 := by rw [hpX]; omega
  refine lpk X.pool.length 26 [] [(1, .string name), (2, .pointer (some ⟨b1, 0, none⟩)), (4, .pointer (some ⟨b2, 0, none⟩)), (24, .slice X.a1 X.pool.length X.c1), (25, I X.pool.length)] (fun k vals w' => vals = [] ∧ SepR w' w3.heap.size (setR X.row .pool ⟨9, 1, X.a1, (renK u name k).length, X.c1, (renK u name k).flatMap encStr⟩) ∧
    Box w' b1 30 X.cells ∧ Box w' b2 30 [.string ⟨#[]⟩, .slice none 0 0, .slice none 0 0, .slice none 0 0, .slice none 0 0] ∧ Bl w w') ⟨rfl, by rw [renK_zero, ← hpX]; exact (setR_self X.row .pool).symm ▸ hS5, hx5, hx25, B05⟩ ?_
  rintro k vals w6 hk ⟨rfl, hS6, hx6, hx26, B06⟩ ih
  by_cases hlt : k < X.pool.length
  · refine brT ?_
    obtain ⟨s, hs1⟩ := some_of_lt (l := u.pool) (k := k) (by rw [← hpX]; exact hlt)
    obtain ⟨hk1, hk2⟩ := renK_set (name := name) hs1
    have hps : path s ≠ 0 := fun e => by
      have := of_decide_eq_true (List.all_eq_true.1 hC.ps s (List.mem_of_getElem? hs1))
      omega
    have hss := path_size hps
    have hcs := cutS_size (X.name ++ ⟨#[46]⟩) s
    have hle := renK_len u name k
    obtain ⟨g, cur, ea, hgb, hln, hAt, hg⟩ := hS6.box .pool (by show 0 < (renK u name k).length; rw [hle, ← hpX]; omega)
    have ea : X.a1 = some ⟨g, 0, none⟩ := ea
    have hln : (renK u name k).length * 1 ≤ cur.length := hln
    rw [hle, ← hpX] at hln
    have hAx := at_elem (sz := 1) (enc := encStr) hAt hk1 fun _ => rfl
    have hz : ∀ x y : ByteArray, (x ++ y).size = x.size + y.size := fun x y => ByteArray.size_append
    have h1z : (⟨#[46]⟩ : ByteArray).size = 1 := rfl
    rw [ea]
    refine ix ?_
    refine ld (hAx 0 _ rfl) ?_
    refine ld (hx6.cell rfl) ?_
    refine cat ?_ (hab := by rw [hnX, h1z]; omega)
    refine cl (c_CutPrefix s (X.name ++ ⟨#[46]⟩) w6) ?_
    rintro _ _ ⟨rfl, rfl⟩
    have er := ren_cut u.name name s
    refine br (t := preB (X.name ++ ⟨#[46]⟩) s) (fun h => ?_) (fun h => ?_)
    · refine ld (hx6.cell rfl) ?_
      refine cat ?_ (hab := by rw [h1z]; omega)
      refine cat ?_ (hab := by rw [hz, h1z]; omega)
      rw [ea]
      refine ix ?_
      refine stx hgb (fun w7 k7 hb7 => ?_) (ho := by omega)
      rw [← hnX, if_pos h] at er
      have q := hS6.set .pool (g := g) ea hgb k7 hb7 (r := ⟨9, 1, X.a1, (renK u name (k + 1)).length, X.c1, (renK u name (k + 1)).flatMap encStr⟩) (by
        rw [← hk2, List.length_set, ← flat_set (sz := 1) (enc := encStr) (fun _ => rfl) hk1 (j := 0) (v := .string (ren u.name name s)) (by omega) rfl, ← hnX, er, Nat.zero_add]; rfl)
      rw [setR_setR] at q
      refine ih hlt ⟨rfl, q, k7.box hx6 (by omega), k7.box hx26 (by omega), B06.trans_wr k7 (by omega)⟩ (hsub := by simp only [ea]; repeat (first | exact True.intro | (refine ⟨rfl, ?_⟩)))
    · rw [← hnX, if_neg (by rw [h]; simp)] at er
      have e2 : renK u name (k + 1) = renK u name k := by
        rw [← hk2, ← hnX, er]
        refine List.ext_getElem? fun i => ?_
        rw [List.getElem?_set]
        split
        · rename_i e
          subst e
          rw [hk1, if_pos (by rw [hle, ← hpX]; exact hlt)]
        · rfl
      exact ih hlt ⟨rfl, by rw [e2]; exact hS6, hx6, hx26, B06⟩ (hsub := by simp only [ea]; repeat (first | exact True.intro | (refine ⟨rfl, ?_⟩)))
  refine brF ?_
  obtain rfl : k = X.pool.length := by omega
  clear ih
  rw [hpX, renK_end] at hS6
  have hlen : (renPool u name).length = u.pool.length := by simp [renPool]
  refine ld (hx6.cell rfl) ?_
  have hsl : Sl eStr T w6 X.a1 (renPool u name) := owp_sl (enc := encStr) (hS6.own .pool) (by omega) fun _ _ => trivial
  have hc := u_twice (renPool u name) X.a1 X.c1 T w6 hsl
  rw [hlen, ← hpX] at hc
  refine cl hc ?_
  rintro _ w8 ⟨rfl, B68⟩
  have B08 := B06.trans B68
  have z6 := B06.size
  have z8 := B68.size
  replace hx6 := Bl.box B68 hx6
  replace hx26 := Bl.box B68 hx26
  refine br (t := dup (renPool u name)) (fun h => ?_) (fun h => ?_)
  · refine bd ?_
    refine sta hx26 fun w9 k9 hx9 => ?_
    exact rtc2 hx9.at (ren_err (by unfold renE; rw [if_pos h0, if_neg (by rw [h1]; simp), if_pos h]) (by decide) (B08.trans_wr k9 (by omega)))
  have he : renE u name = 0 := by unfold renE; rw [if_pos h0, if_neg (by rw [h1]; simp), if_neg (by rw [h]; simp)]
  refine st hx6 fun w9 k9 hx9 => ?_
  refine lda hx9.at ?_
  refine sta (k9.box hx26 (by omega)) fun w10 k10 hx10 => ?_
  have eu : renU u name = UX.u { X with name := name, pool := renPool u name } := by
    unfold renU; rw [if_pos he, ← hXu]; rfl
  have B10 := (B08.trans_wr k9 (by omega)).trans_wr k10 (by omega)
  have hS10 : SepU w10 w3.heap.size { X with name := name, pool := renPool u name } := SepU.pool (((hS6.bl B68).wr k9 (by omega)).wr k10 (by omega)) name
  have hz : Siz (renU u name) := by
    have q := hU.siz
    rw [show renU u name = { u with name := name, pool := renPool u name } by unfold renU; rw [if_pos he]]
    exact ⟨hs, fun s hs => by have := renU_size he s hs; omega, by rw [hlen]; exact q.pool, q.cls, q.sta, q.mth, q.flds, q.prms, q.locs, q.cods⟩
  refine rtc2 hx10.at ⟨(UX.mk name X.a1 X.c1 (renPool u name) X.a2 X.c2 X.cl X.a3 X.c3 X.sta X.a4 X.c4 X.ml).a, ?_, ?_, B10⟩
  · rw [eu, he, UX.cells_eq]
    simp only [UX.cells, hlen, hpX]
  · rw [eu] at hz ⊢
    exact (SepU.unr hS10 hz).sub fun i hi => by have := B03.size; omega
end Go.Proofs.YtopjmiklpnejmaaGreatDoor

/- Walks: a unit read, in the program. -/
namespace Go.Proofs.YtopjmiklpnejmaaGreatDoor
open Eng Go.RowKit
def decE (l : List UInt8) : Int := match parse l with
  | none => 4
  | some u => checkE u
def decU (l : List UInt8) : Unt := match parse l with
  | none => u00
  | some u => if checkE u = 0 then u else u00
/-- what Decode answers -/
def DecR (l : List UInt8) (w : World) (v : Value) (w' : World) : Prop := ∃ a', v = .tuple #[.agg (ucells (decU l) a').toArray, I (decE l)] ∧ UnR T w' (decU l) a' ∧ Bl w w'
theorem dec_err {l : List UInt8} {w w' : World} {e : Int} (he : decE l = e) (hu : decU l = u00) (hB : Bl w w') : DecR l w (.tuple #[.agg (ucells u00 ⟨none, 0, none, 0, none, 0, none, 0⟩).toArray, I e]) w' :=
  ⟨⟨none, 0, none, 0, none, 0, none, 0⟩, by rw [hu, he], by rw [hu]; exact unr_nil _ _, hB⟩
theorem dec_none {l : List UInt8} {w w' : World} (h : parse l = none) (hB : Bl w w') : DecR l w (.tuple #[.agg (ucells u00 ⟨none, 0, none, 0, none, 0, none, 0⟩).toArray, I 4]) w' :=
  dec_err (by unfold decE; rw [h]) (by unfold decU; rw [h]) hB
theorem oTxt_len (s : ByteArray) : s.size ≤ (oTxt s).length := by unfold oTxt; rw [List.length_append, ba_len]; omega
theorem flat_mem {α : Type} {f : α → List UInt8} {l : List α} {x : α} (h : x ∈ l) : (f x).length ≤ (l.flatMap f).length := by
  obtain ⟨i, hi⟩ := List.mem_iff_getElem?.1 h
  have := fm_take_le f hi
  omega
theorem parse_size {l : List UInt8} {u : Unt} (h : parse l = some u) : u.name.size ≤ l.length ∧ ∀ s ∈ u.pool, s.size ≤ l.length := by
  obtain ⟨rfl, _⟩ := parse_out h
  unfold enc
  rw [body_unt]
  unfold oUnt oList
  simp only [List.length_append]
  refine ⟨by have := oTxt_len u.name; omega, fun s hs => ?_⟩
  have h1 := flat_mem (f := oTxt) hs
  have h2 := oTxt_len s
  omega
/-- the bytes behind the first four, if these are right -/
def cur0 (l : List UInt8) : Option (List UInt8) := if l.take 4 = magic then some (l.drop 4) else none
theorem dec_chain (l : List UInt8) :
    (match (((((((((((cur0 l).bind rTxt).map (·.2)).bind (rList rTxt)).map (·.2)).bind (rList rCls)).map (·.2)).bind (rList rFld)).map (·.2)).bind (rList rMth)).map (·.2)).bind rNum with
    | none => parse l = none
    | some y => ∃ n p c s m, (cur0 l).bind rTxt = some n ∧ (((cur0 l).bind rTxt).map (·.2)).bind (rList rTxt) = some p ∧
        ((((((cur0 l).bind rTxt).map (·.2)).bind (rList rTxt)).map (·.2)).bind (rList rCls)) = some c ∧
        ((((((((cur0 l).bind rTxt).map (·.2)).bind (rList rTxt)).map (·.2)).bind (rList rCls)).map (·.2)).bind (rList rFld)) = some s ∧
        ((((((((((cur0 l).bind rTxt).map (·.2)).bind (rList rTxt)).map (·.2)).bind (rList rCls)).map (·.2)).bind (rList rFld)).map (·.2)).bind (rList rMth)) = some m ∧
        m.2.length ≤ l.length ∧ parse l = if y.2 = [] ∧ y.1 = sumB (l.take (l.length - m.2.length)) then some ⟨n.1, p.1, c.1, s.1, m.1⟩ else none) := by
  unfold cur0 parse
  by_cases hm : l.take 4 = magic
  · rw [if_pos hm, if_pos hm]
    unfold rUnt
    simp only [Option.bind_some]
    cases h1 : rTxt (l.drop 4) with
    | none => simp
    | some n =>
      simp only [Option.map_some, Option.bind_some]
      cases h2 : rList rTxt n.2 with
      | none => simp
      | some p =>
        simp only [Option.map_some, Option.bind_some]
        cases h3 : rList rCls p.2 with
        | none => simp
        | some c =>
          simp only [Option.map_some, Option.bind_some]
          cases h4 : rList rFld c.2 with
          | none => simp
          | some s =>
            simp only [Option.map_some, Option.bind_some]
            cases h5 : rList rMth s.2 with
            | none => simp
            | some m =>
              simp only [Option.map_some, Option.bind_some]
              cases h6 : rNum m.2 with
              | none => rfl
              | some y =>
                have g1 := min_txt _ _ _ h1
                have g2 := min_list min_txt.zero _ _ _ h2
                have g3 := min_list min_cls.zero _ _ _ h3
                have g4 := min_list min_fld.zero _ _ _ h4
                have g5 := min_list min_mth.zero _ _ _ h5
                rw [List.length_drop] at g1
                exact ⟨n, p, c, s, m, rfl, rfl, rfl, rfl, rfl, by omega, rfl⟩
  · rw [if_neg hm, if_neg hm]; rfl
theorem c_CloneB (l : List UInt8) (a : Option Addr) (cap : Nat) (S : Nat → Prop) (w : World) (hS : Sl eB S w a l) :
    Ret Tryz.prog 90 #[.slice a l.length cap] w fun v w' => ∃ a' cap', v = .slice a' l.length cap' ∧ OwP 1 encB w' w.heap.size 5 a' cap' l ∧ Bl w w' := by
  have hbig := hS.big
  refine entr (vs := [.slice a l.length cap]) [0, 2, 4] tabok Tryz.func90 (by kernel_rfl) ?_
  refine bnil ?_
  refine br (t := a.isNone) (fun h => ?_) (fun h => ?_)
  · have hl := sl_none hS h
    subst hl
    exact rt1 ⟨none, 0, rfl, Ow.nil .., Bl.refl _⟩
  refine bs (cs := []) fun b1 w1 h1 => ?_
  refine apl (enc := encB) (base := w.heap.size) (l0 := []) (l1 := l) (Ow.base (Ow.made (n := 0) h1 rfl (by omega)) (by rw [h1.blk]; exact Nat.le_refl _)) (src_of (hS.bl h1.bl)) (by rw [h1.size]; omega) (fun a' cap' w2 hO hA hf => ?_)
  exact rt1 ⟨a', cap', rfl, hO, bl_ap h1.bl hA fun g hg => by
    simp only [Option.some.injEq, Addr.mk.injEq, and_true] at hg
    rw [← hg, h1.blk]; exact Nat.le_refl _⟩
theorem u_SumS (bs : List UInt8) (a : Option Addr) (cap : Nat) (S : Nat → Prop) (w : World) (hS : Sl eB S w a bs) : Ret Tryz.prog 101 #[I 0, .slice a bs.length cap] w fun v w' => v = I (sumB bs) ∧ w' = w := by
  have hbig := hS.big
  refine entr (vs := [I 0, .slice a bs.length cap]) [0, 1, 4, 5, 7, 12, 13, 14, 15] tabok Tryz.func101 (by kernel_rfl) ?_
  refine iop (rem_run (b := 65521) (by decide)) ?_
  refine iop (rem_run (b := 65521) (by decide)) ?_
  refine lpk bs.length 14 [5] [(12, .slice a bs.length cap), (13, I bs.length)] (fun k vals w' => vals = [I (sumB (bs.take k))] ∧ w = w') ⟨rfl, rfl⟩ ?_
  rintro k vals _ hk ⟨rfl, rfl⟩ ih
  by_cases hlt : k < bs.length
  · refine brT ?_
    obtain ⟨x, b, o, cs, hx, rfl, _, hAt, rfl⟩ := at_some hS hlt
    refine ix ?_
    refine ld (hAt 0 _ rfl) ?_
    refine cv (ks := .u8) (kb := .i64) (by kernel_rfl) (by kernel_rfl) ?_
    refine iop (rem_run (b := 65521) (by decide)) ?_
    refine ih hlt ⟨lst1 (vi ?_), rfl⟩
    rw [sumB_snoc hx]
    exact sum_step (sumB_range _) x
  · refine brF ?_
    obtain rfl : k = bs.length := by omega
    rw [List.take_length]
    exact rt1 ⟨rfl, rfl⟩
theorem ow_cap {w : World} {base e esz n cap : Nat} {a : Option Addr} {xs : List Value} (h : Ow w base e esz a n cap xs) : n ≤ cap := by
  rcases h.shape with ⟨_, h0, _⟩ | ⟨g, cur, rfl, _⟩
  · omega
  · obtain ⟨_, _, _, _, hc, _⟩ := Eng.Ow.box h
    exact hc
theorem magic_take {l : List UInt8} : (takeS 4 l).map (fun x => ofL x.1) = some ⟨#[73, 83, 79, 49]⟩ ↔ l.take 4 = magic := by
  unfold takeS
  have key : ofL (l.take 4) = ⟨#[73, 83, 79, 49]⟩ ↔ l.take 4 = magic := by
    constructor
    · intro h
      have := congrArg (fun s : ByteArray => s.data.toList) h
      simp only [toL_ofL] at this
      exact this
    · intro h; rw [h]; rfl
  by_cases h4 : (4 : Int) ≤ l.length
  · rw [if_pos ⟨by decide, h4⟩]
    simp only [Option.map_some, Option.some.injEq]
    exact key
  · rw [if_neg fun h => h4 h.2]
    constructor
    · intro h; cases h
    · intro h
      have := congrArg List.length h
      rw [List.length_take] at this
      have e : magic.length = 4 := rfl
      omega
set_option maxHeartbeats 1000000 in
theorem u_Decode (l : List UInt8) (a : Option Addr) (c : Nat) (w : World) (hS : Sl eB T w a l) (hl : l.length ≤ 1048576) (hcap : l.length ≤ c) (hG : Gl w) : Ret Tryz.prog 37 #[.slice a l.length c] w (DecR l w) := by
  refine entr (vs := [.slice a l.length c]) [0, 2, 3, 4, 5, 6, 7, 8, 9, 10, 11, 12, 13, 72, 83] tabok Tryz.func37 (by kernel_rfl) ?_
  refine al fun b2 w1 h1 => ?_
  have z1 := h1.size
  have y1 := h1.blk
  refine cl (c_CloneB l a c T w1 (hS.bl h1.bl)) ?_
  rintro _ w2 ⟨ag, cg, rfl, hO2, B12⟩
  have z2 := B12.size
  have hcg := ow_cap hO2
  refine bd ?_
  refine bx (cs := [.slice ag l.length cg, .bool false]) fun rb w3 h3 => ?_
  have z3 := h3.size
  have y3 := h3.blk
  have B02 := h1.bl.trans B12
  have B03 := B02.trans h3.bl
  have R3 : RdS w3 rb rb (some l) := ⟨ag, cg, h3.box, owp_sl (enc := encB) (hO2.bl h3.bl) (by omega) fun g hg => by have := (hO2.lt hg).2; omega, hcg⟩
  have x3 := Bl.box (B12.trans h3.bl) h1.box
  -- the first four bytes
  refine cl (u_take rb rb 4 (some l) w3 R3 (Nat.le_refl _)) ?_
  rintro v w4 ⟨A4, R4, hv⟩
  obtain ⟨a4, c4, bs4, rfl, S4, iff4, hr4⟩ : ∃ a4 c4 bs4, v = .slice a4 bs4.length c4 ∧ Sl eB T w4 a4 bs4 ∧ (ofL bs4 = ⟨#[73, 83, 79, 49]⟩ ↔ l.take 4 = magic) ∧ (l.take 4 = magic → takeS 4 l = some (l.take 4, l.drop 4)) := by
    have mg := magic_take (l := l)
    have hv : match takeS 4 l with
      | some (x, _) => ∃ a c, v = .slice a x.length c ∧ Sl eB (· < rb) w4 a x
      | none => v = .slice none 0 0 := hv
    have ht2 : ∀ x, takeS 4 l = some x → x = (l.take 4, l.drop 4) := fun x h => by
      unfold takeS at h
      split at h
      · exact (Option.some.inj h).symm
      · cases h
    cases ht : takeS 4 l with
    | none =>
      rw [ht] at hv mg
      refine ⟨none, 0, [], hv, Sl.nil .., ⟨fun h => (by cases h), fun h => ?_⟩, fun h => ?_⟩
      · cases mg.2 h
      · cases mg.2 h
    | some x =>
      rw [ht] at hv mg
      obtain ⟨a', c', rfl, hS'⟩ := hv
      refine ⟨a', c', x.1, rfl, hS'.sub fun _ _ => trivial, ?_, fun _ => ?_⟩
      · simp only [Option.map_some, Option.some.injEq] at mg
        exact mg
      · rw [ht2 x ht]
  obtain ⟨x5, n5, q5, y5, hb4, hnx⟩ : ∃ x n q y, Box w4 rb 103 [.slice x n q, y] ∧ ∀ w5, Wr w4 rb w5 → Box w5 rb 103 [.slice x n q, .bool (decide (¬ ofL bs4 = ⟨#[73, 83, 79, 49]⟩))] → RdS w5 rb rb (cur0 l) := by
    by_cases hm : l.take 4 = magic
    · have e0 : cur0 l = some (l.drop 4) := by unfold cur0; rw [if_pos hm]
      have R4 : RdS w4 rb rb ((takeS 4 l).map (·.2)) := R4
      rw [hr4 hm] at R4
      obtain ⟨x, q, hb, hS, hc⟩ := R4
      refine ⟨x, _, q, _, hb, fun w5 k5 hb5 => ?_⟩
      rw [e0]
      rw [decide_eq_false (fun e => e (iff4.2 hm))] at hb5
      exact ⟨_, _, hb5, hS.kp (k5.kp fun i hi => by omega), hc⟩
    · have e0 : cur0 l = none := by unfold cur0; rw [if_neg hm]
      have key : ∀ {x n q y}, Box w4 rb 103 [.slice x n q, y] → ∃ x n q y, Box w4 rb 103 [.slice x n q, y] ∧ ∀ w5, Wr w4 rb w5 → Box w5 rb 103 [.slice x n q, .bool (decide (¬ ofL bs4 = ⟨#[73, 83, 79, 49]⟩))] → RdS w5 rb rb (cur0 l) := fun hb => ⟨_, _, _, _, hb, fun w5 k5 hb5 => by
        rw [e0]
        rw [decide_eq_true (show ¬ ofL bs4 = ⟨#[73, 83, 79, 49]⟩ from fun e => hm (iff4.1 e))] at hb5
        exact ⟨_, _, _, hb5⟩⟩
      cases hq : ((some l : Option (List UInt8)).bind (takeS 4)).map (·.2) with
      | none => rw [hq] at R4; obtain ⟨x, n, q, hb⟩ := R4; exact key hb
      | some r => rw [hq] at R4; obtain ⟨x, q, hb, _, _⟩ := R4; exact key hb
  refine cbl S4 rfl (fun _ => trivial) ?_
  refine st hb4 fun w5 k5 hb5 => ?_
  have R5 := hnx w5 k5 hb5
  have z4 := A4.size
  have z5 := k5.size
  have A35 : Ap w3 (some ⟨rb, 0, none⟩) w5 := A4.trans k5.ap
  refine cl (u_text rb rb _ w5 R5 (Nat.le_refl _)) ?_
  rintro v w6 ⟨A6, R6, ⟨s6, rfl⟩, k6⟩
  refine cl (u_getStr rb rb _ w6 R6 (Nat.le_refl _) 92 fun cur w h => u_text rb rb cur w h (Nat.le_refl _)) ?_
  rintro v w7 ⟨A7, R7, ⟨p7, n7, c7, rfl⟩, k7⟩
  refine cl (u_getCls rb rb _ w7 R7 (Nat.le_refl _) 95 fun cur w h => u_class rb rb cur w h (Nat.le_refl _)) ?_
  rintro v w8 ⟨A8, R8, ⟨p8, n8, c8, rfl⟩, k8⟩
  refine cl (u_getFld rb rb _ w8 R8 (Nat.le_refl _) 97 fun cur w h => u_field rb rb cur w h (Nat.le_refl _)) ?_
  rintro v w9 ⟨A9, R9, ⟨p9, n9, c9, rfl⟩, k9⟩
  refine cl (u_getMth rb rb _ w9 R9 (Nat.le_refl _) 99 fun cur w h => u_method rb rb cur w h (Nat.le_refl _)) ?_
  rintro v w10 ⟨A10, R10, ⟨p10, n10, c10, rfl⟩, k10⟩
  have z6 := A6.size
  have z7 := A7.size
  have z8 := A8.size
  have z9 := A9.size
  have z10 := A10.size
  obtain ⟨xi, ni, qi, yi, hb10, hni⟩ : ∃ x n q y, Box w10 rb 103 [.slice x n q, y] ∧ ∀ r, (((((((((((cur0 l).bind rTxt).map (·.2)).bind (rList rTxt)).map (·.2)).bind (rList rCls)).map (·.2)).bind (rList rFld)).map (·.2)).bind (rList rMth)).map (·.2)) = some r → n = r.length := by
    cases hq : (((((((((((cur0 l).bind rTxt).map (·.2)).bind (rList rTxt)).map (·.2)).bind (rList rCls)).map (·.2)).bind (rList rFld)).map (·.2)).bind (rList rMth)).map (·.2)) with
    | none => rw [hq] at R10; obtain ⟨x, n, q, hb⟩ := R10; exact ⟨x, n, q, _, hb, fun r h => by cases h⟩
    | some r => rw [hq] at R10; obtain ⟨x, q, hb, _, _⟩ := R10; exact ⟨x, _, q, _, hb, fun r' h => by rw [Option.some.inj h]⟩
  refine ld (hb10.cell rfl) ?_
  refine cl (u_number rb rb _ w10 R10 (Nat.le_refl _)) ?_
  rintro v w11 ⟨A11, R11, ⟨sum, rfl⟩, k11⟩
  have z11 := A11.size
  have A311 : Ap w3 (some ⟨rb, 0, none⟩) w11 := ((((((A35.trans A6).trans A7).trans A8).trans A9).trans A10).trans A11)
  have B011 : Bl w w11 := Below.trans B03 (A311.below (by omega) fun g hg => by simp only [Option.some.injEq, Addr.mk.injEq, and_true] at hg; omega)
  have x11 := A311.box x3 (ap_ne (by omega))
  have dc := dec_chain l
  cases hs : (((((((((((cur0 l).bind rTxt).map (·.2)).bind (rList rTxt)).map (·.2)).bind (rList rCls)).map (·.2)).bind (rList rFld)).map (·.2)).bind (rList rMth)).map (·.2)).bind rNum with
  | none =>
    rw [hs] at R11 dc
    have dc : parse l = none := dc
    obtain ⟨x, n, q, hb⟩ := R11
    refine ld (hb.cell rfl) ?_
    refine ldg (fun _ => hb.cell rfl) ?_
    refine spn (.slice none 0 0) ?_
    refine spn (I 0) ?_
    refine brt ?_
    refine bd ?_
    refine sta x11 fun w12 k12 x12 => ?_
    exact rtc2 x12.at (dec_none dc (B011.trans_wr k12 (by omega)))
  | some y =>
    rw [hs] at R11 dc
    obtain ⟨nn1, pp, cc, ss, mm, e1, e2, e3, e4, e5, hmm, hp⟩ := dc
    have hni : ni = mm.2.length := hni mm.2 (by rw [e5]; rfl)
    subst hni
    have hw : IntKind.i64.wrap ((l.length : Int) - (mm.2.length : Int)) = ((l.length - mm.2.length : Nat) : Int) := by rw [wrap_fit (by omega) (by omega)]; omega
    rw [hw]
    have R11 : RdS w11 rb rb (some y.2) := R11
    obtain ⟨x, q, hb, hS11, hc⟩ := R11
    have hsum : sum = y.1 := by
      have := k11 y.1 y.2 hs
      simp only [vNum, Value.int.injEq, true_and] at this
      exact this
    subst hsum
    refine ld (hb.cell rfl) ?_
    refine ldg (fun _ => hb.cell rfl) ?_
    by_cases hy : y.2 = []
    · have hy0 : ¬ (0 : Int) < (y.2.length : Int) := by rw [hy]; decide
      refine spt (.slice none 0 0) ?_ (hb := by rw [decide_eq_false hy0]; rfl)
      refine Eng.sl 0 (l.length - mm.2.length) ?_
      refine spt (I 0) ?_
      have hlen : (l.take (l.length - mm.2.length)).length = l.length - mm.2.length := by rw [List.length_take]; omega
      have hS0 : Sl eB T w11 (if c = 0 then a else a.map (·.add (0 * 1))) (l.take (l.length - mm.2.length)) := slB_if (n := 0) (slB_take (hS.bl B011) _) (by rw [hlen]; omega)
      have hcs := u_SumS (l.take (l.length - mm.2.length)) (if c = 0 then a else a.map (·.add (0 * 1))) (c - 0) T w11 hS0
      rw [hlen] at hcs
      refine cl hcs ?_
      rintro _ w11 ⟨rfl, rfl⟩
      refine br (fun h => ?_) (fun h => ?_)
      · have hno : parse l = none := by
          rw [hp, if_neg]
          rintro ⟨_, q⟩
          rw [Bool.false_or] at h
          exact of_decide_eq_true h q
        refine bd ?_
        refine sta x11 fun w12 k12 x12 => ?_
        exact rtc2 x12.at (dec_none hno (B011.trans_wr k12 (by omega)))
      have hsum : y.1 = sumB (l.take (l.length - mm.2.length)) := by
        rcases Classical.em (y.1 = sumB (l.take (l.length - mm.2.length))) with e | e
        · exact e
        · rw [Bool.false_or] at h; exact absurd e (of_decide_eq_false h)
      have hpu : parse l = some ⟨nn1.1, pp.1, cc.1, ss.1, mm.1⟩ := by rw [hp, if_pos ⟨hy, hsum⟩]
      have hz := parse_size hpu
      have E6 : Value.string s6 = .string nn1.1 := k6 _ _ e1
      obtain ⟨a7, d7, E7, S7⟩ := k7 _ _ e2
      obtain ⟨a8, d8, E8, S8⟩ := k8 _ _ e3
      obtain ⟨a9, d9, E9, S9⟩ := k9 _ _ e4
      obtain ⟨a10, d10, E10, S10⟩ := k10 _ _ e5
      obtain rfl := Value.string.inj E6
      obtain ⟨rfl, rfl, rfl⟩ := Value.slice.inj E7
      obtain ⟨rfl, rfl, rfl⟩ := Value.slice.inj E8
      obtain ⟨rfl, rfl, rfl⟩ := Value.slice.inj E9
      obtain ⟨rfl, rfl, rfl⟩ := Value.slice.inj E10
      have ne : ∀ i, w5.heap.size ≤ i → (some ⟨rb, 0, none⟩ : Option Addr) ≠ some ⟨i, 0, none⟩ := fun i hi => ap_ne (by omega)
      have hz7 := S7.big
      have U11 : UnR (fun i => w5.heap.size ≤ i) w11 ⟨nn1.1, pp.1, cc.1, ss.1, mm.1⟩ ⟨p7, c7, p8, c8, p9, c9, p10, c10⟩ := by
        have S7 := (((S7.kp (A8.kp.sub fun i hi => ne i (by omega))).kp (A9.kp.sub fun i hi => ne i (by omega))).kp (A10.kp.sub fun i hi => ne i (by omega))).kp (A11.kp.sub fun i hi => ne i (by omega))
        have S8 := ((S8.kp (A9.kp.sub fun i hi => ne i (by omega))).kp (A10.kp.sub fun i hi => ne i (by omega))).kp (A11.kp.sub fun i hi => ne i (by omega))
        have S9 := (S9.kp (A10.kp.sub fun i hi => ne i (by omega))).kp (A11.kp.sub fun i hi => ne i (by omega))
        have S10 := S10.kp (A11.kp.sub fun i hi => ne i (by omega))
        exact ⟨by omega, fun s hs => by have := hz.2 s hs; omega, S7.sub fun i hi => by omega, S8.sub fun i hi => by omega, S9.sub fun i hi => by omega, S10.sub fun i hi => by omega⟩
      refine bd ?_
      refine al fun b12 w12 h12 => ?_
      have y12 := h12.blk
      have z12 := h12.size
      refine sta h12.box fun w13 k13 x13 => ?_
      have z13 := k13.size
      have B1113 := h12.wr k13
      have B013 := B011.trans B1113
      have x213 := Bl.box B1113 x11
      refine lda x13.at ?_
      refine cl (u_Check ⟨nn1.1, pp.1, cc.1, ss.1, mm.1⟩ ⟨p7, c7, p8, c8, p9, c9, p10, c10⟩ w13 ((U11.bl B1113).all) (hG.bl B013)) ?_
      rintro _ w14 ⟨rfl, B1314⟩
      have B014 := B013.trans B1314
      refine br (t := decide (¬ checkE ⟨nn1.1, pp.1, cc.1, ss.1, mm.1⟩ = 0)) (fun h => ?_) (fun h => ?_)
      · have h0 := of_decide_eq_true h
        refine bd ?_
        refine sta (Bl.box B1314 x213) fun w15 k15 x15 => ?_
        exact rtc2 x15.at (dec_err (by unfold decE; rw [hpu]) (by unfold decU; rw [hpu]; exact if_neg h0) (B014.trans_wr k15 (by omega)))
      have h0 : checkE ⟨nn1.1, pp.1, cc.1, ss.1, mm.1⟩ = 0 := Classical.not_not.1 (of_decide_eq_false h)
      refine lda (Bl.box B1314 x13).at ?_
      refine sta (Bl.box B1314 x213) fun w15 k15 x15 => ?_
      have eE : decE l = 0 := by unfold decE; rw [hpu]; exact h0
      have eU : decU l = ⟨nn1.1, pp.1, cc.1, ss.1, mm.1⟩ := by unfold decU; rw [hpu]; exact if_pos h0
      refine rtc2 x15.at ⟨⟨p7, c7, p8, c8, p9, c9, p10, c10⟩, by rw [eE, eU]; rfl, ?_, B014.trans_wr k15 (by omega)⟩
      rw [eU]
      have U14 := (U11.bl B1113).bl B1314
      exact (U14.kp (k15.kp fun i hi => by omega)).all
    · have hy0 : (0 : Int) < (y.2.length : Int) := by
        have := List.length_pos_iff.2 hy
        omega
      have hno : parse l = none := by rw [hp, if_neg fun h => hy h.1]
      refine spn (.slice none 0 0) ?_ (hb := by rw [decide_eq_true hy0]; rfl)
      refine spn (I 0) ?_ (hb := by rw [decide_eq_true hy0]; rfl)
      refine brt ?_ (hp := by rw [decide_eq_true hy0]; rfl)
      refine bd ?_
      refine sta x11 fun w12 k12 x12 => ?_
      exact rtc2 x12.at (dec_none hno (B011.trans_wr k12 (by omega)))
end Go.Proofs.YtopjmiklpnejmaaGreatDoor

/- Walks: the document's reader of bytes: a number, a length, a text. -/
namespace Go.Proofs.YtopjmiklpnejmaaGreatDoor
open Eng Go.RowKit
/-- the reader's state: where it stands in the bytes, or: they are not of the form -/
structure RfS (w : World) (rb B : Nat) (a0 : Option Addr) (c0 : Nat) (l0 : List UInt8) (o : Option (List UInt8)) : Prop where
  box : ∃ at' : Int, Box w rb 181 [.slice a0 l0.length c0, I at', .bool o.isNone] ∧ ∀ r, o = some r → ∃ k : Nat, at' = k ∧ k ≤ l0.length ∧ r = l0.drop k
  sl : Sl eB (· < B) w a0 l0
  cap : l0.length ≤ c0
section
variable {rb B : Nat} {a0 : Option Addr} {c0 : Nat} {l0 : List UInt8}
theorem RfS.lt {w : World} {o : Option (List UInt8)} (h : RfS w rb B a0 c0 l0 o) : rb < w.heap.size := by obtain ⟨_, h, _⟩ := h.box; exact h.lt
theorem RfS.ap {w w' : World} {o : Option (List UInt8)} (h : RfS w rb B a0 c0 l0 o) {a : Option Addr} (k : Ap w a w') (hB : B ≤ rb) (ha : ∀ g, a = some ⟨g, 0, none⟩ → rb < g) : RfS w' rb B a0 c0 l0 o := by
  obtain ⟨at', hb, hr⟩ := h.box
  exact ⟨⟨at', k.box hb fun e => by have := ha _ e; omega, hr⟩, h.sl.kp (k.kp.sub fun i hi e => by have := ha _ e; omega), h.cap⟩
theorem RfS.bl {w w' : World} {o : Option (List UInt8)} (h : RfS w rb B a0 c0 l0 o) (k : Bl w w') (hB : B ≤ rb) : RfS w' rb B a0 c0 l0 o := h.ap (Ap.of_bl k none) hB fun _ h => absurd h nn
/-- what a reader of something gives -/
structure RfR {α : Type} (p : Prs α) (V : (Nat → Prop) → World → Value → α → Prop) (G : Value → Prop) (rb B : Nat) (a0 : Option Addr) (c0 : Nat) (l0 : List UInt8) (cur : Option (List UInt8)) (w : World) (v : Value) (w' : World) : Prop where
  ap : Ap w (some ⟨rb, 0, none⟩) w'
  st : RfS w' rb B a0 c0 l0 ((cur.bind p).map (·.2))
  sh : G v
  ok : ∀ x r, cur.bind p = some (x, r) → V (fun b => w.heap.size ≤ b ∧ b < w'.heap.size) w' v x
theorem r_residue2 (n : Int) (w : World) (h0 : 0 ≤ n) (h1 : n < 4294967296) : Ret Tryz.prog 232 #[I n] w fun v w' => v = I n ∧ w' = w := by
  have e : n.tmod 4294967296 = n := by rw [Int.tmod_eq_emod_of_nonneg h0]; omega
  refine entr (vs := [I n]) [0, 2, 3, 7] tabok Tryz.func232 (by kernel_rfl) ?_
  refine iop (rem_run (b := 4294967296) (by decide)) ?_
  rw [e]
  refine brF ?_
  exact rt1 ⟨rfl, rfl⟩
theorem r_Wrap (n : Int) (w : World) (h0 : 0 ≤ n) (h1 : n < 4294967296) : Ret Tryz.prog 229 #[I n] w fun v w' => v = I (IntKind.i64.wrap (IntKind.i32.wrap n)) ∧ w' = w := by
  refine entr (vs := [I n]) [0, 2, 3, 7] tabok Tryz.func229 (by kernel_rfl) ?_
  refine cl (r_residue2 n w h0 h1) ?_
  rintro _ _ ⟨rfl, rfl⟩
  have e : IntKind.i64.wrap (IntKind.i32.wrap n) = if 2147483648 ≤ n then n - 4294967296 else n := by
    simp only [IntKind.wrap, IntKind.bits, IntKind.signed]
    simp
    split <;> omega
  refine br (t := decide (2147483648 ≤ n)) (fun h => ?_) (fun h => ?_)
  · have := of_decide_eq_true h
    refine rt1 ⟨vi ?_, rfl⟩
    rw [e, if_pos this, wrap_fit (by omega) (by omega)]
  · have := of_decide_eq_false h
    refine rt1 ⟨vi ?_, rfl⟩
    rw [e, if_neg this]
theorem r_FromBytes (x y z t : UInt8) (a : Option Addr) (c : Nat) (S : Nat → Prop) (w : World) (hS : Sl eB S w a [x, y, z, t]) : Ret Tryz.prog 206 #[.slice a 4 c] w fun v w' => v = .tuple #[I (frm x y z t), I 0] ∧ w' = w := by
  refine entr (vs := [.slice a 4 c]) [0, 2, 3, 4, 5, 8, 10] tabok Tryz.func206 (by kernel_rfl) ?_
  refine brF ?_ (hp := by decide)
  refine lpk 4 5 [4] [(0, .slice a 4 c)] (fun k vals w' => vals = [I (accN ([x, y, z, t].take k) : Nat)] ∧ w' = w) ⟨rfl, rfl⟩ ?_
  rintro k vals _ hk ⟨rfl, rfl⟩ ih
  by_cases hlt : k < 4
  · refine brT ?_
    obtain ⟨u, b, o, cs, hu, rfl, _, hAt, rfl⟩ := at_some hS (i := k) hlt
    have hu1 := u.toNat_lt
    have ha : accN ([x, y, z, t].take k) < 256 ^ k := accN_lt k _ (by rw [List.length_take]; simp; omega)
    have ha2 : accN ([x, y, z, t].take k) < 16777216 := by
      have h5 : k = 0 ∨ k = 1 ∨ k = 2 ∨ k = 3 := by omega
      rcases h5 with rfl | rfl | rfl | rfl <;> simp only [Nat.pow_zero, Nat.pow_one, Nat.reducePow] at ha <;> omega
    refine ix ?_
    refine ld (hAt 0 _ rfl) ?_
    refine cv (ks := .u8) (kb := .i64) (by kernel_rfl) (by kernel_rfl) ?_
    refine ih hlt ⟨lst1 (vi ?_), rfl⟩
    rw [take_succ_some hu, accN_snoc]
    rw [wrap_fit (a := (u.toNat : Int)) (by omega) (by omega), wrap_fit (a := (accN ([x, y, z, t].take k) : Int) * 256) (by omega) (by omega), wrap_fit (by omega) (by omega)]
    omega
  refine brF ?_
  obtain rfl : k = 4 := by omega
  have hl : accN [x, y, z, t] < 256 ^ 4 := accN_lt 4 _ rfl
  refine cl (r_Wrap ((accN [x, y, z, t] : Nat) : Int) _ (by omega) (by omega)) ?_
  rintro _ _ ⟨rfl, rfl⟩
  refine rt2 ⟨?_, rfl⟩
  rw [frm_acc]
theorem rNum_some {l r : List UInt8} {n : Int} (h : rNum l = some (n, r)) : ∃ x y z t, l = [x, y, z, t] ++ r ∧ n = frm x y z t := by
  unfold rNum at h
  split at h
  · rename_i a b c d r'
    simp only [Option.some.injEq, Prod.mk.injEq] at h
    obtain ⟨rfl, rfl⟩ := h
    exact ⟨a, b, c, d, rfl, rfl⟩
  · cases h
theorem rNum_short {l : List UInt8} : rNum l = none ↔ l.length < 4 := by
  rcases l with _ | ⟨a, _ | ⟨b, _ | ⟨c, _ | ⟨d, r⟩⟩⟩⟩ <;> simp [rNum]
/-- bytes between two places -/
theorem slB_mid {S : Nat → Prop} {w : World} {a : Option Addr} {l : List UInt8} (h : Sl eB S w a l) {c i j : Nat} (hc : l.length ≤ c) : Sl eB S w (if c = i then a else a.map (·.add (i * 1))) ((l.drop i).take j) := slB_take (slB_if h hc) j
set_option maxHeartbeats 1000000 in
theorem r_number (cur : Option (List UInt8)) (w : World) (hR : RfS w rb B a0 c0 l0 cur) (hB : B ≤ rb) : Ret Tryz.prog 154 #[pr rb] w (RfR rNum vNum gNum rb B a0 c0 l0 cur w) := by
  have hbig := hR.sl.big
  refine entr (vs := [pr rb]) [0, 2, 3, 21] tabok Tryz.func154 (by kernel_rfl) ?_
  refine ds fun w1 h1 => ?_
  have R1 := hR.bl h1.bl hB
  obtain ⟨at', hb, hr⟩ := R1.box
  refine ld (hb.cell rfl) ?_
  cases cur with
  | none =>
    refine ldg (fun _ => hb.cell rfl) ?_
    refine ldg (fun _ => hb.cell rfl) ?_
    refine brt ?_
    refine st hb fun w2 k2 hb2 => ?_
    exact rt1 ⟨(Ap.bl h1.bl _).trans k2.ap, ⟨⟨at', hb2, fun r h => by cases h⟩, R1.sl.kp (k2.kp fun i hi => by omega), R1.cap⟩, ⟨_, rfl⟩, fun x r q => by cases q⟩
  | some r =>
    obtain ⟨k, rfl, hk, rfl⟩ := hr r rfl
    have hdl : (l0.drop k).length = l0.length - k := List.length_drop
    refine ldg (fun _ => hb.cell rfl) ?_
    refine ldg (fun _ => hb.cell rfl) ?_
    have hw : IntKind.i64.wrap ((l0.length : Int) - (k : Int)) = ((l0.length - k : Nat) : Int) := by rw [wrap_fit (by omega) (by omega)]; omega
    refine br (fun h => ?_) (fun h => ?_)
    all_goals rw [hw] at h
    · have hsh : l0.length - k < 4 := by simp at h; omega
      have hn : rNum (l0.drop k) = none := rNum_short.2 (by omega)
      refine st hb fun w2 k2 hb2 => ?_
      have e : (some (l0.drop k)).bind rNum = none := hn
      exact rt1 ⟨(Ap.bl h1.bl _).trans k2.ap, by rw [e]; exact ⟨⟨k, hb2, fun r h => by cases h⟩, R1.sl.kp (k2.kp fun i hi => by omega), R1.cap⟩, ⟨_, rfl⟩, fun x r q => by rw [e] at q; cases q⟩
    · have hsh : 4 ≤ l0.length - k := by simp at h; omega
      cases hn : rNum (l0.drop k) with
      | none => have := rNum_short.1 hn; omega
      | some xr =>
        obtain ⟨n, r⟩ := xr
        obtain ⟨x, y, z, t, hl, hfr⟩ := rNum_some hn
        have hr4 : r = l0.drop (k + 4) := by
          rw [← List.drop_drop, hl]; rfl
        have ht4 : (l0.drop k).take 4 = [x, y, z, t] := by rw [hl]; rfl
        refine dh T [0, 1, 2, 3, 4, 5, 6, 7, 8, 9, 10, 11, 12, 13, 14, 15, 16, 17, 18, 19] fun w2 h2 => ?_
        have hb2 := h2.box hb
        have hS2 := R1.sl.bl h2.bl
        refine ld (hb2.cell rfl) ?_
        refine ld (hb2.cell rfl) ?_
        refine ld (hb2.cell rfl) ?_
        have hw2 : IntKind.i64.wrap ((k : Int) + 4) = ((k + 4 : Nat) : Int) := by rw [wrap_fit (by omega) (by omega)]; omega
        have hcap := R1.cap
        refine Eng.sl k (k + 4) ?_ (h2 := by exact ⟨.i64, vi hw2⟩)
        have hS4 : Sl eB (· < B) w2 (if c0 = k then a0 else a0.map (·.add (k * 1))) [x, y, z, t] := by
          rw [← ht4]; exact slB_mid hS2 hcap
        have hc := r_FromBytes x y z t (if c0 = k then a0 else a0.map (·.add (k * 1))) (c0 - k) _ w2 hS4
        have e4 : k + 4 - k = 4 := by omega
        rw [e4]
        refine cl hc ?_
        rintro _ _ ⟨rfl, rfl⟩
        refine ld (hb2.cell rfl) ?_
        refine st hb2 fun w3 k3 hb3 => ?_
        rw [hw2] at hb3
        have e : (some (l0.drop k)).bind rNum = some (n, r) := hn
        refine rt1 ⟨((Ap.bl h1.bl _).thenBl h2.bl).trans k3.ap, by rw [e]; exact ⟨⟨((k + 4 : Nat) : Int), hb3, fun r' h => ⟨k + 4, rfl, by omega, by rw [← hr4]; exact (Option.some.inj h).symm⟩⟩, hS2.kp (k3.kp fun i hi => by omega), R1.cap⟩, ⟨_, rfl⟩, fun x' r' q => ?_⟩
        rw [e] at q
        simp only [Option.some.injEq, Prod.mk.injEq] at q
        rw [← q.1, hfr]
def rLen (m : Nat) : Prs Int := fun l => (rNum l).bind fun x => if x.1 < 0 ∨ ((x.2.length / m : Nat) : Int) < x.1 then none else some x
/-- a length: a natural number, 0 where something is wrong -/
abbrev gLen {α : Type} (n : Nat) (o : Option (Int × α)) : Value → Prop := fun v => ∃ m : Nat, v = I m ∧ (o = none → m = 0) ∧ m ≤ n
set_option maxHeartbeats 1000000 in
theorem r_length (m : Nat) (hm : 0 < m) (hm2 : m < 1000) (cur : Option (List UInt8)) (w : World) (hR : RfS w rb B a0 c0 l0 cur) (hB : B ≤ rb) : Ret Tryz.prog 203 #[pr rb, I (m : Nat)] w (RfR (rLen m) vNum (gLen l0.length (cur.bind (rLen m))) rb B a0 c0 l0 cur w) := by
  have hbig := hR.sl.big
  refine entr (vs := [pr rb, I (m : Nat)]) [0, 1, 4, 5, 31] tabok Tryz.func203 (by kernel_rfl) ?_
  refine cl (r_number cur w hR hB) ?_
  rintro v w1 ⟨hA, R1, ⟨n, rfl⟩, hok⟩
  refine ds fun w2 h2 => ?_
  have hA2 := hA.thenBl h2.bl
  have R2 := R1.bl h2.bl hB
  obtain ⟨at', hb, hr⟩ := R2.box
  have key : cur.bind (rLen m) = (cur.bind rNum).bind fun x => if x.1 < 0 ∨ ((x.2.length / m : Nat) : Int) < x.1 then none else some x := by cases cur <;> rfl
  refine ld (hb.cell rfl) ?_
  cases h1 : cur.bind rNum with
  | none =>
    rw [h1] at hb key
    have key : cur.bind (rLen m) = none := key
    refine spn (.slice none 0 0) ?_
    refine spn (I 0) ?_
    refine spn (I 0) ?_
    refine brt ?_
    refine st hb fun w3 k3 hb3 => ?_
    exact rt1 ⟨hA2.trans k3.ap, by rw [key]; exact ⟨⟨at', hb3, fun r h => by cases h⟩, R2.sl.kp (k3.kp fun i hi => by omega), R2.cap⟩, ⟨0, rfl, fun _ => rfl, Nat.zero_le _⟩, fun x r q => by rw [key] at q; cases q⟩
  | some xr =>
    obtain ⟨n0, r⟩ := xr
    have e0 := hok _ _ h1
    simp only [vNum, Value.int.injEq, true_and] at e0
    subst e0
    rw [h1] at hb hr key
    obtain ⟨k, rfl, hk, hrk⟩ := hr r rfl
    have hdl : r.length = l0.length - k := by rw [hrk, List.length_drop]
    by_cases hn : n < 0
    · have key : cur.bind (rLen m) = none := by rw [key]; exact if_pos (.inl hn)
      refine spn (.slice none 0 0) ?_ (hb := by rw [decide_eq_true hn]; rfl)
      refine spn (I 0) ?_ (hb := by rw [decide_eq_true hn]; rfl)
      refine spn (I 0) ?_ (hb := by rw [decide_eq_true hn]; rfl)
      refine brt ?_ (hp := by rw [decide_eq_true hn]; rfl)
      refine st hb fun w3 k3 hb3 => ?_
      exact rt1 ⟨hA2.trans k3.ap, by rw [key]; exact ⟨⟨k, hb3, fun r h => by cases h⟩, R2.sl.kp (k3.kp fun i hi => by omega), R2.cap⟩, ⟨0, rfl, fun _ => rfl, Nat.zero_le _⟩, fun x r q => by rw [key] at q; cases q⟩
    obtain ⟨j, rfl⟩ : ∃ j : Nat, n = (j : Int) := ⟨n.toNat, by omega⟩
    refine spt (.slice none 0 0) ?_ (hb := by rw [decide_eq_false hn]; rfl)
    refine ld (hb.cell rfl) ?_
    refine spt (I 0) ?_
    refine ld (hb.cell rfl) ?_
    have hw : IntKind.i64.wrap ((l0.length : Int) - (k : Int)) = ((r.length : Nat) : Int) := by rw [wrap_fit (by omega) (by omega)]; omega
    refine spt (I 0) ?_
    refine iop (quo_run (b := (m : Int)) (by omega)) ?_
    have hq : IntKind.i64.wrap ((IntKind.i64.wrap ((l0.length : Int) - (k : Int))).tdiv (m : Int)) = ((r.length / m : Nat) : Int) := by
      rw [hw]
      have h4 : (r.length : Int).tdiv (m : Int) = ((r.length / m : Nat) : Int) := by rw [Int.tdiv_eq_ediv_of_nonneg (by omega)]; rfl
      have h5 : r.length / m ≤ r.length := Nat.div_le_self ..
      rw [h4]
      generalize r.length / m = q at h5 ⊢
      rw [wrap_fit (by omega) (by omega)]
    rw [hq]
    refine br (fun h => ?_) (fun h => ?_)
    · have hbig : ((r.length / m : Nat) : Int) < (j : Int) := by simpa using h
      have key : cur.bind (rLen m) = none := by rw [key]; exact if_pos (.inr hbig)
      refine st hb fun w3 k3 hb3 => ?_
      exact rt1 ⟨hA2.trans k3.ap, by rw [key]; exact ⟨⟨k, hb3, fun r h => by cases h⟩, R2.sl.kp (k3.kp fun i hi => by omega), R2.cap⟩, ⟨0, rfl, fun _ => rfl, Nat.zero_le _⟩, fun x r q => by rw [key] at q; cases q⟩
    · have hsm : ¬ ((r.length / m : Nat) : Int) < (j : Int) := by simpa using h
      have key : cur.bind (rLen m) = some ((j : Int), r) := by rw [key]; exact if_neg fun q => q.elim hn hsm
      refine rt1 ⟨hA2, by rw [key]; exact ⟨⟨k, hb, hr⟩, R2.sl, R2.cap⟩, ⟨j, rfl, fun q => (by rw [key] at q; cases q), by have h9 := Nat.div_le_self r.length m; generalize r.length / m = z at hsm h9; omega⟩, fun x r' q => ?_⟩
      rw [key] at q
      simp only [Option.some.injEq, Prod.mk.injEq] at q
      rw [← q.1]
end
end Go.Proofs.YtopjmiklpnejmaaGreatDoor
