/- Rows of the call's own as lists: what is appended, what is stored, what is read. -/
import Derived.Test.YtopjmiklpnejmaaGreatDoorEng7
import Derived.Lib.SmallJoins
namespace Go.Proofs.YtopjmiklpnejmaaGreatDoor
open Eng Go.RowKit
theorem flat_get {α : Type} {sz : Nat} {enc : α → List Value} (h : ∀ x, (enc x).length = sz) : ∀ {l : List α} {i : Nat} {x : α}, l[i]? = some x → ∀ j, j < sz → (l.flatMap enc)[i * sz + j]? = (enc x)[j]?
  | [], i, x, hx, _, _ => by simp at hx
  | y :: l, 0, x, hx, j, hj => by
    simp at hx; subst hx
    rw [List.flatMap_cons, Nat.zero_mul, Nat.zero_add, List.getElem?_append_left (by rw [h]; exact hj)]
  | y :: l, i + 1, x, hx, j, hj => by
    have := flat_get h (l := l) (i := i) (by simpa using hx) j hj
    rw [List.flatMap_cons, List.getElem?_append_right (by rw [h, Nat.succ_mul]; omega), h, ← this]
    congr 1; rw [Nat.succ_mul]; omega
theorem flat_length {α : Type} {sz : Nat} {enc : α → List Value} (h : ∀ x, (enc x).length = sz) (l : List α) : (l.flatMap enc).length = l.length * sz := by
  induction l with
  | nil => simp
  | cons x l ih => simp [ih, h, Nat.succ_mul]; omega
theorem plain_sz {α : Type} {sz : Nat} {enc : α → List Value} {h : ∀ x, (enc x).length = sz} : (plainEl sz enc h).sz = sz := rfl
/-- a row of plain elements reads as the list -/
theorem Eng.Ow.sl {α : Type} {sz : Nat} {enc : α → List Value} {h : ∀ x, (enc x).length = sz} {w : World} {base e cap n : Nat} {a : Option Addr} {l : List α} (hO : Ow w base e sz a n cap (l.flatMap enc)) (hn : n = l.length) (hl : l.length ≤ 4194304)
    {S : Nat → Prop} (hS : ∀ g, a = some ⟨g, 0, none⟩ → S g) : Sl (plainEl sz enc h) S w a l := by
  refine ⟨hl, fun i x hx => ?_⟩
  have hi : i < l.length := (List.getElem?_eq_some_iff.1 hx).1
  rcases hO.shape with ⟨_, h0, _⟩ | ⟨g, cur, rfl, _⟩
  · omega
  · refine ⟨g, 0, enc x, rfl, hS g rfl, fun j v hj => ?_, rfl⟩
    have hj' : j < sz := by rw [← h x]; exact (List.getElem?_eq_some_iff.1 hj).1
    have := hO.at rfl (i * sz + j) v (by rw [flat_get h hx j hj']; exact hj)
    rw [Nat.zero_add] at this
    rw [Nat.zero_add, plain_sz]; exact this
theorem Eng.Ow.strs {w : World} {base e cap n : Nat} {a : Option Addr} {l : List ByteArray} (hO : Ow w base e 1 a n cap (l.map Value.string)) (hn : n = l.length) (hl : l.length ≤ 4194304) {S : Nat → Prop} (hS : ∀ g, a = some ⟨g, 0, none⟩ → S g) : Sl eStr S w a l :=
  Eng.Ow.sl (enc := fun s => [.string s]) (h := fun _ => rfl) (by rw [← List.map_eq_flatMap]; exact hO) hn hl hS
/-- the whole row's block -/
theorem Eng.Ow.box {w : World} {base e esz : Nat} {n cap : Nat} {xs : List Value} {g : Nat} (h : Ow w base e esz (some ⟨g, 0, none⟩) n cap xs) : ∃ cur, Box w g e cur ∧ cur.length = cap * esz ∧ cur.take (n * esz) = xs ∧ n ≤ cap ∧ n * esz ≤ cur.length := by
  rcases h.shape with ⟨h0, _⟩ | ⟨g', cur, hg, _, h2, h3, h4, h5⟩
  · cases h0
  · simp only [Option.some.injEq, Addr.mk.injEq, and_true] at hg
    subst hg
    refine ⟨cur.toList, ?_, by simpa using h4, h5, h3, ?_⟩
    · unfold Box; rw [Array.toArray_toList]; exact h2
    · rw [Array.length_toList, h4]; exact Nat.mul_le_mul_right _ h3
/-- a store into such a row -/
theorem Eng.Ow.set {w w' : World} {base e esz : Nat} {n cap : Nat} {xs : List Value} {g : Nat} (h : Ow w base e esz (some ⟨g, 0, none⟩) n cap xs) {cur : List Value} (hb : Box w g e cur) {o : Nat} {v : Value} (hb' : Box w' g e (cur.set o v)) :
    Ow w' base e esz (some ⟨g, 0, none⟩) n cap (xs.set o v) := by
  obtain ⟨h1, h2⟩ := h.own
  refine ⟨⟨by simpa using h1, ?_⟩⟩
  rcases h2 with ⟨h2, _⟩ | ⟨g', cap', c2, h2, h3, h4, h5, h6, h7, h8⟩
  · cases h2
  · simp only [Value.slice.injEq, Option.some.injEq, Addr.mk.injEq, and_true, true_and] at h2
    obtain ⟨rfl, rfl⟩ := h2
    have e1 : c2.toList = cur := by
      unfold Box at hb; rw [hb] at h4
      simp only [Option.some.injEq, Obj.cells.injEq] at h4
      rw [← h4.1]
    refine .inr ⟨g, cap, (cur.set o v).toArray, rfl, h3, hb', h5, h6, by simp [← e1, h7], ?_⟩
    simp only [List.take_set, ← e1, h8]
theorem Eng.Ow.below {w0 w w' : World} {base e esz n cap : Nat} {a : Option Addr} {xs : List Value} (h : Ow w base e esz a n cap xs) (hA : Ap w a w') (hB : Below base w0 w) (hb : base ≤ w.heap.size) : Below base w0 w' :=
  hB.trans (hA.below hb fun _ hg => (h.lt hg).1)
theorem at_some {α : Type} {E : El α} {S : Nat → Prop} {w : World} {a : Option Addr} {l : List α} (h : Sl E S w a l) {i : Nat} (hi : i < l.length) : ∃ x b o cs, l[i]? = some x ∧ a = some ⟨b, o, none⟩ ∧ S b ∧ At w b (o + i * E.sz) cs ∧ E.rel S w cs x := by
  obtain ⟨x, hx⟩ := some_of_lt hi
  obtain ⟨b, o, cs, h1⟩ := h.el i x hx
  exact ⟨x, b, o, cs, hx, h1⟩
def ofL (l : List UInt8) : ByteArray := ⟨l.toArray⟩
theorem ofL_nil : ofL [] = ⟨#[]⟩ := rfl
theorem ofL_toL (s : ByteArray) : ofL s.data.toList = s := by cases s; simp [ofL]
theorem toL_ofL (l : List UInt8) : (ofL l).data.toList = l := by simp [ofL]
theorem ofL_append (a b : List UInt8) : ofL a ++ ofL b = ofL (a ++ b) := ba_ext (by rw [Joins.data_append]; simp [ofL])
theorem ofL_size (l : List UInt8) : (ofL l).size = l.length := by simp [ofL, ByteArray.size]
/-- a slice of plain elements as what append takes -/
theorem src_of {α : Type} {sz : Nat} {enc : α → List Value} {h : ∀ x, (enc x).length = sz} {S : Nat → Prop} {w : World} {a : Option Addr} {l : List α} (hS : Sl (plainEl sz enc h) S w a l) : Src w a l.length (l.flatMap enc) := by
  cases l with
  | nil =>
    exact .inl ⟨rfl, rfl⟩
  | cons x l =>
    obtain ⟨b, o, cs, e, hs, hat, rfl⟩ := hS.el 0 x rfl
    refine .inr ⟨b, o, e, ?_⟩
    intro j v hj
    have hlt : j < ((x :: l).flatMap enc).length := (List.getElem?_eq_some_iff.1 hj).1
    rw [flat_length h] at hlt
    have hsz : 0 < sz := by
      rcases Nat.eq_zero_or_pos sz with h0 | h0
      · rw [h0] at hlt; simp at hlt
      · exact h0
    have hq : j / sz < (x :: l).length := Nat.div_lt_of_lt_mul (by rw [Nat.mul_comm]; exact hlt)
    obtain ⟨y, hy⟩ := some_of_lt hq
    have hm : j % sz < sz := Nat.mod_lt _ hsz
    have e1 : j / sz * sz + j % sz = j := by rw [Nat.mul_comm]; exact Nat.div_add_mod j sz
    have := flat_get h hy (j % sz) hm
    rw [e1, hj] at this
    obtain ⟨b', o', cs', e', _, hat', rfl⟩ := hS.el _ y hy
    rw [e] at e'
    simp only [Option.some.injEq, Addr.mk.injEq, and_true] at e'
    obtain ⟨rfl, rfl⟩ := e'
    have h2 := hat' _ _ this.symm
    rw [plain_sz, Nat.add_assoc, e1] at h2; exact h2
/-- an own row that holds a list of plain elements -/
abbrev OwP {α : Type} (sz : Nat) (enc : α → List Value) (w : World) (base e : Nat) (a : Option Addr) (cap : Nat) (l : List α) : Prop := Ow w base e sz a l.length cap (l.flatMap enc)
theorem owp_sl {α : Type} {sz : Nat} {enc : α → List Value} {w : World} {base e cap : Nat} {a : Option Addr} {l : List α} (hO : OwP sz enc w base e a cap l) (hl : l.length ≤ 4194304) {S : Nat → Prop} (hS : ∀ g, a = some ⟨g, 0, none⟩ → S g) (h : ∀ x, (enc x).length = sz := by exact fun _ => rfl) : Sl (plainEl sz enc h) S w a l :=
  Eng.Ow.sl hO rfl hl hS
/-- append, in terms of lists -/
theorem Eng.apl {C : Cx} {s : St} {w : World} {md : Option Md} {ops : Array Oper} {T T' : TypeId} {x y : Operand} {d : Nat} {ty : TypeId} {pos : String} {af : Array Edge} {g : Option (Nat × Bool)} {rest : List Oper} {k : List Item} {l : Env} {c : CEnv} {e esz by' sz : Nat} {ag : Bool} {zr : List Value}
    {α : Type} {enc : α → List Value} {base : Nat} {a : Option Addr} {cap : Nat} {l0 : List α} {ay : Option Addr} {cy : Nat} {l1 : List α} (hO : OwP esz enc w base e a cap l0) (hsrc : Src w ay l1.length (l1.flatMap enc)) (hbase : base ≤ w.heap.size)
    (h : ∀ a' cap' w', OwP esz enc w' base e a' cap' (l0 ++ l1) → Ap w a w' → (∀ g, a' = some ⟨g, 0, none⟩ → a = some ⟨g, 0, none⟩ ∨ w.heap.size ≤ g) → Wk C (.reg md ops rest k ((d, .slice a' (l0 ++ l1).length cap') :: l) c) w')
    (hs : adv C.tab C.n C.ks 400 s = .opn md ops ⟨some d, .call ⟨.builtin .append, #[x, y], #[T, T']⟩, ty, pos, af, g⟩ rest k l c [] := by rfl) (ht : C.tab.at T = some ⟨.slice e esz by', sz, ag, zr⟩ := by rfl)
    (hx : evc l c [] x = some (.slice a l0.length cap) := by rfl) (hy : evc l c [] y = some (.slice ay l1.length cy) := by rfl) (hTT : T' = T := by rfl) (hsz : Nat.blt 0 esz = true := by rfl) (hl : ∀ x, (enc x).length = esz := by exact fun _ => rfl) (h1 : ∀ x, (enc x).all Value.oneCell' = true := by exact fun _ => rfl)
    (hb : (l0.length + l1.length) * by' ≤ 140737488355328 := by first | omega | (simp only [List.length_nil, List.length_append, List.length_cons, List.length_map]; omega)) (hn : l0.length + l1.length ≤ 1152921504606846976 := by first | omega | (simp only [List.length_nil, List.length_append, List.length_cons, List.length_map]; omega)) (hf : fresh d l c [] = true := by rfl) (hm : ∀ w', Ap w a w' → mdW md w w' := by intros; exact True.intro) (hnt : notT md = true := by rfl) : Wk C s w := by
  refine ap hO hsrc hbase (fun a' cap' w' hO' hA hfr => ?_) hs ht hx hy hTT hsz (flat_length hl l1) ?_ hb hn hf hm hnt
  · have := h a' cap' w' (by unfold OwP; rw [List.length_append, List.flatMap_append]; exact hO') hA hfr
    rw [List.length_append] at this; exact this
  · rw [List.all_flatMap, List.all_eq_true]; exact fun x _ => h1 x
theorem flatMap_le {α β : Type} {f : α → List β} {B : Nat} : ∀ {l : List α}, (∀ x ∈ l, (f x).length ≤ B) → (l.flatMap f).length ≤ l.length * B
  | [], _ => by simp
  | x :: l, h => by
    have h1 := h x (List.mem_cons_self ..)
    have h2 := flatMap_le (l := l) fun y hy => h y (List.mem_cons_of_mem _ hy)
    simp only [List.flatMap_cons, List.length_append, List.length_cons, Nat.succ_mul]; omega
theorem flatMap_take_le {α β : Type} {f : α → List β} {B : Nat} {l : List α} (h : ∀ x ∈ l, (f x).length ≤ B) {k : Nat} (hk : k ≤ l.length) : ((l.take k).flatMap f).length ≤ l.length * B := by
  have := flatMap_le (f := f) (B := B) (l := l.take k) fun x hx => h x (List.mem_of_mem_take hx)
  rw [List.length_take, Nat.min_eq_left hk] at this
  exact Nat.le_trans this (Nat.mul_le_mul_right _ hk)
theorem flatMap_snoc {α β : Type} {f : α → List β} {l : List α} {k : Nat} {x : α} (hx : l[k]? = some x) : (l.take (k + 1)).flatMap f = (l.take k).flatMap f ++ f x := by
  rw [take_succ_some hx, List.flatMap_append]; simp
theorem map_snoc {α β : Type} {f : α → β} {l : List α} {k : Nat} {x : α} (hx : l[k]? = some x) : (l.take (k + 1)).map f = (l.take k).map f ++ [f x] := by
  rw [take_succ_some hx, List.map_append]; rfl
/-- what lies in memory lies in blocks that are there -/
theorem Sl.lt {α : Type} {sz : Nat} {enc : α → List Value} {h : ∀ x, (enc x).length = sz} (hsz : 0 < sz) {S : Nat → Prop} {w : World} {a : Option Addr} {l : List α} (hS : Sl (plainEl sz enc h) S w a l) : Sl (plainEl sz enc h) (· < w.heap.size) w a l :=
  ⟨hS.big, fun i x hx => by
    obtain ⟨b, o, cs, e, _, hat, rfl⟩ := hS.el i x hx
    obtain ⟨v, hv⟩ := some_of_lt (l := enc x) (k := 0) (by rw [h]; exact hsz)
    exact ⟨b, o, _, e, cell_lt (hat 0 v hv), hat, rfl⟩⟩
theorem UnR.lt {S : Nat → Prop} {w : World} {u : Unt} {a : UA} (h : UnR S w u a) : UnR (· < w.heap.size) w u a := by
  refine ⟨h.nm, h.ps, Sl.lt (by decide) h.pool, ⟨h.cls.big, fun i x hx => ?_⟩, Sl.lt (by decide) h.sta, ⟨h.mth.big, fun i x hx => ?_⟩⟩
  · obtain ⟨b, o, cs, e, _, hat, af, cf, rfl, hf⟩ := h.cls.el i x hx
    exact ⟨b, o, _, e, cell_lt (hat 0 _ rfl), hat, af, cf, rfl, Sl.lt (by decide) hf⟩
  · obtain ⟨b, o, cs, e, _, hat, a1, c1, a2, c2, a3, c3, rfl, h1, h2, h3⟩ := h.mth.el i x hx
    exact ⟨b, o, _, e, cell_lt (hat 0 _ rfl), hat, a1, c1, a2, c2, a3, c3, rfl, Sl.lt (by decide) h1, Sl.lt (by decide) h2, Sl.lt (by decide) h3⟩
theorem UnR.below {w w' : World} {B : Nat} {u : Unt} {a : UA} (h : UnR (· < B) w u a) (k : Below B w w') : UnR (· < B) w' u a := h.kp (Below.kp k)
theorem UnR.all {S : Nat → Prop} {w : World} {u : Unt} {a : UA} (h : UnR S w u a) : UnR T w u a := h.sub fun _ _ => trivial
theorem At.tail {w : World} {b o : Nat} {x : Value} {cs : List Value} (h : At w b o (x :: cs)) : At w b (o + 1) cs := fun j v hj => by
  have := h (j + 1) v (by simpa using hj)
  rw [Nat.add_assoc, Nat.add_comm 1 j]; exact this
theorem At.left {w : World} {b o : Nat} {cs ds : List Value} (h : At w b o (cs ++ ds)) : At w b o cs := fun j v hj => h j v (by rw [List.getElem?_append_left (List.getElem?_eq_some_iff.1 hj).1]; exact hj)
end Go.Proofs.YtopjmiklpnejmaaGreatDoor
