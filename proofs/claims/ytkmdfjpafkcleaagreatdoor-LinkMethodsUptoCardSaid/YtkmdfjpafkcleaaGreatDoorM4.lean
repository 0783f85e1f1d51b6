import Derived.Test.YtkmdfjpafkcleaaGreatDoorM3
import Derived.Shelf.SlIter.Collect
import Derived.Shelf.SlIter.Sorted
import Derived.Test.YtkmdfjpafkcleaaGreatDoorM1
import Derived.Lib.SlicesS
import Derived.Lib.LastIndexByte
import Derived.Test.YtkmdfjpafkcleaaGreatDoorM2
import Derived.Test.YtkmdfjpafkcleaaGreatDoorShelf
import Derived.Sort.OwnSortedInts
import Derived.Lib.RowBridge
import Derived.ArgAppend
import Derived.Laws.StructEq
/- Walks: names put in an order in which what each needs stands ahead of it. -/
namespace Go.Proofs.YtkmdfjpafkcleaaGreatDoor
open Eng Go.RowKit
/-- a function that hands back what a text needs -/
structure NeedF (S : List ByteArray) (g : FuncId) (first caps : List Value) (needs : ByteArray → List ByteArray) (w : World) : Prop where
  run : ∀ x ∈ S, ∀ w', Bl w w' → Ret Tryz.prog g (first ++ ([Value.string x] ++ caps)).toArray w' fun v w'' => ∃ a c, v = .slice a (needs x).length c ∧ Sl eStr T w'' a (needs x) ∧ Bl w' w''
theorem k_placed {w : World} {b mb : Nat} {P : Mp Bool} (hb : w.cell? ⟨b, 0, none⟩ = some (.map (some mb))) (hM : MapIs Value.bool w mb P) (x : ByteArray) :
    Ret Tryz.prog 160 #[.string x, .pointer (some ⟨b, 0, none⟩)] w fun v w' => v = .bool (!((getM P x).getD false)) ∧ w' = w := by
  refine entr (vs := [.string x, .pointer (some ⟨b, 0, none⟩)]) [0, 1, 3] tabok Tryz.func160 (by kernel_rfl) ?_
  refine ld hb ?_
  refine lk tB hM ?_
  rw [show ((getM P x).map Value.bool).getD (.bool false) = .bool ((getM P x).getD false) from getD_enc Value.bool _ false]
  exact rt1 ⟨rfl, rfl⟩
theorem k_ready {w : World} {S : List ByteArray} {g : FuncId} {first caps : List Value} {needs : ByteArray → List ByteArray} (hN : NeedF S g first caps needs w) {b3 b mb : Nat} {P : Mp Bool} (h3 : w.cell? ⟨b3, 0, none⟩ = some (.func (.func g) first.toArray caps.toArray))
    (hb : w.cell? ⟨b, 0, none⟩ = some (.map (some mb))) (hM : MapIs Value.bool w mb P) {x : ByteArray} (hx : x ∈ S) :
    Ret Tryz.prog 159 #[.string x, .pointer (some ⟨b3, 0, none⟩), .pointer (some ⟨b, 0, none⟩)] w fun v w' => v = .bool ((needs x).all fun y => (getM P y).getD false) ∧ Bl w w' := by
  refine entr (vs := [.string x, .pointer (some ⟨b3, 0, none⟩), .pointer (some ⟨b, 0, none⟩)]) [0, 1, 2, 4] tabok Tryz.func159 (by kernel_rfl) ?_
  refine ld h3 ?_
  refine cl (hN.run x hx w (Bl.refl w)) ?_ (hav := by simp)
  rintro _ w1 ⟨a, c, rfl, hS, B1⟩
  refine cl (ContainsFunc_str (needs x) a c 160 [.pointer (some ⟨b, 0, none⟩)] (fun y => !((getM P y).getD false)) T w1 hS fun y cs hy w' k hr => ?_) ?_
  · obtain rfl : cs = [.string y] := hr
    exact (k_placed ((B1.trans k).cl hb) (hM.bl (B1.trans k)) y).mono fun v w'' r => ⟨r.1, by rw [r.2]; exact Bl.refl _⟩
  rintro _ w2 ⟨rfl, B2⟩
  refine rt1 ⟨vb ?_, B1.trans B2⟩
  rw [List.not_any_eq_all_not]
  congr 1
  funext y
  simp
theorem Eng.Ow.apart {w w' : World} {base e esz n cap : Nat} {a a2 : Option Addr} {xs : List Value} (h : Ow w base e esz a n cap xs) (k : Ap w a2 w') (hne : ∀ g, a = some ⟨g, 0, none⟩ → a2 ≠ some ⟨g, 0, none⟩) : Ow w' base e esz a n cap xs := h.same fun g hg => k.block g (h.lt hg).2 (hne g hg)
theorem hasB_snoc (O : List ByteArray) (x y : ByteArray) : hasB (O ++ [x]) y = (hasB O y || decide (x = y)) := by
  unfold hasB
  rw [List.any_append]; simp
structure PlI (needs : ByteArray → List ByteArray) (names : List ByteArray) (w0 : World) (b3 b7 mb : Nat) (fv : Value) (L O : List ByteArray) (a6 : Option Addr) (c6 : Nat) (a8 : Option Addr) (c8 : Nat) (P : Mp Bool) (w : World) : Prop where
  o6 : OwP 1 encStr w w0.heap.size 9 a6 c6 L
  o8 : OwP 1 encStr w w0.heap.size 9 a8 c8 O
  ne : ∀ g, a6 = some ⟨g, 0, none⟩ → a8 ≠ some ⟨g, 0, none⟩
  mp : MapIs Value.bool w mb P
  hp : ∀ x, (getM P x).getD false = hasB O x
  x7 : Box w b7 85 [.map (some mb)]
  x3 : Box w b3 153 [fv]
  bl : Bl w0 w
  mb0 : w0.heap.size ≤ mb
  sub : ∀ x ∈ L, x ∈ names
  eq : placeL needs L.length L O = orderL needs names
  len : O.length + L.length = names.length
set_option maxHeartbeats 1000000 in
theorem k_place {w : World} {names : List ByteArray} {an : Option Addr} {cn : Nat} {g : FuncId} {first caps : List Value} {needs : ByteArray → List ByteArray} (hS : Sl eStr T w an names) (hN : NeedF names g first caps needs w) :
    Ret Tryz.prog 93 #[.slice an names.length cn, .func (.func g) first.toArray caps.toArray] w fun v w' => Bl w w' ∧ match orderL needs names with
      | none => v = .tuple #[.slice none 0 0, .bool false]
      | some o => ∃ a c, v = .tuple #[.slice a o.length c, .bool true] ∧ OwP 1 encStr w' w.heap.size 9 a c o := by
  have hbig := hS.big
  refine entr (vs := [.slice an names.length cn, .func (.func g) first.toArray caps.toArray]) [0, 1, 3, 4, 5, 6, 7, 8, 9, 16, 21] tabok Tryz.func93 (by kernel_rfl) ?_
  refine bx (cs := [.func (.func g) first.toArray caps.toArray]) fun b3 w1 k1 => ?_
  refine cl (k_values an names.length cn w1) ?_
  rintro _ w2 ⟨b2, rfl, h2⟩
  have B2 := k1.bl.trans h2.bl
  refine cl (k_sortV names an cn T w1 w2 b2 (hS.bl B2) h2) ?_
  rintro _ w3 ⟨a6, c6, rfl, O6, B23⟩
  have B3 := B2.trans B23
  refine mm fun mb w4 k4 => ?_
  refine al fun b7 w5 k5 => ?_
  refine st k5.box fun w6 k6 x6 => ?_
  have B36 : Bl w3 w6 := k4.bl.trans (k5.wr k6)
  have B6 := B3.trans B36
  have hne7 : mb ≠ b7 := by have := k4.blk; have := k4.size; have := k5.blk; omega
  have hM6 : MapIs Value.bool w6 mb [] := (k4.is Value.bool).bl (k5.wr k6)
  have x36 : Box w6 b3 153 [.func (.func g) first.toArray caps.toArray] := Bl.box ((h2.bl.trans B23).trans B36) k1.box
  refine lp [6, 8] [(3, .pointer (some ⟨b3, 0, none⟩)), (7, .pointer (some ⟨b7, 0, none⟩))]
    (fun m vals w' => ∃ L O a6 c6 a8 c8 P, m = L.length ∧ vals = [.slice a6 L.length c6, .slice a8 O.length c8] ∧ PlI needs names w b3 b7 mb (.func (.func g) first.toArray caps.toArray) L O a6 c6 a8 c8 P w')
    ⟨rfl, rfl, trivial⟩ ⟨sortL names, [], a6, c6, none, 0, [], rfl, rfl, ⟨(O6.bl B36).base (by have := B2.size; omega), Ow.nil .., (fun _ _ h => by cases h), hM6, (fun _ => rfl), x6, x36, B6, (by have := k4.blk; have := B3.size; omega), (fun x hx => ?_), ?_, ?_⟩⟩ ?_
  · unfold sortL at hx
    obtain ⟨y, hy, rfl⟩ := List.mem_map.1 hx
    obtain ⟨z, hz, rfl⟩ := List.mem_map.1 (List.mem_mergeSort.1 hy)
    rw [ofL_toL]; exact hz
  · unfold orderL; rw [sortL_len]
  · rw [sortL_len]; simp
  clear hM6 x36 x6 O6
  rintro m vals w7 ⟨L, O, a6, c6, a8, c8, P, rfl, rfl, hI⟩ ih
  cases hL : L with
  | nil =>
    subst hL
    refine brF ?_ (hp := by simp)
    have := hI.eq
    simp only [List.length_nil, placeL] at this
    refine rt2 ⟨hI.bl, ?_⟩
    rw [← this]
    exact ⟨a8, c8, rfl, hI.o8⟩
  | cons x0 L0 =>
    rw [← hL]
    have hpos : 0 < L.length := by rw [hL]; simp
    refine brT ?_
    have N7 : NeedF L g first caps needs w7 := ⟨fun x hx w' k => hN.run x (hI.sub x hx) w' (hI.bl.trans k)⟩
    have hlL : L.length ≤ 4194304 := by have := hI.len; omega
    have hlO : O.length ≤ 4194304 := by have := hI.len; omega
    refine cl (k_IndexFunc L a6 c6 159 [.pointer (some ⟨b3, 0, none⟩), .pointer (some ⟨b7, 0, none⟩)] (fun x => (needs x).all fun y => hasB O y) T w7 (owp_sl hI.o6 hlL fun _ _ => trivial) fun x hx w' k => ?_) ?_
    · have := k_ready (S := L) (g := g) (first := first) (caps := caps) (needs := needs) (w := w') ⟨fun x hx w'' k' => N7.run x hx w'' (k.trans k')⟩ (b3 := b3) (b := b7) (mb := mb) (P := P) (k.cl (hI.x3.cell rfl)) (k.cl (hI.x7.cell rfl)) (hI.mp.bl k) hx
      refine this.mono fun v w'' r => ⟨?_, r.2⟩
      rw [r.1]
      congr 2
      funext y
      exact hI.hp y
    rintro _ w8 ⟨rfl, B78⟩
    have heq := hI.eq
    obtain ⟨n, hn⟩ : ∃ n, L.length = n + 1 := ⟨L.length - 1, by omega⟩
    rw [hn] at heq
    simp only [placeL] at heq
    cases hf : L.findIdx? (fun x => (needs x).all fun y => hasB O y) with
    | none =>
      rw [hf] at heq
      refine brT ?_ (hp := by decide)
      refine rt2 ⟨hI.bl.trans B78, ?_⟩
      rw [← heq]
    | some k =>
      rw [hf] at heq
      have hk : k < L.length := by
        obtain ⟨h1, _⟩ := List.findIdx?_eq_some_iff_getElem.1 hf
        exact h1
      obtain ⟨x, hx⟩ := some_of_lt hk
      have hgx : L.getD k nost = x := by rw [List.getD_eq_getElem?_getD, hx]; rfl
      simp only [hgx] at heq
      refine brF ?_ (hp := by show ¬ ((k : Int) < 0); omega)
      have o68 := hI.o6.bl B78
      have S8 := owp_sl (S := T) o68 hlL fun _ _ => trivial
      obtain ⟨x', b9, o9, cs9, hx', rfl, _, hAt9, rfl⟩ := at_some S8 hk
      rw [hx] at hx'
      obtain rfl := Option.some.inj hx'
      refine dt 1 fun w9 k9 => ?_
      have B79 := B78.trans k9.bl
      refine ld (B79.cl (hI.x7.cell rfl)) ?_
      refine ix (j := k) ?_
      refine ld ((hAt9.bl k9.bl) 0 _ rfl) ?_
      refine mu true tB (hI.mp.bl B79) fun w10 k10 hM10 => ?_
      have hmb0 := hI.mb0
      have B10 : Bl w w10 := Below.trans (hI.bl.trans B79) (k10.below hmb0)
      have hM9 := hI.mp.bl B79
      have x79 := Bl.box B79 hI.x7
      have x39 := Bl.box B79 hI.x3
      have x710 := k10.box x79 (hM9.ne x79).symm
      have x310 := k10.box x39 (hM9.ne x39).symm
      have o69 := o68.bl k9.bl
      have o89 := hI.o8.bl B79
      have o610 := o69.wr k10 fun g hg e => hM9.ow o69 (by rw [hg, e])
      have o810 := o89.wr k10 fun g hg e => hM9.ow o89 (by rw [hg, e])
      obtain ⟨x', b10, o10, cs10, hx', e10, _, hAt10, rfl⟩ := at_some (owp_sl (S := T) o610 hlL fun _ _ => trivial) hk
      rw [hx] at hx'
      obtain rfl := Option.some.inj hx'
      simp only [Option.some.injEq, Addr.mk.injEq, and_true] at e10
      obtain ⟨rfl, rfl⟩ := e10
      refine ix (j := k) ?_
      refine ld (hAt10 0 _ rfl) ?_
      refine bs fun b11 w11 k11 => ?_
      have B11 := B10.trans k11.bl
      have o611 := o610.bl k11.bl
      have o811 := o810.bl k11.bl
      refine apl (l1 := [x]) o811 (.inr ⟨b11, 0, rfl, k11.box.at⟩) B11.size (fun a12 c12 w12 o812 A12 f12 => ?_) (hb := by simp only [List.length_cons, List.length_nil]; omega) (hn := by simp only [List.length_cons, List.length_nil]; omega)
      have B12 : Bl w w12 := Eng.Ow.below o811 A12 B11 B11.size
      have o612 := o611.apart A12 fun g hg e => hI.ne g hg e
      have x712 := A12.box (Bl.box k11.bl x710) (o811.nbox (Bl.box k11.bl x710) (by decide))
      have x312 := A12.box (Bl.box k11.bl x310) (o811.nbox (Bl.box k11.bl x310) (by decide))
      have hM12 := (hM10.bl k11.bl).ap A12 ((hM10.bl k11.bl).ow o811)
      have ne12 : ∀ g, some (⟨b9, o9, none⟩ : Addr) = some ⟨g, 0, none⟩ → a12 ≠ some ⟨g, 0, none⟩ := fun g hg e => by
        rcases f12 g e with q | q
        · exact hI.ne g hg q
        · have := (o611.lt hg).2; omega
      have hD := k_Delete o612 hk
      rw [← inc hk] at hD
      refine cl hD ?_
      rintro _ w13 ⟨rfl, o613, A13⟩
      have hle : (L.eraseIdx k).length = n := by rw [List.length_eraseIdx_of_lt hk]; omega
      refine again (ih _ _ _ _ (by rw [hle, hn]; exact Nat.lt_succ_self n) ⟨rfl, rfl, trivial⟩ rfl ⟨L.eraseIdx k, O ++ [x], _, c6, a12, c12, putM P x true, rfl, rfl, ⟨o613, o812.apart A13 (fun g hg e => ne12 g e hg), ne12, hM12.ap A13 (hM12.ow o612), fun y => ?_, A13.box x712 (o612.nbox x712 (by decide)), A13.box x312 (o612.nbox x312 (by decide)),
        Eng.Ow.below o612 A13 B12 B12.size, hmb0, fun y hy => hI.sub y (List.mem_of_mem_eraseIdx hy), ?_, ?_⟩⟩)
      · rw [putM_get, hasB_snoc, ← hI.hp y]
        by_cases hxy : x = y
        · simp [hxy]
        · simp [hxy]
      · rw [hle, ← heq]
      · rw [hle, List.length_append]
        have := hI.len
        simp only [List.length_cons, List.length_nil]; omega
end Go.Proofs.YtkmdfjpafkcleaaGreatDoor

/- Walks: the keys of a map, in some order and in order. -/
namespace Go.Proofs.YtkmdfjpafkcleaaGreatDoor
open Eng Go.RowKit Go.Sort Go.Maps
open Go.WideShapes (sorted_perm)
abbrev anyR : Value → Option (DataW Unit × List MemPlace) := fun _ => some (.lit (.bool true), [])
theorem owns_of {α : Type} {enc : α → Value} {w : World} {b : Nat} {m : Mp α} (hM : MapIs enc w b m) (hn : m.length ≤ 1000) (hs : ∀ p ∈ m, p.1.size ≤ maxLen) :
    ∃ D : DataW Unit, w.ownsMap Tryz.prog 9 anyR b m.length D ∧ (strKeys D).Perm ((keysM m).map toL) ∧ Maps.size D = m.length := by
  obtain ⟨es, clock, h1, h2, h3⟩ := hM.is
  have hlen : es.size = m.length := by have := congrArg List.length h2; simpa using this
  have hk : ∀ x ∈ es.toList, ∃ s : ByteArray, x.key = .string s ∧ s.size ≤ maxLen := fun x hx => by
    have : kv x ∈ m.map (kvm enc) := h2 ▸ List.mem_map.2 ⟨x, hx, rfl⟩
    obtain ⟨p, hp, e⟩ := List.mem_map.1 this
    exact ⟨p.1, (congrArg Prod.fst e).symm, hs p hp⟩
  have hrd : ∀ x ∈ es.toList, ∀ s : ByteArray, x.key = .string s → Go.WideElems.rd Tryz.prog 9 anyR x = some (.string s.data.toList, .lit (.bool true)) := fun x hx s e => by
    obtain ⟨s', e', hs'⟩ := hk x hx
    rw [e] at e'
    obtain rfl := Value.string.inj e'
    unfold Go.WideElems.rd
    rw [e, Go.WideMaps.keyOf_string_mk Tryz.underlying9 hs']; rfl
  refine ⟨_, ⟨es, clock, h1, ⟨by rw [hlen]; unfold maxLen; omega, h3, fun x hx => ?_⟩, Nat.le_of_eq hlen, rfl⟩, ?_, ?_⟩
  · obtain ⟨s, e, _⟩ := hk x hx
    exact ⟨_, hrd x hx s e⟩
  · have hp := (sorted_perm (es.toList.map (Go.WideElems.rg Tryz.prog 9 anyR))).map fun p : Lit × DataW Unit => strOf p.1
    refine hp.trans (List.Perm.of_eq ?_)
    have key : ∀ (L : List MapEntry) (m : Mp α), (∀ x ∈ L, x ∈ es.toList) → L.map kv = m.map (kvm enc) → (L.map (Go.WideElems.rg Tryz.prog 9 anyR)).map (fun p : Lit × DataW Unit => strOf p.1) = (keysM m).map toL := by
      intro L
      induction L with
      | nil => intro m _ h; cases m with
        | nil => rfl
        | cons p m => simp at h
      | cons x L ih =>
        intro m hin h
        cases m with
        | nil => simp at h
        | cons p m =>
          simp only [List.map_cons, List.cons.injEq] at h
          have := hrd x (hin x (List.mem_cons_self ..)) p.1 (congrArg Prod.fst h.1)
          have ih' := ih m (fun y hy => hin y (List.mem_cons_of_mem _ hy)) h.2
          have e1 : strOf (Go.WideElems.rg Tryz.prog 9 anyR x).1 = toL p.1 := by rw [Go.WideElems.rg_of this]; rfl
          exact congr (congrArg List.cons e1) ih'
    exact key es.toList m (fun _ h => h) h2
  · rw [Maps.size_eq, (sorted_perm _).length_eq, List.length_map, Array.length_toList, hlen]
theorem map_tL (L : List (List UInt8)) : (L.map ofL).map toL = L := by
  rw [List.map_map]
  conv => rhs; rw [← List.map_id L]
  exact List.map_congr_left fun x _ => toL_ofL x
theorem k_KeysD (b : Nat) (w : World) : Ret Tryz.prog 100 #[.map (some b)] w fun v w' => ∃ b1, v = .func (.func 165) #[] #[.pointer (some ⟨b1, 0, none⟩)] ∧ New w b1 83 [.map (some b)] w' := by
  refine entr (vs := [.map (some b)]) [0, 1, 2] tabok Tryz.func100 (by kernel_rfl) ?_
  refine bx (cs := [.map (some b)]) fun b1 w1 h1 => ?_
  exact rt1 ⟨b1, rfl, h1⟩
theorem k_KeysN (b : Nat) (w : World) : Ret Tryz.prog 101 #[.map (some b)] w fun v w' => ∃ b1, v = .func (.func 166) #[] #[.pointer (some ⟨b1, 0, none⟩)] ∧ New w b1 84 [.map (some b)] w' := by
  refine entr (vs := [.map (some b)]) [0, 1, 2] tabok Tryz.func101 (by kernel_rfl) ?_
  refine bx (cs := [.map (some b)]) fun b1 w1 h1 => ?_
  exact rt1 ⟨b1, rfl, h1⟩
theorem k_keys {w : World} {b : Nat} {m : Mp (Nat × Nat)} (hM : MapIs encD w b m) (hn : m.length ≤ 1000) (hs : ∀ p ∈ m, p.1.size ≤ maxLen) :
    Ret Tryz.prog 94 #[.map (some b)] w fun v w' => ∃ a c l, v = .slice a l.length c ∧ OwP 1 encStr w' w.heap.size 9 a c l ∧ (l.map toL).Perm ((keysM m).map toL) ∧ Bl w w' := by
  refine entr (vs := [.map (some b)]) [0, 2] tabok Tryz.func94 (by kernel_rfl) ?_
  refine cl (k_KeysD b w) ?_
  rintro _ w1 ⟨b1, rfl, h1⟩
  refine cl (R := fun v w' => ∃ a c l, v = .slice a l.length c ∧ OwP 1 encStr w' w1.heap.size 9 a c l ∧ (l.map toL).Perm ((keysM m).map toL) ∧ Bl w1 w') ?_ ?_
  · refine ⟨by kernel_rfl, ?_⟩
    obtain ⟨D, hown, hperm, hsz⟩ := owns_of (hM.bl h1.bl) hn hs
    have key := AnyZ.collect_in Tryz.zCollect Fence.wide 6 trivial trivial rfl (by omega) 165 #[.pointer (some ⟨b1, 0, none⟩)] trivial (enters_of Tryz.func165 (by kernel_rfl) rfl)
      (fun ss => ss.Perm (strKeys D)) (Maps.size D) (by rw [hsz]; unfold maxLen; omega) (by rw [hsz]; omega) w1 (AnyZ.keys_gives Tryz.zItD Fence.wide _ trivial rfl (by omega) b1 b m.length D w1 h1.box.lt (h1.box.cell rfl) hown)
    refine (callsIn_wide.1 key).mono ?_
    rintro e w' ⟨v, ss, rfl, hp, hrow, _, hb⟩
    obtain ⟨a', cap', rfl, hO⟩ := own_of_row rfl hrow
    exact ⟨a', cap', _, rfl, hO, by rw [map_tL]; exact hp.trans hperm, hb⟩
  rintro _ w2 ⟨a, c, l, rfl, hO, hp, B2⟩
  exact rt1 ⟨a, c, l, rfl, hO.base (by rw [h1.size]; omega), hp, h1.bl.trans B2⟩
theorem sort_perm {a b : List (List UInt8)} (h : a.Perm b) : a.mergeSort (fun x y => decide (x ≤ y)) = b.mergeSort (fun x y => decide (x ≤ y)) := mergeSort_of_perm h
theorem sortL_perm {a b : List ByteArray} (h : (a.map toL).Perm (b.map toL)) : sortL a = sortL b := by
  show ((a.map toL).mergeSort _).map ofL = ((b.map toL).mergeSort _).map ofL
  rw [sort_perm h]
theorem k_sortK {α : Type} {enc : α → Value} {g : FuncId} {w0 w : World} {b1 b : Nat} {t : TypeId} {m : Mp α} (hM : MapIs enc w b m) (hn : m.length ≤ 1000) (hs : ∀ p ∈ m, p.1.size ≤ maxLen) (_h1 : New w0 b1 t [.map (some b)] w)
    (hg : ∀ args w, (callFunc g args).run Tryz.prog w = .ok (.enter g args) w) (hgives : ∀ D : DataW Unit, w.ownsMap Tryz.prog 9 anyR b m.length D → SeqGives Fence.wide 3 Tryz.prog g #[.pointer (some ⟨b1, 0, none⟩)] Go.Proofs.encStr (fun ss => ss.Perm (strKeys D)) (Maps.size D) w) :
    Ret Tryz.prog 99 #[.func (.func g) #[] #[.pointer (some ⟨b1, 0, none⟩)]] w fun v w' => ∃ a c, v = .slice a (sortL (keysM m)).length c ∧ OwP 1 encStr w' w.heap.size 9 a c (sortL (keysM m)) ∧ Bl w w' := by
  obtain ⟨D, hown, hperm, hsz⟩ := owns_of hM hn hs
  refine ⟨by kernel_rfl, ?_⟩
  have key := AnyZ.sorted_in Tryz.zSorted Fence.wide 6 trivial trivial trivial trivial rfl (by omega)
    ⟨fun blk off cap ss W hH hblk hsz => callsIn_wide.2 (Tryz.slices_Sort_string blk off cap ss W hH hblk hsz), fun p cap W => callsIn_wide.2 (Tryz.slices_Sort_string_none p cap W)⟩ (enters_of Tryz.func164 (by kernel_rfl) rfl)
    g #[.pointer (some ⟨b1, 0, none⟩)] trivial hg (fun ss => ss.Perm (strKeys D)) (Maps.size D) (by rw [hsz]; unfold maxLen; omega) (by rw [hsz]; omega) w (hgives D hown)
  refine (callsIn_wide.1 key).mono ?_
  rintro e w' ⟨v, ss, rfl, hp, hrow, _, hb⟩
  have e2 : ss.mergeSort (fun x y => decide (x ≤ y)) = ((keysM m).map toL).mergeSort (fun x y => decide (x ≤ y)) := sort_perm (hp.trans hperm)
  rw [e2] at hrow
  obtain ⟨a', cap', rfl, hO⟩ := own_of_row (by rw [List.length_mergeSort, ← (hp.trans hperm).length_eq]) hrow
  exact ⟨a', cap', rfl, hO, hb⟩
theorem k_sortD {w0 w : World} {b1 b : Nat} {m : Mp (Nat × Nat)} (hM : MapIs encD w b m) (hn : m.length ≤ 1000) (hs : ∀ p ∈ m, p.1.size ≤ maxLen) (h1 : New w0 b1 83 [.map (some b)] w) :
    Ret Tryz.prog 99 #[.func (.func 165) #[] #[.pointer (some ⟨b1, 0, none⟩)]] w fun v w' => ∃ a c, v = .slice a (sortL (keysM m)).length c ∧ OwP 1 encStr w' w.heap.size 9 a c (sortL (keysM m)) ∧ Bl w w' :=
  k_sortK hM hn hs h1 (enters_of Tryz.func165 (by kernel_rfl) rfl) fun D hown => AnyZ.keys_gives Tryz.zItD Fence.wide 3 trivial rfl (by omega) b1 b m.length D w h1.box.lt (h1.box.cell rfl) hown
theorem k_sortN {w0 w : World} {b1 b : Nat} {m : Mp Rs} (hM : MapIs encR w b m) (hn : m.length ≤ 1000) (hs : ∀ p ∈ m, p.1.size ≤ maxLen) (h1 : New w0 b1 84 [.map (some b)] w) :
    Ret Tryz.prog 99 #[.func (.func 166) #[] #[.pointer (some ⟨b1, 0, none⟩)]] w fun v w' => ∃ a c, v = .slice a (sortL (keysM m)).length c ∧ OwP 1 encStr w' w.heap.size 9 a c (sortL (keysM m)) ∧ Bl w w' :=
  k_sortK hM hn hs h1 (enters_of Tryz.func166 (by kernel_rfl) rfl) fun D hown => AnyZ.keys_gives Tryz.zItN Fence.wide 3 trivial rfl (by omega) b1 b m.length D w h1.box.lt (h1.box.cell rfl) hown
end Go.Proofs.YtkmdfjpafkcleaaGreatDoor

/- What placing gives: each name once, behind what it needs. -/
namespace Go.Proofs.YtkmdfjpafkcleaaGreatDoor
open Go.RowKit
/-- what each needs stands ahead of it -/
def Placed (needs : ByteArray → List ByteArray) (o : List ByteArray) : Prop := ∀ (i : Nat) x, o[i]? = some x → ∀ y ∈ needs x, y ∈ o.take i
theorem placeL_placed {needs : ByteArray → List ByteArray} : ∀ {n : Nat} {left out o : List ByteArray}, Placed needs out → placeL needs n left out = some o → Placed needs o
  | 0, left, out, o, h, e => by simp only [placeL] at e; obtain rfl := Option.some.inj e; exact h
  | n + 1, left, out, o, h, e => by
    simp only [placeL] at e
    cases hf : left.findIdx? (fun x => (needs x).all fun y => hasB out y) with
    | none => rw [hf] at e; cases e
    | some k =>
      rw [hf] at e
      refine placeL_placed ?_ e
      obtain ⟨hk, hp, _⟩ := List.findIdx?_eq_some_iff_getElem.1 hf
      have hx : left.getD k nost = left[k] := by rw [List.getD_eq_getElem?_getD, List.getElem?_eq_getElem hk]; rfl
      rw [hx]
      intro i x hi y hy
      rcases Nat.lt_or_ge i out.length with q | q
      · rw [List.getElem?_append_left q] at hi
        rw [List.take_append_of_le_length (Nat.le_of_lt q)]
        exact h i x hi y hy
      · rw [List.getElem?_append_right q] at hi
        have h0 : i - out.length = 0 := by
          have := (List.getElem?_eq_some_iff.1 hi).1
          simp at this; omega
        rw [h0] at hi
        simp only [List.getElem?_cons_zero, Option.some.injEq] at hi
        subst hi
        have hi2 : i = out.length := by omega
        subst hi2
        rw [List.take_left]
        exact hasB_iff.1 (List.all_eq_true.1 hp y hy)
theorem placeL_perm {needs : ByteArray → List ByteArray} : ∀ {n : Nat} {left out o : List ByteArray}, left.length = n → placeL needs n left out = some o → o.Perm (out ++ left)
  | 0, left, out, o, h, e => by
    simp only [placeL] at e
    obtain rfl := Option.some.inj e
    rw [List.eq_nil_of_length_eq_zero h, List.append_nil]
  | n + 1, left, out, o, h, e => by
    simp only [placeL] at e
    cases hf : left.findIdx? (fun x => (needs x).all fun y => hasB out y) with
    | none => rw [hf] at e; cases e
    | some k =>
      rw [hf] at e
      obtain ⟨hk, hp, _⟩ := List.findIdx?_eq_some_iff_getElem.1 hf
      have hx : left.getD k nost = left[k] := by rw [List.getD_eq_getElem?_getD, List.getElem?_eq_getElem hk]; rfl
      simp only [hx] at e
      have := placeL_perm (by rw [List.length_eraseIdx_of_lt hk]; omega) e
      refine this.trans ?_
      rw [List.append_assoc]
      refine List.Perm.append_left _ ?_
      have e2 : left = left.take k ++ left[k] :: left.drop (k + 1) := by rw [← List.drop_eq_getElem_cons hk, List.take_append_drop]
      rw [List.eraseIdx_eq_take_drop_succ]
      conv => rhs; rw [e2]
      exact (List.perm_middle (a := left[k]) (l₁ := left.take k) (l₂ := left.drop (k + 1))).symm
theorem sortL_perm' (l : List ByteArray) : (sortL l).Perm l := by
  unfold sortL
  refine ((List.mergeSort_perm _ _).map ofL).trans ?_
  rw [List.map_map, show (ofL ∘ fun s : ByteArray => s.data.toList) = id from funext ofL_toL, List.map_id]
theorem orderL_perm {needs : ByteArray → List ByteArray} {names o : List ByteArray} (h : orderL needs names = some o) : o.Perm names := by
  have := placeL_perm (sortL_len names) h
  rw [List.nil_append] at this
  exact this.trans (sortL_perm' names)
theorem orderL_placed {needs : ByteArray → List ByteArray} {names o : List ByteArray} (h : orderL needs names = some o) : Placed needs o :=
  placeL_placed (fun i x hi => by simp at hi) h
theorem orderL_names {needs : ByteArray → List ByteArray} {a b : List ByteArray} (h : (a.map toL).Perm (b.map toL)) : orderL needs a = orderL needs b := by
  unfold orderL
  rw [sortL_perm h, show a.length = b.length by simpa using h.length_eq]
theorem mem_keys {α : Type} {m : Mp α} {k : ByteArray} (h : k ∈ keysM m) : ∃ v, getM m k = some v := by
  induction m with
  | nil => cases h
  | cons p m ih =>
    obtain ⟨k0, v0⟩ := p
    simp only [getM]
    by_cases e : k0 = k
    · exact ⟨v0, by rw [if_pos e]⟩
    · rw [if_neg e]
      rcases List.mem_cons.1 h with q | q
      · exact absurd q.symm e
      · exact ih q
theorem hasM_keys {α : Type} {m : Mp α} {k : ByteArray} (h : hasM m k = true) : k ∈ keysM m := by
  unfold hasM at h
  cases hg : getM m k with
  | none => rw [hg] at h; cases h
  | some v => exact List.mem_map.2 ⟨_, getM_in hg, rfl⟩
variable {us : List Unt}
theorem clsI_of {c s m : Nat} {D : Dcl} (h : DOk us c s m D) {p : ByteArray} (hp : p ∈ keysM D.classes) : ∃ n k u x, ClsI us D p n k u x := by
  obtain ⟨⟨n, k⟩, hg⟩ := mem_keys hp
  obtain ⟨⟨u, x⟩, hx⟩ := h.cl p _ hg
  unfold clsAt at hx
  simp only [Option.bind_eq_some_iff, Option.map_eq_some_iff, Prod.mk.injEq] at hx
  obtain ⟨u', hu, x', hx', rfl, rfl⟩ := hx
  exact ⟨n, k, u', x', hg, hu, hx'⟩
theorem mthI_at {d : Option (Nat × Nat)} {e : Nat × Nat} (hd : d = some e) (h : ∃ x, mthAt us e = some x) : ∃ n k u m, MthI us d n k u m := by
  obtain ⟨⟨u, x⟩, hx⟩ := h
  unfold mthAt at hx
  simp only [Option.bind_eq_some_iff, Option.map_eq_some_iff, Prod.mk.injEq] at hx
  obtain ⟨u', hu, x', hx', rfl, rfl⟩ := hx
  exact ⟨e.1, e.2, u', x', hd, hu, hx'⟩
theorem mthI_of {c s m : Nat} {D : Dcl} (h : DOk us c s m D) {p : ByteArray} (hp : p ∈ keysM D.calls ++ keysM D.sends) : ∃ n k u x, MthI us (mthD D p) n k u x := by
  unfold mthD
  cases hg : getM D.calls p with
  | some d => exact mthI_at rfl (h.ca p d hg)
  | none =>
    rcases List.mem_append.1 hp with q | q
    · obtain ⟨v, hv⟩ := mem_keys q; rw [hg] at hv; cases hv
    · obtain ⟨v, hv⟩ := mem_keys q
      exact mthI_at hv (h.se p v hv)
theorem sendI_of {c s m : Nat} {D : Dcl} (h : DOk us c s m D) : ∀ q ∈ D.named, ∀ p ∈ q.2, ∃ n k u x, MthI us (getM D.sends p) n k u x := fun q hq p hp => by
  obtain ⟨v, hv⟩ := Option.isSome_iff_exists.1 (h.na q hq p hp)
  exact mthI_at hv (h.se p v hv)
theorem deep_mono {D : Dcl} : ∀ {m : Nat} {p : ByteArray}, Deep us D m p → Deep us D (m + 1) p
  | 0, _, h => h.elim
  | _ + 1, _, ⟨h1, h2⟩ => ⟨h1, h2.imp id deep_mono⟩
theorem deep_le {D : Dcl} {m n : Nat} {p : ByteArray} (h : Deep us D m p) (hmn : m ≤ n) : Deep us D n p := by
  induction hmn with
  | refl => exact h
  | step _ ih => exact deep_mono ih
theorem deep_of {D : Dcl} {o : List ByteArray} (hcl : ∀ p ∈ o, ∃ n k u c, ClsI us D p n k u c) (hp : Placed (neeC us D) o) : ∀ (i : Nat) x, o[i]? = some x → Deep us D (i + 1) x := by
  intro i
  induction i using Nat.strongRecOn with
  | _ i ih =>
    intro x hx
    refine ⟨hcl x (List.mem_of_getElem? hx), ?_⟩
    by_cases hs : supL us D x = nost
    · exact .inl hs
    · right
      have hy : supL us D x ∈ o.take i := hp i x hx _ (by unfold neeC; rw [if_neg hs]; simp)
      obtain ⟨j, hj⟩ := List.mem_iff_getElem?.1 hy
      rw [List.getElem?_take] at hj
      split at hj
      · rename_i hji
        exact deep_le (ih j hji _ hj) (by omega)
      · cases hj
theorem tyOk_of {u : Unt} (hC : CkU u) : TyOk u := fun m hm => by
  have hI := ixs_of hC
  refine ⟨by have := (lim_of hC.lim).pars m hm; omega, fun t ht => ⟨hI.mty m hm t ht, ?_⟩⟩
  have hk := hC.kd
  unfold kinds at hk
  simp only [Bool.and_eq_true] at hk
  have := List.all_eq_true.1 hk.2 m hm
  unfold kmth at this
  simp only [Bool.and_eq_true] at this
  obtain ⟨⟨h1, h2⟩, h3⟩ := this
  unfold kindOk
  simp only [List.mem_append, List.mem_singleton] at ht
  rcases ht with (ht | ht) | rfl
  · have := List.all_eq_true.1 h1 t ht
    simp only [kin, Bool.and_eq_true, decide_eq_true_eq] at this; omega
  · have := List.all_eq_true.1 h2 t ht
    simp only [kin, Bool.and_eq_true, decide_eq_true_eq] at this; omega
  · simp only [kout, Bool.and_eq_true, decide_eq_true_eq] at h3; omega
theorem code_len {u : Unt} (hC : CkU u) {m : Mth} (hm : m ∈ u.methods) : m.code.length ≤ 120 := by
  have h1 := mErr_zero hC.me m hm
  unfold codeE at h1
  split at h1
  · cases h1
  · omega
end Go.Proofs.YtkmdfjpafkcleaaGreatDoor

/- Rows of the call's own whose elements point to rows. No program stands here. -/
namespace Go.Proofs.YtkmdfjpafkcleaaGreatDoor
open Eng Go.RowKit
theorem flatten_get {sz : Nat} : ∀ {xs : List (List Value)} (_ : ∀ c ∈ xs, c.length = sz) {i : Nat} {c : List Value}, xs[i]? = some c → ∀ j, j < sz → xs.flatten[i * sz + j]? = c[j]?
  | [], _, i, c, hx, _, _ => by simp at hx
  | y :: l, h, 0, c, hx, j, hj => by
    simp at hx; subst hx
    rw [List.flatten_cons, Nat.zero_mul, Nat.zero_add, List.getElem?_append_left (by rw [h _ (List.mem_cons_self ..)]; exact hj)]
  | y :: l, h, i + 1, c, hx, j, hj => by
    have hy := h y (List.mem_cons_self ..)
    have := flatten_get (xs := l) (fun c hc => h c (List.mem_cons_of_mem _ hc)) (i := i) (by simpa using hx) j hj
    rw [List.flatten_cons, List.getElem?_append_right (by rw [hy, Nat.succ_mul]; omega), hy, ← this]
    congr 1; rw [Nat.succ_mul]; omega
theorem flatten_len {sz : Nat} : ∀ {xs : List (List Value)} (_ : ∀ c ∈ xs, c.length = sz), xs.flatten.length = xs.length * sz
  | [], _ => by simp
  | y :: l, h => by
    have hy := h y (List.mem_cons_self ..)
    have := flatten_len (xs := l) fun c hc => h c (List.mem_cons_of_mem _ hc)
    simp only [List.flatten_cons, List.length_append, List.length_cons, hy, this, Nat.succ_mul]; omega
/-- a row of the call's own, whose elements lie in blocks that hold R and are not the row's -/
structure OwC {α : Type} (E : El α) (R : Nat → Prop) (w : World) (base e : Nat) (a : Option Addr) (cap : Nat) (l : List α) : Prop where
  row : ∃ xs : List (List Value), xs.length = l.length ∧ (∀ c ∈ xs, c.length = E.sz) ∧ Ow w base e E.sz a l.length cap xs.flatten ∧
    ∀ (i : Nat) (cs : List Value) (x : α), xs[i]? = some cs → l[i]? = some x → E.rel (fun b => R b ∧ a ≠ some ⟨b, 0, none⟩ ∧ b < w.heap.size) w cs x
theorem OwC.nil {α : Type} (E : El α) (R : Nat → Prop) (w : World) (base e : Nat) : OwC E R w base e none 0 ([] : List α) :=
  ⟨[], rfl, (fun _ h => by simp at h), Ow.nil .., (fun i cs x h => by simp at h)⟩
theorem OwC.bl {α : Type} {E : El α} {R : Nat → Prop} {w w' : World} {base e cap : Nat} {a : Option Addr} {l : List α} (h : OwC E R w base e a cap l) (k : Bl w w') : OwC E R w' base e a cap l := by
  obtain ⟨xs, h1, h2, h3, h4⟩ := h.row
  exact ⟨xs, h1, h2, h3.bl k, fun i cs x hi hl => E.sub (fun b hb => ⟨hb.1, hb.2.1, Nat.lt_of_lt_of_le hb.2.2 k.size⟩) (E.kp (k.kp _) (h4 i cs x hi hl))⟩
theorem OwC.wr {α : Type} {E : El α} {R : Nat → Prop} {w w' : World} {base e cap : Nat} {a : Option Addr} {l : List α} (h : OwC E R w base e a cap l) {b : Nat} (k : Wr w b w') (hb : b < base) (hR : ∀ i, R i → i ≠ b) : OwC E R w' base e a cap l := by
  obtain ⟨xs, h1, h2, h3, h4⟩ := h.row
  exact ⟨xs, h1, h2, h3.wr k fun g hg => by have := (h3.lt hg).1; omega, fun i cs x hi hl => E.sub (fun b hb => ⟨hb.1, hb.2.1, by rw [k.size]; exact hb.2.2⟩) (E.kp (k.kp fun i hi => hR i hi.1) (h4 i cs x hi hl))⟩
theorem OwC.ow {α : Type} {E : El α} {R : Nat → Prop} {w : World} {base e cap : Nat} {a : Option Addr} {l : List α} (h : OwC E R w base e a cap l) : ∃ xs, Ow w base e E.sz a l.length cap xs := by
  obtain ⟨xs, h1, h2, h3, h4⟩ := h.row
  exact ⟨_, h3⟩
theorem OwC.lt {α : Type} {E : El α} {R : Nat → Prop} {w : World} {base e cap : Nat} {a : Option Addr} {l : List α} (h : OwC E R w base e a cap l) {g : Nat} (hg : a = some ⟨g, 0, none⟩) : base ≤ g ∧ g < w.heap.size := by
  obtain ⟨xs, h3⟩ := h.ow
  exact h3.lt hg
theorem OwC.push {α : Type} {E : El α} {R : Nat → Prop} {w w' : World} {base e cap' : Nat} {a a' : Option Addr} {l : List α} {x : α} {cs : List Value} {xs : List (List Value)} (h1 : xs.length = l.length) (h2 : ∀ c ∈ xs, c.length = E.sz)
    (h4 : ∀ (i : Nat) (cs : List Value) (x : α), xs[i]? = some cs → l[i]? = some x → E.rel (fun b => R b ∧ a ≠ some ⟨b, 0, none⟩ ∧ b < w.heap.size) w cs x)
    (hO : Ow w' base e E.sz a' (l.length + 1) cap' (xs.flatten ++ cs)) (hA : Ap w a w') (hf : ∀ g, a' = some ⟨g, 0, none⟩ → a = some ⟨g, 0, none⟩ ∨ w.heap.size ≤ g)
    (hr : E.rel (fun b => R b ∧ a ≠ some ⟨b, 0, none⟩ ∧ b < w.heap.size) w cs x) : OwC E R w' base e a' cap' (l ++ [x]) := by
  have hsub : ∀ b, (R b ∧ a ≠ some ⟨b, 0, none⟩ ∧ b < w.heap.size) → (R b ∧ a' ≠ some ⟨b, 0, none⟩ ∧ b < w'.heap.size) := fun b ⟨q1, q2, q3⟩ => by
    refine ⟨q1, fun e => ?_, Nat.lt_of_lt_of_le q3 hA.size⟩
    rcases hf b e with h | h
    · exact q2 h
    · omega
  have hkp : Kp (fun b => R b ∧ a ≠ some ⟨b, 0, none⟩ ∧ b < w.heap.size) w w' := hA.kp.sub fun i hi => hi.2.1
  refine ⟨xs ++ [cs], by simp [h1], fun c hc => ?_, by rw [List.length_append, List.flatten_append]; simpa using hO, fun i c y hi hl => ?_⟩
  · rcases List.mem_append.1 hc with hc | hc
    · exact h2 c hc
    · rw [List.mem_singleton.1 hc]; exact E.len hr
  · rcases Nat.lt_or_ge i l.length with hlt | hge
    · rw [List.getElem?_append_left (by omega)] at hi
      rw [List.getElem?_append_left hlt] at hl
      exact E.sub hsub (E.kp hkp (h4 i c y hi hl))
    · rw [List.getElem?_append_right (by omega), h1] at hi
      rw [List.getElem?_append_right hge] at hl
      rcases Nat.eq_zero_or_pos (i - l.length) with h0 | h0
      · rw [h0] at hi hl
        simp at hi hl
        subst hi hl
        exact E.sub hsub (E.kp hkp hr)
      · rw [List.getElem?_eq_none (by simp; omega)] at hi
        cases hi
theorem OwC.sl2 {α : Type} {E : El α} {w : World} {base e cap : Nat} {a : Option Addr} {l : List α} (h : OwC E (fun b => base ≤ b) w base e a cap l) (hl : l.length ≤ 4194304) : Sl E (fun b => base ≤ b ∧ b < w.heap.size) w a l := by
  obtain ⟨xs, h1, h2, h3, h4⟩ := h.row
  refine ⟨hl, fun i x hx => ?_⟩
  have hi : i < l.length := (List.getElem?_eq_some_iff.1 hx).1
  obtain ⟨cs, hc⟩ := some_of_lt (l := xs) (k := i) (by omega)
  have hcl := h2 cs (List.mem_of_getElem? hc)
  rcases h3.shape with ⟨_, h0, _⟩ | ⟨g, cur, rfl, _⟩
  · omega
  · refine ⟨g, 0, cs, rfl, h3.lt rfl, fun j v hj => ?_, E.sub (fun b hb => ⟨hb.1, hb.2.2⟩) (h4 i cs x hc hx)⟩
    have hj' : j < E.sz := by rw [← hcl]; exact (List.getElem?_eq_some_iff.1 hj).1
    have := h3.at rfl (i * E.sz + j) v (by rw [flatten_get h2 hc j hj']; exact hj)
    rw [Nat.zero_add] at this
    rw [Nat.zero_add]; exact this
end Go.Proofs.YtkmdfjpafkcleaaGreatDoor

/- Modules, and the module that link makes, as functions. No program stands here. -/
namespace Go.Proofs.YtkmdfjpafkcleaaGreatDoor
open Go.RowKit Eng
theorem Eng.Ow.capn {w : World} {base e esz n cap : Nat} {a : Option Addr} {xs : List Value} (h : Ow w base e esz a n cap xs) : n ≤ cap ∧ (a = none → cap = 0) := by
  rcases h.shape with ⟨rfl, rfl, rfl, _⟩ | ⟨g, cur, rfl, _, _, h, _⟩
  · exact ⟨Nat.le_refl _, fun _ => rfl⟩
  · exact ⟨h, fun e => by cases e⟩
structure MC where
  name : ByteArray
  super : Int
  fields : List Ty
  table : List Int
deriving DecidableEq
structure MM where
  name : ByteArray
  cls : Int
  params : List Ty
  locals : List Ty
  result : Ty
  code : List Ins
deriving DecidableEq
structure Mod where
  classes : List MC
  statics : List Ty
  methods : List MM
  sels : Int
def mod0 : Mod := ⟨[], [], [], 0⟩
abbrev mccells (c : MC) (a1 : Option Addr) (c1 : Nat) (a2 : Option Addr) (c2 : Nat) : List Value := [.string c.name, I c.super, .slice a1 c.fields.length c1, .slice a2 c.table.length c2]
abbrev mmcells (m : MM) (a1 : Option Addr) (c1 : Nat) (a2 : Option Addr) (c2 : Nat) (a3 : Option Addr) (c3 : Nat) : List Value :=
  [.string m.name, I m.cls, .slice a1 m.params.length c1, .slice a2 m.locals.length c2, I m.result.kind, I m.result.cls, .slice a3 m.code.length c3]
def eMC : El MC :=
  { sz := 4, rel := fun S w cs c => ∃ a1 c1 a2 c2, cs = mccells c a1 c1 a2 c2 ∧ Sl eTy S w a1 c.fields ∧ Sl eInt S w a2 c.table ∧ c.name.size ≤ 1048576 ∧ c.fields.length ≤ c1
    len := fun ⟨_, _, _, _, e, _⟩ => by rw [e]; rfl
    kp := fun k ⟨a1, c1, a2, c2, e, h1, h2, h3⟩ => ⟨a1, c1, a2, c2, e, h1.kp k, h2.kp k, h3⟩
    sub := fun k ⟨a1, c1, a2, c2, e, h1, h2, h3⟩ => ⟨a1, c1, a2, c2, e, h1.sub k, h2.sub k, h3⟩ }
def eMM : El MM :=
  { sz := 7
    rel := fun S w cs m => ∃ a1 c1 a2 c2 a3 c3, cs = mmcells m a1 c1 a2 c2 a3 c3 ∧ Sl eTy S w a1 m.params ∧ Sl eTy S w a2 m.locals ∧ Sl eIns S w a3 m.code ∧ m.name.size ≤ 1048576
    len := fun ⟨_, _, _, _, _, _, e, _⟩ => by rw [e]; rfl
    kp := fun k ⟨a1, c1, a2, c2, a3, c3, e, h1, h2, h3, h4⟩ => ⟨a1, c1, a2, c2, a3, c3, e, h1.kp k, h2.kp k, h3.kp k, h4⟩
    sub := fun k ⟨a1, c1, a2, c2, a3, c3, e, h1, h2, h3, h4⟩ => ⟨a1, c1, a2, c2, a3, c3, e, h1.sub k, h2.sub k, h3.sub k, h4⟩ }
/-- where a module's slices lie -/
structure MA where
  a1 : Option Addr
  c1 : Nat
  a2 : Option Addr
  c2 : Nat
  a3 : Option Addr
  c3 : Nat
def modcells (m : Mod) (a : MA) : List Value := [.slice a.a1 m.classes.length a.c1, .slice a.a2 m.statics.length a.c2, .slice a.a3 m.methods.length a.c3, I m.sels]
structure MdR (S : Nat → Prop) (w : World) (m : Mod) (a : MA) : Prop where
  cls : Sl eMC S w a.a1 m.classes
  sta : Sl eTy S w a.a2 m.statics
  mth : Sl eMM S w a.a3 m.methods
theorem MdR.kp {S : Nat → Prop} {w w' : World} {m : Mod} {a : MA} (h : MdR S w m a) (k : Kp S w w') : MdR S w' m a := ⟨h.cls.kp k, h.sta.kp k, h.mth.kp k⟩
theorem MdR.bl {S : Nat → Prop} {w w' : World} {m : Mod} {a : MA} (h : MdR S w m a) (k : Bl w w') : MdR S w' m a := h.kp (k.kp S)
theorem MdR.sub {S S' : Nat → Prop} {w : World} {m : Mod} {a : MA} (h : MdR S w m a) (k : ∀ i, S i → S' i) : MdR S' w m a := ⟨h.cls.sub k, h.sta.sub k, h.mth.sub k⟩
abbrev idxB (l : List ByteArray) (x : ByteArray) : Int := Lib.idxOfS l x
def kindM (oc : List ByteArray) (u : Unt) (t : Ty) : Ty := if t.cls < 0 then ⟨t.kind, 0⟩ else ⟨t.kind, idxB oc (nm u t.cls)⟩
/-- where a path is cut, at its last dot -/
def cutI (p : ByteArray) : Nat := (Lib.lastIndexByte p 46).toNat
def layA (us : List Unt) (oc : List ByteArray) (q : ByteArray) : List ByteArray := if hasB oc q = true then lay us q else []
def fldM (us : List Unt) (oc : List ByteArray) (p : ByteArray) : Int := idxB (layA us oc (p.extract 0 (cutI p))) (p.extract (cutI p + 1) p.size)
structure Ords where
  oc : List ByteArray
  os : List ByteArray
  om : List ByteArray
  oz : List ByteArray
def instM (us : List Unt) (O : Ords) (u : Unt) (i : Ins) : Ins :=
  if i.op = 14 ∨ i.op = 24 then ⟨i.op, idxB O.oc (nm u i.a), i.b⟩
  else if i.op = 16 then ⟨i.op, i.a, idxB O.oc (nm u i.b)⟩
  else if i.op = 12 then (if i.a = 3 then i else ⟨i.op, i.a, idxB O.oc (nm u i.b)⟩)
  else if i.op = 17 ∨ i.op = 18 then ⟨i.op, fldM us O.oc (nm u i.a), i.b⟩
  else if i.op = 22 ∨ i.op = 23 then ⟨i.op, idxB O.os (nm u i.a), i.b⟩
  else if i.op = 25 then ⟨i.op, idxB O.om (nm u i.a), i.b⟩
  else if i.op = 26 then ⟨i.op, idxB O.oz (nm u i.a), i.b⟩
  else i
def ownT (us : List Unt) (D : Dcl) (oc : List ByteArray) (p : ByteArray) : List Ty := match clsOf us D p with
  | some (u, c) => c.fields.map fun f => kindM oc u f.ty
  | none => []
def ftL (us : List Unt) (D : Dcl) (oc : List ByteArray) : Nat → ByteArray → List Ty
  | 0, _ => []
  | n + 1, p => (if supL us D p = nost then [] else ftL us D oc n (supL us D p)) ++ ownT us D oc p
/-- the nearest method of a name, from a class upward -/
def nearM (us : List Unt) (D : Dcl) (om : List ByteArray) : Nat → ByteArray → ByteArray → Int
  | 0, _, _ => -1
  | n + 1, p, s => if p = nost then -1 else if 0 ≤ idxB om (dots p s) then idxB om (dots p s) else nearM us D om n (supL us D p) s
def clsM (us : List Unt) (O : Ords) (p : ByteArray) : MC :=
  ⟨p, idxB O.oc (supL us (decl us) p), ftL us (decl us) O.oc (keysM (decl us).classes).length p, O.oz.map fun s => nearM us (decl us) O.om ((keysM (decl us).classes).length + 1) p s⟩
def staM (us : List Unt) (O : Ords) (p : ByteArray) : Ty := match (getM (decl us).statics p).bind fun d => (us[d.1]?).bind fun u => (u.statics[d.2]?).map fun f => (u, f) with
  | some (u, f) => kindM O.oc u f.ty
  | none => ⟨0, 0⟩
def mthM (us : List Unt) (O : Ords) (p : ByteArray) : MM := match mthOf us (decl us) p with
  | some (u, m) => ⟨p, if 0 ≤ m.cls then idxB O.oc (nm u m.cls) else -1, m.params.map (kindM O.oc u), m.locals.map (kindM O.oc u), kindM O.oc u m.result, m.code.map (instM us O u)⟩
  | none => ⟨p, -1, [], [], ⟨0, 0⟩, []⟩
def ordsL (us : List Unt) : Ords := ⟨(ordC us).getD [], sortL (keysM (decl us).statics), (ordM us).getD [], sortL (keysM (decl us).named)⟩
def modO (us : List Unt) (O : Ords) : Mod := ⟨O.oc.map (clsM us O), O.os.map (staM us O), O.om.map (mthM us O), (O.oz.length : Int)⟩
/-- the module of units -/
def modL (us : List Unt) : Mod := if runE us = 0 then modO us (ordsL us) else mod0
end Go.Proofs.YtkmdfjpafkcleaaGreatDoor

/- What an argument of the laws on link holds: units, a module, numbers. -/
namespace Go.Proofs.YtkmdfjpafkcleaaGreatDoor
open Eng Go.ChangeShapes Go.WideShapes Go.ChangeAt Go.RowKit
section
variable {H : Type} {enc : TypeId × Value → H} {w : World} {base : Nat} {sp : Nat → Bool} {hd : Bool}
set_option maxRecDepth 100000 in
theorem rd_type : Reads enc Tryz.prog w base sp hd 51 fun cs => ∃ x, eTy.rel T w cs x := fun n cs y h hb => by
  obtain ⟨h1, h2⟩ := reads_fields (L := [(3, 0), (3, 1)]) (by kernel_rfl) (by kernel_rfl) h hb
  rw [show Tryz.prog.cellsOf 51 = 2 by kernel_rfl] at h1
  match cs, h1 with
  | [c0, c1], _ =>
    obtain ⟨a, ea⟩ := h2 (3, 0) (by simp) _ (reads_int (by kernel_rfl))
    obtain ⟨b, eb⟩ := h2 (3, 1) (by simp) _ (reads_int (by kernel_rfl))
    simp only [show Tryz.prog.cellsOf 3 = 1 by kernel_rfl, List.drop, List.take, List.cons.injEq, and_true] at ea eb
    subst ea eb
    exact ⟨⟨a, b⟩, rfl⟩
theorem rd_int : Reads enc Tryz.prog w base sp hd 3 fun cs => ∃ x, eInt.rel T w cs x := fun n cs y h hb => by
  obtain ⟨x, e⟩ := reads_int (by kernel_rfl) n cs y h hb
  exact ⟨x, e⟩
set_option maxRecDepth 100000 in
theorem rd_mc : Reads enc Tryz.prog w base sp hd 49 fun cs => ∃ x, eMC.rel T w cs x := fun n cs y h hb => by
  obtain ⟨h1, h2⟩ := reads_fields (L := [(9, 0), (3, 1), (26, 2), (47, 3)]) (by kernel_rfl) (by kernel_rfl) h hb
  rw [show Tryz.prog.cellsOf 49 = 4 by kernel_rfl] at h1
  match cs, h1 with
  | [c0, c1, c2, c3], _ =>
    obtain ⟨s, es, hs⟩ := h2 (9, 0) (by simp) _ rd_str
    obtain ⟨b, eb⟩ := h2 (3, 1) (by simp) _ (reads_int (by kernel_rfl))
    obtain ⟨a1, l1, k1, e1, s1, n1⟩ := h2 (26, 2) (by simp) _ (reads_sliceC (by kernel_rfl) (by kernel_rfl) (by decide) rd_type)
    obtain ⟨a2, l2, k2, e2, s2⟩ := h2 (47, 3) (by simp) _ (reads_slice (by kernel_rfl) (by kernel_rfl) (by decide) rd_int)
    simp only [show Tryz.prog.cellsOf 3 = 1 by kernel_rfl, show Tryz.prog.cellsOf 9 = 1 by kernel_rfl, show Tryz.prog.cellsOf 26 = 1 by kernel_rfl, show Tryz.prog.cellsOf 47 = 1 by kernel_rfl, List.drop, List.take, List.cons.injEq, and_true] at es eb e1 e2
    subst es eb e1 e2
    exact ⟨⟨s, b, l1, l2⟩, a1, k1, a2, k2, rfl, s1, s2, hs, n1⟩
set_option maxRecDepth 100000 in
theorem rd_mm : Reads enc Tryz.prog w base sp hd 54 fun cs => ∃ x, eMM.rel T w cs x := fun n cs y h hb => by
  obtain ⟨h1, h2⟩ := reads_fields (L := [(9, 0), (3, 1), (26, 2), (26, 3), (51, 4), (52, 6)]) (by kernel_rfl) (by kernel_rfl) h hb
  rw [show Tryz.prog.cellsOf 54 = 7 by kernel_rfl] at h1
  match cs, h1 with
  | [c0, c1, c2, c3, c4, c5, c6], _ =>
    obtain ⟨s, es, hs⟩ := h2 (9, 0) (by simp) _ rd_str
    obtain ⟨b, eb⟩ := h2 (3, 1) (by simp) _ (reads_int (by kernel_rfl))
    obtain ⟨a1, l1, k1, e1, s1⟩ := h2 (26, 2) (by simp) _ (reads_slice (by kernel_rfl) (by kernel_rfl) (by decide) rd_type)
    obtain ⟨a2, l2, k2, e2, s2⟩ := h2 (26, 3) (by simp) _ (reads_slice (by kernel_rfl) (by kernel_rfl) (by decide) rd_type)
    obtain ⟨t, et⟩ := h2 (51, 4) (by simp) _ rd_type
    obtain ⟨a3, l3, k3, e3, s3⟩ := h2 (52, 6) (by simp) _ (reads_slice (by kernel_rfl) (by kernel_rfl) (by decide) rd_ins)
    simp only [show Tryz.prog.cellsOf 3 = 1 by kernel_rfl, show Tryz.prog.cellsOf 9 = 1 by kernel_rfl, show Tryz.prog.cellsOf 51 = 2 by kernel_rfl, show Tryz.prog.cellsOf 26 = 1 by kernel_rfl, show Tryz.prog.cellsOf 52 = 1 by kernel_rfl, List.drop, List.take, List.cons.injEq, and_true] at es eb e1 e2 e3 et
    subst es eb e1 e2 e3
    simp only [eTy, plainEl, encTy, List.cons.injEq, and_true] at et
    obtain ⟨rfl, rfl⟩ := et
    exact ⟨⟨s, b, l1, l2, t, l3⟩, a1, k1, a2, k2, a3, k3, rfl, s1, s2, s3, hs⟩
set_option maxRecDepth 100000 in
theorem rd_mod : Reads enc Tryz.prog w base sp hd 29 fun cs => ∃ (m : Mod) (a : MA), cs = modcells m a ∧ MdR T w m a := fun n cs y h hb => by
  obtain ⟨h1, h2⟩ := reads_fields (L := [(25, 0), (26, 1), (27, 2), (3, 3)]) (by kernel_rfl) (by kernel_rfl) h hb
  rw [show Tryz.prog.cellsOf 29 = 4 by kernel_rfl] at h1
  match cs, h1 with
  | [c0, c1, c2, c3], _ =>
    obtain ⟨a1, l1, k1, e1, s1⟩ := h2 (25, 0) (by simp) _ (reads_slice (by kernel_rfl) (by kernel_rfl) (by decide) rd_mc)
    obtain ⟨a2, l2, k2, e2, s2⟩ := h2 (26, 1) (by simp) _ (reads_slice (by kernel_rfl) (by kernel_rfl) (by decide) rd_type)
    obtain ⟨a3, l3, k3, e3, s3⟩ := h2 (27, 2) (by simp) _ (reads_slice (by kernel_rfl) (by kernel_rfl) (by decide) rd_mm)
    obtain ⟨b, eb⟩ := h2 (3, 3) (by simp) _ (reads_int (by kernel_rfl))
    simp only [show Tryz.prog.cellsOf 3 = 1 by kernel_rfl, show Tryz.prog.cellsOf 25 = 1 by kernel_rfl, show Tryz.prog.cellsOf 26 = 1 by kernel_rfl, show Tryz.prog.cellsOf 27 = 1 by kernel_rfl, List.drop, List.take, List.cons.injEq, and_true] at e1 e2 e3 eb
    subst e1 e2 e3 eb
    exact ⟨⟨l1, l2, l3, b⟩, ⟨a1, k1, a2, k2, a3, k3⟩, rfl, ⟨s1, s2, s3⟩⟩
set_option maxRecDepth 100000 in
/-- an argument that is a module -/
theorem open_mod {r : Reach} {b0 : Nat} {v : Value} {d : DataW H} {p : List MemPlace} (hval : Value.okWide Tryz.prog w r b0 29 v) (h : DataW.Trod enc Tryz.prog w base sp hd 29 v d p) (hb : Rows.uptoBulk d ≤ 1048576) :
    ∃ (m : Mod) (a : MA), v = .agg (modcells m a).toArray ∧ MdR T w m a := by
  obtain ⟨cs, rfl, _⟩ := okWide_struct (show Tryz.prog.underlying 29 = some (.struct (Tryz.prog.fieldsOf 29)) by kernel_rfl) hval
  obtain ⟨n, h⟩ := h
  obtain ⟨m, a, e, hm⟩ := rd_mod n _ _ h hb
  refine ⟨m, a, ?_, hm⟩
  rw [← e]
  simp [Value.cells]
set_option maxRecDepth 100000 in
/-- an argument that is units -/
theorem open_units {r : Reach} {b0 : Nat} {v : Value} {d : DataW H} {p : List MemPlace} (hval : Value.okWide Tryz.prog w r b0 22 v) (h : DataW.Trod enc Tryz.prog w base sp hd 22 v d p) (hb : Rows.uptoBulk d ≤ 1048576) :
    ∃ (a : Option Addr) (l : List Unt) (cap : Nat), v = .slice a l.length cap ∧ Sl eUnt T w a l ∧ l.length ≤ cap := by
  obtain ⟨a0, len, cap0, rfl⟩ := okWide_slice Tryz.underlying22 hval
  obtain ⟨n, h⟩ := h
  obtain ⟨a, l, cap, e, hS, hc⟩ := reads_sliceC (E := eUnt) (t := 22) (e := 38) (by kernel_rfl) (by kernel_rfl) (by decide) (fun n cs y h hb => by
    obtain ⟨u, a, e, hU⟩ := rd_unit n cs y h hb
    exact ⟨u, a, e, hU⟩) n _ _ h hb
  simp only [Value.cells, List.cons.injEq, and_true] at e
  exact ⟨a, l, cap, e, hS, hc⟩
set_option maxRecDepth 100000 in
/-- an argument that is numbers -/
theorem open_ints {r : Reach} {b0 : Nat} {v : Value} {d : DataW H} {p : List MemPlace} (hval : Value.okWide Tryz.prog w r b0 47 v) (h : DataW.Trod enc Tryz.prog w base sp hd 47 v d p) (hb : Rows.uptoBulk d ≤ 1048576) :
    ∃ (a : Option Addr) (l : List Int) (cap : Nat), v = .slice a l.length cap ∧ Sl eInt T w a l ∧ l.length ≤ cap := by
  obtain ⟨a0, len, cap0, rfl⟩ := okWide_slice Tryz.underlying47 hval
  obtain ⟨n, h⟩ := h
  obtain ⟨a, l, cap, e, hS, hc⟩ := reads_sliceC (E := eInt) (t := 47) (e := 3) (by kernel_rfl) (by kernel_rfl) (by decide) rd_int n _ _ h hb
  simp only [Value.cells, List.cons.injEq, and_true] at e
  exact ⟨a, l, cap, e, hS, hc⟩
end
end Go.Proofs.YtkmdfjpafkcleaaGreatDoor

/- What a module is that link's Check takes; what is above a class; targets and calls. No program stands here. -/
namespace Go.Proofs.YtkmdfjpafkcleaaGreatDoor
open Eng Go.RowKit
/-- a type of a module, of a kind from least on -/
def ityp (m : Mod) (t : Ty) (least : Int) : Bool :=
  if t.kind = 2 ∨ t.kind = 4 then decide (0 ≤ t.cls) && decide (t.cls < m.classes.length)
  else if t.kind = 0 ∨ t.kind = 1 ∨ t.kind = 3 then decide (least ≤ t.kind) && decide (t.cls = 0) else false
def supM (m : Mod) (a : Int) : Int := ((m.classes[a.toNat]?).map fun c => c.super).getD (-1)
def chn (m : Mod) : Nat → Int → List Int
  | 0, _ => []
  | n + 1, a => if a < 0 then [] else a :: chn m n (supM m a)
/-- a class and what is above it -/
def upM (m : Mod) (a : Int) : List Int := chn m (a.toNat + 1) a
/-- the supers of the first k classes have lesser indexes -/
def Desc (m : Mod) (k : Nat) : Prop := k ≤ m.classes.length ∧ ∀ (i : Nat) x, i < k → m.classes[i]? = some x → -1 ≤ x.super ∧ x.super < i
variable {m : Mod} {k : Nat}
theorem supM_at {i : Nat} {x : MC} (h : m.classes[i]? = some x) : supM m (i : Int) = x.super := by unfold supM; rw [Int.toNat_natCast, h]; rfl
theorem sup_lt (h : Desc m k) {a : Int} (h0 : 0 ≤ a) (ha : a < k) : -1 ≤ supM m a ∧ supM m a < a := by
  obtain ⟨i, rfl⟩ := Int.eq_ofNat_of_zero_le h0
  obtain ⟨x, hx⟩ := some_of_lt (l := m.classes) (k := i) (by have := h.1; omega)
  rw [supM_at hx]
  exact h.2 i x (by omega) hx
theorem chn_neg {n : Nat} {a : Int} (h : a < 0) : chn m n a = [] := by
  cases n with
  | zero => rfl
  | succ n => simp only [chn, if_pos h]
theorem chn_fuel (h : Desc m k) : ∀ (n n' : Nat) (a : Int), a < k → a < n → a < n' → chn m n a = chn m n' a
  | 0, n', a, _, h1, _ => by rw [chn_neg (by omega), chn_neg (by omega)]
  | n + 1, 0, a, _, _, h2 => by rw [chn_neg (by omega), chn_neg (by omega)]
  | n + 1, n' + 1, a, ha, h1, h2 => by
    simp only [chn]
    split
    · rfl
    · obtain ⟨_, q2⟩ := sup_lt h (a := a) (by omega) ha
      rw [chn_fuel h n n' (supM m a) (by omega) (by omega) (by omega)]
theorem upM_neg {a : Int} (h : a < 0) : upM m a = [] := chn_neg h
theorem upM_step (h : Desc m k) {a : Int} (h0 : 0 ≤ a) (ha : a < k) : upM m a = a :: upM m (supM m a) := by
  obtain ⟨q1, q2⟩ := sup_lt h h0 ha
  unfold upM
  rw [show chn m (a.toNat + 1) a = a :: chn m a.toNat (supM m a) from by simp only [chn, if_neg (show ¬ a < 0 by omega)]]
  congr 1
  exact chn_fuel h _ _ _ (by omega) (by omega) (by omega)
theorem upM_le (h : Desc m k) : ∀ (n : Nat) {a b : Int}, a < n → a < k → b ∈ upM m a → 0 ≤ b ∧ b ≤ a
  | 0, a, b, h1, _, hb => by rw [upM_neg (by omega)] at hb; cases hb
  | n + 1, a, b, h1, ha, hb => by
    rcases Classical.em (a < 0) with h0 | h0
    · rw [upM_neg h0] at hb; cases hb
    · rw [upM_step h (by omega) ha] at hb
      obtain ⟨q1, q2⟩ := sup_lt h (a := a) (by omega) ha
      rcases List.mem_cons.1 hb with rfl | hb
      · omega
      · have := upM_le h n (a := supM m a) (by omega) (by omega) hb
        omega
theorem upM_mem_le (h : Desc m k) {a b : Int} (ha : a < k) (hb : b ∈ upM m a) : 0 ≤ b ∧ b ≤ a := upM_le h k ha ha hb
theorem upM_self {a : Int} (h0 : 0 ≤ a) : a ∈ upM m a := by
  unfold upM
  simp only [chn, if_neg (show ¬ a < 0 by omega)]
  exact List.mem_cons_self ..
theorem upM_trans (h : Desc m k) : ∀ (n : Nat) {a b c : Int}, a < n → a < k → b ∈ upM m a → c ∈ upM m b → c ∈ upM m a
  | 0, a, b, c, h1, _, hb, _ => by rw [upM_neg (by omega)] at hb; cases hb
  | n + 1, a, b, c, h1, ha, hb, hc => by
    rcases Classical.em (a < 0) with h0 | h0
    · rw [upM_neg h0] at hb; cases hb
    · rw [upM_step h (by omega) ha] at hb
      obtain ⟨q1, q2⟩ := sup_lt h (a := a) (by omega) ha
      rcases List.mem_cons.1 hb with rfl | hb
      · exact hc
      · rw [upM_step h (by omega) ha]
        exact List.mem_cons_of_mem _ (upM_trans h n (by omega) (by omega) hb hc)
/-- numbers in ascending order, each once -/
def AscI (l : List Int) : Prop := l.Pairwise (· < ·)
theorem asc_eq : ∀ {a b : List Int}, AscI a → AscI b → (∀ x, x ∈ a ↔ x ∈ b) → a = b
  | [], [], _, _, _ => rfl
  | [], y :: b, _, _, h => by have := (h y).2 (List.mem_cons_self ..); cases this
  | x :: a, [], _, _, h => by have := (h x).1 (List.mem_cons_self ..); cases this
  | x :: a, y :: b, ha, hb, h => by
    obtain ⟨a1, a2⟩ := List.pairwise_cons.1 ha
    obtain ⟨b1, b2⟩ := List.pairwise_cons.1 hb
    have e : x = y := by
      rcases List.mem_cons.1 ((h x).1 (List.mem_cons_self ..)) with q | q
      · exact q
      · rcases List.mem_cons.1 ((h y).2 (List.mem_cons_self ..)) with p | p
        · exact p.symm
        · have := b1 x q; have := a1 y p; omega
    subst e
    rw [asc_eq a2 b2 fun z => ?_]
    constructor
    · intro hz
      rcases List.mem_cons.1 ((h z).1 (List.mem_cons_of_mem _ hz)) with q | q
      · subst q; exact absurd (a1 z hz) (by omega)
      · exact q
    · intro hz
      rcases List.mem_cons.1 ((h z).2 (List.mem_cons_of_mem _ hz)) with q | q
      · subst q; exact absurd (b1 z hz) (by omega)
      · exact q
def insI (x : Int) : List Int → List Int
  | [] => [x]
  | y :: l => if x < y then x :: y :: l else if x = y then y :: l else y :: insI x l
theorem mem_insI {x z : Int} : ∀ {l : List Int}, z ∈ insI x l ↔ z = x ∨ z ∈ l
  | [] => by simp [insI]
  | y :: l => by
    unfold insI
    split
    · simp
    · split
      · rename_i h; subst h; simp
      · simp only [List.mem_cons, mem_insI (l := l)]
        exact or_left_comm
theorem asc_insI {x : Int} : ∀ {l : List Int}, AscI l → AscI (insI x l)
  | [], _ => by simp [insI, AscI]
  | y :: l, h => by
    obtain ⟨h1, h2⟩ := List.pairwise_cons.1 h
    unfold insI
    split
    · rename_i q
      refine List.pairwise_cons.2 ⟨fun z hz => ?_, h⟩
      rcases List.mem_cons.1 hz with rfl | hz
      · exact q
      · have := h1 z hz; omega
    · split
      · exact h
      · refine List.pairwise_cons.2 ⟨fun z hz => ?_, asc_insI h2⟩
        rcases mem_insI.1 hz with rfl | hz
        · omega
        · exact h1 z hz
def srtI (l : List Int) : List Int := l.foldr insI []
theorem srtI_asc : ∀ (l : List Int), AscI (srtI l)
  | [] => List.Pairwise.nil
  | _ :: l => asc_insI (srtI_asc l)
theorem mem_srtI {z : Int} : ∀ {l : List Int}, z ∈ srtI l ↔ z ∈ l
  | [] => Iff.rfl
  | x :: l => by
    show z ∈ insI x (srtI l) ↔ _
    rw [mem_insI, mem_srtI (l := l), List.mem_cons]
theorem srtI_of {a l : List Int} (ha : AscI a) (h : ∀ x, x ∈ a ↔ x ∈ l) : a = srtI l := asc_eq ha (srtI_asc l) fun x => by rw [h, mem_srtI]
/-- the targets of a selector -/
def rawT (m : Mod) (s : Nat) : List Int := (m.classes.map fun c => c.table.getD s (-1)).filter fun n => decide (0 ≤ n)
def trgM (m : Mod) (s : Nat) : List Int := srtI (rawT m s)
def calO (m : Mod) (i : Ins) : List Int := if i.op = 25 then [i.a] else if i.op = 26 then trgM m i.a.toNat else []
/-- what a method calls and sends -/
def calM (m : Mod) (k : Nat) : List Int := srtI ((((m.methods[k]?).map fun x => x.code).getD []).flatMap (calO m))
/-- an entry of a class's table -/
structure EntP (m : Mod) (k : Nat) (x : MC) (s : Nat) (n : Int) : Prop where
  lo : -1 ≤ n
  hi : n < m.methods.length
  own : 0 ≤ n → ∃ y z, m.methods[n.toNat]? = some y ∧ y.cls ∈ upM m k ∧ m.classes[y.cls.toNat]? = some z ∧ z.table[s]? = some n
  up : n < 0 → 0 ≤ x.super → ∀ y q, m.classes[x.super.toNat]? = some y → y.table[s]? = some q → q < 0
structure ClsP (m : Mod) (k : Nat) (x : MC) : Prop where
  s1 : -1 ≤ x.super
  s2 : x.super < k
  fl : x.fields.length ≤ 7
  ft : ∀ t ∈ x.fields, ityp m t 1 = true
  tl : (x.table.length : Int) = m.sels
  tb : ∀ s n, x.table[s]? = some n → EntP m k x s n
  up : 0 ≤ x.super → ∀ y, m.classes[x.super.toNat]? = some y → y.fields.length ≤ x.fields.length ∧ x.fields.take y.fields.length = y.fields
/-- the class of a method -/
def mcl (m : Mod) (n : Int) : Int := ((m.methods[n.toNat]?).map fun x => x.cls).getD 0
/-- what an instruction of method k names is there -/
def oprB (m : Mod) (k : Nat) (i : Ins) : Bool :=
  if i.op = 12 then decide (i.a = 3) || decide (i.b < m.classes.length)
  else if i.op = 14 ∨ i.op = 24 then decide (i.a < m.classes.length)
  else if i.op = 16 then decide (i.b < m.classes.length)
  else if i.op = 22 ∨ i.op = 23 then decide (i.a < m.statics.length)
  else if i.op = 25 then decide (i.a < k) && decide (mcl m i.a = -1)
  else if i.op = 26 then decide (i.a < m.sels) && (trgM m i.a.toNat).all fun t => decide (t < k)
  else true
structure MthP (m : Mod) (k : Nat) (x : MM) : Prop where
  c1 : -1 ≤ x.cls
  c2 : x.cls < m.classes.length
  pl : x.params.length ≤ 4
  ll : (x.params.length : Int) + x.locals.length + (if 0 ≤ x.cls then 1 else 0) ≤ 10
  pt : ∀ t ∈ x.params, ityp m t 1 = true
  lt : ∀ t ∈ x.locals, ityp m t 1 = true
  rt : ityp m x.result 0 = true
  cd : codeE x.code false = 0
  op : ∀ i ∈ x.code, oprB m k i = true
/-- the targets of a selector have equal parameters and results -/
def AlkP (m : Mod) (s : Nat) : Prop := ∀ t ∈ trgM m s, ∀ u ∈ trgM m s, ∀ x y, m.methods[t.toNat]? = some x → m.methods[u.toNat]? = some y → x.params = y.params ∧ x.result = y.result
structure ModP (m : Mod) : Prop where
  cl : m.classes.length ≤ 10
  sl : m.statics.length ≤ 10
  ml : m.methods.length ≤ 16
  z0 : 0 ≤ m.sels
  z1 : m.sels ≤ 16
  cls : ∀ k x, m.classes[k]? = some x → ClsP m k x
  sta : ∀ t ∈ m.statics, ityp m t 1 = true
  mth : ∀ k x, m.methods[k]? = some x → MthP m k x
  alk : ∀ s : Nat, s < m.sels → AlkP m s
open Classical in
/-- the word of Check -/
noncomputable def mchkE (m : Mod) : Int := if ModP m then 0 else 1
theorem desc_of {k : Nat} (hk : k ≤ m.classes.length) (h : ∀ i x, i < k → m.classes[i]? = some x → ClsP m i x) : Desc m k := ⟨hk, fun i x hi hx => ⟨(h i x hi hx).s1, (h i x hi hx).s2⟩⟩
theorem ModP.desc (h : ModP m) : Desc m m.classes.length := desc_of (Nat.le_refl _) fun i x _ hx => h.cls i x hx
theorem rawT_le (m : Mod) (s : Nat) : (rawT m s).length ≤ m.classes.length := by
  unfold rawT
  refine Nat.le_trans (List.length_filter_le _ _) ?_
  rw [List.length_map]; exact Nat.le_refl _
theorem mem_rawT {s : Nat} {t : Int} : t ∈ rawT m s ↔ 0 ≤ t ∧ ∃ c ∈ m.classes, c.table.getD s (-1) = t := by
  unfold rawT
  rw [List.mem_filter, List.mem_map, decide_eq_true_eq, and_comm]
theorem mem_trg {s : Nat} {t : Int} : t ∈ trgM m s ↔ 0 ≤ t ∧ ∃ c ∈ m.classes, c.table.getD s (-1) = t := by unfold trgM; rw [mem_srtI, mem_rawT]
theorem insI_len (x : Int) : ∀ (l : List Int), (insI x l).length ≤ l.length + 1
  | [] => Nat.le_refl _
  | y :: l => by
    unfold insI
    split
    · simp
    · split
      · simp
      · have := insI_len x l; simp only [List.length_cons]; omega
theorem srtI_len : ∀ (l : List Int), (srtI l).length ≤ l.length
  | [] => Nat.le_refl _
  | x :: l => by
    have := srtI_len l
    have := insI_len x (srtI l)
    show (insI x (srtI l)).length ≤ _
    simp only [List.length_cons]; omega
theorem trg_len (s : Nat) : (trgM m s).length ≤ m.classes.length := Nat.le_trans (srtI_len _) (rawT_le m s)
/-- what a class's table has at a selector, where it has one -/
theorem ModP.trg (h : ModP m) {s : Nat} {t : Int} (ht : t ∈ trgM m s) : 0 ≤ t ∧ t < m.methods.length := by
  obtain ⟨h0, c, hc, e⟩ := mem_trg.1 ht
  obtain ⟨k, hk⟩ := List.mem_iff_getElem?.1 hc
  cases hs : c.table[s]? with
  | none => rw [List.getD_eq_getElem?_getD, hs] at e; simp at e; omega
  | some n =>
    rw [List.getD_eq_getElem?_getD, hs] at e
    simp only [Option.getD_some] at e
    subst e
    exact ⟨h0, ((h.cls k c hk).tb s n hs).hi⟩
end Go.Proofs.YtkmdfjpafkcleaaGreatDoor

/- Walks: slices.Sort and slices.Compact at numbers. -/
namespace Go.Proofs.YtkmdfjpafkcleaaGreatDoor
open Eng Go.RowKit Go.Sort
theorem compactI_at {zs : List Int} {x : Int} : x ∈ Lib.compact zs ↔ ∃ j, j < zs.length ∧ Lib.keeps zs.toArray j = true ∧ zs.getD j 0 = x := by
  unfold Lib.compact Lib.compactUpTo
  simp only [List.mem_map, List.mem_filter, List.mem_range]
  constructor
  · rintro ⟨j, ⟨h1, h2⟩, h3⟩
    exact ⟨j, h1, h2, by simpa [h1] using h3⟩
  · rintro ⟨j, h1, h2, h3⟩
    exact ⟨j, ⟨h1, h2⟩, by simpa [h1] using h3⟩
theorem keepsI_iff {zs : List Int} {j : Nat} (h : j < zs.length) : Lib.keeps zs.toArray j = true ↔ j = 0 ∨ zs.getD (j - 1) 0 ≠ zs.getD j 0 := by
  unfold Lib.keeps
  rw [decide_eq_true_eq]
  constructor
  · rintro (h0 | h1)
    · exact .inl h0
    · refine .inr fun e => ?_
      simp [h, show j - 1 < zs.length by omega] at h1 e
      exact h1 e.symm
  · rintro (h0 | h1)
    · exact .inl h0
    · refine .inr ?_
      simp [h, show j - 1 < zs.length by omega] at h1 ⊢
      exact fun e => h1 e.symm
theorem compactI_mem {zs : List Int} {x : Int} : x ∈ Lib.compact zs ↔ x ∈ zs := by
  rw [compactI_at]
  constructor
  · rintro ⟨j, h1, _, rfl⟩
    simp [h1]
  · intro hx
    obtain ⟨i, hi, rfl⟩ := List.getElem_of_mem hx
    have key : ∀ n, n < zs.length → ∃ j, j < zs.length ∧ Lib.keeps zs.toArray j = true ∧ zs.getD j 0 = zs.getD n 0 := by
      intro n
      induction n with
      | zero => intro h; exact ⟨0, h, (keepsI_iff h).2 (.inl rfl), rfl⟩
      | succ n ih =>
        intro h
        by_cases e : zs.getD n 0 = zs.getD (n + 1) 0
        · obtain ⟨j, h1, h2, h3⟩ := ih (by omega)
          exact ⟨j, h1, h2, h3.trans e⟩
        · exact ⟨n + 1, h, (keepsI_iff h).2 (.inr (by simpa using e)), rfl⟩
    obtain ⟨j, h1, h2, h3⟩ := key i hi
    exact ⟨j, h1, h2, by rw [h3]; simp [hi]⟩
theorem compactI_lt {zs : List Int} (hs : zs.Pairwise (· ≤ ·)) : AscI (Lib.compact zs) := by
  have hp : ∀ i j, i ≤ j → j < zs.length → zs.getD i 0 ≤ zs.getD j 0 := fun i j hij hj => by
    rcases Nat.eq_or_lt_of_le hij with rfl | h
    · exact Int.le_refl _
    · have := List.pairwise_iff_getElem.1 hs i j (by omega) hj h
      simpa [hj, show i < zs.length by omega] using this
  unfold AscI Lib.compact Lib.compactUpTo
  rw [List.pairwise_map]
  have hr : ((List.range zs.toArray.size).filter (Lib.keeps zs.toArray)).Pairwise (· < ·) := List.pairwise_lt_range.filter _
  refine List.Pairwise.imp_of_mem (fun {i j} hi hj hij => ?_) hr
  simp only [List.mem_filter, List.mem_range] at hi hj
  have h1 := hp i (j - 1) (by omega) (by omega)
  have h2 := hp (j - 1) j (by omega) hj.1
  have h3 : zs.getD (j - 1) 0 ≠ zs.getD j 0 := by
    rcases (keepsI_iff hj.1).1 hj.2 with q | q
    · omega
    · exact q
  have h5 : zs.getD i 0 < zs.getD j 0 := by omega
  simpa [hi.1, hj.1] using h5
def sortI (l : List Int) : List Int := l.mergeSort fun x y => decide (x ≤ y)
theorem sortI_le (l : List Int) : (sortI l).Pairwise (· ≤ ·) := by
  have := List.pairwise_mergeSort (le := fun x y : Int => decide (x ≤ y)) (fun a b c h1 h2 => by simp at *; omega) (fun a b => by simp; omega) l
  exact this.imp fun h => of_decide_eq_true h
theorem compactI_srt (l : List Int) : Lib.compact (sortI l) = srtI l := srtI_of (compactI_lt (sortI_le l)) fun x => by rw [compactI_mem]; exact List.mem_mergeSort
theorem encI_map (l : List Int) : l.flatMap encInt = l.map (Value.int .i64) := by
  induction l with
  | nil => rfl
  | cons x l ih => rw [List.flatMap_cons, ih]; rfl
theorem ap_grownI {w w' : World} {g : Nat} (h : w.grownBy w' (some g)) : Ap w (some ⟨g, 0, none⟩) w' := by
  obtain ⟨q1, q2, q3, q4, q5⟩ := h
  first
    | exact ⟨q1, q2, q3, q4, fun k hk hne => q5 k hk fun e => hne (by cases e; rfl)⟩
    | exact ⟨q1, q3, q2, q4, fun k hk hne => q5 k hk fun e => hne (by cases e; rfl)⟩
theorem c_SortI (l : List Int) (base : Nat) (a : Option Addr) (cap : Nat) (w : World) (hO : OwP 1 encInt w base 3 a cap l) (hl : l.length ≤ 4194304) :
    Ret Tryz.prog 134 #[.slice a l.length cap] w fun _ w' => OwP 1 encInt w' base 3 a cap (sortI l) ∧ Ap w a w' := by
  have hsl : (sortI l).length = l.length := by unfold sortI; rw [List.length_mergeSort]
  refine ⟨by kernel_rfl, ?_⟩
  unfold OwP at hO ⊢
  rw [encI_map] at hO ⊢
  obtain ⟨_, h2⟩ := hO.own
  rcases h2 with ⟨h3, h4⟩ | ⟨g, cap', cur, h2, hg, hgb, r1, r2, r3, r4⟩
  · simp only [Value.slice.injEq] at h3
    obtain ⟨rfl, h0, rfl⟩ := h3
    have : l = [] := List.eq_nil_of_length_eq_zero h0
    subst this
    refine (Tryz.slices_Sort_int_none none 0 w).mono ?_
    rintro e w' ⟨rfl, rfl⟩
    have e0 : sortI ([] : List Int) = [] := by simp [sortI]
    rw [e0]
    exact ⟨Ow.nil .., ⟨rfl, rfl, rfl, Nat.le_refl _, fun _ _ _ => rfl⟩⟩
  · simp only [Value.slice.injEq] at h2
    obtain ⟨rfl, _, rfl⟩ := h2
    have hH : Holds (Value.int .i64) w g 0 l.toArray := holds_of_blockI hgb (by simpa using r4)
    refine (Tryz.slices_Sort_int g 0 cap l w hH (Array.getElem?_eq_some_iff.1 hgb).1 (by omega)).mono ?_
    rintro e w' ⟨rfl, n, os, rfl⟩
    refine ⟨⟨?_⟩, ap_grownI (grownBy_sortedI _)⟩
    have := ownsRow_sortedI (ss := l) (ts := sortI l) (os := os) (n := n) hsl hg hgb r1 r2 r3
    rw [hsl]
    exact this
theorem c_CompactI (zs : List Int) (base : Nat) (a : Option Addr) (cap : Nat) (w : World) (hO : OwP 1 encInt w base 3 a cap zs) (hl : zs.length ≤ 4194304) :
    Ret Tryz.prog 135 #[.slice a zs.length cap] w fun v w' => v = .slice a (Lib.compact zs).length cap ∧ OwP 1 encInt w' base 3 a cap (Lib.compact zs) ∧ Ap w a w' := by
  have hle := Lib.compact_length_le zs
  refine ⟨by kernel_rfl, ?_⟩
  unfold OwP at hO ⊢
  rw [encI_map] at hO ⊢
  obtain ⟨_, h2⟩ := hO.own
  rcases h2 with ⟨h3, h4⟩ | ⟨g, cap', cur, h2, hg, hgb, r1, r2, r3, r4⟩
  · simp only [Value.slice.injEq] at h3
    obtain ⟨rfl, h0, rfl⟩ := h3
    have : zs = [] := List.eq_nil_of_length_eq_zero h0
    subst this
    refine (Tryz.slices_Compact_int_empty none 0 w).mono ?_
    rintro e w' ⟨rfl, rfl⟩
    exact ⟨rfl, Ow.nil .., ⟨rfl, rfl, rfl, Nat.le_refl _, fun _ _ _ => rfl⟩⟩
  · simp only [Value.slice.injEq] at h2
    obtain ⟨rfl, _, rfl⟩ := h2
    have hH : Holds (Value.int .i64) w g 0 zs.toArray := holds_of_blockI hgb (by simpa using r4)
    refine (Tryz.slices_Compact_int g 0 cap zs w hH (by omega) r1).mono ?_
    rintro e w' ⟨rfl, q, hw⟩
    rw [← Go.Sort.grow_empty (putRow _ _ _ _ _)] at hw
    have e1 : (Lib.compact zs ++ List.replicate (zs.length - (Lib.compact zs).length) 0).length = zs.length := by rw [List.length_append, List.length_replicate]; omega
    have hrow := ownsRow_sortedI (ss := zs) (ts := Lib.compact zs ++ List.replicate (zs.length - (Lib.compact zs).length) 0) (os := #[]) (n := q) e1 hg hgb r1 r2 r3
    rw [← hw] at hrow
    have hO2 : Ow w' base 3 1 (some ⟨g, 0, none⟩) zs.length cap ((Lib.compact zs ++ List.replicate (zs.length - (Lib.compact zs).length) 0).map (Value.int .i64)) := ⟨hrow⟩
    have hO3 := hO2.cut hle
    refine ⟨rfl, ?_, ?_⟩
    · have e2 : ((Lib.compact zs ++ List.replicate (zs.length - (Lib.compact zs).length) 0).map (Value.int .i64)).take ((Lib.compact zs).length * 1) = (Lib.compact zs).map (Value.int .i64) := by
        rw [Nat.mul_one, List.map_append, List.take_left' (by simp)]
      rw [e2] at hO3; exact hO3
    · rw [hw]; exact ap_grownI (grownBy_sortedI _)
end Go.Proofs.YtkmdfjpafkcleaaGreatDoor

/- Rows whose elements point to rows: parts of them, and a row put behind another. No program stands here. -/
namespace Go.Proofs.YtkmdfjpafkcleaaGreatDoor
open Eng Go.RowKit
theorem Sl.take {α : Type} {E : El α} {S : Nat → Prop} {w : World} {a : Option Addr} {l : List α} (h : Sl E S w a l) (k : Nat) : Sl E S w a (l.take k) :=
  ⟨Nat.le_trans (List.length_take_le' ..) h.big, fun i x hx => by
    rw [List.getElem?_take] at hx
    split at hx
    · exact h.el i x hx
    · cases hx⟩
theorem Sl.drop {α : Type} {E : El α} {S : Nat → Prop} {w : World} {a : Option Addr} {l : List α} (h : Sl E S w a l) (k : Nat) : Sl E S w (a.map (·.add (k * E.sz))) (l.drop k) :=
  ⟨by have := h.big; rw [List.length_drop]; omega, fun i x hx => by
    rw [List.getElem?_drop] at hx
    obtain ⟨b, o, cs, rfl, hs, hat, hr⟩ := h.el (k + i) x hx
    refine ⟨b, o + k * E.sz, cs, by simp [Addr.add], hs, ?_, hr⟩
    rw [Nat.add_mul] at hat
    rw [Nat.add_assoc]; exact hat⟩
/-- the cells of a row of elements -/
theorem cells_of {α : Type} {E : El α} (hsz : 0 < E.sz) {S : Nat → Prop} {w : World} {b : Nat} : ∀ {l : List α} {o : Nat}, (∀ (i : Nat) x, l[i]? = some x → ∃ cs, At w b (o + i * E.sz) cs ∧ E.rel S w cs x) →
    ∃ xs : List (List Value), xs.length = l.length ∧ (∀ c ∈ xs, c.length = E.sz) ∧ At w b o xs.flatten ∧ ∀ (i : Nat) (cs : List Value) (x : α), xs[i]? = some cs → l[i]? = some x → E.rel S w cs x
  | [], o, _ => ⟨[], rfl, (fun _ h => (by cases h)), (fun j v hj => (by simp at hj)), (fun i cs x h => (by simp at h))⟩
  | x :: l, o, h => by
    obtain ⟨cs, hat, hr⟩ := h 0 x rfl
    rw [Nat.zero_mul, Nat.add_zero] at hat
    have hlen := E.len hr
    obtain ⟨xs, h1, h2, h3, h4⟩ := cells_of hsz (l := l) (o := o + E.sz) fun i y hy => by
      obtain ⟨cs', g1, g2⟩ := h (i + 1) y (by simpa using hy)
      exact ⟨cs', by rw [Nat.succ_mul, Nat.add_comm (i * E.sz), ← Nat.add_assoc] at g1; exact g1, g2⟩
    refine ⟨cs :: xs, by simp [h1], fun c hc => ?_, fun j v hj => ?_, fun i c y hc hy => ?_⟩
    · rcases List.mem_cons.1 hc with rfl | hc
      · exact hlen
      · exact h2 c hc
    · rw [List.flatten_cons] at hj
      rcases Nat.lt_or_ge j cs.length with q | q
      · rw [List.getElem?_append_left q] at hj; exact hat j v hj
      · rw [List.getElem?_append_right q] at hj
        have := h3 _ v hj
        rw [show o + E.sz + (j - cs.length) = o + j by omega] at this
        exact this
    · cases i with
      | zero => simp at hc hy; subst hc hy; exact hr
      | succ i => exact h4 i c y (by simpa using hc) (by simpa using hy)
theorem src_rel {α : Type} {E : El α} (hsz : 0 < E.sz) {S : Nat → Prop} {w : World} {a : Option Addr} {l : List α} (h : Sl E S w a l) :
    ∃ xs : List (List Value), xs.length = l.length ∧ (∀ c ∈ xs, c.length = E.sz) ∧ Eng.Src w a l.length xs.flatten ∧ ∀ (i : Nat) (cs : List Value) (x : α), xs[i]? = some cs → l[i]? = some x → E.rel S w cs x := by
  cases hl : l with
  | nil => exact ⟨[], rfl, (fun _ h => (by cases h)), .inl ⟨rfl, rfl⟩, (fun i cs x h => (by simp at h))⟩
  | cons x l' =>
    rw [← hl]
    obtain ⟨b, o, cs, rfl, _, hat, hr⟩ := h.el 0 x (by rw [hl]; rfl)
    obtain ⟨xs, h1, h2, h3, h4⟩ := cells_of hsz (S := S) (w := w) (b := b) (o := o) (l := l) fun i y hy => by
      obtain ⟨b', o', cs', e, _, g1, g2⟩ := h.el i y hy
      simp only [Option.some.injEq, Addr.mk.injEq, and_true] at e
      obtain ⟨rfl, rfl⟩ := e
      exact ⟨cs', g1, g2⟩
    exact ⟨xs, h1, h2, .inr ⟨b, o, rfl, h3⟩, h4⟩
theorem OwC.app {α : Type} {E : El α} {R : Nat → Prop} {w w' : World} {base e cap' : Nat} {a a' : Option Addr} {l l1 : List α} {xs ys : List (List Value)} (h1 : xs.length = l.length) (h2 : ∀ c ∈ xs, c.length = E.sz)
    (h4 : ∀ (i : Nat) (cs : List Value) (x : α), xs[i]? = some cs → l[i]? = some x → E.rel (fun b => R b ∧ a ≠ some ⟨b, 0, none⟩ ∧ b < w.heap.size) w cs x)
    (g1 : ys.length = l1.length) (g2 : ∀ c ∈ ys, c.length = E.sz)
    (g4 : ∀ (i : Nat) (cs : List Value) (x : α), ys[i]? = some cs → l1[i]? = some x → E.rel (fun b => R b ∧ a ≠ some ⟨b, 0, none⟩ ∧ b < w.heap.size) w cs x)
    (hO : Ow w' base e E.sz a' (l.length + l1.length) cap' (xs.flatten ++ ys.flatten)) (hA : Ap w a w') (hf : ∀ g, a' = some ⟨g, 0, none⟩ → a = some ⟨g, 0, none⟩ ∨ w.heap.size ≤ g) : OwC E R w' base e a' cap' (l ++ l1) := by
  have hsub : ∀ b, (R b ∧ a ≠ some ⟨b, 0, none⟩ ∧ b < w.heap.size) → (R b ∧ a' ≠ some ⟨b, 0, none⟩ ∧ b < w'.heap.size) := fun b ⟨q1, q2, q3⟩ => by
    refine ⟨q1, fun e => ?_, Nat.lt_of_lt_of_le q3 hA.size⟩
    rcases hf b e with h | h
    · exact q2 h
    · omega
  have hkp : Kp (fun b => R b ∧ a ≠ some ⟨b, 0, none⟩ ∧ b < w.heap.size) w w' := hA.kp.sub fun i hi => hi.2.1
  refine ⟨xs ++ ys, by simp [h1, g1], fun c hc => ?_, by rw [List.length_append, List.flatten_append]; exact hO, fun i c y hi hl => ?_⟩
  · rcases List.mem_append.1 hc with hc | hc
    · exact h2 c hc
    · exact g2 c hc
  · rcases Nat.lt_or_ge i l.length with hlt | hge
    · rw [List.getElem?_append_left (by omega)] at hi
      rw [List.getElem?_append_left hlt] at hl
      exact E.sub hsub (E.kp hkp (h4 i c y hi hl))
    · rw [List.getElem?_append_right (by omega), h1] at hi
      rw [List.getElem?_append_right hge] at hl
      exact E.sub hsub (E.kp hkp (g4 _ c y hi hl))
theorem OwC.sl3 {α : Type} {E : El α} {R : Nat → Prop} {w : World} {base e cap : Nat} {a : Option Addr} {l : List α} (h : OwC E R w base e a cap l) (hl : l.length ≤ 4194304) : Sl E (· < w.heap.size) w a l := by
  obtain ⟨xs, h1, h2, h3, h4⟩ := h.row
  refine ⟨hl, fun i x hx => ?_⟩
  have hi : i < l.length := (List.getElem?_eq_some_iff.1 hx).1
  obtain ⟨cs, hc⟩ := some_of_lt (l := xs) (k := i) (by omega)
  have hcl := h2 cs (List.mem_of_getElem? hc)
  rcases h3.shape with ⟨_, h0, _⟩ | ⟨g, cur, rfl, _⟩
  · omega
  · refine ⟨g, 0, cs, rfl, (h3.lt rfl).2, fun j v hj => ?_, E.sub (fun b hb => hb.2.2) (h4 i cs x hc hx)⟩
    have hj' : j < E.sz := by rw [← hcl]; exact (List.getElem?_eq_some_iff.1 hj).1
    have := h3.at rfl (i * E.sz + j) v (by rw [flatten_get h2 hc j hj']; exact hj)
    rw [Nat.zero_add] at this
    rw [Nat.zero_add]; exact this
/-- a row put behind a row of the call's own -/
theorem Eng.apc {C : Cx} {s : St} {w : World} {md : Option Md} {ops : Array Oper} {T T' : TypeId} {x y : Operand} {d : Nat} {ty : TypeId} {pos : String} {af : Array Edge} {g : Option (Nat × Bool)} {rest : List Oper} {k : List Item} {l : Env} {c : CEnv} {e esz by' sz : Nat} {ag : Bool} {zr : List Value}
    {α : Type} {E : El α} {R : Nat → Prop} {base : Nat} {a : Option Addr} {cap : Nat} {l0 : List α} {ay : Option Addr} {cy : Nat} {l1 : List α} (hO : OwC E R w base e a cap l0) (hsrc : Sl E (fun b => R b ∧ b < base) w ay l1) (hbase : base ≤ w.heap.size) (hE : E.sz = esz) (hone : ∀ {S w cs x}, E.rel S w cs x → cs.all Value.oneCell' = true)
    (h : ∀ a' cap' w', OwC E R w' base e a' cap' (l0 ++ l1) → Ap w a w' → (∀ g, a' = some ⟨g, 0, none⟩ → a = some ⟨g, 0, none⟩ ∨ w.heap.size ≤ g) → Wk C (.reg md ops rest k ((d, .slice a' (l0 ++ l1).length cap') :: l) c) w')
    (hs : adv C.tab C.n C.ks 400 s = .opn md ops ⟨some d, .call ⟨.builtin .append, #[x, y], #[T, T']⟩, ty, pos, af, g⟩ rest k l c [] := by rfl) (ht : C.tab.at T = some ⟨.slice e esz by', sz, ag, zr⟩ := by rfl)
    (hx : evc l c [] x = some (.slice a l0.length cap) := by rfl) (hy : evc l c [] y = some (.slice ay l1.length cy) := by rfl) (hTT : T' = T := by rfl) (hsz : Nat.blt 0 esz = true := by rfl)
    (hb : (l0.length + l1.length) * by' ≤ 140737488355328 := by first | omega | (simp only [List.length_nil, List.length_append, List.length_cons, List.length_map]; omega)) (hn : l0.length + l1.length ≤ 1152921504606846976 := by first | omega | (simp only [List.length_nil, List.length_append, List.length_cons, List.length_map]; omega)) (hf : fresh d l c [] = true := by rfl) (hm : ∀ w', Ap w a w' → mdW md w w' := by intros; exact True.intro) (hnt : notT md = true := by rfl) : Wk C s w := by
  subst hE
  obtain ⟨xs, h1, h2, h3, h4⟩ := hO.row
  obtain ⟨ys, g1, g2, g3, g4⟩ := src_rel (by simpa using hsz) hsrc
  have hlt : ∀ g, a = some ⟨g, 0, none⟩ → base ≤ g := fun g hg => (h3.lt hg).1
  refine ap h3 g3 hbase (fun a' cap' w' hO' hA hfr => ?_) hs ht hx hy hTT hsz (by rw [flatten_len g2, g1]) ?_ hb hn hf hm hnt
  · have := h a' cap' w' (OwC.app h1 h2 h4 g1 g2 (fun i cs x hi hl => E.sub (fun b hb => ⟨hb.1, fun e => by have := hlt b e; omega, by omega⟩) (g4 i cs x hi hl)) hO' hA hfr) hA hfr
    rw [List.length_append] at this; exact this
  · rw [List.all_eq_true]
    intro v hv
    obtain ⟨c, hc, hv⟩ := List.mem_flatten.1 hv
    obtain ⟨i, hi⟩ := List.mem_iff_getElem?.1 hc
    obtain ⟨x, hx⟩ := some_of_lt (l := l1) (k := i) (by have := (List.getElem?_eq_some_iff.1 hi).1; omega)
    exact List.all_eq_true.1 (hone (g4 i c x hi hx)) v hv
end Go.Proofs.YtkmdfjpafkcleaaGreatDoor

/- The engine: slices with a greatest capacity; an append that has no room and makes a new row. No program stands here. -/
namespace Go.Proofs.YtkmdfjpafkcleaaGreatDoor.Eng
open Go Go.RowKit
theorem bounds3_run {P : Program} {w : World} {sl : Bool} {len cap lo hi mx : Nat} {vlo vhi : Option Value} {km kh : IntKind} (h1 : bnd 0 vlo lo) (h2 : vhi = some (.int kh hi)) (h3 : lo ≤ hi) (h4 : hi ≤ mx) (h5 : mx ≤ cap) :
    (Instr.sliceBounds sl len cap vlo vhi (some (.int km mx))).run P w = .ok (lo, hi, mx) w := by
  subst h2
  unfold Instr.sliceBounds
  simp only
  refine (run_bind_ok (bound_run h5)).trans ?_
  refine (run_bind_ok (bound_run h4)).trans ?_
  cases vlo with
  | none => have : lo = 0 := h1; subst this; rfl
  | some v => obtain ⟨k, rfl⟩ := h1; exact (run_bind_ok (bound_run h3)).trans rfl
theorem exec_slm {P : Program} {ρ : Operand → Value} {w : World} {d : Option Nat} {T : TypeId} {x hi mx : Operand} {lo : Option Operand} {ty : TypeId} {pos : String} {af : Array Edge} {g : Option (Nat × Bool)} {e esz by' sz : Nat} {ag : Bool} {zr : List Value}
    (ht : tiOk P T ⟨.slice e esz by', sz, ag, zr⟩ = true) {a : Option Addr} {len cap nl nh nm : Nat} {kh km : IntKind} (hx : ρ x = .slice a len cap) (h1 : bnd 0 (lo.map ρ) nl) (h2 : ρ hi = .int kh nh) (h2' : ρ mx = .int km nm) (h3 : nl ≤ nh) (h4 : nh ≤ nm) (h5 : nm ≤ cap) :
    (execOp ρ ⟨d, .slice T x lo (some hi) (some mx), ty, pos, af, g⟩).run P w = .ok (.value (.slice (if nm = nl then a else a.map (·.add (nl * esz))) (nh - nl) (nm - nl))) w := by
  obtain ⟨dd, xx, zz, hT⟩ := tiOk_und ht
  obtain ⟨rfl, hel⟩ := hT.sl _ _ _ rfl
  obtain ⟨y, z, hy, hys, _⟩ := elemOk_of hel
  simp only [execOp, hx]
  refine (run_bind_ok (P := P) (x := _) (w' := w) ?_).trans rfl
  simp only [Instr.sliceAt]
  rw [run_bind_ok (und_run hT.und w)]
  simp only [Instr.slice]
  rw [run_bind_ok (und_run hT.und w)]
  simp only [Option.map_some, h2, h2']
  rw [run_bind_ok (bounds3_run h1 rfl h3 h4 h5)]
  simp only
  rw [run_bind_ok (size_run hy w), hys]
  rfl
section
variable {C : Cx} {s : St} {w : World}
/-- s[lo:hi:max] -/
theorem slm {md : Option Md} {ops : Array Oper} {T : TypeId} {x hi mx : Operand} {lo : Option Operand} {d : Nat} {ty : TypeId} {pos : String} {af : Array Edge} {g : Option (Nat × Bool)} {rest : List Oper} {k : List Item} {l : Env} {c : CEnv} {e esz by' sz : Nat} {ag : Bool} {zr : List Value}
    {a : Option Addr} {len cap : Nat} (nl nh nm : Nat) {vlo : Option Value} {kh km : IntKind} (h : Wk C (.reg md ops rest k ((d, .slice (if nm = nl then a else a.map (·.add (nl * esz))) (nh - nl) (nm - nl)) :: l) c) w)
    (hs : adv C.tab C.n C.ks 400 s = .opn md ops ⟨some d, .slice T x lo (some hi) (some mx), ty, pos, af, g⟩ rest k l c [] := by rfl) (ht : C.tab.at T = some ⟨.slice e esz by', sz, ag, zr⟩ := by rfl) (hx : evc l c [] x = some (.slice a len cap) := by rfl)
    (hlo : evo l c [] lo = some vlo := by rfl) (hhi : evc l c [] hi = some (.int kh nh) := by rfl) (hmx : evc l c [] mx = some (.int km nm) := by rfl) (h1 : bnd 0 vlo nl := by first | rfl | exact ⟨_, rfl⟩) (h3 : nl ≤ nh := by omega) (h4 : nh ≤ nm := by omega) (h5 : nm ≤ cap := by omega) (hf : fresh d l c [] = true := by rfl) : Wk C s w :=
  rd (p := []) (fun hT _ hA hp _ _ => exec_slm (tab_at hT ht) (evc_ok hA.k hA.kc.c hp hx) (by rw [evo_ok hA.k hA.kc.c hp hlo]; exact h1) (evc_ok hA.k hA.kc.c hp hhi) (evc_ok hA.k hA.kc.c hp hmx) h3 h4 h5) h hs rfl hf (okR_no rfl)
theorem grow_run {P : Program} {w : World} {T e esz by' sz : Nat} {ag : Bool} {zr : List Value} (ht : tiOk P T ⟨.slice e esz by', sz, ag, zr⟩ = true) (hsz : 0 < esz) {a : Option Addr} {n cap : Nat} {xs : List Value} (hO : Src w a n xs) (hc : a = none → cap = 0)
    {ay : Option Addr} {m cy : Nat} {news : List Value} (hy : Src w ay m news) (hlx : xs.length = n * esz) (hl : news.length = m * esz) (h1 : news.all Value.oneCell' = true) (hg : cap < n + m) (hm : 0 < m) (hb : (n + m) * by' ≤ 140737488355328) (hn : n + m ≤ 1152921504606846976) (ty : TypeId) :
    ∃ a' cap' w', (Builtin.append_ #[T, T] ty #[.slice a n cap, .slice ay m cy]).run P w = .ok (.slice a' (n + m) cap') w' ∧ Ow w' w.heap.size e esz a' (n + m) cap' (xs ++ news) ∧ Bl w w' := by
  obtain ⟨d, x, z, hT⟩ := tiOk_und ht
  obtain ⟨rfl, hel⟩ := hT.sl _ _ _ rfl
  obtain ⟨y, zz, hyi, hys, hyb, hyz, hzc⟩ := elemOk_of hel
  have h63 : n + m ≤ maxLen := by unfold maxLen; omega
  rcases hy with ⟨rfl, rfl⟩ | ⟨b, o, rfl, hat⟩
  · omega
  have hnews : ∀ j u, news[j]? = some u → w.cell? ((⟨b, o, none⟩ : Addr).add j) = some u := fun j u hu => by rw [add_none]; exact hat j u hu
  cases a with
  | none =>
    obtain rfl := hc rfl
    rcases hO with ⟨rfl, rfl⟩ | ⟨b, o, h, _⟩
    · obtain ⟨a', cap', w', g1, g2, g3, g4⟩ := append_run (w := w) (base := w.heap.size) ht hsz (Ow.nil w w.heap.size e y.size |> fun h => by rw [hys] at h; exact h) (.inr ⟨b, o, rfl, hat⟩) hl h1 (by omega) hn (Nat.le_refl _) ty (cy := cy)
      exact ⟨a', cap', w', g1, g2, g3.below (Nat.le_refl _) fun g hg => by cases hg⟩
    · cases h
  | some ad =>
    have hold : ∀ j u, xs[j]? = some u → w.cell? (ad.add j) = some u := fun j u hu => by
      rcases hO with ⟨rfl, rfl⟩ | ⟨b, o, h, hx⟩
      · simp at hu
      · obtain rfl := Option.some.inj h
        rw [add_none]; exact hx j u hu
    obtain ⟨v', w', hr, ho, hgr⟩ := run_append_arg_grows (P := P) w T ty _ y zz esz by' hT.und hyi hyz hys hyb hzc hsz ad n cap xs hlx hold ⟨b, o, none⟩ m cy news hl hnews hg h63 hb
    have hB : Bl w w' := ⟨hgr.os, hgr.tape, hgr.output, hgr.size, fun k hk => hgr.block k hk (by simp)⟩
    rcases ho.2 with ⟨rfl, h0⟩ | ⟨g', cap', cur', rfl, hb', _⟩
    · omega
    · exact ⟨_, _, w', hr, ⟨ho⟩, hB⟩
/-- append where there is no room: a new row -/
theorem apg {md : Option Md} {ops : Array Oper} {T T' : TypeId} {x y : Operand} {d : Nat} {ty : TypeId} {pos : String} {af : Array Edge} {g : Option (Nat × Bool)} {rest : List Oper} {k : List Item} {l : Env} {c : CEnv} {e esz by' sz : Nat} {ag : Bool} {zr : List Value}
    {a : Option Addr} {n cap : Nat} {xs : List Value} {ay : Option Addr} {m cy : Nat} {news : List Value} (hO : Src w a n xs) (hsrc : Src w ay m news) (hc : a = none → cap = 0) (hg : cap < n + m) (hmp : 0 < m)
    (h : ∀ a' cap' w', Ow w' w.heap.size e esz a' (n + m) cap' (xs ++ news) → Bl w w' → Wk C (.reg md ops rest k ((d, .slice a' (n + m) cap') :: l) c) w')
    (hs : adv C.tab C.n C.ks 400 s = .opn md ops ⟨some d, .call ⟨.builtin .append, #[x, y], #[T, T']⟩, ty, pos, af, g⟩ rest k l c [] := by rfl) (ht : C.tab.at T = some ⟨.slice e esz by', sz, ag, zr⟩ := by rfl)
    (hx : evc l c [] x = some (.slice a n cap) := by rfl) (hy : evc l c [] y = some (.slice ay m cy) := by rfl) (hTT : T' = T := by rfl) (hsz : Nat.blt 0 esz = true := by rfl) (hlx : xs.length = n * esz := by first | rfl | (simp; done) | omega) (hl : news.length = m * esz := by first | rfl | (simp; done) | omega) (h1 : news.all Value.oneCell' = true := by first | rfl | (simp; done))
    (hb : (n + m) * by' ≤ 140737488355328 := by omega) (hn : n + m ≤ 1152921504606846976 := by omega) (hf : fresh d l c [] = true := by rfl) (hm : ∀ w', Bl w w' → mdW md w w' := by exact fun _ h => mdW_bl h) (hnt : notT md = true := by rfl) : Wk C s w := by
  subst hTT
  refine by_adv hs ⟨fun hT hfn => ?_⟩
  obtain ⟨a', cap', w', hr, hO', hB⟩ := grow_run (tab_at hT ht) (blt_lt hsz) hO hc hsrc hlx hl h1 hg hmp hb hn ty (cy := cy)
  refine (op_val0 (okW_of rfl hnt) (hm _ hB) (fun _ a hA => ?_) (h a' cap' w' hO' hB) rfl hf).run hT hfn
  simp only [execOp, resolve, List.map_toArray, List.map_cons, List.map_nil, evc_ok hA.k hA.kc.c (p := []) trivial hx, evc_ok hA.k hA.kc.c (p := []) trivial hy]
  show (Sem.bind (Sem.pure _) _).run C.P w = _
  simp only [Sem.bind, invoke, builtin]
  exact (run_bind_ok hr).trans rfl
end
end Go.Proofs.YtkmdfjpafkcleaaGreatDoor.Eng

/- Walks: the document's Sort of numbers. -/
namespace Go.Proofs.YtkmdfjpafkcleaaGreatDoor
open Eng Go.RowKit
theorem int_one (l : List Int) : (l.flatMap encInt).all Value.oneCell' = true := by
  rw [List.all_flatMap, List.all_eq_true]; exact fun _ _ => rfl
theorem int_len (l : List Int) : (l.flatMap encInt).length = l.length := by
  rw [flat_length (sz := 1) (fun _ => rfl), Nat.mul_one]
theorem lt_at {out : List Int} {x : Int} {j : Nat} (h : ∀ (i : Nat) y, i < j → out[i]? = some y → y < x) {y : Int} (hy : out[j]? = some y) (hlt : y < x) : ∀ (i : Nat) y, i < j + 1 → out[i]? = some y → y < x := fun i z hi hz => by
  rcases Nat.lt_or_ge i j with q | q
  · exact h i z q hz
  · obtain rfl : i = j := by omega
    rw [hy] at hz; obtain rfl := Option.some.inj hz; exact hlt
/-- a number put where it belongs -/
theorem ins_at {out : List Int} {x : Int} {j : Nat} (ha : AscI out) (_hj : j ≤ out.length) (h1 : ∀ (i : Nat) y, i < j → out[i]? = some y → y < x) (h2 : ∀ y, out[j]? = some y → x < y) : AscI (out.take j ++ [x] ++ out.drop j) := by
  have ha' := ha
  unfold AscI at ha ⊢
  rw [← List.take_append_drop j out, List.pairwise_append] at ha
  rw [List.append_assoc, List.pairwise_append]
  refine ⟨ha.1, List.pairwise_cons.2 ⟨fun z hz => ?_, ha.2.1⟩, fun y hy z hz => ?_⟩
  · cases hd : out.drop j with
    | nil => rw [hd] at hz; cases hz
    | cons d r =>
      have hdj : out[j]? = some d := by
        have : (out.drop j)[0]? = some d := by rw [hd]; rfl
        rwa [List.getElem?_drop, Nat.add_zero] at this
      have hxd := h2 d hdj
      rw [hd] at hz
      have hp := ha.2.1
      rw [hd] at hp
      rcases List.mem_cons.1 hz with rfl | hz
      · exact hxd
      · have := (List.pairwise_cons.1 hp).1 z hz; omega
  · obtain ⟨i, hi⟩ := List.mem_iff_getElem?.1 hy
    rw [List.getElem?_take] at hi
    split at hi
    · rename_i hij
      have hyx := h1 i y hij hi
      rcases List.mem_cons.1 hz with rfl | hz
      · exact hyx
      · exact ha.2.2 y hy z hz
    · cases hi
theorem sl_dropI {S : Nat → Prop} {w : World} {a : Option Addr} {out : List Int} {c j : Nat} (h : Sl eInt S w a out) (hc : out.length ≤ c) : Sl eInt S w (if c = j then a else a.map (·.add (j * 1))) (out.drop j) := by
  split
  · rename_i e
    rw [List.drop_of_length_le (by omega)]
    exact Sl.nil ..
  · exact h.drop j
theorem r5_Sort (l : List Int) (al : Option Addr) (cl : Nat) (w : World) (hS : Sl eInt T w al l) :
    Ret Tryz.prog 79 #[.slice al l.length cl] w fun v w' => ∃ a c, v = .slice a (srtI l).length c ∧ Sl eInt (fun b => w.heap.size ≤ b ∧ b < w'.heap.size) w' a (srtI l) ∧ Bl w w' := by
  have hbig := hS.big
  refine entr (vs := [.slice al l.length cl]) [0, 2, 3, 4, 5, 6, 10, 27, 44] tabok Tryz.func79 (by kernel_rfl) ?_
  refine lpk l.length 4 [3] [(0, .slice al l.length cl)] (fun k vals w' => ∃ out a c, vals = [.slice a out.length c] ∧ AscI out ∧ (∀ x, x ∈ out ↔ x ∈ l.take k) ∧ out.length ≤ k ∧ out.length ≤ c ∧ (a = none → c = 0) ∧ Sl eInt (fun b => w.heap.size ≤ b ∧ b < w'.heap.size) w' a out ∧ Bl w w')
    ⟨[], none, 0, rfl, List.Pairwise.nil, fun x => by simp, Nat.le_refl _, Nat.le_refl _, fun _ => rfl, Sl.nil .., Bl.refl _⟩ ?_
  rintro k vals w1 hk ⟨out, a, c, rfl, hA, hM, hl, hc, hn, hO, B1⟩ ih
  by_cases hlt : k < l.length
  rotate_left
  · refine brF ?_
    obtain rfl : k = l.length := by omega
    rw [List.take_length] at hM
    rw [srtI_of hA hM] at hO ⊢
    exact rt1 ⟨a, c, rfl, hO, B1⟩
  refine brT ?_
  obtain ⟨x, b, o, cs, hx, rfl, hbw, hAt, rfl⟩ := at_some (Sl.lt (by decide) hS) hlt
  refine lpk out.length 5 [] [(0, .slice (some ⟨b, o, none⟩) l.length cl), (3, .slice a out.length c), (4, I k)] (fun j vals w' => vals = [] ∧ Bl w1 w' ∧ ∀ (i : Nat) y, i < j → out[i]? = some y → y < x) ⟨rfl, Bl.refl _, fun i y h => by omega⟩ ?_
  rintro j vals w2 hj ⟨rfl, B2, hb⟩ ih2
  refine dh T (List.range 15) fun w3 h3 => ?_
  have B3 := B2.trans h3.bl
  have B03 := B1.trans B3
  by_cases hjl : j < out.length
  · obtain ⟨y, b2, o2, cs2, hy, rfl, _, hA2, rfl⟩ := at_some (hO.bl B3) hjl
    refine spt (.bool false) ?_ (hb := by simp; omega)
    refine ix ?_
    refine ldg (fun _ => hA2 0 _ rfl) ?_ (hm := trivial)
    refine spt (.bool false) ?_
    refine ix ?_
    refine ldg (fun _ => hAt.bl B03 0 _ rfl) ?_ (hm := trivial)
    refine br (fun h => ?_) (fun h => ?_)
    · have hyx : y < x := by simpa using h
      exact ih2 hjl ⟨rfl, B3, lt_at hb hy hyx⟩
    · have hyx : ¬ y < x := by simpa using h
      refine dh T (List.range 15) fun w4 h4 => ?_
      have B4 := B3.trans h4.bl
      have B04 := B1.trans B4
      refine spt (.bool false) ?_ (hb := by simp; omega)
      refine ix ?_
      refine ldg (fun _ => hA2.bl h4.bl 0 _ rfl) ?_ (hm := trivial)
      refine spt (.bool false) ?_
      refine ix ?_
      refine ldg (fun _ => hAt.bl B04 0 _ rfl) ?_ (hm := trivial)
      refine br (fun h => ?_) (fun h => ?_)
      · have exy : y = x := by simpa using h
        subst exy
        refine ih hlt ⟨out, some ⟨b2, o2, none⟩, c, rfl, hA, fun z => ?_, by omega, hc, hn, (hO.bl B4).sub fun i hi => ⟨hi.1, by have := B4.size; omega⟩, B04⟩
        rw [take_succ_some hx, List.mem_append, ← hM z, List.mem_singleton]
        exact ⟨.inl, fun q => q.elim id fun q => by subst q; exact List.mem_of_getElem? hy⟩
      · have hne : ¬ y = x := by simpa using h
        have hgt : ∀ z, out[j]? = some z → x < z := fun z hz => by
          rw [hy] at hz; obtain rfl := Option.some.inj hz; omega
        clear ih2
        obtain ⟨a, ea⟩ : ∃ a, a = some (⟨b2, o2, none⟩ : Addr) := ⟨_, rfl⟩
        rw [← ea] at hO hn ⊢
        refine bs (cs := []) fun b6 w5 k5 => ?_
        have y5 := k5.blk
        have B5 := B4.trans k5.bl
        refine sl j out.length ?_
        have D5 := sl_dropI (j := j) ((hO.bl B5).sub (S' := T) fun i hi => trivial) hc
        have e1 : (out.drop j).length = out.length - j := List.length_drop
        have O5 : OwP 1 encInt w5 b6 3 (some ⟨b6, 0, none⟩) 0 ([] : List Int) := Ow.made (n := 0) k5 rfl (by omega)
        rw [← e1]
        refine apl (l0 := []) O5 (src_of D5) (by have := k5.size; omega) fun a6 c6 w6 O6 A6 F6 => ?_
        have B56 : Bl w4 w6 := Below.trans k5.bl (A6.below (by have := k5.size; omega) fun g hg => by
          have h7 : b6 = g := by simpa using hg
          omega)
        have B6 := B4.trans B56
        have B06 := B1.trans B6
        refine dh (· < w.heap.size) [0, 1, 2, 3, 4, 5, 6, 7, 10, 8, 9, 11, 12] fun w7 h7 => ?_
        have B07 := B06.trans h7.bl
        have B17 := B6.trans h7.bl
        have O7 := O6.bl h7.bl
        refine slm 0 j j ?_
        refine ix ?_
        refine ld (hAt.bl B07 0 _ rfl) ?_ (hm := hbw)
        refine bs (cs := encInt x) fun b8 w8 k8 => ?_
        have B18 := B17.trans k8.bl
        have T8 : Eng.Src w8 (if j = 0 then a else a.map (·.add (0 * 1))) (j - 0) ((out.take j).flatMap encInt) := by
          have h0 := src_of ((hO.bl B18).take j)
          rw [List.length_take, Nat.min_eq_left hj] at h0
          have e2 : (if j = 0 then a else a.map (·.add (0 * 1))) = a := by
            split
            · rfl
            · cases a <;> simp [Addr.add]
          rw [e2]; exact h0
        refine apg (m := 1) (cap := j - 0) T8 (.inr ⟨b8, 0, rfl, k8.box.at⟩) (fun e => ?_) (by omega) (by omega) (fun a9 c9 w9 O9 B89 => ?_) (hlx := by rw [int_len, List.length_take]; omega) (h1 := rfl)
        · split at e
          · omega
          · have : a = none := by cases a with
              | none => rfl
              | some q => cases e
            have := hn this
            omega
        have O9s := src_of (owp_sl (S := T) ((O7.bl k8.bl).bl B89) (by simp only [List.length_append, List.length_nil, List.length_drop]; omega) (fun _ _ => trivial))
        have B19 := B18.trans B89
        refine ap O9 O9s (by have := B89.size; omega) (fun a10 c10 w10 O10 A10 F10 => ?_) (hl := by rw [int_len]; omega) (h1 := int_one _) (hb := by simp only [List.nil_append, List.length_drop]; omega) (hn := by simp only [List.nil_append, List.length_drop]; omega) (hm := apS fun g hg q => by have := (O9.lt hg).1; have := B07.size; have := k8.size; omega)
        have e3 : j - 0 + 1 + ([] ++ out.drop j).length = (out.take j ++ [x] ++ out.drop j).length := by
          simp only [List.length_append, List.length_take, List.length_drop, List.length_nil, List.length_cons]; omega
        have e4 : (out.take j).flatMap encInt ++ encInt x ++ ([] ++ out.drop j).flatMap encInt = (out.take j ++ [x] ++ out.drop j).flatMap encInt := by
          simp only [List.flatMap_append, List.flatMap_cons, List.flatMap_nil, List.nil_append, List.append_nil]
        rw [e4, e3] at O10
        rw [e3]
        have B110 : Bl w1 w10 := Below.trans B19 (A10.below (by exact B19.size) fun g hg => by have := (O9.lt hg).1; have := B18.size; omega)
        have hlen : (out.take j ++ [x] ++ out.drop j).length = out.length + 1 := by
          simp only [List.length_append, List.length_take, List.length_drop, List.length_nil, List.length_cons]; omega
        refine ih hlt ⟨out.take j ++ [x] ++ out.drop j, a10, c10, rfl, ins_at hA hj hb hgt, fun z => ?_, by omega, O10.capn.1, O10.capn.2, O10.sl rfl (by omega) fun g hg => ?_, B1.trans B110⟩
        · rw [take_succ_some hx, List.mem_append (s := l.take k), ← hM z]
          have : z ∈ out ↔ z ∈ out.take j ++ out.drop j := by rw [List.take_append_drop]
          rw [this]
          simp only [List.mem_append, List.mem_singleton]
          exact or_right_comm
        · have := O10.lt hg
          have := B17.size
          have := B1.size
          have := k8.size
          omega
  · refine spn (.pointer (some ⟨0, 0, none⟩)) ?_ (hb := by simp; omega)
    refine spn (I 0) ?_ (hb := by simp; omega)
    refine spn (.pointer (some ⟨0, 0, none⟩)) ?_ (hb := by simp; omega)
    refine spn (I 0) ?_ (hb := by simp; omega)
    refine brf ?_ (hp := by first | (simp; done) | (simp; omega))
    refine dh T (List.range 15) fun w4 h4 => ?_
    have B4 := B3.trans h4.bl
    have B04 := B1.trans B4
    refine spn (.pointer (some ⟨0, 0, none⟩)) ?_ (hb := by simp; omega)
    refine spn (I 0) ?_ (hb := by simp; omega)
    refine spn (.pointer (some ⟨0, 0, none⟩)) ?_ (hb := by simp; omega)
    refine spn (I 0) ?_ (hb := by simp; omega)
    refine brf ?_ (hp := by simp; omega)
    have hgt : ∀ z, out[j]? = some z → x < z := fun z hz => by
      rw [List.getElem?_eq_none (by omega)] at hz; cases hz
    clear ih2
    refine bs (cs := []) fun b6 w5 k5 => ?_
    have y5 := k5.blk
    have B5 := B4.trans k5.bl
    refine sl j out.length ?_
    have D5 := sl_dropI (j := j) ((hO.bl B5).sub (S' := T) fun i hi => trivial) hc
    have e1 : (out.drop j).length = out.length - j := List.length_drop
    have O5 : OwP 1 encInt w5 b6 3 (some ⟨b6, 0, none⟩) 0 ([] : List Int) := Ow.made (n := 0) k5 rfl (by omega)
    rw [← e1]
    refine apl (l0 := []) O5 (src_of D5) (by have := k5.size; omega) fun a6 c6 w6 O6 A6 F6 => ?_
    have B56 : Bl w4 w6 := Below.trans k5.bl (A6.below (by have := k5.size; omega) fun g hg => by
      have h7 : b6 = g := by simpa using hg
      omega)
    have B6 := B4.trans B56
    have B06 := B1.trans B6
    refine dh (· < w.heap.size) [0, 1, 2, 3, 4, 5, 6, 7, 10, 8, 9, 11, 12] fun w7 h7 => ?_
    have B07 := B06.trans h7.bl
    have B17 := B6.trans h7.bl
    have O7 := O6.bl h7.bl
    refine slm 0 j j ?_
    refine ix ?_
    refine ld (hAt.bl B07 0 _ rfl) ?_ (hm := hbw)
    refine bs (cs := encInt x) fun b8 w8 k8 => ?_
    have B18 := B17.trans k8.bl
    have T8 : Eng.Src w8 (if j = 0 then a else a.map (·.add (0 * 1))) (j - 0) ((out.take j).flatMap encInt) := by
      have h0 := src_of ((hO.bl B18).take j)
      rw [List.length_take, Nat.min_eq_left hj] at h0
      have e2 : (if j = 0 then a else a.map (·.add (0 * 1))) = a := by
        split
        · rfl
        · cases a <;> simp [Addr.add]
      rw [e2]; exact h0
    refine apg (m := 1) (cap := j - 0) T8 (.inr ⟨b8, 0, rfl, k8.box.at⟩) (fun e => ?_) (by omega) (by omega) (fun a9 c9 w9 O9 B89 => ?_) (hlx := by rw [int_len, List.length_take]; omega) (h1 := rfl)
    · split at e
      · omega
      · have : a = none := by cases a with
          | none => rfl
          | some q => cases e
        have := hn this
        omega
    have O9s := src_of (owp_sl (S := T) ((O7.bl k8.bl).bl B89) (by simp only [List.length_append, List.length_nil, List.length_drop]; omega) (fun _ _ => trivial))
    have B19 := B18.trans B89
    refine ap O9 O9s (by have := B89.size; omega) (fun a10 c10 w10 O10 A10 F10 => ?_) (hl := by rw [int_len]; omega) (h1 := int_one _) (hb := by simp only [List.nil_append, List.length_drop]; omega) (hn := by simp only [List.nil_append, List.length_drop]; omega) (hm := apS fun g hg q => by have := (O9.lt hg).1; have := B07.size; have := k8.size; omega)
    have e3 : j - 0 + 1 + ([] ++ out.drop j).length = (out.take j ++ [x] ++ out.drop j).length := by
      simp only [List.length_append, List.length_take, List.length_drop, List.length_nil, List.length_cons]; omega
    have e4 : (out.take j).flatMap encInt ++ encInt x ++ ([] ++ out.drop j).flatMap encInt = (out.take j ++ [x] ++ out.drop j).flatMap encInt := by
      simp only [List.flatMap_append, List.flatMap_cons, List.flatMap_nil, List.nil_append, List.append_nil]
    rw [e4, e3] at O10
    rw [e3]
    have B110 : Bl w1 w10 := Below.trans B19 (A10.below (by exact B19.size) fun g hg => by have := (O9.lt hg).1; have := B18.size; omega)
    have hlen : (out.take j ++ [x] ++ out.drop j).length = out.length + 1 := by
      simp only [List.length_append, List.length_take, List.length_drop, List.length_nil, List.length_cons]; omega
    refine ih hlt ⟨out.take j ++ [x] ++ out.drop j, a10, c10, rfl, ins_at hA hj hb hgt, fun z => ?_, by omega, O10.capn.1, O10.capn.2, O10.sl rfl (by omega) fun g hg => ?_, B1.trans B110⟩
    · rw [take_succ_some hx, List.mem_append (s := l.take k), ← hM z]
      have : z ∈ out ↔ z ∈ out.take j ++ out.drop j := by rw [List.take_append_drop]
      rw [this]
      simp only [List.mem_append, List.mem_singleton]
      exact or_right_comm
    · have := O10.lt hg
      have := B17.size
      have := B1.size
      have := k8.size
      omega
end Go.Proofs.YtkmdfjpafkcleaaGreatDoor

/- Walks: types, what is above, targets, in the document. -/
namespace Go.Proofs.YtkmdfjpafkcleaaGreatDoor
open Eng Go.RowKit
theorem ityp_bad {m : Mod} {t : Ty} {least : Int} (hl : least = 0 ∨ least = 1) (h : t.kind < least ∨ 4 < t.kind) : ityp m t least = false := by
  unfold ityp
  rw [if_neg (by omega)]
  split
  · rw [decide_eq_false (by omega)]; rfl
  · rfl
theorem ityp_obj {m : Mod} {t : Ty} {least : Int} (h : t.kind = 2 ∨ t.kind = 4) : ityp m t least = (decide (0 ≤ t.cls) && decide (t.cls < m.classes.length)) := by
  unfold ityp
  rw [if_pos h]
theorem ityp_no {m : Mod} {t : Ty} {least : Int} (h0 : 0 ≤ least) (h : ¬ (t.kind = 2 ∨ t.kind = 4)) (h1 : ¬ t.kind < least) (h2 : ¬ 4 < t.kind) : ityp m t least = decide (t.cls = 0) := by
  unfold ityp
  rw [if_neg h, if_pos (by omega), decide_eq_true (show least ≤ t.kind by omega), Bool.true_and]
theorem r5_IsType (m : Mod) (a : MA) (t : Ty) (least : Int) (hl : least = 0 ∨ least = 1) (w : World) :
    Ret Tryz.prog 115 #[.agg (modcells m a).toArray, .agg (encTy t).toArray, I least] w fun v w' => v = .bool (ityp m t least) ∧ Bl w w' := by
  refine entr (vs := [.agg (modcells m a).toArray, .agg (encTy t).toArray, I least]) [0, 1, 2, 3, 4, 6, 15, 23] tabok Tryz.func115 (by kernel_rfl) ?_
  refine bx (cs := modcells m a) fun b1 w1 k1 => ?_
  refine bx (cs := encTy t) fun b2 w2 k2 => ?_
  have B2 := k1.bl.trans k2.bl
  have x1 := Bl.box k2.bl k1.box
  have x2 := k2.box
  refine ld (x2.cell rfl) ?_
  refine ldg (fun _ => x2.cell rfl) ?_
  refine br (fun h => ?_) (fun h => ?_)
  · refine rt1 ⟨congrArg Value.bool (ityp_bad hl (by simpa using h)).symm, B2⟩
  have h' : ¬ t.kind < least ∧ ¬ 4 < t.kind := by simpa using h
  refine ld (x2.cell rfl) ?_
  refine ldg (fun _ => x2.cell rfl) ?_
  refine br (fun h2 => ?_) (fun h2 => ?_)
  · refine ld (x2.cell rfl) ?_
    refine ldg (fun _ => x2.cell rfl) ?_
    refine ldg (fun _ => x1.cell rfl) ?_
    refine rt1 ⟨congrArg Value.bool (ityp_obj (by simpa using h2)).symm, B2⟩
  have h2' : ¬ (t.kind = 2 ∨ t.kind = 4) := by simpa using h2
  refine ld (x2.cell rfl) ?_
  refine rt1 ⟨congrArg Value.bool (ityp_no (by omega) h2' h'.1 h'.2).symm, B2⟩
theorem r5_types (m : Mod) (a : MA) (l : List Ty) (al : Option Addr) (ce : Nat) (w : World) (hS : Sl eTy T w al l) :
    Ret Tryz.prog 52 #[.agg (modcells m a).toArray, .slice al l.length ce] w fun v w' => v = .bool (l.all fun t => ityp m t 1) ∧ Bl w w' := by
  have hbig := hS.big
  refine entr (vs := [.agg (modcells m a).toArray, .slice al l.length ce]) [0, 1, 2, 4, 5, 9, 18] tabok Tryz.func52 (by kernel_rfl) ?_
  refine bx (cs := modcells m a) fun b1 w1 k1 => ?_
  have x1 := k1.box
  refine lpk l.length 5 [] [(1, .slice al l.length ce), (2, .pointer (some ⟨b1, 0, none⟩))] (fun k vals w' => vals = [] ∧ (l.take k).all (fun t => ityp m t 1) = true ∧ Bl w1 w') ⟨rfl, rfl, Bl.refl _⟩ ?_
  rintro k vals w2 hk ⟨rfl, ha, B2⟩ ih
  have y1 := Bl.box B2 x1
  have B02 := k1.bl.trans B2
  by_cases hlt : k < l.length
  · refine brT ?_
    refine dh T (List.range 7) fun w3 h3 => ?_
    have B3 := B2.trans h3.bl
    obtain ⟨t, b, o, cs, ht, rfl, _, hAt, rfl⟩ := at_some (hS.bl (B02.trans h3.bl)) hlt
    refine lda (h3.box y1).at ?_ (hm := trivial)
    refine ix ?_
    refine lda hAt ?_ (hm := trivial)
    refine cl (r5_IsType m a t 1 (.inr rfl) w3) ?_
    rintro _ w4 ⟨rfl, B34⟩
    refine br (fun h => ?_) (fun h => ?_)
    · refine rt1 ⟨congrArg Value.bool (all_miss ht (by simpa using h)).symm, (k1.bl.trans B3).trans B34⟩
    · exact ih hlt ⟨rfl, all_snoc' ht ha (by simpa using h), B3.trans B34⟩
  refine brF ?_
  obtain rfl : k = l.length := by omega
  refine rt1 ⟨congrArg Value.bool (all_end ha).symm, B02⟩
theorem mem_step {m : Mod} {k : Nat} (h : Desc m k) {a b : Int} (h0 : 0 ≤ a) (ha : a < k) (hne : ¬ a = b) : b ∈ upM m a ↔ b ∈ upM m (supM m a) := by
  rw [upM_step h h0 ha, List.mem_cons]
  exact ⟨fun q => q.resolve_left fun e => hne e.symm, .inr⟩
theorem r5_above (m : Mod) (a : MA) {kk : Nat} (hd : Desc m kk) (x y : Int) (hx : x < kk) (hx0 : -1 ≤ x) (w : World) (hM : MdR T w m a) :
    Ret Tryz.prog 73 #[.agg (modcells m a).toArray, I x, I y] w fun v w' => v = .bool (decide (y ∈ upM m x)) ∧ Bl w w' := by
  have hbig := hM.cls.big
  have hdl := hd.1
  refine entr (vs := [.agg (modcells m a).toArray, I x, I y]) [0, 1, 2, 3, 6, 7, 16, 21] tabok Tryz.func73 (by kernel_rfl) ?_
  refine bx (cs := modcells m a) fun b1 w1 k1 => ?_
  have x1 := k1.box
  refine lpk (m.classes.length + 1) 7 [1] [(2, I y), (3, .pointer (some ⟨b1, 0, none⟩))] (fun k vals w' => (∃ z : Int, vals = [I z] ∧ -1 ≤ z ∧ z < kk ∧ (z + k ≤ x ∨ z = -1) ∧ (y ∈ upM m x ↔ y ∈ upM m z)) ∧ w1 = w') ⟨⟨x, rfl, hx0, hx, .inl (by omega), Iff.rfl⟩, rfl⟩ ?_
  rintro k vals _ hk ⟨⟨z, rfl, hz0, hzk, hzx, hzy⟩, rfl⟩ ih
  refine ld (x1.cell rfl) ?_
  refine br (fun h => ?_) (fun h => ?_)
  · have h' : (k : Int) ≤ m.classes.length ∧ 0 ≤ z := by simpa using h
    obtain ⟨j, rfl⟩ := Int.eq_ofNat_of_zero_le h'.2
    refine br (fun h2 => ?_) (fun h2 => ?_)
    · have e : (j : Int) = y := by simpa using h2
      refine rt1 ⟨congrArg Value.bool (decide_eq_true (hzy.2 (e ▸ upM_self h'.2))).symm, k1.bl⟩
    have hne : ¬ (j : Int) = y := by simpa using h2
    obtain ⟨c, b, o, cs, hc, e2, _, hAt, a1, c1, a2, c2, rfl, _⟩ := at_some (hM.bl k1.bl).cls (i := j) (by omega)
    refine ld (x1.cell rfl) ?_
    rw [e2]
    refine ix ?_
    refine ld (hAt 1 _ rfl) ?_
    have hs := sup_lt hd h'.2 hzk
    rw [mem_step hd h'.2 hzk hne] at hzy
    rw [supM_at hc] at hs hzy
    exact ih (by omega) ⟨⟨c.super, rfl, hs.1, by omega, by omega, hzy⟩, rfl⟩
  · have hz : z < 0 := by
      rcases Classical.em (z < 0) with q | q
      · exact q
      · rw [decide_eq_true (show (k : Int) ≤ m.classes.length by omega), decide_eq_true (show (0 : Int) ≤ z by omega)] at h
        cases h
    rw [upM_neg hz] at hzy
    refine rt1 ⟨congrArg Value.bool (decide_eq_false (fun q => by have := hzy.1 q; cases this)).symm, k1.bl⟩
def rT (s : Nat) (l : List MC) : List Int := (l.map fun c => c.table.getD s (-1)).filter fun n => decide (0 ≤ n)
theorem rT_snoc {s : Nat} {l : List MC} {k : Nat} {c : MC} {n : Int} (hc : l[k]? = some c) (hn : c.table[s]? = some n) : rT s (l.take (k + 1)) = rT s (l.take k) ++ (if 0 ≤ n then [n] else []) := by
  have e : c.table.getD s (-1) = n := by rw [List.getD_eq_getElem?_getD, hn]; rfl
  unfold rT
  rw [take_succ_some hc, List.map_append, List.filter_append]
  congr 1
  simp only [List.map_cons, List.map_nil, e]
  split
  · rename_i h; rw [List.filter_cons_of_pos (by simpa using h)]; rfl
  · rename_i h; rw [List.filter_cons_of_neg (by simpa using h)]; rfl
theorem rT_len (s : Nat) (l : List MC) : (rT s l).length ≤ l.length := by
  unfold rT
  refine Nat.le_trans (List.length_filter_le _ _) ?_
  rw [List.length_map]; exact Nat.le_refl _
theorem r5_targets (m : Mod) (a : MA) (s : Nat) (hT : ∀ c ∈ m.classes, s < c.table.length) (w : World) (hM : MdR T w m a) :
    Ret Tryz.prog 54 #[.agg (modcells m a).toArray, I s] w fun v w' => ∃ a c, v = .slice a (trgM m s).length c ∧ Sl eInt (fun b => w.heap.size ≤ b ∧ b < w'.heap.size) w' a (trgM m s) ∧ Bl w w' := by
  have hbig := hM.cls.big
  refine entr (vs := [.agg (modcells m a).toArray, I s]) [0, 1, 2, 4, 5, 6, 11, 23] tabok Tryz.func54 (by kernel_rfl) ?_
  refine bx (cs := modcells m a) fun b1 w1 k1 => ?_
  have x1 := k1.box
  have y1 := k1.blk
  have z1 := k1.size
  refine lpk m.classes.length 6 [5] [(1, I s), (2, .pointer (some ⟨b1, 0, none⟩))] (fun k vals w' => ∃ a c, vals = [.slice a (rT s (m.classes.take k)).length c] ∧ OwP 1 encInt w' w1.heap.size 3 a c (rT s (m.classes.take k)) ∧ Bl w1 w') ⟨none, 0, rfl, Ow.nil .., Bl.refl _⟩ ?_
  rintro k vals w2 hk ⟨a2, c2, rfl, O2, B2⟩ ih
  have y2 := Bl.box B2 x1
  have B02 := k1.bl.trans B2
  have z2 := B2.size
  refine ld (y2.cell rfl) ?_
  by_cases hlt : k < m.classes.length
  · refine brT ?_
    obtain ⟨c, b, o, cs, hc, e2, _, hAt, a3, c3, a4, c4, rfl, _, hF, _⟩ := at_some (hM.bl B02).cls hlt
    have hcm := List.mem_of_getElem? hc
    obtain ⟨n, b5, o5, cs5, hn, e5, _, hA5, rfl⟩ := at_some hF (hT c hcm)
    refine ld (y2.cell rfl) ?_
    rw [e2]
    refine ix ?_
    refine ld (hAt 3 _ rfl) ?_
    rw [e5]
    refine ix (j := s) ?_ (hb := hT c hcm)
    refine ld (hA5 0 _ rfl) ?_
    have hl := rT_len s (m.classes.take k)
    rw [List.length_take] at hl
    refine br (fun h => ?_) (fun h => ?_)
    · have h0 : 0 ≤ n := by simpa using h
      refine ld (y2.cell rfl) ?_
      rw [e2]
      refine ix ?_
      refine ld (hAt 3 _ rfl) ?_
      rw [e5]
      refine ix (j := s) ?_ (hb := hT c hcm)
      refine ld (hA5 0 _ rfl) ?_
      refine bs (cs := encInt n) fun b6 w6 k6 => ?_
      refine apl (l1 := [n]) (O2.bl k6.bl) (.inr ⟨b6, 0, rfl, k6.box.at⟩) (by have := k6.size; omega) fun a7 c7 w7 O7 A7 _ => ?_
      have e7 : rT s (m.classes.take (k + 1)) = rT s (m.classes.take k) ++ [n] := by rw [rT_snoc hc hn, if_pos h0]
      refine ih hlt ⟨a7, c7, by rw [e7], by rw [e7]; exact O7, Below.trans (B2.trans k6.bl) (A7.below (by have := k6.size; omega) fun g hg => (O2.lt hg).1)⟩
    · have h0 : ¬ 0 ≤ n := by simpa using h
      have e7 : rT s (m.classes.take (k + 1)) = rT s (m.classes.take k) := by rw [rT_snoc hc hn, if_neg h0, List.append_nil]
      exact ih hlt ⟨a2, c2, by rw [e7], by rw [e7]; exact O2, B2⟩
  refine brF ?_
  obtain rfl : k = m.classes.length := by omega
  rw [List.take_length] at O2 ⊢
  have hl := rT_len s m.classes
  refine cl (r5_Sort (rT s m.classes) a2 c2 w2 (owp_sl O2 (by omega) fun _ _ => trivial)) ?_ (hm := fun _ _ r => by obtain ⟨_, _, _, _, hB⟩ := r; exact mdW_bl hB)
  rintro _ w3 ⟨a3, c3, rfl, hS3, B3⟩
  exact rt1 ⟨a3, c3, rfl, hS3.sub fun i hi => by have := B02.size; omega, B02.trans B3⟩
end Go.Proofs.YtkmdfjpafkcleaaGreatDoor

/- Walks: the document's comparison of modules. -/
namespace Go.Proofs.YtkmdfjpafkcleaaGreatDoor
open Eng Go.RowKit
theorem part_cell {P : Program} {w : World} {t : TypeId} {tk : TK} {sz : Nat} {zr : List Value} {xs : Array Value} {off : Nat} {v : Value} (h : tiOk P t ⟨tk, sz, false, zr⟩ = true) (hv : xs[off]? = some v) : (part t xs off).run P w = .ok v w := by
  unfold part
  rw [run_bind_ok (ti_agg h w).1]
  simp only [hv]; rfl
theorem part_agg {P : Program} {w : World} {t : TypeId} {tk : TK} {sz : Nat} {zr : List Value} {xs : Array Value} {off : Nat} (h : tiOk P t ⟨tk, sz, true, zr⟩ = true) : (part t xs off).run P w = .ok (.agg (xs.extract off (off + sz))) w := by
  unfold part
  rw [run_bind_ok (ti_agg h w).1]
  simp only [if_true]
  rw [run_bind_ok (ti_agg h w).2]; rfl
/-- fields of these types at these places -/
def shp : List Field → List (Nat × Nat) → Bool
  | [], [] => true
  | f :: fs, (t, o) :: ts => decide (f.name ≠ "_") && decide (f.type = t) && decide (f.offset = o) && shp fs ts
  | _, _ => false
theorem eqf_gen {P : Program} {w : World} {d : Nat} {t o : Nat} {ts : List (Nat × Nat)} {fs : List Field} {xs ys : Array Value} {vx vy : Value} {r : Bool} (h : shp fs ((t, o) :: ts) = true)
    (hx : (part t xs o).run P w = .ok vx w) (hy : (part t ys o).run P w = .ok vy w) (he : (Op.equalIn d t vx vy).run P w = .ok r w) : ∃ fs', shp fs' ts = true ∧ (Op.eqFields d xs ys fs).run P w = if r = true then (Op.eqFields d xs ys fs').run P w else .ok false w := by
  cases fs with
  | nil => simp [shp] at h
  | cons f fs =>
    simp only [shp, Bool.and_eq_true, decide_eq_true_eq] at h
    obtain ⟨⟨⟨h1, rfl⟩, rfl⟩, h4⟩ := h
    refine ⟨fs, h4, ?_⟩
    rw [Op.eqFields, if_pos h1, run_bind_ok hx, run_bind_ok hy, run_bind_ok he]
    cases r <;> rfl
theorem eqf_nil {P : Program} {w : World} {d : Nat} {fs : List Field} {xs ys : Array Value} (h : shp fs [] = true) : (Op.eqFields d xs ys fs).run P w = .ok true w := by
  cases fs with
  | nil => rfl
  | cons f fs => simp [shp] at h
theorem ti_i : tiOk Tryz.prog 3 ⟨.other, 1, false, [.int .i64 0]⟩ = true := tab_at tabok rfl
theorem eq_i {w : World} {d : Nat} (a b : Int) : (Op.equalIn (d + 1) 3 (I a) (I b)).run Tryz.prog w = .ok (a == b) w := run_equalIn_int w d _ .i64 .i64 _ _ (by kernel_rfl)
theorem eq_ty {w : World} {d : Nat} (x y : Ty) : (Op.equalIn (d + 2) 51 (.agg (encTy x).toArray) (.agg (encTy y).toArray)).run Tryz.prog w = .ok (decide (x = y)) w := by
  rw [run_equalIn_struct w (d + 1) _ _ _ (by kernel_rfl) (by kernel_rfl)]
  obtain ⟨f1, h1, e1⟩ := eqf_gen (P := Tryz.prog) (w := w) (d := d + 1) (ts := [(3, 1)]) (xs := (encTy x).toArray) (ys := (encTy y).toArray) (show shp (Tryz.prog.fieldsOf 51).toList [(3, 0), (3, 1)] = true by kernel_rfl) (part_cell ti_i rfl) (part_cell ti_i rfl) (eq_i x.kind y.kind)
  obtain ⟨f2, h2, e2⟩ := eqf_gen (P := Tryz.prog) (w := w) (d := d + 1) (xs := (encTy x).toArray) (ys := (encTy y).toArray) h1 (part_cell ti_i rfl) (part_cell ti_i rfl) (eq_i x.cls y.cls)
  rw [e1, e2, eqf_nil h2]
  obtain ⟨a, b⟩ := x
  obtain ⟨c, e⟩ := y
  by_cases p : a = c <;> by_cases q : b = e <;> simp [p, q]
theorem eq_ins {w : World} {d : Nat} (x y : Ins) : (Op.equalIn (d + 2) 120 (.agg (encIns x).toArray) (.agg (encIns y).toArray)).run Tryz.prog w = .ok (decide (x = y)) w := by
  rw [run_equalIn_struct w (d + 1) _ _ _ (by kernel_rfl) (by kernel_rfl)]
  obtain ⟨f1, h1, e1⟩ := eqf_gen (P := Tryz.prog) (w := w) (d := d + 1) (ts := [(3, 1), (3, 2)]) (xs := (encIns x).toArray) (ys := (encIns y).toArray) (show shp (Tryz.prog.fieldsOf 120).toList [(3, 0), (3, 1), (3, 2)] = true by kernel_rfl) (part_cell ti_i rfl) (part_cell ti_i rfl) (eq_i x.op y.op)
  obtain ⟨f2, h2, e2⟩ := eqf_gen (P := Tryz.prog) (w := w) (d := d + 1) (xs := (encIns x).toArray) (ys := (encIns y).toArray) h1 (part_cell ti_i rfl) (part_cell ti_i rfl) (eq_i x.a y.a)
  obtain ⟨f3, h3, e3⟩ := eqf_gen (P := Tryz.prog) (w := w) (d := d + 1) (xs := (encIns x).toArray) (ys := (encIns y).toArray) h2 (part_cell ti_i rfl) (part_cell ti_i rfl) (eq_i x.b y.b)
  rw [e1, e2, e3, eqf_nil h3]
  obtain ⟨a, b, c⟩ := x
  obtain ⟨a', b', c'⟩ := y
  by_cases p : a = a' <;> by_cases q : b = b' <;> by_cases r : c = c' <;> simp [p, q, r]
/-- != on two values of a struct -/
theorem Eng.neA {C : Cx} {s : St} {w : World} {md : Option Md} {ops : Array Oper} {T T' : TypeId} {x y : Operand} {d : Nat} {ty : TypeId} {pos : String} {af : Array Edge} {g : Option (Nat × Bool)} {rest : List Oper} {k : List Item} {l : Env} {c : CEnv} {a b : List Value} {r : Bool}
    (he : ∀ w', (Op.equalIn 10000 T (.agg a.toArray) (.agg b.toArray)).run C.P w' = .ok r w') (h : Wk C (.reg md ops rest k ((d, .bool (!r)) :: l) c) w)
    (hs : adv C.tab C.n C.ks 400 s = .opn md ops ⟨some d, .binOp .neq T x y T', ty, pos, af, g⟩ rest k l c [] := by rfl) (hx : evc l c [] x = some (.agg a.toArray) := by rfl) (hy : evc l c [] y = some (.agg b.toArray) := by rfl) (hg : C.P.eqGuardType C.P.depth T = false := by kernel_rfl) (hf : fresh d l c [] = true := by rfl) : Wk C s w :=
  rd (p := []) (fun _ _ hA hp w' _ => by
    simp only [execOp, evc_ok hA.k hA.kc.c hp hx, evc_ok hA.k hA.kc.c hp hy]
    have hb : (binOp .neq T (.agg a.toArray) (.agg b.toArray)).run C.P w' = .ok (.bool (!r)) w' := by rw [run_neq_struct, he]; rfl
    exact run_bind_ok (run_bind_ok (run_eqGuard_agg _ _ _ _ _ _ _ hg) |>.trans hb) |>.trans rfl) h hs rfl hf (okR_no rfl)
/-- == on two values of a struct -/
theorem Eng.eqA {C : Cx} {s : St} {w : World} {md : Option Md} {ops : Array Oper} {T T' : TypeId} {x y : Operand} {d : Nat} {ty : TypeId} {pos : String} {af : Array Edge} {g : Option (Nat × Bool)} {rest : List Oper} {k : List Item} {l : Env} {c : CEnv} {a b : List Value} {r : Bool}
    (he : ∀ w', (Op.equalIn 10000 T (.agg a.toArray) (.agg b.toArray)).run C.P w' = .ok r w') (h : Wk C (.reg md ops rest k ((d, .bool r) :: l) c) w)
    (hs : adv C.tab C.n C.ks 400 s = .opn md ops ⟨some d, .binOp .eql T x y T', ty, pos, af, g⟩ rest k l c [] := by rfl) (hx : evc l c [] x = some (.agg a.toArray) := by rfl) (hy : evc l c [] y = some (.agg b.toArray) := by rfl) (hg : C.P.eqGuardType C.P.depth T = false := by kernel_rfl) (hf : fresh d l c [] = true := by rfl) : Wk C s w :=
  rd (p := []) (fun _ _ hA hp w' _ => by
    simp only [execOp, evc_ok hA.k hA.kc.c hp hx, evc_ok hA.k hA.kc.c hp hy]
    have hb : (binOp .eql T (.agg a.toArray) (.agg b.toArray)).run C.P w' = .ok (.bool r) w' := by rw [run_eql_struct, he]; rfl
    exact run_bind_ok (run_bind_ok (run_eqGuard_agg _ _ _ _ _ _ _ hg) |>.trans hb) |>.trans rfl) h hs rfl hf (okR_no rfl)
theorem same_no {α : Type} [DecidableEq α] {l m : List α} {k : Nat} {x y : α} (hx : l[k]? = some x) (hy : m[k]? = some y) (h : x ≠ y) : decide (l = m) = false := by
  rw [decide_eq_false_iff_not]
  rintro rfl
  rw [hx] at hy
  exact h (Option.some.inj hy)
theorem same_len {α : Type} [DecidableEq α] {l m : List α} (h : (l.length : Int) ≠ m.length) : decide (l = m) = false := by
  rw [decide_eq_false_iff_not]
  rintro rfl
  exact h rfl
theorem same_go {α : Type} {l m : List α} {k : Nat} {x y : α} (hx : l[k]? = some x) (hy : m[k]? = some y) (h : x = y) (hk : l.take k = m.take k) : l.take (k + 1) = m.take (k + 1) := by
  rw [take_succ_some hx, take_succ_some hy, hk, h]
theorem same_end {α : Type} [DecidableEq α] {l m : List α} {k : Nat} (hl : (l.length : Int) = m.length) (h : l.take k = m.take k) (hk : k = l.length) : decide (l = m) = true := by
  subst hk
  rw [List.take_length, List.take_of_length_le (by omega)] at h
  exact decide_eq_true h
theorem r_SameTypes (l m : List Ty) (a1 a2 : Option Addr) (c1 c2 : Nat) (w : World) (h1 : Sl eTy T w a1 l) (h2 : Sl eTy T w a2 m) : Ret Tryz.prog 40 #[.slice a1 l.length c1, .slice a2 m.length c2] w fun v w' => v = .bool (decide (l = m)) ∧ Bl w w' := by
  refine entr (vs := [.slice a1 l.length c1, .slice a2 m.length c2]) [0, 1, 4, 5, 10, 14, 25] tabok Tryz.func40 (by kernel_rfl) ?_
  have hb1 := h1.big
  have hb2 := h2.big
  refine br (fun h => ?_) (fun h => ?_)
  · exact rt1 ⟨vb (same_len (of_decide_eq_true h)).symm, Bl.refl _⟩
  have hl := Classical.not_not.1 (of_decide_eq_false h)
  refine lpk l.length 5 [] [(0, .slice a1 l.length c1), (1, .slice a2 m.length c2)] (fun k vals w' => vals = [] ∧ l.take k = m.take k ∧ Bl w w') ⟨rfl, rfl, Bl.refl _⟩ ?_
  rintro k vals w2 hk ⟨rfl, ha, hB⟩ ih
  by_cases hlt : k < l.length
  · refine brT ?_
    obtain ⟨x, b, o, cs, hx, rfl, _, hAt, rfl⟩ := at_some (h1.bl hB) hlt
    obtain ⟨y, b', o', cs', hy, rfl, _, hAt', rfl⟩ := at_some (h2.bl hB) (i := k) (by omega)
    refine dh T (List.range 9) fun w8 h8 => ?_
    have hC := hAt.bl h8.bl
    have hC' := hAt'.bl h8.bl
    refine ix ?_
    refine lda hC ?_ (hm := trivial)
    refine ix ?_
    refine lda hC' ?_ (hm := trivial)
    refine neA (fun w => eq_ty x y) ?_
    refine br (fun h => ?_) (fun h => ?_)
    · exact rt1 ⟨vb (same_no hx hy (fun e => by rw [decide_eq_true e] at h; cases h)).symm, hB.trans h8.bl⟩
    · exact ih hlt ⟨rfl, same_go hx hy (Classical.byContradiction fun e => by rw [decide_eq_false e] at h; cases h) ha, hB.trans h8.bl⟩
  refine brF ?_
  exact rt1 ⟨vb (same_end hl ha (by omega)).symm, hB⟩
theorem r_SameCode (l m : List Ins) (a1 a2 : Option Addr) (c1 c2 : Nat) (w : World) (h1 : Sl eIns T w a1 l) (h2 : Sl eIns T w a2 m) : Ret Tryz.prog 110 #[.slice a1 l.length c1, .slice a2 m.length c2] w fun v w' => v = .bool (decide (l = m)) ∧ Bl w w' := by
  refine entr (vs := [.slice a1 l.length c1, .slice a2 m.length c2]) [0, 1, 4, 5, 10, 14, 25] tabok Tryz.func110 (by kernel_rfl) ?_
  have hb1 := h1.big
  have hb2 := h2.big
  refine br (fun h => ?_) (fun h => ?_)
  · exact rt1 ⟨vb (same_len (of_decide_eq_true h)).symm, Bl.refl _⟩
  have hl := Classical.not_not.1 (of_decide_eq_false h)
  refine lpk l.length 5 [] [(0, .slice a1 l.length c1), (1, .slice a2 m.length c2)] (fun k vals w' => vals = [] ∧ l.take k = m.take k ∧ Bl w w') ⟨rfl, rfl, Bl.refl _⟩ ?_
  rintro k vals w2 hk ⟨rfl, ha, hB⟩ ih
  by_cases hlt : k < l.length
  · refine brT ?_
    obtain ⟨x, b, o, cs, hx, rfl, _, hAt, rfl⟩ := at_some (h1.bl hB) hlt
    obtain ⟨y, b', o', cs', hy, rfl, _, hAt', rfl⟩ := at_some (h2.bl hB) (i := k) (by omega)
    refine dh T (List.range 9) fun w8 h8 => ?_
    have hC := hAt.bl h8.bl
    have hC' := hAt'.bl h8.bl
    refine ix ?_
    refine lda hC ?_ (hm := trivial)
    refine ix ?_
    refine lda hC' ?_ (hm := trivial)
    refine neA (fun w => eq_ins x y) ?_
    refine br (fun h => ?_) (fun h => ?_)
    · exact rt1 ⟨vb (same_no hx hy (fun e => by rw [decide_eq_true e] at h; cases h)).symm, hB.trans h8.bl⟩
    · exact ih hlt ⟨rfl, same_go hx hy (Classical.byContradiction fun e => by rw [decide_eq_false e] at h; cases h) ha, hB.trans h8.bl⟩
  refine brF ?_
  exact rt1 ⟨vb (same_end hl ha (by omega)).symm, hB⟩
theorem r_Ints (l m : List Int) (a1 a2 : Option Addr) (c1 c2 : Nat) (w : World) (h1 : Sl eInt T w a1 l) (h2 : Sl eInt T w a2 m) : Ret Tryz.prog 28 #[.slice a1 l.length c1, .slice a2 m.length c2] w fun v w' => v = .bool (decide (l = m)) ∧ Bl w w' := by
  refine entr (vs := [.slice a1 l.length c1, .slice a2 m.length c2]) [0, 1, 4, 5, 10, 14, 25] tabok Tryz.func28 (by kernel_rfl) ?_
  have hb1 := h1.big
  have hb2 := h2.big
  refine br (fun h => ?_) (fun h => ?_)
  · exact rt1 ⟨vb (same_len (of_decide_eq_true h)).symm, Bl.refl _⟩
  have hl := Classical.not_not.1 (of_decide_eq_false h)
  refine lpk l.length 5 [] [(0, .slice a1 l.length c1), (1, .slice a2 m.length c2)] (fun k vals w' => vals = [] ∧ l.take k = m.take k ∧ Bl w w') ⟨rfl, rfl, Bl.refl _⟩ ?_
  rintro k vals w2 hk ⟨rfl, ha, hB⟩ ih
  by_cases hlt : k < l.length
  · refine brT ?_
    obtain ⟨x, b, o, cs, hx, rfl, _, hAt, rfl⟩ := at_some (h1.bl hB) hlt
    obtain ⟨y, b', o', cs', hy, rfl, _, hAt', rfl⟩ := at_some (h2.bl hB) (i := k) (by omega)
    refine dh T (List.range 9) fun w8 h8 => ?_
    have hC := hAt.bl h8.bl
    have hC' := hAt'.bl h8.bl
    refine ix ?_
    refine ld (hC 0 _ rfl) ?_ (hm := trivial)
    refine ix ?_
    refine ld (hC' 0 _ rfl) ?_ (hm := trivial)
    refine br (fun h => ?_) (fun h => ?_)
    · exact rt1 ⟨vb (same_no hx hy (of_decide_eq_true h)).symm, hB.trans h8.bl⟩
    · exact ih hlt ⟨rfl, same_go hx hy (Classical.not_not.1 (of_decide_eq_false h)) ha, hB.trans h8.bl⟩
  refine brF ?_
  exact rt1 ⟨vb (same_end hl ha (by omega)).symm, hB⟩
theorem r_sameClass (c : MC) (a1 a2 b1 b2 : Option Addr) (c1 c2 d1 d2 : Nat) (w : World) (h1 : Sl eTy T w a1 c.fields) (h2 : Sl eInt T w a2 c.table) (g1 : Sl eTy T w b1 c.fields) (g2 : Sl eInt T w b2 c.table) :
    Ret Tryz.prog 48 #[.agg (mccells c a1 c1 a2 c2).toArray, .agg (mccells c b1 d1 b2 d2).toArray] w fun v w' => v = .bool true ∧ Bl w w' := by
  refine entr (vs := [.agg (mccells c a1 c1 a2 c2).toArray, .agg (mccells c b1 d1 b2 d2).toArray]) [0, 1, 2, 3, 4] tabok Tryz.func48 (by kernel_rfl) ?_
  refine bx (cs := mccells c a1 c1 a2 c2) fun p1 w1 k1 => ?_
  refine bx (cs := mccells c b1 d1 b2 d2) fun p2 w2 k2 => ?_
  have B2 := k1.bl.trans k2.bl
  have x1 := Bl.box k2.bl k1.box
  have x2 := k2.box
  refine ld (x1.cell rfl) ?_
  refine ld (x2.cell rfl) ?_
  refine ldg (fun _ => x1.cell rfl) ?_
  refine ldg (fun _ => x2.cell rfl) ?_
  refine ldg (fun _ => x1.cell rfl) ?_
  refine ldg (fun _ => x2.cell rfl) ?_
  refine spt (.bool true) ?_
  refine cl (r_SameTypes c.fields c.fields a1 b1 c1 d1 w2 (h1.bl B2) (g1.bl B2)) ?_
  rintro _ w3 ⟨rfl, B23⟩
  rw [decide_eq_true (rfl : c.fields = c.fields)]
  have B3 := B2.trans B23
  refine ldg (fun _ => (Bl.box B23 x1).cell rfl) ?_
  refine ldg (fun _ => (Bl.box B23 x2).cell rfl) ?_
  refine spt (.bool true) ?_
  refine cl (r_Ints c.table c.table a2 b2 c2 d2 w3 (h2.bl B3) (g2.bl B3)) ?_
  rintro _ w4 ⟨rfl, B34⟩
  rw [decide_eq_true (rfl : c.table = c.table)]
  exact rt1 ⟨rfl, B3.trans B34⟩
theorem r_sameMethod (m : MM) (a1 a2 a3 b1 b2 b3 : Option Addr) (c1 c2 c3 d1 d2 d3 : Nat) (w : World) (h1 : Sl eTy T w a1 m.params) (h2 : Sl eTy T w a2 m.locals) (h3 : Sl eIns T w a3 m.code) (g1 : Sl eTy T w b1 m.params) (g2 : Sl eTy T w b2 m.locals) (g3 : Sl eIns T w b3 m.code) :
    Ret Tryz.prog 49 #[.agg (mmcells m a1 c1 a2 c2 a3 c3).toArray, .agg (mmcells m b1 d1 b2 d2 b3 d3).toArray] w fun v w' => v = .bool true ∧ Bl w w' := by
  refine entr (vs := [.agg (mmcells m a1 c1 a2 c2 a3 c3).toArray, .agg (mmcells m b1 d1 b2 d2 b3 d3).toArray]) [0, 1, 2, 3, 4] tabok Tryz.func49 (by kernel_rfl) ?_
  refine bx (cs := mmcells m a1 c1 a2 c2 a3 c3) fun p1 w1 k1 => ?_
  refine bx (cs := mmcells m b1 d1 b2 d2 b3 d3) fun p2 w2 k2 => ?_
  have B2 := k1.bl.trans k2.bl
  have x1 := Bl.box k2.bl k1.box
  have x2 := k2.box
  refine ld (x1.cell rfl) ?_
  refine ld (x2.cell rfl) ?_
  refine ldg (fun _ => x1.cell rfl) ?_
  refine ldg (fun _ => x2.cell rfl) ?_
  refine ldg (fun _ => x1.cell rfl) ?_
  refine ldg (fun _ => x2.cell rfl) ?_
  refine spt (.bool true) ?_
  refine cl (r_SameTypes m.params m.params a1 b1 c1 d1 w2 (h1.bl B2) (g1.bl B2)) ?_
  rintro _ w3 ⟨rfl, B23⟩
  rw [decide_eq_true (rfl : m.params = m.params)]
  have B3 := B2.trans B23
  have x13 := Bl.box B23 x1
  have x23 := Bl.box B23 x2
  refine ldg (fun _ => x13.cell rfl) ?_
  refine ldg (fun _ => x23.cell rfl) ?_
  refine spt (.bool true) ?_
  refine cl (r_SameTypes m.locals m.locals a2 b2 c2 d2 w3 (h2.bl B3) (g2.bl B3)) ?_
  rintro _ w4 ⟨rfl, B34⟩
  rw [decide_eq_true (rfl : m.locals = m.locals)]
  have B4 := B3.trans B34
  have x14 := Bl.box B34 x13
  have x24 := Bl.box B34 x23
  refine spt (.bool true) ?_
  refine lda (At.left (cs := encTy m.result) x14.at.tail.tail.tail.tail) ?_
  refine spt (.bool true) ?_
  refine lda (At.left (cs := encTy m.result) x24.at.tail.tail.tail.tail) ?_
  refine spt (.bool true) ?_
  refine eqA (fun w => eq_ty m.result m.result) ?_
  rw [decide_eq_true (rfl : m.result = m.result)]
  refine ldg (fun _ => x14.cell rfl) ?_
  refine ldg (fun _ => x24.cell rfl) ?_
  refine spt (.bool true) ?_
  refine cl (r_SameCode m.code m.code a3 b3 c3 d3 w4 (h3.bl B4) (g3.bl B4)) ?_
  rintro _ w5 ⟨rfl, B45⟩
  rw [decide_eq_true (rfl : m.code = m.code)]
  exact rt1 ⟨rfl, B4.trans B45⟩
/-- a module is the same as itself, wherever both lie -/
theorem r_Same_eq (m : Mod) (a b : MA) (w : World) (hA : MdR T w m a) (hB : MdR T w m b) : Ret Tryz.prog 15 #[.agg (modcells m a).toArray, .agg (modcells m b).toArray] w fun v w' => v = .bool true ∧ Bl w w' := by
  have q1 := hA.cls.big
  have q2 := hA.mth.big
  refine entr (vs := [.agg (modcells m a).toArray, .agg (modcells m b).toArray]) [0, 1, 2, 3, 4, 5, 6, 37, 42, 56, 61, 75] tabok Tryz.func15 (by kernel_rfl) ?_
  refine bx (cs := modcells m a) fun p1 w1 k1 => ?_
  refine bx (cs := modcells m b) fun p2 w2 k2 => ?_
  have B2 := k1.bl.trans k2.bl
  have x1 := Bl.box k2.bl k1.box
  have x2 := k2.box
  refine ld (x1.cell rfl) ?_
  refine ld (x2.cell rfl) ?_
  refine ldg (fun _ => x1.cell rfl) ?_
  refine ldg (fun _ => x2.cell rfl) ?_
  refine ldg (fun _ => x1.cell rfl) ?_
  refine ldg (fun _ => x2.cell rfl) ?_
  refine ldg (fun _ => x1.cell rfl) ?_
  refine ldg (fun _ => x2.cell rfl) ?_
  refine spt (.bool true) ?_
  refine cl (r_SameTypes m.statics m.statics a.a2 b.a2 a.c2 b.c2 w2 (hA.bl B2).sta (hB.bl B2).sta) ?_
  rintro _ w3 ⟨rfl, B23⟩
  rw [decide_eq_true (rfl : m.statics = m.statics)]
  have B3 := B2.trans B23
  replace x1 := Bl.box B23 x1
  replace x2 := Bl.box B23 x2
  refine brf ?_
  refine lpk (vals := []) m.classes.length 5 [] [(2, .pointer (some ⟨p1, 0, none⟩)), (3, .pointer (some ⟨p2, 0, none⟩))] (fun k vals w' => vals = [] ∧ Bl w3 w') ⟨rfl, Bl.refl _⟩ ?_
  rintro k vals w4 hk ⟨rfl, B34⟩ ih
  have B4 := B3.trans B34
  have y1 := Bl.box B34 x1
  have y2 := Bl.box B34 x2
  refine ld (y1.cell rfl) ?_
  by_cases hlt : k < m.classes.length
  · refine brT ?_
    obtain ⟨c, bs, o, cs, hc, e2, _, hAt, e1, r1, e3, r3, rfl, f1, f2, _⟩ := at_some (hA.bl B4).cls hlt
    obtain ⟨c', bs', o', cs', hc', e2', _, hAt', e1', r1', e3', r3', rfl, f1', f2', _⟩ := at_some (hB.bl B4).cls hlt
    obtain rfl : c = c' := by rw [hc] at hc'; exact Option.some.inj hc'
    refine dh T (List.range 12) fun w5 k5 => ?_
    have B5 := B4.trans k5.bl
    have B35 := B34.trans k5.bl
    refine ld ((k5.box y1).cell rfl) ?_ (hm := trivial)
    rw [e2]
    refine ix ?_
    refine lda (hAt.bl k5.bl) ?_ (hm := trivial)
    refine ld ((k5.box y2).cell rfl) ?_ (hm := trivial)
    rw [e2']
    refine ix ?_
    refine lda (hAt'.bl k5.bl) ?_ (hm := trivial)
    refine cl (r_sameClass c e1 e3 e1' e3' r1 r3 r1' r3' w5 (f1.bl k5.bl) (f2.bl k5.bl) (f1'.bl k5.bl) (f2'.bl k5.bl)) ?_
    rintro _ w6 ⟨rfl, B56⟩
    refine brf ?_
    exact ih hlt ⟨rfl, B35.trans B56⟩
  refine brF ?_
  clear ih y1 y2
  refine lpk (vals := []) m.methods.length 6 [] [(2, .pointer (some ⟨p1, 0, none⟩)), (3, .pointer (some ⟨p2, 0, none⟩))] (fun k vals w' => vals = [] ∧ Bl w3 w') ⟨rfl, B34⟩ ?_
  clear B34 B4
  rintro k vals w4 hk ⟨rfl, B34⟩ ih
  have B4 := B3.trans B34
  have y1 := Bl.box B34 x1
  have y2 := Bl.box B34 x2
  refine ld (y1.cell rfl) ?_
  by_cases hlt : k < m.methods.length
  · refine brT ?_
    obtain ⟨c, bs, o, cs, hc, e2, _, hAt, e1, r1, e3, r3, e4, r4, rfl, f1, f2, f3, _⟩ := at_some (hA.bl B4).mth hlt
    obtain ⟨c', bs', o', cs', hc', e2', _, hAt', e1', r1', e3', r3', e4', r4', rfl, f1', f2', f3', _⟩ := at_some (hB.bl B4).mth hlt
    obtain rfl : c = c' := by rw [hc] at hc'; exact Option.some.inj hc'
    refine dh T (List.range 12) fun w5 k5 => ?_
    have B35 := B34.trans k5.bl
    refine ld ((k5.box y1).cell rfl) ?_ (hm := trivial)
    rw [e2]
    refine ix ?_
    refine lda (hAt.bl k5.bl) ?_ (hm := trivial)
    refine ld ((k5.box y2).cell rfl) ?_ (hm := trivial)
    rw [e2']
    refine ix ?_
    refine lda (hAt'.bl k5.bl) ?_ (hm := trivial)
    refine cl (r_sameMethod c e1 e3 e4 e1' e3' e4' r1 r3 r4 r1' r3' r4' w5 (f1.bl k5.bl) (f2.bl k5.bl) (f3.bl k5.bl) (f1'.bl k5.bl) (f2'.bl k5.bl) (f3'.bl k5.bl)) ?_
    rintro _ w6 ⟨rfl, B56⟩
    refine brf ?_
    exact ih hlt ⟨rfl, B35.trans B56⟩
  refine brF ?_
  exact rt1 ⟨rfl, B4⟩
end Go.Proofs.YtkmdfjpafkcleaaGreatDoor

/- slices.IndexFunc and slices.ContainsFunc at numbers and types; slices.Equal at types. The first four printed out of XIdx. -/
namespace Go.Proofs.YtkmdfjpafkcleaaGreatDoor
open Eng Go.RowKit
theorem IndexFunc_int (l : List Int) (a : Option Addr) (cap : Nat) (g : FuncId) (caps : List Value) (p : Int → Bool) (S : Nat → Prop) (w : World) (hS : Sl eInt S w a l)
    (hp : ∀ x cs, x ∈ l → ∀ w', Bl w w' → (eInt).rel S w' cs x → Ret Tryz.prog g ([asV cs] ++ caps).toArray w' fun v w'' => v = .bool (p x) ∧ Bl w' w'') :
    Ret Tryz.prog 193 #[.slice a l.length cap, .func (.func g) #[] caps.toArray] w fun v w' => (∃ i : Int, v = I i ∧ decide (i ≥ 0) = l.any p) ∧ Bl w w' := by
  refine entr (vs := [.slice a l.length cap, .func (.func g) #[] caps.toArray]) [0, 1, 4, 5, 7, 8, 9, 16] tabok Tryz.func193 (by kernel_rfl) ?_
  have hbig := hS.big
  refine lp [8] [(0, .slice a l.length cap), (1, .func (.func g) #[] caps.toArray), (7, I l.length)] (fun m vals w' => ∃ k : Nat, m = l.length - k ∧ k ≤ l.length ∧ vals = [I k] ∧ (l.take k).any p = false ∧ Bl w w') ⟨rfl, rfl, rfl, trivial⟩ ⟨0, rfl, Nat.zero_le _, rfl, rfl, Bl.refl _⟩ ?_
  rintro m vals w1 ⟨k, rfl, hk, rfl, ha, hB⟩ ih
  by_cases hlt : k < l.length
  · refine brT ?_
    obtain ⟨x, b, o, cs, hx, rfl, hSb, hAt, rfl⟩ := at_some (hS.bl hB) hlt
    refine ix ?_
    refine ld (hAt 0 _ rfl) ?_
    refine cl (hp x _ (List.mem_of_getElem? hx) _ hB rfl) ?_
    rintro _ w2 ⟨rfl, hB2⟩
    refine br (fun h => ?_) (fun h => ?_)
    · exact rt1 ⟨⟨k, rfl, by rw [any_hit hx h]; simp⟩, hB.trans hB2⟩
    · refine again (ih _ _ _ _ (by omega) ⟨rfl, rfl, rfl, trivial⟩ rfl ⟨k + 1, rfl, by omega, lst1 (inc hlt), any_snoc hx ha h, hB.trans hB2⟩)
  · refine brF ?_
    obtain rfl : k = l.length := by omega
    exact rt1 ⟨⟨-1, rfl, by rw [any_end ha]; rfl⟩, hB⟩
theorem ContainsFunc_int (l : List Int) (a : Option Addr) (cap : Nat) (g : FuncId) (caps : List Value) (p : Int → Bool) (S : Nat → Prop) (w : World) (hS : Sl eInt S w a l)
    (hp : ∀ x cs, x ∈ l → ∀ w', Bl w w' → (eInt).rel S w' cs x → Ret Tryz.prog g ([asV cs] ++ caps).toArray w' fun v w'' => v = .bool (p x) ∧ Bl w' w'') :
    Ret Tryz.prog 132 #[.slice a l.length cap, .func (.func g) #[] caps.toArray] w fun v w' => v = .bool (l.any p) ∧ Bl w w' := by
  refine entr (vs := [.slice a l.length cap, .func (.func g) #[] caps.toArray]) [0, 1, 4] tabok Tryz.func132 (by kernel_rfl) ?_
  refine cl (IndexFunc_int l a cap g caps p S w hS hp) ?_
  rintro _ w1 ⟨⟨i, rfl, hi⟩, hB⟩
  exact rt1 ⟨vb hi, hB⟩
theorem IndexFunc_typ (l : List Ty) (a : Option Addr) (cap : Nat) (g : FuncId) (caps : List Value) (p : Ty → Bool) (S : Nat → Prop) (w : World) (hS : Sl eTy S w a l)
    (hp : ∀ x cs, x ∈ l → ∀ w', Bl w w' → (eTy).rel S w' cs x → Ret Tryz.prog g ([asV cs] ++ caps).toArray w' fun v w'' => v = .bool (p x) ∧ Bl w' w'') :
    Ret Tryz.prog 223 #[.slice a l.length cap, .func (.func g) #[] caps.toArray] w fun v w' => (∃ i : Int, v = I i ∧ decide (i ≥ 0) = l.any p) ∧ Bl w w' := by
  refine entr (vs := [.slice a l.length cap, .func (.func g) #[] caps.toArray]) [0, 1, 4, 5, 7, 8, 9, 16] tabok Tryz.func223 (by kernel_rfl) ?_
  have hbig := hS.big
  refine lp [8] [(0, .slice a l.length cap), (1, .func (.func g) #[] caps.toArray), (7, I l.length)] (fun m vals w' => ∃ k : Nat, m = l.length - k ∧ k ≤ l.length ∧ vals = [I k] ∧ (l.take k).any p = false ∧ Bl w w') ⟨rfl, rfl, rfl, trivial⟩ ⟨0, rfl, Nat.zero_le _, rfl, rfl, Bl.refl _⟩ ?_
  rintro m vals w1 ⟨k, rfl, hk, rfl, ha, hB⟩ ih
  by_cases hlt : k < l.length
  · refine brT ?_
    obtain ⟨x, b, o, cs, hx, rfl, hSb, hAt, rfl⟩ := at_some (hS.bl hB) hlt
    refine ix ?_
    refine lda hAt ?_
    refine cl (hp x _ (List.mem_of_getElem? hx) _ hB rfl) ?_
    rintro _ w2 ⟨rfl, hB2⟩
    refine br (fun h => ?_) (fun h => ?_)
    · exact rt1 ⟨⟨k, rfl, by rw [any_hit hx h]; simp⟩, hB.trans hB2⟩
    · refine again (ih _ _ _ _ (by omega) ⟨rfl, rfl, rfl, trivial⟩ rfl ⟨k + 1, rfl, by omega, lst1 (inc hlt), any_snoc hx ha h, hB.trans hB2⟩)
  · refine brF ?_
    obtain rfl : k = l.length := by omega
    exact rt1 ⟨⟨-1, rfl, by rw [any_end ha]; rfl⟩, hB⟩
theorem ContainsFunc_typ (l : List Ty) (a : Option Addr) (cap : Nat) (g : FuncId) (caps : List Value) (p : Ty → Bool) (S : Nat → Prop) (w : World) (hS : Sl eTy S w a l)
    (hp : ∀ x cs, x ∈ l → ∀ w', Bl w w' → (eTy).rel S w' cs x → Ret Tryz.prog g ([asV cs] ++ caps).toArray w' fun v w'' => v = .bool (p x) ∧ Bl w' w'') :
    Ret Tryz.prog 168 #[.slice a l.length cap, .func (.func g) #[] caps.toArray] w fun v w' => v = .bool (l.any p) ∧ Bl w w' := by
  refine entr (vs := [.slice a l.length cap, .func (.func g) #[] caps.toArray]) [0, 1, 4] tabok Tryz.func168 (by kernel_rfl) ?_
  refine cl (IndexFunc_typ l a cap g caps p S w hS hp) ?_
  rintro _ w1 ⟨⟨i, rfl, hi⟩, hB⟩
  exact rt1 ⟨vb hi, hB⟩
theorem l_EqualT (l m : List Ty) (a1 a2 : Option Addr) (c1 c2 : Nat) (w : World) (h1 : Sl eTy T w a1 l) (h2 : Sl eTy T w a2 m) : Ret Tryz.prog 172 #[.slice a1 l.length c1, .slice a2 m.length c2] w fun v w' => v = .bool (decide (l = m)) ∧ Bl w w' := by
  refine entr (vs := [.slice a1 l.length c1, .slice a2 m.length c2]) [0, 1, 4, 5, 10, 12, 13, 14, 24] tabok Tryz.func172 (by kernel_rfl) ?_
  have hb1 := h1.big
  have hb2 := h2.big
  refine br (fun h => ?_) (fun h => ?_)
  · exact rt1 ⟨vb (same_len (of_decide_eq_true h)).symm, Bl.refl _⟩
  have hl := Classical.not_not.1 (of_decide_eq_false h)
  refine lpk l.length 13 [] [(0, .slice a1 l.length c1), (1, .slice a2 m.length c2), (12, I l.length)] (fun k vals w' => vals = [] ∧ l.take k = m.take k ∧ Bl w w') ⟨rfl, rfl, Bl.refl _⟩ ?_
  rintro k vals w2 hk ⟨rfl, ha, hB⟩ ih
  by_cases hlt : k < l.length
  · refine brT ?_
    obtain ⟨x, b, o, cs, hx, rfl, _, hAt, rfl⟩ := at_some (h1.bl hB) hlt
    obtain ⟨y, b', o', cs', hy, rfl, _, hAt', rfl⟩ := at_some (h2.bl hB) (i := k) (by omega)
    refine dh T (List.range 9) fun w8 h8 => ?_
    have hC := hAt.bl h8.bl
    have hC' := hAt'.bl h8.bl
    refine ix ?_
    refine lda hC ?_ (hm := trivial)
    refine ix ?_
    refine lda hC' ?_ (hm := trivial)
    refine neA (fun w => eq_ty x y) ?_
    refine br (fun h => ?_) (fun h => ?_)
    · exact rt1 ⟨vb (same_no hx hy (fun e => by rw [decide_eq_true e] at h; cases h)).symm, hB.trans h8.bl⟩
    · exact ih hlt ⟨rfl, same_go hx hy (Classical.byContradiction fun e => by rw [decide_eq_false e] at h; cases h) ha, hB.trans h8.bl⟩
  refine brF ?_
  exact rt1 ⟨vb (same_end hl ha (by omega)).symm, hB⟩
end Go.Proofs.YtkmdfjpafkcleaaGreatDoor

/- The engine: ways that part and meet at a loop. No program stands here. -/
namespace Go.Proofs.YtkmdfjpafkcleaaGreatDoor
open Eng
/-- several ways lead to one loop, which counts slot i up -/
theorem Eng.jlk {C : Cx} {s : St} {w : World} {c : Code} {k : List Item} (n i : Nat) (sel : List Nat) (keep : Env) (Inv : Nat → List Value → World → Prop)
    (hb : (∀ {s' : St} {l : Env} {vals : List Value} {w' : World}, Inv 0 vals w' → (hs : adv C.tab C.n C.ks 400 s' = .code (.code (.loop c) :: k) l := by rfl) → (hkeep : Sub keep l := by repeat (first | exact True.intro | (refine ⟨rfl, ?_⟩))) →
        (hv : lookAll l (i :: sel) = some (I 0 :: vals) := by rfl) → Wk C s' w') → Wk C s w)
    (hr : ∀ j vals w', j ≤ n → Inv j vals w' →
      (∀ {s' : St} {l'' : Env} {vals'' : List Value} {w'' : World}, j < n → Inv (j + 1) vals'' w'' → (hs : adv C.tab C.n C.ks 400 s' = .code (.inLoop c :: k) l'' := by rfl) →
        (hsub : Sub keep l'' := by repeat (first | exact True.intro | (refine ⟨rfl, ?_⟩))) → (hv : lookAll l'' (i :: sel) = some (.int .i64 (IntKind.wrap .i64 ((j : Int) + 1)) :: vals'') := by rfl) → Wk C s' w'') →
      Wk C (.code (.code c :: .inLoop c :: k) ((i, I j) :: pair sel vals keep)) w')
    (hn : n ≤ 4611686018427387904) : Wk C s w :=
  hb fun h0 hs hk hv => lpk n i sel keep Inv h0 hr hs hk hv hn
end Go.Proofs.YtkmdfjpafkcleaaGreatDoor

/- Walks: types, what is above, entries of tables, in the program's checker. -/
namespace Go.Proofs.YtkmdfjpafkcleaaGreatDoor
open Eng Go.RowKit
theorem k_isClass (m : Mod) (a : MA) (n : Int) (w : World) (_hn : m.classes.length ≤ 4194304) : Ret Tryz.prog 224 #[.agg (modcells m a).toArray, I n] w fun v w' => v = .bool (decide (0 ≤ n) && decide (n < m.classes.length)) ∧ Bl w w' := by
  refine entr (vs := [.agg (modcells m a).toArray, I n]) [0, 1, 2, 4] tabok Tryz.func224 (by kernel_rfl) ?_
  refine bx (cs := modcells m a) fun b1 w1 k1 => ?_
  refine ldg (fun _ => k1.box.cell rfl) ?_
  exact rt1 ⟨rfl, k1.bl⟩
theorem k_isTypeM (m : Mod) (a : MA) (t : Ty) (least : Int) (_hl : least = 0 ∨ least = 1) (w : World) (hn : m.classes.length ≤ 4194304) :
    Ret Tryz.prog 170 #[.agg (modcells m a).toArray, .agg (encTy t).toArray, I least] w fun v w' => v = .bool (ityp m t least) ∧ Bl w w' := by
  refine entr (vs := [.agg (modcells m a).toArray, .agg (encTy t).toArray, I least]) [0, 1, 2, 3, 4, 6, 8, 9, 16] tabok Tryz.func170 (by kernel_rfl) ?_
  refine bx (cs := modcells m a) fun b1 w1 k1 => ?_
  refine bx (cs := encTy t) fun b2 w2 k2 => ?_
  have B2 := k1.bl.trans k2.bl
  have x1 := Bl.box k2.bl k1.box
  have x2 := k2.box
  refine ld (x2.cell rfl) ?_
  by_cases h2 : t.kind = 2
  · refine brT ?_ (hp := h2)
    refine brT ?_ (hp := h2)
    refine lda x1.at ?_
    refine ld (x2.cell rfl) ?_
    refine cl (k_isClass m a t.cls w2 hn) ?_
    rintro _ w3 ⟨rfl, B3⟩
    exact rt1 ⟨congrArg Value.bool (ityp_obj (.inl h2)).symm, B2.trans B3⟩
  refine brF ?_ (hp := h2)
  by_cases h4 : t.kind = 4
  · refine brT ?_ (hp := h4)
    refine lda x1.at ?_
    refine ld (x2.cell rfl) ?_
    refine cl (k_isClass m a t.cls w2 hn) ?_
    rintro _ w3 ⟨rfl, B3⟩
    exact rt1 ⟨congrArg Value.bool (ityp_obj (.inr h4)).symm, B2.trans B3⟩
  refine brF ?_ (hp := h4)
  have e : (t.kind = 0 ∨ t.kind = 1 ∨ t.kind = 3) → ityp m t least = (decide (least ≤ t.kind) && decide (t.cls = 0)) := fun h => by
    unfold ityp
    rw [if_neg (by omega), if_pos h]
  by_cases h0 : t.kind = 0
  · refine brT ?_ (hp := h0)
    refine brT ?_ (hp := h0)
    refine ld (x2.cell rfl) ?_
    refine ldg (fun _ => x2.cell rfl) ?_
    exact rt1 ⟨congrArg Value.bool (e (.inl h0)).symm, B2⟩
  refine brF ?_ (hp := h0)
  by_cases h1 : t.kind = 1
  · refine brT ?_ (hp := h1)
    refine brT ?_ (hp := h1)
    refine ld (x2.cell rfl) ?_
    refine ldg (fun _ => x2.cell rfl) ?_
    exact rt1 ⟨congrArg Value.bool (e (.inr (.inl h1))).symm, B2⟩
  refine brF ?_ (hp := h1)
  by_cases h3 : t.kind = 3
  · refine brT ?_ (hp := h3)
    refine ld (x2.cell rfl) ?_
    refine ldg (fun _ => x2.cell rfl) ?_
    exact rt1 ⟨congrArg Value.bool (e (.inr (.inr h3))).symm, B2⟩
  refine brF ?_ (hp := h3)
  refine rt1 ⟨congrArg Value.bool ?_, B2⟩
  unfold ityp
  rw [if_neg (by omega), if_neg (by omega)]
theorem k_areTypes1 (m : Mod) (a : MA) (t : Ty) (b : Nat) (w : World) (hx : At w b 0 (modcells m a)) (hn : m.classes.length ≤ 4194304) : Ret Tryz.prog 169 #[.agg (encTy t).toArray, .pointer (some ⟨b, 0, none⟩)] w fun v w' => v = .bool (!ityp m t 1) ∧ Bl w w' := by
  refine entr (vs := [.agg (encTy t).toArray, .pointer (some ⟨b, 0, none⟩)]) [0, 1, 2, 3] tabok Tryz.func169 (by kernel_rfl) ?_
  refine bx (cs := encTy t) fun b2 w2 k2 => ?_
  refine lda (hx.bl k2.bl) ?_
  refine lda k2.box.at ?_
  refine cl (k_isTypeM m a t 1 (.inr rfl) w2 hn) ?_
  rintro _ w3 ⟨rfl, B3⟩
  exact rt1 ⟨rfl, k2.bl.trans B3⟩
theorem k_areTypes (m : Mod) (a : MA) (l : List Ty) (al : Option Addr) (ce : Nat) (most : Int) (w : World) (hS : Sl eTy T w al l) (hn : m.classes.length ≤ 4194304) :
    Ret Tryz.prog 111 #[.agg (modcells m a).toArray, .slice al l.length ce, I most] w fun v w' => v = .bool (decide ((l.length : Int) ≤ most) && l.all fun t => ityp m t 1) ∧ Bl w w' := by
  have hbig := hS.big
  refine entr (vs := [.agg (modcells m a).toArray, .slice al l.length ce, I most]) [0, 1, 2, 3, 6] tabok Tryz.func111 (by kernel_rfl) ?_
  refine bx (cs := modcells m a) fun b1 w1 k1 => ?_
  by_cases hle : (l.length : Int) ≤ most
  · refine spt (.bool false) ?_ (hb := decide_eq_true hle)
    refine cl (ContainsFunc_typ l al ce 169 [.pointer (some ⟨b1, 0, none⟩)] (fun t => !ityp m t 1) T w1 (hS.bl k1.bl) fun t cs ht w' k hr => ?_) ?_
    · obtain rfl : cs = encTy t := hr
      exact k_areTypes1 m a t b1 w' (Bl.box k k1.box).at hn
    rintro _ w2 ⟨rfl, B2⟩
    refine rt1 ⟨congrArg Value.bool ?_, k1.bl.trans B2⟩
    rw [decide_eq_true hle, List.all_eq_not_any_not]
  · refine spn (.bool false) ?_ (hb := decide_eq_false hle)
    refine rt1 ⟨congrArg Value.bool ?_, k1.bl⟩
    rw [decide_eq_false hle]; simp
theorem k_above (m : Mod) (a : MA) {kk : Nat} (hd : Desc m kk) (x y : Int) (hx : x < kk) (hx0 : -1 ≤ x) (hy : 0 ≤ y) (w : World) (hM : MdR T w m a) :
    Ret Tryz.prog 72 #[.agg (modcells m a).toArray, I x, I y] w fun v w' => v = .bool (decide (y ∈ upM m x)) ∧ Bl w w' := by
  have hbig := hM.cls.big
  have hdl := hd.1
  refine entr (vs := [.agg (modcells m a).toArray, I x, I y]) [0, 1, 2, 3, 6, 9] tabok Tryz.func72 (by kernel_rfl) ?_
  refine bx (cs := modcells m a) fun b1 w1 k1 => ?_
  have x1 := k1.box
  refine lp (vals := [I x]) [1] [(2, I y), (3, .pointer (some ⟨b1, 0, none⟩))] (fun n vals w' => (∃ z : Int, vals = [I z] ∧ n = (z + 1).toNat ∧ -1 ≤ z ∧ z < kk ∧ (y ∈ upM m x ↔ y ∈ upM m z)) ∧ w1 = w') ⟨rfl, rfl, trivial⟩ (m := (x + 1).toNat) ⟨⟨x, rfl, rfl, hx0, hx, Iff.rfl⟩, rfl⟩ ?_
  rintro n vals _ ⟨⟨z, rfl, rfl, hz0, hzk, hzy⟩, rfl⟩ ih
  by_cases hgt : y < z
  · refine brT ?_
    obtain ⟨j, rfl⟩ := Int.eq_ofNat_of_zero_le (show 0 ≤ z by omega)
    obtain ⟨c, b, o, cs, hc, e2, _, hAt, a1, c1, a2, c2, rfl, _⟩ := at_some (hM.bl k1.bl).cls (i := j) (by omega)
    refine ld (x1.cell rfl) ?_
    rw [e2]
    refine ix ?_
    refine ld (hAt 1 _ rfl) ?_
    have hs := sup_lt hd (a := (j : Int)) (by omega) hzk
    rw [mem_step hd (by omega) hzk (by omega)] at hzy
    rw [supM_at hc] at hs hzy
    exact again (ih _ _ _ _ (by omega) ⟨rfl, rfl, trivial⟩ rfl ⟨⟨c.super, rfl, rfl, hs.1, by omega, hzy⟩, rfl⟩)
  · refine brF ?_
    refine rt1 ⟨congrArg Value.bool (Bool.eq_iff_iff.2 ?_), k1.bl⟩
    rw [decide_eq_true_eq, decide_eq_true_eq, hzy]
    constructor
    · rintro rfl; exact upM_self hy
    · intro h
      have := upM_mem_le hd hzk h
      omega
theorem k_entry (m : Mod) (a : MA) (k s j : Nat) (hd : Desc m (k + 1)) {y : MM} (hy : m.methods[j]? = some y) (hT : ∀ (i : Nat) z, i ≤ k → m.classes[i]? = some z → s < z.table.length) (w : World) (hM : MdR T w m a) :
    Ret Tryz.prog 171 #[.agg (modcells m a).toArray, I k, I s, I j] w fun v w' => (∃ b, v = .bool b ∧ (b = true ↔ ∃ z, y.cls ∈ upM m k ∧ m.classes[y.cls.toNat]? = some z ∧ z.table[s]? = some (j : Int))) ∧ Bl w w' := by
  have hdl := hd.1
  refine entr (vs := [.agg (modcells m a).toArray, I k, I s, I j]) [0, 1, 2, 3, 4, 8, 9] tabok Tryz.func171 (by kernel_rfl) ?_
  refine bx (cs := modcells m a) fun b1 w1 k1 => ?_
  have x1 := k1.box
  obtain ⟨y', b, o, cs, hy', e2, _, hAt, a3, c3, a4, c4, a5, c5, rfl, _⟩ := at_some (hM.bl k1.bl).mth (i := j) (List.getElem?_eq_some_iff.1 hy).1
  obtain rfl : y = y' := by rw [hy] at hy'; exact Option.some.inj hy'
  refine ld (x1.cell rfl) ?_
  rw [e2]
  refine ix ?_ (hb := (List.getElem?_eq_some_iff.1 hy).1)
  refine ld (hAt 1 _ rfl) ?_
  have no : ¬ y.cls ∈ upM m k → (false = true ↔ ∃ z, y.cls ∈ upM m k ∧ m.classes[y.cls.toNat]? = some z ∧ z.table[s]? = some (j : Int)) := fun h => ⟨(fun q => (by cases q)), fun ⟨_, q, _⟩ => absurd q h⟩
  by_cases hA : 0 ≤ y.cls ∧ y.cls ≤ k
  rotate_left
  · refine spn (.agg (modcells m a).toArray) ?_ (hb := by first | (simp; done) | (simp; omega))
    refine spn (.bool false) ?_ (hb := by first | (simp; done) | (simp; omega))
    refine spn (.slice none 0 0) ?_ (hb := by first | (simp; done) | (simp; omega))
    refine spn (.pointer (some ⟨0, 0, none⟩)) ?_ (hb := by first | (simp; done) | (simp; omega))
    refine spn (.slice none 0 0) ?_ (hb := by first | (simp; done) | (simp; omega))
    refine spn (.pointer (some ⟨0, 0, none⟩)) ?_ (hb := by first | (simp; done) | (simp; omega))
    refine spn (I 0) ?_ (hb := by first | (simp; done) | (simp; omega))
    refine rt1 ⟨⟨false, congrArg Value.bool ?_, no fun q => hA (upM_mem_le hd (by omega) q)⟩, k1.bl⟩
    first | (simp; done) | (simp; omega)
  obtain ⟨o', ho'⟩ := Int.eq_ofNat_of_zero_le hA.1
  refine spt (.agg (modcells m a).toArray) ?_ (hb := by first | (simp; done) | (simp; omega))
  refine lda x1.at ?_
  refine spt (.bool false) ?_ (hb := by first | rfl | (simp; done) | (simp; omega))
  refine cl (k_above m a hd (k : Int) y.cls (by omega) (by omega) hA.1 w1 (hM.bl k1.bl)) ?_
  rintro _ w2 ⟨rfl, B2⟩
  have x2 := Bl.box B2 x1
  have B02 := k1.bl.trans B2
  by_cases hin : y.cls ∈ upM m k
  rotate_left
  · rw [decide_eq_false hin]
    refine spn (.slice none 0 0) ?_ (hb := by first | rfl | (simp; done) | (simp; omega))
    refine spn (.pointer (some ⟨0, 0, none⟩)) ?_ (hb := by first | rfl | (simp; done) | (simp; omega))
    refine spn (.slice none 0 0) ?_ (hb := by first | rfl | (simp; done) | (simp; omega))
    refine spn (.pointer (some ⟨0, 0, none⟩)) ?_ (hb := by first | rfl | (simp; done) | (simp; omega))
    refine spn (I 0) ?_ (hb := by first | rfl | (simp; done) | (simp; omega))
    refine rt1 ⟨⟨false, congrArg Value.bool ?_, no hin⟩, B02⟩
    first | rfl | (simp; done) | (simp; omega)
  rw [decide_eq_true hin]
  obtain ⟨z, b6, o6, cs6, hz, e6, _, hA6, a7, c7, a8, c8, rfl, _, hT6, _⟩ := at_some (hM.bl B02).cls (i := o') (by omega)
  obtain ⟨q, b9, o9, cs9, hq, e9, _, hA9, rfl⟩ := at_some hT6 (i := s) (hT o' z (by omega) hz)
  refine ldg (fun _ => x2.cell rfl) ?_
  rw [e6]
  refine spt (.pointer (some ⟨0, 0, none⟩)) ?_ (hb := by first | rfl | (simp; done) | (simp; omega))
  refine ix (j := o') ?_ (hij := ho') (hb := by omega)
  refine ldg (fun _ => hA6 3 _ rfl) ?_
  rw [e9]
  refine spt (.pointer (some ⟨0, 0, none⟩)) ?_ (hb := by first | rfl | (simp; done) | (simp; omega))
  refine ix (j := s) ?_ (hb := hT o' z (by omega) hz)
  refine ldg (fun _ => hA9 0 _ rfl) ?_
  refine rt1 ⟨⟨decide (q = j), congrArg Value.bool ?_, ?_⟩, B02⟩
  · first | rfl | (simp; done) | (simp; omega)
  · rw [decide_eq_true_eq, ho', Int.toNat_natCast, hz]
    constructor
    · rintro rfl; exact ⟨z, by rw [← ho']; exact hin, rfl, hq⟩
    · rintro ⟨z', _, e1, e3⟩
      obtain rfl := Option.some.inj e1
      rw [hq] at e3; exact Option.some.inj e3
end Go.Proofs.YtkmdfjpafkcleaaGreatDoor

/- Walks: a class, in the program's checker. -/
namespace Go.Proofs.YtkmdfjpafkcleaaGreatDoor
open Eng Go.RowKit
set_option maxHeartbeats 2000000 in
theorem k_class (m : Mod) (a : MA) (k : Nat) (c : MC) (w : World) (hM : MdR T w m a) (hc : m.classes[k]? = some c) (hP : ∀ i x, i < k → m.classes[i]? = some x → ClsP m i x) (hc10 : m.classes.length ≤ 10) (_hm16 : m.methods.length ≤ 16) (hz0 : 0 ≤ m.sels) (hz1 : m.sels ≤ 16) :
    Ret Tryz.prog 112 #[.agg (modcells m a).toArray, I k] w fun v w' => (∃ b, v = .bool b ∧ (b = true ↔ ClsP m k c)) ∧ Bl w w' := by
  have hlt : k < m.classes.length := (List.getElem?_eq_some_iff.1 hc).1
  have hd : Desc m k := desc_of (by omega) hP
  refine entr (vs := [.agg (modcells m a).toArray, I k]) [0, 1, 2, 4, 5, 6, 7, 8, 39, 41, 42, 43, 44, 57, 67, 88, 92] tabok Tryz.func112 (by kernel_rfl) ?_
  refine bx (cs := modcells m a) fun b1 w1 k1 => ?_
  have x1 := k1.box
  obtain ⟨c', b, o, cs, hc', e2, _, hAt, a3, c3, a4, c4, rfl, hF, hTb, _, hcap⟩ := at_some (hM.bl k1.bl).cls hlt
  obtain rfl : c = c' := by rw [hc] at hc'; exact Option.some.inj hc'
  have no : (ClsP m k c → False) → (false = true ↔ ClsP m k c) := fun h => ⟨(fun q => (by cases q)), fun q => (h q).elim⟩
  refine ld (x1.cell rfl) ?_
  rw [e2]
  refine ix ?_
  refine lda hAt ?_
  refine al fun b5 w2 h2 => ?_
  refine sta (cs' := mccells c a3 c3 a4 c4) h2.box fun w3 k3 x3 => ?_
  have B13 := h2.wr k3
  have B3 := k1.bl.trans B13
  have y3 := Bl.box B13 x1
  have q1 := hF.big
  have q2 := hTb.big
  refine ld (x3.cell rfl) ?_
  refine ldg (fun _ => x3.cell rfl) ?_
  by_cases hA : c.super < -1 ∨ (k : Int) ≤ c.super
  · refine spn (.agg (modcells m a).toArray) ?_ (hb := by first | rfl | (simp; done) | (simp; omega))
    refine ldg (fun _ => x3.cell rfl) ?_
    refine spn (.bool false) ?_ (hb := by first | rfl | (simp; done) | (simp; omega))
    refine ldg (fun _ => x3.cell rfl) ?_
    refine ldg (fun _ => y3.cell rfl) ?_
    refine brt ?_ (hp := by first | rfl | (simp; done) | (simp; omega))
    exact rt1 ⟨⟨false, rfl, no fun q => by have := q.s1; have := q.s2; omega⟩, B3⟩
  refine spt (.agg (modcells m a).toArray) ?_ (hb := by first | rfl | (simp; done) | (simp; omega))
  refine lda y3.at ?_
  refine ldg (fun _ => x3.cell rfl) ?_
  refine spt (.bool false) ?_ (hb := by first | rfl | (simp; done) | (simp; omega))
  refine cl (k_areTypes m a c.fields a3 c3 7 w3 (hF.bl B13) (by omega)) ?_
  rintro _ w4 ⟨rfl, B34⟩
  have B4 := B3.trans B34
  have x4 := Bl.box B34 x3
  have y4 := Bl.box B34 y3
  refine ldg (fun _ => x4.cell rfl) ?_
  refine ldg (fun _ => y4.cell rfl) ?_
  by_cases hfl : (c.fields.length : Int) ≤ 7
  rotate_left
  · rw [decide_eq_false hfl]
    refine brt ?_ (hp := by first | rfl | (simp; done) | (simp; omega))
    exact rt1 ⟨⟨false, rfl, no fun q => by have := q.fl; omega⟩, B4⟩
  rw [decide_eq_true hfl]
  cases hft : c.fields.all fun t => ityp m t 1 with
  | false =>
    refine brt ?_ (hp := by first | rfl | (simp; done) | (simp; omega))
    exact rt1 ⟨⟨false, rfl, no fun q => by rw [List.all_eq_true.2 q.ft] at hft; cases hft⟩, B4⟩
  | true =>
  by_cases htl : (c.table.length : Int) = m.sels
  rotate_left
  · refine brt ?_ (hp := by first | (simp; done) | (simp; exact htl) | (simp; omega))
    exact rt1 ⟨⟨false, rfl, no fun q => htl q.tl⟩, B4⟩
  refine brf ?_ (hp := by first | (simp; done) | (simp; exact htl) | (simp; omega))
  have hd1 : Desc m (k + 1) := ⟨by omega, fun i x hi hx => by
    rcases Nat.lt_or_ge i k with q | q
    · exact hd.2 i x q hx
    · obtain rfl : i = k := by omega
      rw [hc] at hx; obtain rfl := Option.some.inj hx; exact ⟨by omega, by omega⟩⟩
  have hTl : ∀ (i : Nat) z, i ≤ k → m.classes[i]? = some z → z.table.length = c.table.length := fun i z hi hz => by
    rcases Nat.lt_or_ge i k with q | q
    · have := (hP i z q hz).tl; omega
    · obtain rfl : i = k := by omega
      rw [hc] at hz; obtain rfl := Option.some.inj hz; rfl
  refine ld (x4.cell rfl) ?_
  refine lpk c.table.length 43 [] [(1, I k), (2, .pointer (some ⟨b1, 0, none⟩)), (5, .pointer (some ⟨b5, 0, none⟩)), (41, .slice a4 c.table.length c4), (42, I c.table.length)] (fun s vals w' => vals = [] ∧ (∀ (i : Nat) x, i < s → c.table[i]? = some x → EntP m k c i x) ∧ Bl w4 w') ⟨rfl, fun i x h => by omega, Bl.refl _⟩ ?_
  rintro s vals w5 hs ⟨rfl, hen, B45⟩ ih
  have x5 := Bl.box B45 x4
  have y5 := Bl.box B45 y4
  have B5 := B4.trans B45
  have B15 := (B13.trans B34).trans B45
  by_cases hsl : s < c.table.length
  · refine brT ?_
    obtain ⟨v, b6, o6, cs6, hv, e6, _, hA6, rfl⟩ := at_some (hTb.bl B15) hsl
    have noE : (EntP m k c s v → False) → (false = true ↔ ClsP m k c) := fun h => no fun q => h (q.tb s v hv)
    have next : ∀ w9, Bl w5 w9 → EntP m k c s v → (∀ (i : Nat) x, i < s + 1 → c.table[i]? = some x → EntP m k c i x) ∧ Bl w4 w9 := fun w9 B9 he => ⟨fun i x hi hx => by
      rcases Nat.lt_or_ge i s with q | q
      · exact hen i x q hx
      · obtain rfl : i = s := by omega
        rw [hv] at hx; obtain rfl := Option.some.inj hx; exact he, B45.trans B9⟩
    have ek : Eng.Sub [(41, Value.slice a4 c.table.length c4)] [(41, Value.slice a4 c.table.length c4)] := ⟨rfl, trivial⟩
    subst e6
    refine ix ?_
    refine ld (hA6 0 _ rfl) ?_
    refine ldg (fun _ => y5.cell rfl) ?_
    by_cases hB : v < -1 ∨ (m.methods.length : Int) ≤ v
    · refine brt ?_ (hp := by first | rfl | (simp; done) | (simp; omega))
      exact rt1 ⟨⟨false, rfl, noE fun q => by have := q.lo; have := q.hi; omega⟩, B5⟩
    refine brf ?_ (hp := by first | rfl | (simp; done) | (simp; omega))
    by_cases hv0 : 0 ≤ v
    · obtain ⟨j, rfl⟩ := Int.eq_ofNat_of_zero_le hv0
      obtain ⟨y, hy⟩ := some_of_lt (l := m.methods) (k := j) (by omega)
      refine spt (.agg (modcells m a).toArray) ?_ (hb := by first | rfl | (simp; done) | (simp; omega))
      refine lda y5.at ?_
      refine spt (.bool false) ?_ (hb := by first | rfl | (simp; done) | (simp; omega))
      refine cl (k_entry m a k s j hd1 hy (fun i z hi hz => by rw [hTl i z hi hz]; exact hsl) w5 (hM.bl B5)) ?_ (hm := fun _ _ r => mdW_bl r.2)
      rintro _ w6 ⟨⟨be, rfl, hbe⟩, B6⟩
      cases be with
      | false =>
        refine brt ?_ (hp := by first | rfl | (simp; done) | (simp; omega))
        refine rt1 ⟨⟨false, rfl, noE fun q => ?_⟩, B5.trans B6⟩
        obtain ⟨y', z, e1, e2, e3, e4⟩ := q.own hv0
        rw [Int.toNat_natCast, hy] at e1; obtain rfl := Option.some.inj e1
        have := hbe.2 ⟨z, e2, e3, e4⟩
        cases this
      | true =>
        refine brf ?_ (hp := by first | rfl | (simp; done) | (simp; omega))
        refine ld ((Bl.box B6 x5).cell rfl) ?_
        refine spn (.slice none 0 0) ?_ (hb := by first | rfl | (simp; done) | (simp; omega))
        refine spn (I 0) ?_ (hb := by first | rfl | (simp; done) | (simp; omega))
        refine spn (.pointer (some ⟨0, 0, none⟩)) ?_ (hb := by first | rfl | (simp; done) | (simp; omega))
        refine spn (.slice none 0 0) ?_ (hb := by first | rfl | (simp; done) | (simp; omega))
        refine spn (.pointer (some ⟨0, 0, none⟩)) ?_ (hb := by first | rfl | (simp; done) | (simp; omega))
        refine spn (I 0) ?_ (hb := by first | rfl | (simp; done) | (simp; omega))
        refine brf ?_ (hp := by first | rfl | (simp; done) | (simp; omega))
        obtain ⟨z, e2', e3, e4⟩ := hbe.1 rfl
        have nx := next w6 B6 ⟨by omega, by omega, fun _ => ⟨y, z, by rw [Int.toNat_natCast]; exact hy, e2', e3, e4⟩, fun h => by omega⟩
        exact ih hsl ⟨rfl, nx.1, nx.2⟩
    · refine spn (.agg (modcells m a).toArray) ?_ (hb := by first | rfl | (simp; done) | (simp; omega))
      refine spn (.bool false) ?_ (hb := by first | rfl | (simp; done) | (simp; omega))
      refine brf ?_ (hp := by first | rfl | (simp; done) | (simp; omega))
      refine ld (x5.cell rfl) ?_
      by_cases hs0 : 0 ≤ c.super
      · obtain ⟨j, hj⟩ := Int.eq_ofNat_of_zero_le hs0
        obtain ⟨u, b8, o8, cs8, hu, e8, _, hA8, a9, c9, a10, c10, rfl, hF8, hT8, _⟩ := at_some (hM.bl B5).cls (i := j) (by omega)
        have huj : m.classes[c.super.toNat]? = some u := by rw [hj, Int.toNat_natCast]; exact hu
        have hlu := hTl j u (by omega) hu
        obtain ⟨q, b11, o11, cs11, hq, e11, _, hA11, rfl⟩ := at_some hT8 (i := s) (by omega)
        refine ldg (fun _ => y5.cell rfl) ?_
        refine ldg (fun _ => x5.cell rfl) ?_
        rw [e8]
        refine spt (.pointer (some ⟨0, 0, none⟩)) ?_ (hb := by first | rfl | (simp; done) | (simp; omega))
        refine ix (j := j) ?_ (hij := hj) (hb := by omega)
        refine ldg (fun _ => hA8 3 _ rfl) ?_
        rw [e11]
        refine spt (.pointer (some ⟨0, 0, none⟩)) ?_ (hb := by first | rfl | (simp; done) | (simp; omega))
        refine ix (j := s) ?_ (hb := by omega)
        refine ldg (fun _ => hA11 0 _ rfl) ?_
        by_cases hq0 : 0 ≤ q
        · refine brt ?_ (hp := by first | rfl | (simp; done) | (simp; omega))
          exact rt1 ⟨⟨false, rfl, noE fun e => by have := e.up (by omega) hs0 u q huj hq; omega⟩, B5⟩
        · refine brf ?_ (hp := by first | rfl | (simp; done) | (simp; omega))
          have nx := next w5 (Bl.refl _) ⟨by omega, by omega, fun h => by omega, fun _ hs' y z hy hz => by rw [huj] at hy; obtain rfl := Option.some.inj hy; rw [hq] at hz; obtain rfl := Option.some.inj hz; omega⟩
          exact ih hsl ⟨rfl, nx.1, nx.2⟩
      · refine spn (.slice none 0 0) ?_ (hb := by first | rfl | (simp; done) | (simp; omega))
        refine spn (I 0) ?_ (hb := by first | rfl | (simp; done) | (simp; omega))
        refine spn (.pointer (some ⟨0, 0, none⟩)) ?_ (hb := by first | rfl | (simp; done) | (simp; omega))
        refine spn (.slice none 0 0) ?_ (hb := by first | rfl | (simp; done) | (simp; omega))
        refine spn (.pointer (some ⟨0, 0, none⟩)) ?_ (hb := by first | rfl | (simp; done) | (simp; omega))
        refine spn (I 0) ?_ (hb := by first | rfl | (simp; done) | (simp; omega))
        refine brf ?_ (hp := by first | rfl | (simp; done) | (simp; omega))
        have nx := next w5 (Bl.refl _) ⟨by omega, by omega, fun h => by omega, fun _ hs' y z hy hz => absurd hs' hs0⟩
        exact ih hsl ⟨rfl, nx.1, nx.2⟩
  refine brF ?_
  clear ih
  have hent : ∀ s n, c.table[s]? = some n → EntP m k c s n := fun i x hx => hen i x (by have := (List.getElem?_eq_some_iff.1 hx).1; omega) hx
  have yes : (0 ≤ c.super → ∀ y, m.classes[c.super.toNat]? = some y → y.fields.length ≤ c.fields.length ∧ c.fields.take y.fields.length = y.fields) → ClsP m k c := fun h => ⟨by omega, by omega, by omega, List.all_eq_true.1 hft, htl, hent, h⟩
  refine ld (x5.cell rfl) ?_
  by_cases hs0 : 0 ≤ c.super
  rotate_left
  · refine brT ?_
    exact rt1 ⟨⟨true, rfl, ⟨fun _ => yes fun h => absurd h hs0, fun _ => rfl⟩⟩, B5⟩
  refine brF ?_
  obtain ⟨j, hj⟩ := Int.eq_ofNat_of_zero_le hs0
  obtain ⟨u, b6, o6, cs6, hu, e6, _, hA6, a7, c7, a8, c8, rfl, hF6, hT6, _⟩ := at_some (hM.bl B5).cls (i := j) (by omega)
  have q3 := hF6.big
  have huj : m.classes[c.super.toNat]? = some u := by rw [hj, Int.toNat_natCast]; exact hu
  refine ld (y5.cell rfl) ?_
  refine ld (x5.cell rfl) ?_
  rw [e6]
  refine ix (j := j) ?_ (hij := hj) (hb := by omega)
  refine ld (hA6 2 _ rfl) ?_
  refine ld (x5.cell rfl) ?_
  by_cases hle : u.fields.length ≤ c.fields.length
  · refine ldg (fun _ => x5.cell rfl) ?_
    refine spt (.slice none 0 0) ?_ (hb := by first | rfl | (simp; done) | (simp; omega))
    refine sl 0 u.fields.length ?_
    refine spt (.bool false) ?_ (hb := by first | rfl | (simp; done) | (simp; omega))
    have eF : Sl eTy T w5 (if c3 = 0 then a3 else a3.map (·.add (0 * 2))) (c.fields.take u.fields.length) := by
      have e : (if c3 = 0 then a3 else a3.map (·.add (0 * 2))) = a3 := by
        split
        · rfl
        · cases a3 <;> simp [Addr.add]
      rw [e]
      exact (hF.bl B15).take _
    have el : u.fields.length - 0 = (c.fields.take u.fields.length).length := by rw [List.length_take]; omega
    rw [el]
    refine cl (l_EqualT u.fields (c.fields.take u.fields.length) a7 _ c7 _ w5 hF6 eF) ?_
    rintro _ w6 ⟨rfl, B6⟩
    refine rt1 ⟨⟨decide (u.fields = c.fields.take u.fields.length), congrArg Value.bool ?_, ?_⟩, B5.trans B6⟩
    · first | rfl | (simp; done) | (simp; omega)
    · rw [decide_eq_true_eq]
      constructor
      · intro h; exact yes fun _ y hy => by rw [huj] at hy; obtain rfl := Option.some.inj hy; exact ⟨hle, h.symm⟩
      · intro h; exact (h.up hs0 u huj).2.symm
  · refine ldg (fun _ => x5.cell rfl) ?_
    refine spn (.slice none 0 0) ?_ (hb := by first | rfl | (simp; done) | (simp; omega))
    refine spn (.bool false) ?_ (hb := by first | rfl | (simp; done) | (simp; omega))
    refine rt1 ⟨⟨false, congrArg Value.bool ?_, no fun q => hle (q.up hs0 u huj).1⟩, B5⟩
    first | rfl | (simp; done) | (simp; omega)
end Go.Proofs.YtkmdfjpafkcleaaGreatDoor

/- Walks: the operands of a module's instructions, in the document. -/
namespace Go.Proofs.YtkmdfjpafkcleaaGreatDoor
open Eng Go.RowKit
theorem opr_nul {m : Mod} {k : Nat} {i : Ins} (h : i.op = 12) : oprB m k i = (decide (i.a = 3) || decide (i.b < m.classes.length)) := by unfold oprB; rw [if_pos h]
theorem opr_new {m : Mod} {k : Nat} {i : Ins} (h : i.op = 14 ∨ i.op = 24) : oprB m k i = decide (i.a < m.classes.length) := by unfold oprB; rw [if_neg (by omega), if_pos h]
theorem opr_rfs {m : Mod} {k : Nat} {i : Ins} (h : i.op = 16) : oprB m k i = decide (i.b < m.classes.length) := by unfold oprB; rw [if_neg (by omega), if_neg (by omega), if_pos h]
theorem opr_sta {m : Mod} {k : Nat} {i : Ins} (h : i.op = 22 ∨ i.op = 23) : oprB m k i = decide (i.a < m.statics.length) := by unfold oprB; rw [if_neg (by omega), if_neg (by omega), if_neg (by omega), if_pos h]
theorem opr_cal {m : Mod} {k : Nat} {i : Ins} (h : i.op = 25) : oprB m k i = (decide (i.a < k) && decide (mcl m i.a = -1)) := by unfold oprB; rw [if_neg (by omega), if_neg (by omega), if_neg (by omega), if_neg (by omega), if_pos h]
theorem opr_snd {m : Mod} {k : Nat} {i : Ins} (h : i.op = 26) : oprB m k i = (decide (i.a < m.sels) && (trgM m i.a.toNat).all fun t => decide (t < k)) := by unfold oprB; rw [if_neg (by omega), if_neg (by omega), if_neg (by omega), if_neg (by omega), if_neg (by omega), if_pos h]
theorem opr_no {m : Mod} {k : Nat} {i : Ins} (h1 : ¬ i.op = 12) (h2 : ¬ (i.op = 14 ∨ i.op = 24)) (h3 : ¬ i.op = 16) (h4 : ¬ (i.op = 22 ∨ i.op = 23)) (h5 : ¬ i.op = 25) (h6 : ¬ i.op = 26) : oprB m k i = true := by unfold oprB; rw [if_neg h1, if_neg h2, if_neg h3, if_neg h4, if_neg h5, if_neg h6]
theorem val_call {i : Ins} (hv : validI i false = true) (h : i.op = 25 ∨ i.op = 26) : 0 ≤ i.a := by
  obtain ⟨op, a, b⟩ := i
  simp only at h ⊢
  rcases h with rfl | rfl <;> (simp [validI, inR, rngs, mosts] at hv; omega)
theorem asc_last {l : List Int} (h : AscI l) {k : Int} {x : Int} (hx : l[l.length - 1]? = some x) : (l.all fun t => decide (t < k)) = decide (x < k) := by
  refine Bool.eq_iff_iff.2 ?_
  rw [List.all_eq_true, decide_eq_true_eq]
  refine ⟨fun q => of_decide_eq_true (q x (List.mem_of_getElem? hx)), fun q y hy => decide_eq_true ?_⟩
  obtain ⟨i, hi⟩ := List.mem_iff_getElem?.1 hy
  obtain ⟨h1, rfl⟩ := List.getElem?_eq_some_iff.1 hi
  obtain ⟨h2, rfl⟩ := List.getElem?_eq_some_iff.1 hx
  rcases Nat.lt_or_ge i (l.length - 1) with p | p
  · have := List.pairwise_iff_getElem.1 h i (l.length - 1) h1 h2 p
    omega
  · have e : i = l.length - 1 := by omega
    subst e; exact q
theorem r5_operand (m : Mod) (a : MA) (k : Nat) (i : Ins) (hv : validI i false = true) (hk : k ≤ m.methods.length) (hT : ∀ c ∈ m.classes, (c.table.length : Int) = m.sels) (w : World) (hM : MdR T w m a) :
    Ret Tryz.prog 117 #[.agg (modcells m a).toArray, I k, .agg (encIns i).toArray] w fun v w' => v = .bool (oprB m k i) ∧ Bl w w' := by
  have hbig := hM.cls.big
  refine entr (vs := [.agg (modcells m a).toArray, I k, .agg (encIns i).toArray]) [0, 1, 2, 3, 5, 6, 7, 9, 10, 23, 32, 40, 49, 65, 71] tabok Tryz.func117 (by kernel_rfl) ?_
  refine bx (cs := modcells m a) fun b1 w1 k1 => ?_
  refine bx (cs := encIns i) fun b2 w2 k2 => ?_
  have B2 := k1.bl.trans k2.bl
  have x1 := Bl.box k2.bl k1.box
  have x2 := k2.box
  refine ld (x2.cell rfl) ?_
  by_cases h12 : i.op = 12
  · refine brT ?_ (hp := h12)
    refine ld (x2.cell rfl) ?_
    refine ldg (fun _ => x2.cell rfl) ?_
    refine ldg (fun _ => x1.cell rfl) ?_
    refine rt1 ⟨congrArg Value.bool (opr_nul h12).symm, B2⟩
  refine brF ?_ (hp := h12)
  by_cases h14 : i.op = 14
  · refine brT ?_ (hp := h14)
    refine brT ?_ (hp := h14)
    refine ld (x2.cell rfl) ?_
    refine ld (x1.cell rfl) ?_
    refine rt1 ⟨congrArg Value.bool (opr_new (.inl h14)).symm, B2⟩
  refine brF ?_ (hp := h14)
  by_cases h24 : i.op = 24
  · refine brT ?_ (hp := h24)
    refine ld (x2.cell rfl) ?_
    refine ld (x1.cell rfl) ?_
    refine rt1 ⟨congrArg Value.bool (opr_new (.inr h24)).symm, B2⟩
  refine brF ?_ (hp := h24)
  by_cases h16 : i.op = 16
  · refine brT ?_ (hp := h16)
    refine ld (x2.cell rfl) ?_
    refine ld (x1.cell rfl) ?_
    refine rt1 ⟨congrArg Value.bool (opr_rfs h16).symm, B2⟩
  refine brF ?_ (hp := h16)
  by_cases h22 : i.op = 22
  · refine brT ?_ (hp := h22)
    refine brT ?_ (hp := h22)
    refine ld (x2.cell rfl) ?_
    refine ld (x1.cell rfl) ?_
    refine rt1 ⟨congrArg Value.bool (opr_sta (.inl h22)).symm, B2⟩
  refine brF ?_ (hp := h22)
  by_cases h23 : i.op = 23
  · refine brT ?_ (hp := h23)
    refine ld (x2.cell rfl) ?_
    refine ld (x1.cell rfl) ?_
    refine rt1 ⟨congrArg Value.bool (opr_sta (.inr h23)).symm, B2⟩
  refine brF ?_ (hp := h23)
  by_cases h25 : i.op = 25
  · refine brT ?_ (hp := h25)
    have h0 := val_call hv (.inl h25)
    refine ld (x2.cell rfl) ?_
    by_cases hlt : i.a < k
    · obtain ⟨j, hj⟩ := Int.eq_ofNat_of_zero_le h0
      obtain ⟨y, b, o, cs, hy, e2, _, hAt, a3, c3, a4, c4, a5, c5, rfl, _⟩ := at_some (hM.bl B2).mth (i := j) (by omega)
      refine ldg (fun _ => x1.cell rfl) ?_
      refine ldg (fun _ => x2.cell rfl) ?_
      rw [e2]
      refine ixg (j := j) (len := m.methods.length) (fun _ => by omega) ?_ (hij := hj)
      refine ldg (fun _ => hAt 1 _ rfl) ?_
      refine rt1 ⟨congrArg Value.bool ?_, B2⟩
      rw [opr_cal h25]
      congr 1
      unfold mcl
      rw [hj, Int.toNat_natCast, hy]; rfl
    · refine spn (.slice none 0 0) ?_ (hb := by simp; omega)
      refine spn (I 0) ?_ (hb := by simp; omega)
      refine spn (.pointer (some ⟨0, 0, none⟩)) ?_ (hb := by simp; omega)
      refine spn (I 0) ?_ (hb := by simp; omega)
      refine rt1 ⟨congrArg Value.bool ?_, B2⟩
      rw [opr_cal h25, decide_eq_false hlt]; rfl
  refine brF ?_ (hp := h25)
  by_cases h26 : i.op = 26
  · refine brT ?_ (hp := h26)
    have h0 := val_call hv (.inr h26)
    refine ld (x2.cell rfl) ?_
    refine ld (x1.cell rfl) ?_
    by_cases hlt : i.a < m.sels
    · refine brF ?_
      obtain ⟨j, hj⟩ := Int.eq_ofNat_of_zero_le h0
      refine lda x1.at ?_
      refine ld (x2.cell rfl) ?_
      rw [hj]
      refine cl (r5_targets m a j (fun c hc => by have := hT c hc; omega) w2 (hM.bl B2)) ?_ (hm := fun _ _ r => by obtain ⟨_, _, _, _, hB⟩ := r; exact mdW_bl hB)
      rintro _ w3 ⟨a3, c3, rfl, hS, B3⟩
      have hlen := trg_len (m := m) j
      rw [opr_snd h26, hj, Int.toNat_natCast, decide_eq_true (show (j : Int) < m.sels by omega), Bool.true_and]
      by_cases hz : (trgM m j).length = 0
      · refine spn (.pointer (some ⟨0, 0, none⟩)) ?_ (hb := by rw [hz]; rfl)
        refine spn (I 0) ?_ (hb := by rw [hz]; rfl)
        refine rt1 ⟨congrArg Value.bool ?_, B2.trans B3⟩
        rw [hz, List.eq_nil_of_length_eq_zero hz]; rfl
      · obtain ⟨x, b, o, cs, hx, e3, _, hAt, rfl⟩ := at_some hS (i := (trgM m j).length - 1) (by omega)
        have ew : IntKind.wrap .i64 (((trgM m j).length : Int) - 1) = (((trgM m j).length - 1 : Nat) : Int) := by rw [wrap_fit (by omega) (by omega)]; omega
        rw [e3]
        refine ixg (j := (trgM m j).length - 1) (len := (trgM m j).length) (fun _ => by omega) ?_ (hij := ew)
        refine ldg (fun _ => hAt 0 _ rfl) ?_
        refine rt1 ⟨congrArg Value.bool ?_, B2.trans B3⟩
        rw [asc_last (l := trgM m j) (srtI_asc _) hx, decide_eq_false (show ¬ ((trgM m j).length : Int) = 0 by omega)]; rfl
    · refine brT ?_
      refine rt1 ⟨congrArg Value.bool ?_, B2⟩
      rw [opr_snd h26, decide_eq_false hlt]; rfl
  refine brF ?_ (hp := h26)
  refine rt1 ⟨congrArg Value.bool (opr_no h12 (by omega) h16 (by omega) h25 h26).symm, B2⟩
end Go.Proofs.YtkmdfjpafkcleaaGreatDoor

/- Walks: targets and operands, in the program's checker. -/
namespace Go.Proofs.YtkmdfjpafkcleaaGreatDoor
open Eng Go.RowKit
theorem sortI_len (l : List Int) : (sortI l).length = l.length := by unfold sortI; rw [List.length_mergeSort]
theorem k_targets (m : Mod) (a : MA) (s : Nat) (hT : ∀ c ∈ m.classes, s < c.table.length) (w : World) (hM : MdR T w m a) :
    Ret Tryz.prog 71 #[.agg (modcells m a).toArray, I s] w fun v w' => ∃ a c, v = .slice a (trgM m s).length c ∧ OwP 1 encInt w' w.heap.size 3 a c (trgM m s) ∧ Bl w w' := by
  have hbig := hM.cls.big
  refine entr (vs := [.agg (modcells m a).toArray, I s]) [0, 1, 2, 4, 5, 7, 8, 10, 11, 12, 13, 22] tabok Tryz.func71 (by kernel_rfl) ?_
  refine bx (cs := modcells m a) fun b1 w1 k1 => ?_
  have x1 := k1.box
  have y1 := k1.blk
  have z1 := k1.size
  refine ld (x1.cell rfl) ?_
  obtain ⟨ac, eac⟩ : ∃ ac, a.a1 = ac := ⟨_, rfl⟩
  rw [eac]
  refine lpk m.classes.length 12 [5] [(1, I s), (2, .pointer (some ⟨b1, 0, none⟩)), (10, .slice ac m.classes.length a.c1), (11, I m.classes.length)] (fun k vals w' => ∃ a c, vals = [.slice a (rT s (m.classes.take k)).length c] ∧ OwP 1 encInt w' w1.heap.size 3 a c (rT s (m.classes.take k)) ∧ Bl w1 w') ⟨none, 0, rfl, Ow.nil .., Bl.refl _⟩ ?_
  rintro k vals w2 hk ⟨a2, c2, rfl, O2, B2⟩ ih
  have B02 := k1.bl.trans B2
  have z2 := B2.size
  by_cases hlt : k < m.classes.length
  · refine brT ?_
    obtain ⟨c, b, o, cs, hc, e2, _, hAt, a3, c3, a4, c4, rfl, _, hF, _⟩ := at_some (hM.bl B02).cls hlt
    have hcm := List.mem_of_getElem? hc
    obtain ⟨n, b5, o5, cs5, hn, e5, _, hA5, rfl⟩ := at_some hF (hT c hcm)
    obtain rfl : ac = some ⟨b, o, none⟩ := by rw [← eac, e2]
    refine ix ?_
    refine lda hAt ?_
    refine al fun b7 w3 h3 => ?_
    refine sta (cs' := mccells c a3 c3 a4 c4) h3.box fun w4 k4 x4 => ?_
    have B24 := h3.wr k4
    have z4 := B24.size
    refine ld (x4.cell rfl) ?_
    rw [e5]
    refine ix (j := s) ?_ (hb := hT c hcm)
    refine ld (hA5.bl B24 0 _ rfl) ?_
    have hl := rT_len s (m.classes.take k)
    rw [List.length_take] at hl
    by_cases h0 : 0 ≤ n
    · refine brT ?_ (hp := h0)
      refine bs (cs := encInt n) fun b6 w6 k6 => ?_
      have B26 := B24.trans k6.bl
      have z6 := k6.size
      refine apl (l1 := [n]) (O2.bl B26) (.inr ⟨b6, 0, rfl, k6.box.at⟩) (by omega) fun a7 c7 w7 O7 A7 _ => ?_
      have e7 : rT s (m.classes.take (k + 1)) = rT s (m.classes.take k) ++ [n] := by rw [rT_snoc hc hn, if_pos h0]
      refine ih hlt ⟨a7, c7, by rw [e7], by rw [e7]; exact O7, Below.trans (B2.trans B26) (A7.below (by omega) fun g hg => (O2.lt hg).1)⟩
    · refine brF ?_ (hp := h0)
      have e7 : rT s (m.classes.take (k + 1)) = rT s (m.classes.take k) := by rw [rT_snoc hc hn, if_neg h0, List.append_nil]
      exact ih hlt ⟨a2, c2, by rw [e7], by rw [e7]; exact O2.bl B24, B2.trans B24⟩
  refine brF ?_
  obtain rfl : k = m.classes.length := by omega
  rw [List.take_length] at O2 ⊢
  have hl := rT_len s m.classes
  refine cl (c_SortI (rT s m.classes) w1.heap.size a2 c2 w2 O2 (by omega)) ?_ (hm := by intros; trivial)
  rintro _ w3 ⟨O3, A3⟩
  rw [show (rT s m.classes).length = (sortI (rT s m.classes)).length from (sortI_len _).symm]
  refine cl (c_CompactI (sortI (rT s m.classes)) w1.heap.size a2 c2 w3 O3 (by rw [sortI_len]; omega)) ?_ (hm := by intros; trivial)
  rintro _ w4 ⟨rfl, O4, A4⟩
  have et : Lib.compact (sortI (rT s m.classes)) = trgM m s := compactI_srt _
  rw [et] at O4 ⊢
  refine rt1 ⟨a2, c2, rfl, O4.base (by omega), ?_⟩
  exact Below.trans (Below.trans B02 (A3.below B02.size fun g hg => by have := (O2.lt hg).1; omega)) (A4.below (by have := A3.size; have := B02.size; omega) fun g hg => by have := (O2.lt hg).1; omega)
theorem k_operand1 (x : Int) (k : Nat) (b : Nat) (w : World) (hx : w.cell? ⟨b, 0, none⟩ = some (I k)) : Ret Tryz.prog 226 #[I x, .pointer (some ⟨b, 0, none⟩)] w fun v w' => v = .bool (decide ((k : Int) ≤ x)) ∧ Bl w w' := by
  refine entr (vs := [I x, .pointer (some ⟨b, 0, none⟩)]) [0, 1, 3] tabok Tryz.func226 (by kernel_rfl) ?_
  refine ld hx ?_
  exact rt1 ⟨rfl, Bl.refl _⟩
end Go.Proofs.YtkmdfjpafkcleaaGreatDoor

/- Walks: the classes of a module, in the document. -/
namespace Go.Proofs.YtkmdfjpafkcleaaGreatDoor
open Eng Go.RowKit
set_option maxHeartbeats 4000000 in
theorem r5_classes (m : Mod) (a : MA) (w : World) (hM : MdR T w m a) (hc10 : m.classes.length ≤ 10) (_hm16 : m.methods.length ≤ 16) (hz0 : 0 ≤ m.sels) (hz1 : m.sels ≤ 16) :
    Ret Tryz.prog 51 #[.agg (modcells m a).toArray] w fun v w' => (∃ b, v = .bool b ∧ (b = true ↔ ∀ k x, m.classes[k]? = some x → ClsP m k x)) ∧ Bl w w' := by
  refine entr (vs := [.agg (modcells m a).toArray]) [0, 1, 2, 3, 4, 5, 6, 7, 12, 49, 52, 75, 79, 117, 170] tabok Tryz.func51 (by kernel_rfl) ?_
  refine bx (cs := modcells m a) fun b1 w1 k1 => ?_
  have x1 := k1.box
  refine lpk m.classes.length 3 [] [(1, .pointer (some ⟨b1, 0, none⟩))] (fun k vals w' => vals = [] ∧ (∀ i x, i < k → m.classes[i]? = some x → ClsP m i x) ∧ Bl w1 w') ⟨rfl, fun i x h => by omega, Bl.refl _⟩ ?_
  rintro k vals w2 hk ⟨rfl, hP, B2⟩ ih
  have y2 := Bl.box B2 x1
  have B02 := k1.bl.trans B2
  refine ld (y2.cell rfl) ?_
  by_cases hlt : k < m.classes.length
  rotate_left
  · refine brF ?_
    exact rt1 ⟨⟨true, rfl, ⟨fun _ i x hx => hP i x (by have := (List.getElem?_eq_some_iff.1 hx).1; omega) hx, fun _ => rfl⟩⟩, B02⟩
  refine brT ?_
  have hd : Desc m k := desc_of (by omega) hP
  obtain ⟨c, b, o, cs, hc, e2, _, hAt, a3, c3, a4, c4, rfl, hF, hTb, _, hcap⟩ := at_some (hM.bl B02).cls hlt
  have no : (ClsP m k c → False) → (false = true ↔ ∀ k x, m.classes[k]? = some x → ClsP m k x) := fun h => ⟨(fun q => (by cases q)), fun q => (h (q k c hc)).elim⟩
  refine ld (y2.cell rfl) ?_
  rw [e2]
  refine ix ?_
  refine lda hAt ?_
  refine al fun b4 w3 h3 => ?_
  refine sta (cs' := mccells c a3 c3 a4 c4) h3.box fun w4 k4 x4 => ?_
  have B24 := h3.wr k4
  have B4 := B2.trans B24
  have B04 := k1.bl.trans B4
  have y4 := Bl.box B24 y2
  have q1 := hF.big
  have q2 := hTb.big
  refine ld (x4.cell rfl) ?_
  refine ldg (fun _ => x4.cell rfl) ?_
  refine ldg (fun _ => x4.cell rfl) ?_
  by_cases hA : c.super < -1 ∨ (k : Int) ≤ c.super ∨ 7 < (c.fields.length : Int)
  · refine spn (.agg (modcells m a).toArray) ?_ (hb := by first | rfl | (simp; done) | (simp; omega))
    refine ldg (fun _ => x4.cell rfl) ?_
    refine spn (.bool false) ?_ (hb := by first | rfl | (simp; done) | (simp; omega))
    refine ldg (fun _ => x4.cell rfl) ?_
    refine ldg (fun _ => y4.cell rfl) ?_
    refine brt ?_ (hp := by first | rfl | (simp; done) | (simp; omega))
    exact rt1 ⟨⟨false, rfl, no fun q => by have := q.s1; have := q.s2; have := q.fl; omega⟩, B04⟩
  refine spt (.agg (modcells m a).toArray) ?_ (hb := by first | rfl | (simp; done) | (simp; omega))
  refine lda y4.at ?_
  refine ldg (fun _ => x4.cell rfl) ?_
  refine spt (.bool false) ?_
  refine cl (r5_types m a c.fields a3 c3 w4 (hF.bl B24)) ?_
  rintro _ w5 ⟨rfl, B45⟩
  have B5 := B4.trans B45
  have B05 := B04.trans B45
  have y5 := Bl.box B45 y4
  have x5 := Bl.box B45 x4
  refine ldg (fun _ => x5.cell rfl) ?_
  refine ldg (fun _ => y5.cell rfl) ?_
  refine br (fun h => ?_) (fun h => ?_)
  · refine rt1 ⟨⟨false, rfl, no fun q => ?_⟩, B05⟩
    rw [List.all_eq_true.2 q.ft] at h
    simp [q.tl] at h
  have hft : (c.fields.all fun t => ityp m t 1) = true := by
    cases hb : c.fields.all fun t => ityp m t 1 with
    | true => rfl
    | false => rw [hb] at h; simp at h
  have htl : (c.table.length : Int) = m.sels := by
    rw [hft] at h; simpa using h
  clear h
  refine ld (x5.cell rfl) ?_
  obtain ⟨n, hn⟩ := Int.eq_ofNat_of_zero_le hz0
  apply Eng.jlk n 6 [] [(1, .pointer (some ⟨b1, 0, none⟩)), (3, I k), (4, .pointer (some ⟨b4, 0, none⟩))] (fun s vals w' => vals = [] ∧ (0 ≤ c.super → ∀ y, m.classes[c.super.toNat]? = some y → y.fields.length ≤ c.fields.length ∧ c.fields.take y.fields.length = y.fields) ∧
    (∀ (i : Nat) x, i < s → c.table[i]? = some x → EntP m k c i x) ∧ Bl w5 w') (hn := by omega)
  case hb =>
    intro J
    by_cases hs : 0 ≤ c.super
    · refine brT ?_
      obtain ⟨j, hj⟩ := Int.eq_ofNat_of_zero_le hs
      obtain ⟨u, b6, o6, cs6, hu, e6, _, hA6, a7, c7, a8, c8, rfl, hF6, hT6, _⟩ := at_some (hM.bl B05).cls (i := j) (by omega)
      have q3 := hF6.big
      have huj : m.classes[c.super.toNat]? = some u := by rw [hj, Int.toNat_natCast]; exact hu
      refine ld (y5.cell rfl) ?_
      refine ld (x5.cell rfl) ?_
      rw [e6]
      refine ix (j := j) ?_ (hij := hj) (hb := by omega)
      refine ld (hA6 2 _ rfl) ?_
      refine ld (x5.cell rfl) ?_
      by_cases hle : u.fields.length ≤ c.fields.length
      · refine ldg (fun _ => x5.cell rfl) ?_
        refine spt (.slice none 0 0) ?_ (hb := by first | rfl | (simp; done) | (simp; omega))
        refine sl 0 u.fields.length ?_
        refine spt (.bool false) ?_
        have eF : Sl eTy T w5 (if c3 = 0 then a3 else a3.map (·.add (0 * 2))) (c.fields.take u.fields.length) := by
          have e : (if c3 = 0 then a3 else a3.map (·.add (0 * 2))) = a3 := by
            split
            · rfl
            · cases a3 <;> simp [Addr.add]
          rw [e]
          exact ((hF.bl B24).bl B45).take _
        have el : u.fields.length - 0 = (c.fields.take u.fields.length).length := by rw [List.length_take]; omega
        rw [el]
        refine cl (r_SameTypes u.fields (c.fields.take u.fields.length) a7 _ c7 _ w5 hF6 eF) ?_
        rintro _ w6 ⟨rfl, B6⟩
        refine br (fun h => ?_) (fun h => ?_)
        · refine rt1 ⟨⟨false, rfl, no fun q => ?_⟩, B05.trans B6⟩
          have := (q.up hs u huj).2
          rw [this] at h
          simp at h
          try omega
        · have e7 : u.fields = c.fields.take u.fields.length := by
            cases hd : decide (u.fields = c.fields.take u.fields.length) with
            | true => exact of_decide_eq_true hd
            | false => rw [hd] at h; simp at h
          exact J ⟨rfl, fun _ y hy => by rw [huj] at hy; obtain rfl := Option.some.inj hy; exact ⟨hle, e7.symm⟩, fun i x h => by omega, B6⟩
      · refine ldg (fun _ => x5.cell rfl) ?_
        refine spn (.slice none 0 0) ?_ (hb := by first | rfl | (simp; done) | (simp; omega))
        refine spn (.bool false) ?_ (hb := by first | rfl | (simp; done) | (simp; omega))
        refine brt ?_ (hp := by first | rfl | (simp; done) | (simp; omega))
        exact rt1 ⟨⟨false, rfl, no fun q => hle (q.up hs u huj).1⟩, B05⟩
    · refine brF ?_
      exact J ⟨rfl, fun h => absurd h hs, fun i x h => by omega, Bl.refl _⟩
  case hr =>
    rintro s vals w6 hs16 ⟨rfl, hup, hen, B6⟩ ih2
    have y6 := Bl.box B6 y5
    have x6 := Bl.box B6 x5
    have B06 := B05.trans B6
    refine ld (y6.cell rfl) ?_
    by_cases hsl : s < n
    rotate_left
    · refine brF ?_ (hp := by omega)
      refine ih hlt ⟨rfl, fun i x hi hx => ?_, B5.trans B6⟩
      rcases Nat.lt_or_ge i k with q | q
      · exact hP i x q hx
      · obtain rfl : i = k := by omega
        rw [hc] at hx
        obtain rfl := Option.some.inj hx
        exact ⟨by omega, by omega, by omega, List.all_eq_true.1 hft, htl, fun s' n' h => hen s' n' (by have := (List.getElem?_eq_some_iff.1 h).1; omega) h, hup⟩
    refine brT ?_ (hp := by omega)
    have hTb6 := ((hTb.bl B24).bl B45).bl B6
    obtain ⟨v, b7, o7, cs7, hv, e7, _, hA7, rfl⟩ := at_some hTb6 (i := s) (by omega)
    refine ld (x6.cell rfl) ?_
    rw [e7]
    refine ix ?_ (hb := by omega)
    refine ld (hA7 0 _ rfl) ?_
    have noE : (EntP m k c s v → False) → (false = true ↔ ∀ k x, m.classes[k]? = some x → ClsP m k x) := fun h => no fun q => h (q.tb s v hv)
    refine ldg (fun _ => y6.cell rfl) ?_
    have next : ∀ w9, Bl w6 w9 → EntP m k c s v → (∀ (i : Nat) x, i < s + 1 → c.table[i]? = some x → EntP m k c i x) ∧ Bl w5 w9 := fun w9 B9 he => ⟨fun i x hi hx => by
      rcases Nat.lt_or_ge i s with q | q
      · exact hen i x q hx
      · obtain rfl : i = s := by omega
        rw [hv] at hx; obtain rfl := Option.some.inj hx; exact he, B6.trans B9⟩
    have hd1 : Desc m (k + 1) := ⟨by omega, fun i x hi hx => by
      rcases Nat.lt_or_ge i k with q | q
      · exact hd.2 i x q hx
      · obtain rfl : i = k := by omega
        rw [hc] at hx; obtain rfl := Option.some.inj hx; exact ⟨by omega, by omega⟩⟩
    by_cases hA : v < -1 ∨ (m.methods.length : Int) ≤ v
    · refine spn2 (I 0) ?_ (hn := by first | (simp; done) | (simp; omega))
      refine spn2 (.slice none 0 0) ?_ (hn := by first | (simp; done) | (simp; omega))
      refine spn2 (I 0) ?_ (hn := by first | (simp; done) | (simp; omega))
      refine spn2 (.pointer (some ⟨0, 0, none⟩)) ?_ (hn := by first | (simp; done) | (simp; omega))
      refine spn2 (.slice none 0 0) ?_ (hn := by first | (simp; done) | (simp; omega))
      refine spn2 (.pointer (some ⟨0, 0, none⟩)) ?_ (hn := by first | (simp; done) | (simp; omega))
      refine spn2 (I 0) ?_ (hn := by first | (simp; done) | (simp; omega))
      refine brt ?_ (hp := by first | rfl | (simp; done) | (simp; omega))
      exact rt1 ⟨⟨false, rfl, noE fun q => by have := q.lo; have := q.hi; omega⟩, B06⟩
    by_cases hneg : v = -1
    · refine ldg2 (fun _ _ => x6.cell rfl) ?_
      by_cases hs : 0 ≤ c.super
      · obtain ⟨j, hj⟩ := Int.eq_ofNat_of_zero_le hs
        obtain ⟨u, b8, o8, cs8, hu, e8, _, hA8, a9, c9, a10, c10, rfl, hF8, hT8, _⟩ := at_some (hM.bl B06).cls (i := j) (by omega)
        have huj : m.classes[c.super.toNat]? = some u := by rw [hj, Int.toNat_natCast]; exact hu
        have hPu := hP j u (by omega) hu
        have hlu : u.table.length = n := by have := hPu.tl; omega
        obtain ⟨q, b11, o11, cs11, hq, e11, _, hA11, rfl⟩ := at_some hT8 (i := s) (by omega)
        have hql := (hPu.tb s q hq).lo
        refine ldg2 (fun _ _ => y6.cell rfl) ?_
        refine ldg2 (fun _ _ => x6.cell rfl) ?_
        rw [e8]
        refine spt2 (.pointer (some ⟨0, 0, none⟩)) ?_ (hy := by first | (simp; done) | (simp; omega))
        refine ix (j := j) ?_ (hij := hj) (hb := by omega)
        refine ldg (fun _ => hA8 3 _ rfl) ?_
        rw [e11]
        refine spt (.pointer (some ⟨0, 0, none⟩)) ?_ (hb := by first | rfl | (simp; done) | (simp; omega))
        refine ix (j := s) ?_ (hb := by omega)
        refine ldg (fun _ => hA11 0 _ rfl) ?_
        by_cases hq1 : q = -1
        · refine brf ?_ (hp := by first | rfl | (simp; done) | (simp; omega))
          refine dh T (List.range 53) fun w8 h8 => ?_
          refine spn (.slice none 0 0) ?_ (hb := by first | rfl | (simp; done) | (simp; omega))
          refine spn (.pointer (some ⟨0, 0, none⟩)) ?_ (hb := by first | rfl | (simp; done) | (simp; omega))
          refine spn (I 0) ?_ (hb := by first | rfl | (simp; done) | (simp; omega))
          refine spn2 (.slice none 0 0) ?_ (hn := by first | (simp; done) | (simp; omega))
          refine spn2 (.pointer (some ⟨0, 0, none⟩)) ?_ (hn := by first | (simp; done) | (simp; omega))
          refine spn2 (I 0) ?_ (hn := by first | (simp; done) | (simp; omega))
          refine spn2 (.slice none 0 0) ?_ (hn := by first | (simp; done) | (simp; omega))
          refine spn2 (.agg (modcells m a).toArray) ?_ (hn := by first | (simp; done) | (simp; omega))
          refine spn2 (.slice none 0 0) ?_ (hn := by first | (simp; done) | (simp; omega))
          refine spn2 (.pointer (some ⟨0, 0, none⟩)) ?_ (hn := by first | (simp; done) | (simp; omega))
          refine spn2 (I 0) ?_ (hn := by first | (simp; done) | (simp; omega))
          refine spn2 (.bool false) ?_ (hn := by first | (simp; done) | (simp; omega))
          refine spn2 (.slice none 0 0) ?_ (hn := by first | (simp; done) | (simp; omega))
          refine spn2 (.slice none 0 0) ?_ (hn := by first | (simp; done) | (simp; omega))
          refine spn2 (.pointer (some ⟨0, 0, none⟩)) ?_ (hn := by first | (simp; done) | (simp; omega))
          refine spn2 (I 0) ?_ (hn := by first | (simp; done) | (simp; omega))
          refine spn2 (.pointer (some ⟨0, 0, none⟩)) ?_ (hn := by first | (simp; done) | (simp; omega))
          refine spn2 (.slice none 0 0) ?_ (hn := by first | (simp; done) | (simp; omega))
          refine spn2 (.pointer (some ⟨0, 0, none⟩)) ?_ (hn := by first | (simp; done) | (simp; omega))
          refine spn2 (I 0) ?_ (hn := by first | (simp; done) | (simp; omega))
          refine brf ?_ (hp := by first | rfl | (simp; done) | (simp; omega))
          have nx := next w8 h8.bl (⟨by omega, by omega, fun h => by omega, fun _ hs' y z hy hz => by rw [huj] at hy; obtain rfl := Option.some.inj hy; rw [hq] at hz; obtain rfl := Option.some.inj hz; omega⟩)
          exact ih2 hsl ⟨rfl, hup, nx.1, nx.2⟩
        · refine brt ?_ (hp := by first | rfl | (simp; done) | (simp; omega))
          exact rt1 ⟨⟨false, rfl, noE fun e => by have := e.up (by omega) hs u q huj hq; omega⟩, B06⟩
      · refine spn2 (.slice none 0 0) ?_ (hn := by first | (simp; done) | (simp; omega))
        refine spn2 (I 0) ?_ (hn := by first | (simp; done) | (simp; omega))
        refine spn2 (.pointer (some ⟨0, 0, none⟩)) ?_ (hn := by first | (simp; done) | (simp; omega))
        refine spn2 (.slice none 0 0) ?_ (hn := by first | (simp; done) | (simp; omega))
        refine spn2 (.pointer (some ⟨0, 0, none⟩)) ?_ (hn := by first | (simp; done) | (simp; omega))
        refine spn2 (I 0) ?_ (hn := by first | (simp; done) | (simp; omega))
        refine brf ?_ (hp := by first | rfl | (simp; done) | (simp; omega))
        refine dh T (List.range 53) fun w8 h8 => ?_
        refine spn (.slice none 0 0) ?_ (hb := by first | rfl | (simp; done) | (simp; omega))
        refine spn (.pointer (some ⟨0, 0, none⟩)) ?_ (hb := by first | rfl | (simp; done) | (simp; omega))
        refine spn (I 0) ?_ (hb := by first | rfl | (simp; done) | (simp; omega))
        refine spn2 (.slice none 0 0) ?_ (hn := by first | (simp; done) | (simp; omega))
        refine spn2 (.pointer (some ⟨0, 0, none⟩)) ?_ (hn := by first | (simp; done) | (simp; omega))
        refine spn2 (I 0) ?_ (hn := by first | (simp; done) | (simp; omega))
        refine spn2 (.slice none 0 0) ?_ (hn := by first | (simp; done) | (simp; omega))
        refine spn2 (.agg (modcells m a).toArray) ?_ (hn := by first | (simp; done) | (simp; omega))
        refine spn2 (.slice none 0 0) ?_ (hn := by first | (simp; done) | (simp; omega))
        refine spn2 (.pointer (some ⟨0, 0, none⟩)) ?_ (hn := by first | (simp; done) | (simp; omega))
        refine spn2 (I 0) ?_ (hn := by first | (simp; done) | (simp; omega))
        refine spn2 (.bool false) ?_ (hn := by first | (simp; done) | (simp; omega))
        refine spn2 (.slice none 0 0) ?_ (hn := by first | (simp; done) | (simp; omega))
        refine spn2 (.slice none 0 0) ?_ (hn := by first | (simp; done) | (simp; omega))
        refine spn2 (.pointer (some ⟨0, 0, none⟩)) ?_ (hn := by first | (simp; done) | (simp; omega))
        refine spn2 (I 0) ?_ (hn := by first | (simp; done) | (simp; omega))
        refine spn2 (.pointer (some ⟨0, 0, none⟩)) ?_ (hn := by first | (simp; done) | (simp; omega))
        refine spn2 (.slice none 0 0) ?_ (hn := by first | (simp; done) | (simp; omega))
        refine spn2 (.pointer (some ⟨0, 0, none⟩)) ?_ (hn := by first | (simp; done) | (simp; omega))
        refine spn2 (I 0) ?_ (hn := by first | (simp; done) | (simp; omega))
        refine brf ?_ (hp := by first | rfl | (simp; done) | (simp; omega))
        have nx := next w8 h8.bl (⟨by omega, by omega, fun h => by omega, fun _ hs' y z hy hz => absurd hs' hs⟩)
        exact ih2 hsl ⟨rfl, hup, nx.1, nx.2⟩
    · refine spn2 (I 0) ?_ (hn := by first | (simp; done) | (simp; omega))
      refine spn2 (.slice none 0 0) ?_ (hn := by first | (simp; done) | (simp; omega))
      refine spn2 (I 0) ?_ (hn := by first | (simp; done) | (simp; omega))
      refine spn2 (.pointer (some ⟨0, 0, none⟩)) ?_ (hn := by first | (simp; done) | (simp; omega))
      refine spn2 (.slice none 0 0) ?_ (hn := by first | (simp; done) | (simp; omega))
      refine spn2 (.pointer (some ⟨0, 0, none⟩)) ?_ (hn := by first | (simp; done) | (simp; omega))
      refine spn2 (I 0) ?_ (hn := by first | (simp; done) | (simp; omega))
      refine brf ?_ (hp := by first | rfl | (simp; done) | (simp; omega))
      have hv0 : 0 ≤ v := by omega
      obtain ⟨j, hj⟩ := Int.eq_ofNat_of_zero_le hv0
      obtain ⟨y, b8, o8, cs8, hy, e8, _, hA8, a9, c9, a10, c10, a11, c11, rfl, _⟩ := at_some (hM.bl B06).mth (i := j) (by omega)
      have hyj : m.methods[v.toNat]? = some y := by rw [hj, Int.toNat_natCast]; exact hy
      refine dh T (List.range 53) fun w8 h8 => ?_
      have y8 := h8.box y6
      have B68 := h8.bl
      have B08 := B06.trans B68
      have hA88 := hA8.bl B68
      refine ldg (fun _ => y8.cell rfl) ?_ (hm := trivial)
      rw [e8]
      refine ixg (j := j) (len := m.methods.length) (fun _ => by omega) ?_ (hij := hj)
      refine ldg (fun _ => hA88 1 _ rfl) ?_ (hm := trivial)
      by_cases ho : y.cls < 0
      · refine spn2 (.slice none 0 0) ?_ (hn := by first | (simp; done) | (simp; omega))
        refine spn2 (.pointer (some ⟨0, 0, none⟩)) ?_ (hn := by first | (simp; done) | (simp; omega))
        refine spn2 (I 0) ?_ (hn := by first | (simp; done) | (simp; omega))
        refine spn2 (.slice none 0 0) ?_ (hn := by first | (simp; done) | (simp; omega))
        refine spn2 (.agg (modcells m a).toArray) ?_ (hn := by first | (simp; done) | (simp; omega))
        refine spn2 (.slice none 0 0) ?_ (hn := by first | (simp; done) | (simp; omega))
        refine spn2 (.pointer (some ⟨0, 0, none⟩)) ?_ (hn := by first | (simp; done) | (simp; omega))
        refine spn2 (I 0) ?_ (hn := by first | (simp; done) | (simp; omega))
        refine spn2 (.bool false) ?_ (hn := by first | (simp; done) | (simp; omega))
        refine spn2 (.slice none 0 0) ?_ (hn := by first | (simp; done) | (simp; omega))
        refine spn2 (.slice none 0 0) ?_ (hn := by first | (simp; done) | (simp; omega))
        refine spn2 (.pointer (some ⟨0, 0, none⟩)) ?_ (hn := by first | (simp; done) | (simp; omega))
        refine spn2 (I 0) ?_ (hn := by first | (simp; done) | (simp; omega))
        refine spn2 (.pointer (some ⟨0, 0, none⟩)) ?_ (hn := by first | (simp; done) | (simp; omega))
        refine spn2 (.slice none 0 0) ?_ (hn := by first | (simp; done) | (simp; omega))
        refine spn2 (.pointer (some ⟨0, 0, none⟩)) ?_ (hn := by first | (simp; done) | (simp; omega))
        refine spn2 (I 0) ?_ (hn := by first | (simp; done) | (simp; omega))
        refine brt ?_ (hp := by first | rfl | (simp; done) | (simp; omega))
        refine rt1 ⟨⟨false, rfl, noE fun e => ?_⟩, B08⟩
        obtain ⟨y', z, e1, e2, _⟩ := e.own hv0
        rw [hyj] at e1; obtain rfl := Option.some.inj e1
        have := (upM_mem_le hd1 (by omega) e2).1
        omega
      obtain ⟨o, ho'⟩ := Int.eq_ofNat_of_zero_le (show 0 ≤ y.cls by omega)
      refine ldg2 (fun _ _ => y8.cell rfl) ?_ (hm := trivial)
      rw [e8]
      refine spt2 (.pointer (some ⟨0, 0, none⟩)) ?_ (hy := by first | (simp; done) | (simp; omega))
      refine ix (j := j) ?_ (hij := hj) (hb := by omega)
      refine ldg (fun _ => hA88 1 _ rfl) ?_ (hm := trivial)
      refine ldg (fun _ => y8.cell rfl) ?_ (hm := trivial)
      by_cases hw : (m.classes.length : Int) ≤ y.cls
      · refine spn2 (.agg (modcells m a).toArray) ?_ (hn := by first | (simp; done) | (simp; omega))
        refine spn2 (.slice none 0 0) ?_ (hn := by first | (simp; done) | (simp; omega))
        refine spn2 (.pointer (some ⟨0, 0, none⟩)) ?_ (hn := by first | (simp; done) | (simp; omega))
        refine spn2 (I 0) ?_ (hn := by first | (simp; done) | (simp; omega))
        refine spn2 (.bool false) ?_ (hn := by first | (simp; done) | (simp; omega))
        refine spn2 (.slice none 0 0) ?_ (hn := by first | (simp; done) | (simp; omega))
        refine spn2 (.slice none 0 0) ?_ (hn := by first | (simp; done) | (simp; omega))
        refine spn2 (.pointer (some ⟨0, 0, none⟩)) ?_ (hn := by first | (simp; done) | (simp; omega))
        refine spn2 (I 0) ?_ (hn := by first | (simp; done) | (simp; omega))
        refine spn2 (.pointer (some ⟨0, 0, none⟩)) ?_ (hn := by first | (simp; done) | (simp; omega))
        refine spn2 (.slice none 0 0) ?_ (hn := by first | (simp; done) | (simp; omega))
        refine spn2 (.pointer (some ⟨0, 0, none⟩)) ?_ (hn := by first | (simp; done) | (simp; omega))
        refine spn2 (I 0) ?_ (hn := by first | (simp; done) | (simp; omega))
        refine brt ?_ (hp := by first | rfl | (simp; done) | (simp; omega))
        refine rt1 ⟨⟨false, rfl, noE fun e => ?_⟩, B08⟩
        obtain ⟨y', z, e1, e2, _⟩ := e.own hv0
        rw [hyj] at e1; obtain rfl := Option.some.inj e1
        have := (upM_mem_le hd1 (by omega) e2).2
        omega
      refine spt2 (.agg (modcells m a).toArray) ?_ (hy := by first | (simp; done) | (simp; omega))
      refine lda y8.at ?_ (hm := trivial)
      refine ldg (fun _ => y8.cell rfl) ?_ (hm := trivial)
      rw [e8]
      refine spt (.pointer (some ⟨0, 0, none⟩)) ?_ (hb := by first | rfl | (simp; done) | (simp; omega))
      refine ix (j := j) ?_ (hij := hj) (hb := by omega)
      refine ldg (fun _ => hA88 1 _ rfl) ?_ (hm := trivial)
      refine spt (.bool false) ?_ (hb := by first | rfl | (simp; done) | (simp; omega))
      refine cl (r5_above m a hd1 (k : Int) y.cls (by omega) (by omega) w8 (hM.bl B08)) ?_
      rintro _ w12 ⟨rfl, B812⟩
      have B612 := B68.trans B812
      have B012 := B08.trans B812
      have y12 := Bl.box B812 y8
      have hA12 := hA88.bl B812
      by_cases hin : y.cls ∈ upM m k
      · have hok : y.cls ≤ k := (upM_mem_le hd1 (by omega) hin).2
        obtain ⟨z, b13, o13, cs13, hz, e13, _, hA13, a14, c14, a15, c15, rfl, _, hT13, _⟩ := at_some (hM.bl B012).cls (i := o) (by omega)
        have hzj : m.classes[y.cls.toNat]? = some z := by rw [ho', Int.toNat_natCast]; exact hz
        have hlz : z.table.length = n := by
          rcases Nat.lt_or_ge o k with q | q
          · have := (hP o z q hz).tl; omega
          · obtain rfl : o = k := by omega
            rw [hc] at hz; obtain rfl := Option.some.inj hz; omega
        obtain ⟨q, b16, o16, cs16, hq, e16, _, hA16, rfl⟩ := at_some hT13 (i := s) (by omega)
        rw [decide_eq_true hin]
        refine ldg2 (fun _ _ => y12.cell rfl) ?_ (hm := trivial)
        refine ldg2 (fun _ _ => y12.cell rfl) ?_ (hm := trivial)
        rw [e8]
        refine spt2 (.pointer (some ⟨0, 0, none⟩)) ?_ (hy := by first | (simp; done) | (simp; omega))
        refine ix (j := j) ?_ (hij := hj) (hb := by omega)
        refine ldg (fun _ => hA12 1 _ rfl) ?_ (hm := trivial)
        rw [e13]
        refine spt (.pointer (some ⟨0, 0, none⟩)) ?_ (hb := by first | rfl | (simp; done) | (simp; omega))
        refine ix (j := o) ?_ (hij := ho') (hb := by omega)
        refine ldg (fun _ => hA13 3 _ rfl) ?_ (hm := trivial)
        rw [e16]
        refine spt (.pointer (some ⟨0, 0, none⟩)) ?_ (hb := by first | rfl | (simp; done) | (simp; omega))
        refine ix (j := s) ?_ (hb := by omega)
        refine ldg (fun _ => hA16 0 _ rfl) ?_ (hm := trivial)
        by_cases hqv : q = v
        · refine brf ?_ (hp := by first | rfl | (simp; done) | (simp; omega))
          have nx := next w12 B612 ⟨by omega, by omega, fun _ => ⟨y, z, hyj, hin, hzj, by rw [hq, hqv]⟩, fun h => by omega⟩
          exact ih2 hsl ⟨rfl, hup, nx.1, nx.2⟩
        · refine brt ?_ (hp := by first | rfl | (simp; done) | (simp; omega))
          refine rt1 ⟨⟨false, rfl, noE fun e => ?_⟩, B012⟩
          obtain ⟨y', z', e1, e2, e3, e4⟩ := e.own hv0
          rw [hyj] at e1; obtain rfl := Option.some.inj e1
          rw [hzj] at e3; obtain rfl := Option.some.inj e3
          rw [hq] at e4
          exact hqv (Option.some.inj e4)
      · rw [decide_eq_false hin]
        refine spn2 (.slice none 0 0) ?_ (hn := by first | (simp; done) | (simp; omega))
        refine spn2 (.slice none 0 0) ?_ (hn := by first | (simp; done) | (simp; omega))
        refine spn2 (.pointer (some ⟨0, 0, none⟩)) ?_ (hn := by first | (simp; done) | (simp; omega))
        refine spn2 (I 0) ?_ (hn := by first | (simp; done) | (simp; omega))
        refine spn2 (.pointer (some ⟨0, 0, none⟩)) ?_ (hn := by first | (simp; done) | (simp; omega))
        refine spn2 (.slice none 0 0) ?_ (hn := by first | (simp; done) | (simp; omega))
        refine spn2 (.pointer (some ⟨0, 0, none⟩)) ?_ (hn := by first | (simp; done) | (simp; omega))
        refine spn2 (I 0) ?_ (hn := by first | (simp; done) | (simp; omega))
        refine brt ?_ (hp := by first | rfl | (simp; done) | (simp; omega))
        refine rt1 ⟨⟨false, rfl, noE fun e => ?_⟩, B012⟩
        obtain ⟨y', z', e1, e2, e3, e4⟩ := e.own hv0
        rw [hyj] at e1; obtain rfl := Option.some.inj e1
        exact hin e2
end Go.Proofs.YtkmdfjpafkcleaaGreatDoor

/- Walks: the methods of a module, in the document. -/
namespace Go.Proofs.YtkmdfjpafkcleaaGreatDoor
open Eng Go.RowKit
theorem code_all {l : List Ins} {p : Bool} (h : codeE l p = 0) : ∀ i ∈ l, validI i p = true := by
  unfold codeE at h
  split at h
  · cases h
  · split at h
    · rename_i h2; exact List.all_eq_true.1 h2
    · cases h
def nslots (x : MM) : Int := (x.params.length : Int) + x.locals.length + (if 0 ≤ x.cls then 1 else 0)
set_option maxHeartbeats 4000000 in
theorem r5_isMethod (m : Mod) (a : MA) (k : Nat) (x : MM) (w : World) (hM : MdR T w m a) (hx : m.methods[k]? = some x) (_hc10 : m.classes.length ≤ 10) (_hm16 : m.methods.length ≤ 16) (hT : ∀ c ∈ m.classes, (c.table.length : Int) = m.sels) :
    Ret Tryz.prog 53 #[.agg (modcells m a).toArray, I k] w fun v w' => (∃ b, v = .bool b ∧ (b = true ↔ MthP m k x)) ∧ Bl w w' := by
  have hlt : k < m.methods.length := (List.getElem?_eq_some_iff.1 hx).1
  obtain ⟨x', b, o, cs, hx', e2, _, hAt, a3, c3, a4, c4, a5, c5, rfl, f1, f2, f3, _⟩ := at_some hM.mth hlt
  obtain rfl : x = x' := by rw [hx] at hx'; exact Option.some.inj hx'
  have q1 := f1.big
  have q2 := f2.big
  have q3 := f3.big
  have no : (MthP m k x → False) → (false = true ↔ MthP m k x) := fun h => ⟨(fun q => (by cases q)), fun q => (h q).elim⟩
  refine entr (vs := [.agg (modcells m a).toArray, I k]) [0, 1, 2, 4, 5, 6, 7, 22, 66, 70, 75, 86] tabok Tryz.func53 (by kernel_rfl) ?_
  refine bx (cs := modcells m a) fun b1 w1 k1 => ?_
  have x1 := k1.box
  refine ld (x1.cell rfl) ?_
  rw [e2]
  refine ix ?_
  refine lda (hAt.bl k1.bl) ?_
  refine al fun b5 w2 h2 => ?_
  refine sta (cs' := mmcells x a3 c3 a4 c4 a5 c5) h2.box fun w3 k3 x3 => ?_
  have B13 := h2.wr k3
  have B3 := k1.bl.trans B13
  have y3 := Bl.box B13 x1
  refine ld (x3.cell rfl) ?_
  refine ld (x3.cell rfl) ?_
  refine ld (x3.cell rfl) ?_
  rw [show IntKind.wrap .i64 ((x.params.length : Int) + x.locals.length) = (x.params.length : Int) + x.locals.length from wrap_fit (by omega) (by omega)]
  by_cases hc0 : 0 ≤ x.cls
  · refine brT ?_ (hp := hc0)
    refine ld (x3.cell rfl) ?_
    rw [show IntKind.wrap .i64 ((x.params.length : Int) + x.locals.length + 1) = nslots x from by rw [wrap_fit (by omega) (by omega)]; unfold nslots; rw [if_pos hc0]]
    refine ldg (fun _ => x3.cell rfl) ?_
    refine ldg (fun _ => y3.cell rfl) ?_
    refine ldg (fun _ => x3.cell rfl) ?_
    by_cases hA : x.cls < -1 ∨ (m.classes.length : Int) ≤ x.cls ∨ 4 < (x.params.length : Int) ∨ 10 < nslots x
    · refine spn (.agg (modcells m a).toArray) ?_ (hb := by first | rfl | (simp; done) | (simp; omega))
      refine ldg (fun _ => x3.cell rfl) ?_
      refine spn (.bool false) ?_ (hb := by first | rfl | (simp; done) | (simp; omega))
      refine spn (.agg (modcells m a).toArray) ?_ (hb := by first | rfl | (simp; done) | (simp; omega))
      refine ldg (fun _ => x3.cell rfl) ?_
      refine spn (.bool false) ?_ (hb := by first | rfl | (simp; done) | (simp; omega))
      refine spn (.agg (modcells m a).toArray) ?_ (hb := by first | rfl | (simp; done) | (simp; omega))
      refine spn (.agg (encTy x.result).toArray) ?_ (hb := by first | rfl | (simp; done) | (simp; omega))
      refine spn (.bool false) ?_ (hb := by first | rfl | (simp; done) | (simp; omega))
      refine brt ?_ (hp := by first | rfl | (simp; done) | (simp; omega))
      exact rt1 ⟨⟨false, rfl, no fun q => by have := q.c1; have := q.c2; have := q.pl; have := q.ll; unfold nslots at hA; omega⟩, B3⟩
    refine spt (.agg (modcells m a).toArray) ?_ (hb := by first | rfl | (simp; done) | (simp; omega))
    refine lda y3.at ?_
    refine ldg (fun _ => x3.cell rfl) ?_
    refine spt (.bool false) ?_ (hb := by first | rfl | (simp; done) | (simp; omega))
    refine cl (r5_types m a x.params a3 c3 w3 (f1.bl B3)) ?_
    rintro _ w4 ⟨rfl, B34⟩
    have B4 := B3.trans B34
    have x4 := Bl.box B34 x3
    have y4 := Bl.box B34 y3
    cases hp : x.params.all fun t => ityp m t 1 with
    | false =>
      refine spn (.agg (modcells m a).toArray) ?_ (hb := by first | rfl | (simp; done) | (simp; omega))
      refine ldg (fun _ => x4.cell rfl) ?_
      refine spn (.bool false) ?_ (hb := by first | rfl | (simp; done) | (simp; omega))
      refine spn (.agg (modcells m a).toArray) ?_ (hb := by first | rfl | (simp; done) | (simp; omega))
      refine spn (.agg (encTy x.result).toArray) ?_ (hb := by first | rfl | (simp; done) | (simp; omega))
      refine spn (.bool false) ?_ (hb := by first | rfl | (simp; done) | (simp; omega))
      refine brt ?_ (hp := by first | rfl | (simp; done) | (simp; omega))
      exact rt1 ⟨⟨false, rfl, no fun q => by rw [List.all_eq_true.2 q.pt] at hp; cases hp⟩, B4⟩
    | true =>
    refine spt (.agg (modcells m a).toArray) ?_ (hb := by first | rfl | (simp; done) | (simp; omega))
    refine lda y4.at ?_
    refine ldg (fun _ => x4.cell rfl) ?_
    refine spt (.bool false) ?_ (hb := by first | rfl | (simp; done) | (simp; omega))
    refine cl (r5_types m a x.locals a4 c4 w4 (f2.bl B4)) ?_
    rintro _ w5 ⟨rfl, B45⟩
    have B5 := B4.trans B45
    have x5 := Bl.box B45 x4
    have y5 := Bl.box B45 y4
    cases hl : x.locals.all fun t => ityp m t 1 with
    | false =>
      refine spn (.agg (modcells m a).toArray) ?_ (hb := by first | rfl | (simp; done) | (simp; omega))
      refine spn (.agg (encTy x.result).toArray) ?_ (hb := by first | rfl | (simp; done) | (simp; omega))
      refine spn (.bool false) ?_ (hb := by first | rfl | (simp; done) | (simp; omega))
      refine brt ?_ (hp := by first | rfl | (simp; done) | (simp; omega))
      exact rt1 ⟨⟨false, rfl, no fun q => by rw [List.all_eq_true.2 q.lt] at hl; cases hl⟩, B5⟩
    | true =>
    refine spt (.agg (modcells m a).toArray) ?_ (hb := by first | rfl | (simp; done) | (simp; omega))
    refine lda y5.at ?_
    refine spt (.agg (encTy x.result).toArray) ?_ (hb := by first | rfl | (simp; done) | (simp; omega))
    refine lda (At.left (cs := encTy x.result) x5.at.tail.tail.tail.tail) ?_
    refine spt (.bool false) ?_ (hb := by first | rfl | (simp; done) | (simp; omega))
    refine cl (r5_IsType m a x.result 0 (.inl rfl) w5) ?_
    rintro _ w6 ⟨rfl, B56⟩
    have B6 := B5.trans B56
    have x6 := Bl.box B56 x5
    have y6 := Bl.box B56 y5
    cases hr : ityp m x.result 0 with
    | false =>
      refine brt ?_ (hp := by first | rfl | (simp; done) | (simp; omega))
      exact rt1 ⟨⟨false, rfl, no fun q => by rw [q.rt] at hr; cases hr⟩, B6⟩
    | true =>
    refine brf ?_ (hp := by first | rfl | (simp; done) | (simp; omega))
    refine ld (x6.cell rfl) ?_
    refine cl (r3_Check x.code a5 c5 false T w6 (f3.bl B6)) ?_
    rintro _ w7 ⟨rfl, B67⟩
    have B7 := B6.trans B67
    have x7 := Bl.box B67 x6
    have y7 := Bl.box B67 y6
    by_cases hcd : codeE x.code false = 0
    rotate_left
    · refine brT ?_ (hp := hcd)
      exact rt1 ⟨⟨false, rfl, no fun q => hcd q.cd⟩, B7⟩
    refine brF ?_ (hp := by exact fun h => h hcd)
    have hval := code_all hcd
    refine lpk x.code.length 7 [] [(1, I k), (2, .pointer (some ⟨b1, 0, none⟩)), (5, .pointer (some ⟨b5, 0, none⟩))] (fun j vals w' => vals = [] ∧ (x.code.take j).all (oprB m k) = true ∧ Bl w7 w') ⟨rfl, rfl, Bl.refl _⟩ ?_
    rintro j vals w8 hj ⟨rfl, ha, B8⟩ ih
    have x8 := Bl.box B8 x7
    have y8 := Bl.box B8 y7
    have B08 := B7.trans B8
    refine ld (x8.cell rfl) ?_
    by_cases hjl : j < x.code.length
    · refine brT ?_
      obtain ⟨i, b9, o9, cs9, hi, e9, _, hA9, rfl⟩ := at_some (f3.bl B08) hjl
      refine dh T (List.range 9) fun w10 h10 => ?_
      have B810 := h10.bl
      refine lda (h10.box y8).at ?_ (hm := trivial)
      refine ld ((h10.box x8).cell rfl) ?_ (hm := trivial)
      rw [e9]
      refine ix ?_
      refine lda (hA9.bl B810) ?_ (hm := trivial)
      refine cl (r5_operand m a k i (hval i (List.mem_of_getElem? hi)) (by omega) hT w10 (hM.bl (B08.trans B810))) ?_
      rintro _ w11 ⟨rfl, B11⟩
      refine br (fun h => ?_) (fun h => ?_)
      · exact rt1 ⟨⟨false, rfl, no fun q => by rw [q.op i (List.mem_of_getElem? hi)] at h; cases h⟩, (B08.trans B810).trans B11⟩
      · exact ih hjl ⟨rfl, all_snoc' hi ha (by simpa using h), (B8.trans B810).trans B11⟩
    refine brF ?_
    obtain rfl : j = x.code.length := by omega
    exact rt1 ⟨⟨true, rfl, ⟨fun _ => ⟨by omega, by omega, by omega, by unfold nslots at hA; omega, List.all_eq_true.1 hp, List.all_eq_true.1 hl, hr, hcd, List.all_eq_true.1 (all_end ha)⟩, fun _ => rfl⟩⟩, B08⟩
  · refine brF ?_ (hp := hc0)
    rw [show (x.params.length : Int) + x.locals.length = nslots x from by unfold nslots; rw [if_neg hc0, Int.add_zero]]
    refine ld (x3.cell rfl) ?_
    refine ldg (fun _ => x3.cell rfl) ?_
    refine ldg (fun _ => y3.cell rfl) ?_
    refine ldg (fun _ => x3.cell rfl) ?_
    by_cases hA : x.cls < -1 ∨ (m.classes.length : Int) ≤ x.cls ∨ 4 < (x.params.length : Int) ∨ 10 < nslots x
    · refine spn (.agg (modcells m a).toArray) ?_ (hb := by first | rfl | (simp; done) | (simp; omega))
      refine ldg (fun _ => x3.cell rfl) ?_
      refine spn (.bool false) ?_ (hb := by first | rfl | (simp; done) | (simp; omega))
      refine spn (.agg (modcells m a).toArray) ?_ (hb := by first | rfl | (simp; done) | (simp; omega))
      refine ldg (fun _ => x3.cell rfl) ?_
      refine spn (.bool false) ?_ (hb := by first | rfl | (simp; done) | (simp; omega))
      refine spn (.agg (modcells m a).toArray) ?_ (hb := by first | rfl | (simp; done) | (simp; omega))
      refine spn (.agg (encTy x.result).toArray) ?_ (hb := by first | rfl | (simp; done) | (simp; omega))
      refine spn (.bool false) ?_ (hb := by first | rfl | (simp; done) | (simp; omega))
      refine brt ?_ (hp := by first | rfl | (simp; done) | (simp; omega))
      exact rt1 ⟨⟨false, rfl, no fun q => by have := q.c1; have := q.c2; have := q.pl; have := q.ll; unfold nslots at hA; omega⟩, B3⟩
    refine spt (.agg (modcells m a).toArray) ?_ (hb := by first | rfl | (simp; done) | (simp; omega))
    refine lda y3.at ?_
    refine ldg (fun _ => x3.cell rfl) ?_
    refine spt (.bool false) ?_ (hb := by first | rfl | (simp; done) | (simp; omega))
    refine cl (r5_types m a x.params a3 c3 w3 (f1.bl B3)) ?_
    rintro _ w4 ⟨rfl, B34⟩
    have B4 := B3.trans B34
    have x4 := Bl.box B34 x3
    have y4 := Bl.box B34 y3
    cases hp : x.params.all fun t => ityp m t 1 with
    | false =>
      refine spn (.agg (modcells m a).toArray) ?_ (hb := by first | rfl | (simp; done) | (simp; omega))
      refine ldg (fun _ => x4.cell rfl) ?_
      refine spn (.bool false) ?_ (hb := by first | rfl | (simp; done) | (simp; omega))
      refine spn (.agg (modcells m a).toArray) ?_ (hb := by first | rfl | (simp; done) | (simp; omega))
      refine spn (.agg (encTy x.result).toArray) ?_ (hb := by first | rfl | (simp; done) | (simp; omega))
      refine spn (.bool false) ?_ (hb := by first | rfl | (simp; done) | (simp; omega))
      refine brt ?_ (hp := by first | rfl | (simp; done) | (simp; omega))
      exact rt1 ⟨⟨false, rfl, no fun q => by rw [List.all_eq_true.2 q.pt] at hp; cases hp⟩, B4⟩
    | true =>
    refine spt (.agg (modcells m a).toArray) ?_ (hb := by first | rfl | (simp; done) | (simp; omega))
    refine lda y4.at ?_
    refine ldg (fun _ => x4.cell rfl) ?_
    refine spt (.bool false) ?_ (hb := by first | rfl | (simp; done) | (simp; omega))
    refine cl (r5_types m a x.locals a4 c4 w4 (f2.bl B4)) ?_
    rintro _ w5 ⟨rfl, B45⟩
    have B5 := B4.trans B45
    have x5 := Bl.box B45 x4
    have y5 := Bl.box B45 y4
    cases hl : x.locals.all fun t => ityp m t 1 with
    | false =>
      refine spn (.agg (modcells m a).toArray) ?_ (hb := by first | rfl | (simp; done) | (simp; omega))
      refine spn (.agg (encTy x.result).toArray) ?_ (hb := by first | rfl | (simp; done) | (simp; omega))
      refine spn (.bool false) ?_ (hb := by first | rfl | (simp; done) | (simp; omega))
      refine brt ?_ (hp := by first | rfl | (simp; done) | (simp; omega))
      exact rt1 ⟨⟨false, rfl, no fun q => by rw [List.all_eq_true.2 q.lt] at hl; cases hl⟩, B5⟩
    | true =>
    refine spt (.agg (modcells m a).toArray) ?_ (hb := by first | rfl | (simp; done) | (simp; omega))
    refine lda y5.at ?_
    refine spt (.agg (encTy x.result).toArray) ?_ (hb := by first | rfl | (simp; done) | (simp; omega))
    refine lda (At.left (cs := encTy x.result) x5.at.tail.tail.tail.tail) ?_
    refine spt (.bool false) ?_ (hb := by first | rfl | (simp; done) | (simp; omega))
    refine cl (r5_IsType m a x.result 0 (.inl rfl) w5) ?_
    rintro _ w6 ⟨rfl, B56⟩
    have B6 := B5.trans B56
    have x6 := Bl.box B56 x5
    have y6 := Bl.box B56 y5
    cases hr : ityp m x.result 0 with
    | false =>
      refine brt ?_ (hp := by first | rfl | (simp; done) | (simp; omega))
      exact rt1 ⟨⟨false, rfl, no fun q => by rw [q.rt] at hr; cases hr⟩, B6⟩
    | true =>
    refine brf ?_ (hp := by first | rfl | (simp; done) | (simp; omega))
    refine ld (x6.cell rfl) ?_
    refine cl (r3_Check x.code a5 c5 false T w6 (f3.bl B6)) ?_
    rintro _ w7 ⟨rfl, B67⟩
    have B7 := B6.trans B67
    have x7 := Bl.box B67 x6
    have y7 := Bl.box B67 y6
    by_cases hcd : codeE x.code false = 0
    rotate_left
    · refine brT ?_ (hp := hcd)
      exact rt1 ⟨⟨false, rfl, no fun q => hcd q.cd⟩, B7⟩
    refine brF ?_ (hp := by exact fun h => h hcd)
    have hval := code_all hcd
    refine lpk x.code.length 7 [] [(1, I k), (2, .pointer (some ⟨b1, 0, none⟩)), (5, .pointer (some ⟨b5, 0, none⟩))] (fun j vals w' => vals = [] ∧ (x.code.take j).all (oprB m k) = true ∧ Bl w7 w') ⟨rfl, rfl, Bl.refl _⟩ ?_
    rintro j vals w8 hj ⟨rfl, ha, B8⟩ ih
    have x8 := Bl.box B8 x7
    have y8 := Bl.box B8 y7
    have B08 := B7.trans B8
    refine ld (x8.cell rfl) ?_
    by_cases hjl : j < x.code.length
    · refine brT ?_
      obtain ⟨i, b9, o9, cs9, hi, e9, _, hA9, rfl⟩ := at_some (f3.bl B08) hjl
      refine dh T (List.range 9) fun w10 h10 => ?_
      have B810 := h10.bl
      refine lda (h10.box y8).at ?_ (hm := trivial)
      refine ld ((h10.box x8).cell rfl) ?_ (hm := trivial)
      rw [e9]
      refine ix ?_
      refine lda (hA9.bl B810) ?_ (hm := trivial)
      refine cl (r5_operand m a k i (hval i (List.mem_of_getElem? hi)) (by omega) hT w10 (hM.bl (B08.trans B810))) ?_
      rintro _ w11 ⟨rfl, B11⟩
      refine br (fun h => ?_) (fun h => ?_)
      · exact rt1 ⟨⟨false, rfl, no fun q => by rw [q.op i (List.mem_of_getElem? hi)] at h; cases h⟩, (B08.trans B810).trans B11⟩
      · exact ih hjl ⟨rfl, all_snoc' hi ha (by simpa using h), (B8.trans B810).trans B11⟩
    refine brF ?_
    obtain rfl : j = x.code.length := by omega
    exact rt1 ⟨⟨true, rfl, ⟨fun _ => ⟨by omega, by omega, by omega, by unfold nslots at hA; omega, List.all_eq_true.1 hp, List.all_eq_true.1 hl, hr, hcd, List.all_eq_true.1 (all_end ha)⟩, fun _ => rfl⟩⟩, B08⟩
end Go.Proofs.YtkmdfjpafkcleaaGreatDoor

/- Walks: the operands and the methods of a module, in the program's checker. -/
namespace Go.Proofs.YtkmdfjpafkcleaaGreatDoor
open Eng Go.RowKit
theorem val_a {i : Ins} (hv : validI i false = true) (h : i.op = 14 ∨ i.op = 24) : 0 ≤ i.a := by
  obtain ⟨op, a, b⟩ := i
  simp only at h ⊢
  rcases h with rfl | rfl <;> (simp [validI, inR, rngs, mosts] at hv; omega)
theorem val_b {i : Ins} (hv : validI i false = true) (h : i.op = 16 ∨ i.op = 12) : 0 ≤ i.b := by
  obtain ⟨op, a, b⟩ := i
  simp only at h ⊢
  rcases h with rfl | rfl <;> (simp [validI, inR, rngs, mosts] at hv; omega)
theorem k_operandM (m : Mod) (a : MA) (k : Nat) (i : Ins) (hv : validI i false = true) (hk : k ≤ m.methods.length) (hC : ∀ y ∈ m.methods, -1 ≤ y.cls) (hT : ∀ c ∈ m.classes, (c.table.length : Int) = m.sels) (w : World) (hM : MdR T w m a) :
    Ret Tryz.prog 175 #[.agg (modcells m a).toArray, I k, .agg (encIns i).toArray] w fun v w' => v = .bool (oprB m k i) ∧ Bl w w' := by
  have hbig := hM.cls.big
  refine entr (vs := [.agg (modcells m a).toArray, I k, .agg (encIns i).toArray]) [0, 1, 2, 3, 4, 5, 6, 8, 9, 16, 22, 33, 43, 60] tabok Tryz.func175 (by kernel_rfl) ?_
  refine bx (cs := modcells m a) fun b1 w1 k1 => ?_
  refine bx (cs := [I k]) fun b2 w2 k2 => ?_
  refine bx (cs := encIns i) fun b3 w3 k3 => ?_
  have B3 := (k1.bl.trans k2.bl).trans k3.bl
  have x1 := Bl.box (k2.bl.trans k3.bl) k1.box
  have x2 := Bl.box k3.bl k2.box
  have x3 := k3.box
  refine ld (x3.cell rfl) ?_
  by_cases h14 : i.op = 14
  · refine brT ?_ (hp := h14)
    refine brT ?_ (hp := h14)
    refine lda x1.at ?_
    refine ld (x3.cell rfl) ?_
    refine cl (k_isClass m a i.a w3 (by omega)) ?_
    rintro _ w4 ⟨rfl, B4⟩
    refine rt1 ⟨congrArg Value.bool ?_, B3.trans B4⟩
    rw [opr_new (.inl h14), decide_eq_true (val_a hv (.inl h14)), Bool.true_and]
  refine brF ?_ (hp := h14)
  by_cases h24 : i.op = 24
  · refine brT ?_ (hp := h24)
    refine lda x1.at ?_
    refine ld (x3.cell rfl) ?_
    refine cl (k_isClass m a i.a w3 (by omega)) ?_
    rintro _ w4 ⟨rfl, B4⟩
    refine rt1 ⟨congrArg Value.bool ?_, B3.trans B4⟩
    rw [opr_new (.inr h24), decide_eq_true (val_a hv (.inr h24)), Bool.true_and]
  refine brF ?_ (hp := h24)
  by_cases h16 : i.op = 16
  · refine brT ?_ (hp := h16)
    refine lda x1.at ?_
    refine ld (x3.cell rfl) ?_
    refine cl (k_isClass m a i.b w3 (by omega)) ?_
    rintro _ w4 ⟨rfl, B4⟩
    refine rt1 ⟨congrArg Value.bool ?_, B3.trans B4⟩
    rw [opr_rfs h16, decide_eq_true (val_b hv (.inl h16)), Bool.true_and]
  refine brF ?_ (hp := h16)
  by_cases h12 : i.op = 12
  · refine brT ?_ (hp := h12)
    refine ld (x3.cell rfl) ?_
    by_cases h3 : i.a = 3
    · refine spn (.agg (modcells m a).toArray) ?_ (hb := by first | rfl | (simp; done) | (simp; omega))
      refine spn (I 0) ?_ (hb := by first | rfl | (simp; done) | (simp; omega))
      refine spn (.bool false) ?_ (hb := by first | rfl | (simp; done) | (simp; omega))
      refine rt1 ⟨congrArg Value.bool ?_, B3⟩
      rw [opr_nul h12, decide_eq_true h3]; rfl
    · refine spt (.agg (modcells m a).toArray) ?_ (hb := by first | rfl | (simp; done) | (simp; omega))
      refine lda x1.at ?_
      refine ldg (fun _ => x3.cell rfl) ?_
      refine spt (.bool false) ?_ (hb := by first | rfl | (simp; done) | (simp; omega))
      refine cl (k_isClass m a i.b w3 (by omega)) ?_
      rintro _ w4 ⟨rfl, B4⟩
      refine rt1 ⟨congrArg Value.bool ?_, B3.trans B4⟩
      rw [opr_nul h12, decide_eq_true (val_b hv (.inr h12)), Bool.true_and, decide_eq_false h3]
  refine brF ?_ (hp := h12)
  by_cases h22 : i.op = 22
  · refine brT ?_ (hp := h22)
    refine brT ?_ (hp := h22)
    refine ld (x3.cell rfl) ?_
    refine ld (x1.cell rfl) ?_
    exact rt1 ⟨congrArg Value.bool (opr_sta (.inl h22)).symm, B3⟩
  refine brF ?_ (hp := h22)
  by_cases h23 : i.op = 23
  · refine brT ?_ (hp := h23)
    refine ld (x3.cell rfl) ?_
    refine ld (x1.cell rfl) ?_
    exact rt1 ⟨congrArg Value.bool (opr_sta (.inr h23)).symm, B3⟩
  refine brF ?_ (hp := h23)
  by_cases h25 : i.op = 25
  · refine brT ?_ (hp := h25)
    have h0 := val_call hv (.inl h25)
    refine ld (x3.cell rfl) ?_
    refine ld (x2.cell rfl) ?_
    by_cases hlt : i.a < k
    · obtain ⟨j, hj⟩ := Int.eq_ofNat_of_zero_le h0
      obtain ⟨y, b, o, cs, hy, e2, _, hAt, a3, c3, a4, c4, a5, c5, rfl, _⟩ := at_some (hM.bl B3).mth (i := j) (by omega)
      refine ldg (fun _ => x1.cell rfl) ?_
      refine ldg (fun _ => x3.cell rfl) ?_
      rw [e2]
      refine ixg (j := j) (len := m.methods.length) (fun _ => by omega) ?_ (hij := hj)
      refine ldg (fun _ => hAt 1 _ rfl) ?_
      refine rt1 ⟨congrArg Value.bool ?_, B3⟩
      have hcy := hC y (List.mem_of_getElem? hy)
      have em : mcl m i.a = y.cls := by unfold mcl; rw [hj, Int.toNat_natCast, hy]; rfl
      rw [opr_cal h25, em]
      congr 1
      exact decide_eq_decide.2 (by omega)
    · refine spn (.slice none 0 0) ?_ (hb := by first | rfl | (simp; done) | (simp; omega))
      refine spn (I 0) ?_ (hb := by first | rfl | (simp; done) | (simp; omega))
      refine spn (.pointer (some ⟨0, 0, none⟩)) ?_ (hb := by first | rfl | (simp; done) | (simp; omega))
      refine spn (I 0) ?_ (hb := by first | rfl | (simp; done) | (simp; omega))
      refine rt1 ⟨congrArg Value.bool ?_, B3⟩
      rw [opr_cal h25, decide_eq_false hlt]; rfl
  refine brF ?_ (hp := h25)
  by_cases h26 : i.op = 26
  · refine brT ?_ (hp := h26)
    have h0 := val_call hv (.inr h26)
    refine ld (x3.cell rfl) ?_
    refine ld (x1.cell rfl) ?_
    by_cases hlt : i.a < m.sels
    · obtain ⟨j, hj⟩ := Int.eq_ofNat_of_zero_le h0
      refine spt (.agg (modcells m a).toArray) ?_ (hb := by first | rfl | (simp; done) | (simp; omega))
      refine lda x1.at ?_
      refine ldg (fun _ => x3.cell rfl) ?_
      refine spt (.slice none 0 0) ?_ (hb := by first | rfl | (simp; done) | (simp; omega))
      rw [hj]
      refine cl (k_targets m a j (fun c hc => by have := hT c hc; omega) w3 (hM.bl B3)) ?_ (hm := fun _ _ r => by obtain ⟨_, _, _, _, hB⟩ := r; exact mdW_bl hB)
      rintro _ w4 ⟨a4, c4, rfl, O4, B4⟩
      have hlen := trg_len (m := m) j
      refine spt (.bool false) ?_ (hb := by first | rfl | (simp; done) | (simp; omega))
      refine cl (ContainsFunc_int (trgM m j) a4 c4 226 [.pointer (some ⟨b2, 0, none⟩)] (fun t => decide ((k : Int) ≤ t)) T w4 (owp_sl O4 (by omega) fun _ _ => trivial) fun t cs ht w' kk hr => ?_) ?_
      · obtain rfl : cs = encInt t := hr
        exact k_operand1 t k b2 w' ((Bl.box (B4.trans kk) x2).cell rfl)
      rintro _ w5 ⟨rfl, B5⟩
      refine rt1 ⟨congrArg Value.bool ?_, (B3.trans B4).trans B5⟩
      rw [opr_snd h26, hj, Int.toNat_natCast, decide_eq_true (show (j : Int) < m.sels by omega), Bool.true_and, Bool.true_and, List.not_any_eq_all_not]
      congr 1
      funext t
      rw [← decide_not]
      exact decide_eq_decide.2 (by omega)
    · refine spn (.agg (modcells m a).toArray) ?_ (hb := by first | rfl | (simp; done) | (simp; omega))
      refine spn (I 0) ?_ (hb := by first | rfl | (simp; done) | (simp; omega))
      refine spn (.slice none 0 0) ?_ (hb := by first | rfl | (simp; done) | (simp; omega))
      refine spn (.bool false) ?_ (hb := by first | rfl | (simp; done) | (simp; omega))
      refine rt1 ⟨congrArg Value.bool ?_, B3⟩
      rw [opr_snd h26, decide_eq_false hlt]; rfl
  refine brF ?_ (hp := h26)
  exact rt1 ⟨congrArg Value.bool (opr_no h12 (by omega) h16 (by omega) h25 h26).symm, B3⟩
end Go.Proofs.YtkmdfjpafkcleaaGreatDoor
