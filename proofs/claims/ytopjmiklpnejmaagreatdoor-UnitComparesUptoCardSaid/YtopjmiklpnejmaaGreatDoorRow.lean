/- Rows of bytes that grow: a literal's row, or a row of the call's own. -/
import Derived.Test.YtopjmiklpnejmaaGreatDoorCk
import Derived.Lib.AppendStr
import Derived.Lib.SlBytesConst
import Derived.Laws.BytesString
namespace Go.Proofs.YtopjmiklpnejmaaGreatDoor
open Eng Go.RowKit
abbrev encB : UInt8 → List Value := fun c => [.int .u8 (c.toNat : Int)]
def eB : El UInt8 := plainEl 1 encB (fun _ => rfl)
abbrev bC (l : List UInt8) : List Value := l.flatMap encB
theorem bC_length (l : List UInt8) : (bC l).length = l.length := by rw [flat_length (sz := 1) fun _ => rfl]; omega
theorem bC_append (l m : List UInt8) : bC (l ++ m) = bC l ++ bC m := List.flatMap_append ..
/-- a row of bytes that may be appended to -/
inductive RowS (w : World) (B : Nat) (a : Option Addr) (cap : Nat) (bs : List UInt8) : Prop where
  | own (h : OwP 1 encB w B 5 a cap bs)
  | lit (g : Nat) (ha : a = some ⟨g, 0, none⟩) (hB : B ≤ g) (hc : cap = bs.length) (hne : bs ≠ []) (hat : At w g 0 (bC bs))
theorem At.lt {w : World} {g o : Nat} {cs : List Value} (h : At w g o cs) (hne : cs ≠ []) : g < w.heap.size := by
  cases cs with
  | nil => exact absurd rfl hne
  | cons v cs => exact cell_lt (h 0 v rfl)
theorem bC_ne {bs : List UInt8} (h : bs ≠ []) : bC bs ≠ [] := by
  cases bs with
  | nil => exact absurd rfl h
  | cons b bs => simp [bC]
theorem RowS.lt {w : World} {B : Nat} {a : Option Addr} {cap : Nat} {bs : List UInt8} (h : RowS w B a cap bs) {g : Nat} (ha : a = some ⟨g, 0, none⟩) : B ≤ g ∧ g < w.heap.size := by
  cases h with
  | own h => exact h.lt ha
  | lit g' ha' hB hc hne hat =>
    rw [ha] at ha'
    simp only [Option.some.injEq, Addr.mk.injEq, and_true] at ha'
    subst ha'
    exact ⟨hB, At.lt hat (bC_ne hne)⟩
theorem RowS.addr {w : World} {B : Nat} {a : Option Addr} {cap : Nat} {bs : List UInt8} (h : RowS w B a cap bs) : (a = none ∧ bs = []) ∨ ∃ g, a = some ⟨g, 0, none⟩ := by
  cases h with
  | own h =>
    rcases h.shape with ⟨rfl, h0, _⟩ | ⟨g, _, rfl, _⟩
    · exact .inl ⟨rfl, List.eq_nil_of_length_eq_zero h0⟩
    · exact .inr ⟨g, rfl⟩
  | lit g ha => exact .inr ⟨g, ha⟩
theorem RowS.at {w : World} {B : Nat} {a : Option Addr} {cap : Nat} {bs : List UInt8} (h : RowS w B a cap bs) {g : Nat} (ha : a = some ⟨g, 0, none⟩) : At w g 0 (bC bs) := by
  cases h with
  | own h => exact h.at ha
  | lit g' ha' hB hc hne hat =>
    rw [ha] at ha'
    simp only [Option.some.injEq, Addr.mk.injEq, and_true] at ha'
    subst ha'; exact hat
theorem RowS.cap_ge {w : World} {B : Nat} {a : Option Addr} {cap : Nat} {bs : List UInt8} (h : RowS w B a cap bs) : bs.length ≤ cap := by
  cases h with
  | own h =>
    rcases h.shape with ⟨rfl, h0, rfl, _⟩ | ⟨g, _, rfl, _, _, hc, _⟩
    · omega
    · exact hc
  | lit g ha hB hc => omega
theorem RowS.sl {w : World} {B : Nat} {a : Option Addr} {cap : Nat} {bs : List UInt8} (h : RowS w B a cap bs) (hl : bs.length ≤ 4194304) : Sl eB T w a bs := by
  refine ⟨hl, fun i x hx => ?_⟩
  rcases h.addr with ⟨_, rfl⟩ | ⟨g, hg⟩
  · simp at hx
  · refine ⟨g, 0, encB x, hg, trivial, fun j v hj => ?_, rfl⟩
    have hj' : j < 1 := (List.getElem?_eq_some_iff.1 hj).1
    have := h.at hg (i * 1 + j) v (by rw [flat_get (sz := 1) (fun _ => rfl) hx j hj']; exact hj)
    simpa [eB, plainEl] using this
/-- what one step leaves alone: all blocks but those of X and the row's own -/
structure Stp (X : Nat → Prop) (a : Option Addr) (w : World) (a' : Option Addr) (w' : World) : Prop where
  os : w'.os = w.os
  tape : w'.tape = w.tape
  output : w'.output = w.output
  size : w.heap.size ≤ w'.heap.size
  block : ∀ k, k < w.heap.size → ¬ X k → a ≠ some ⟨k, 0, none⟩ → w'.heap[k]? = w.heap[k]?
  fresh : ∀ g, a' = some ⟨g, 0, none⟩ → a = some ⟨g, 0, none⟩ ∨ w.heap.size ≤ g
theorem Stp.refl {X : Nat → Prop} {a : Option Addr} {w : World} : Stp X a w a w := ⟨rfl, rfl, rfl, Nat.le_refl _, fun _ _ _ _ => rfl, fun _ h => .inl h⟩
theorem Stp.trans {X : Nat → Prop} {a b c : Option Addr} {w1 w2 w3 : World} (h : Stp X a w1 b w2) (k : Stp X b w2 c w3) : Stp X a w1 c w3 :=
  ⟨k.os.trans h.os, k.tape.trans h.tape, k.output.trans h.output, Nat.le_trans h.size k.size, fun i hi hx ha => (k.block i (Nat.lt_of_lt_of_le hi h.size) hx fun e => by
    rcases h.fresh i e with e2 | e2
    · exact ha e2
    · omega).trans (h.block i hi hx ha), fun g hg => by
    rcases k.fresh g hg with e | e
    · exact h.fresh g e
    · exact .inr (Nat.le_trans h.size e)⟩
theorem Stp.bl {X : Nat → Prop} {a : Option Addr} {w w' : World} (h : Bl w w') : Stp X a w a w' := ⟨h.os, h.tape, h.output, h.size, fun i hi _ _ => h.block i hi, fun _ h => .inl h⟩
theorem Stp.wr {X : Nat → Prop} {a : Option Addr} {w w' : World} {b : Nat} (h : Wr w b w') (hb : X b) : Stp X a w a w' := ⟨h.os, h.tape, h.output, by rw [h.size]; exact Nat.le_refl _, fun i _ hx _ => h.block i fun e => hx (e ▸ hb), fun _ h => .inl h⟩
theorem Stp.ap {X : Nat → Prop} {a a' : Option Addr} {w w' : World} (h : Ap w a w') (hf : ∀ g, a' = some ⟨g, 0, none⟩ → a = some ⟨g, 0, none⟩ ∨ w.heap.size ≤ g) : Stp X a w a' w' := ⟨h.os, h.tape, h.output, h.size, fun i hi _ ha => h.block i hi ha, hf⟩
theorem Stp.box {X : Nat → Prop} {a a' : Option Addr} {w w' : World} (h : Stp X a w a' w') {b : Nat} {t : TypeId} {cs : List Value} (hb : Box w b t cs) (hx : ¬ X b) (ha : a ≠ some ⟨b, 0, none⟩) : Box w' b t cs := by unfold Box; rw [h.block b hb.lt hx ha]; exact hb
theorem Stp.ne {X : Nat → Prop} {a a' : Option Addr} {w w' : World} (h : Stp X a w a' w') {b : Nat} (hb : b < w.heap.size) (ha : a ≠ some ⟨b, 0, none⟩) : a' ≠ some ⟨b, 0, none⟩ := fun e => by
  rcases h.fresh b e with e2 | e2
  · exact ha e2
  · omega
theorem Stp.kp {X : Nat → Prop} {a a' : Option Addr} {w w' : World} (h : Stp X a w a' w') : Kp (fun i => ¬ X i ∧ a ≠ some ⟨i, 0, none⟩) w w' := fun b o v s x => by
  rw [World.cell?_of_block (w := w) (h.block b (cell_lt x) s.1 s.2)]; exact x
theorem Stp.below {X : Nat → Prop} {a a' : Option Addr} {w0 w w' : World} {B : Nat} (h : Stp X a w a' w') (h0 : Below B w0 w) (hX : ∀ i, X i → B ≤ i) (ha : ∀ g, a = some ⟨g, 0, none⟩ → B ≤ g) (hB : B ≤ w.heap.size) : Below B w0 w' :=
  ⟨h.os.trans h0.os, h.tape.trans h0.tape, h.output.trans h0.output, Nat.le_trans h0.size h.size, fun k hk => (h.block k (by omega) (fun e => by have := hX k e; omega) (fun e => by have := ha k e; omega)).trans (h0.block k hk)⟩
theorem RowS.stay {w w' : World} {B : Nat} {a : Option Addr} {cap : Nat} {bs : List UInt8} (h : RowS w B a cap bs) (k : ∀ g, a = some ⟨g, 0, none⟩ → w'.heap[g]? = w.heap[g]?) : RowS w' B a cap bs := by
  cases h with
  | own h => exact .own (h.same k)
  | lit g ha hB hc hne hat => exact .lit g ha hB hc hne fun j v hj => by rw [World.cell?_of_block (w := w) (k g ha)]; exact hat j v hj
theorem RowS.bl {w w' : World} {B : Nat} {a : Option Addr} {cap : Nat} {bs : List UInt8} (h : RowS w B a cap bs) (k : Bl w w') : RowS w' B a cap bs := h.stay fun g hg => k.block g (h.lt hg).2
theorem RowS.wr {w w' : World} {B : Nat} {a : Option Addr} {cap : Nat} {bs : List UInt8} (h : RowS w B a cap bs) {b : Nat} (k : Wr w b w') (hb : a ≠ some ⟨b, 0, none⟩) : RowS w' B a cap bs := h.stay fun g hg => k.block g fun e => hb (by rw [hg, e])
theorem appendR_run {P : Program} {w : World} {T by' sz : Nat} {ag : Bool} {zr : List Value} (ht : tiOk P T ⟨.slice 5 1 by', sz, ag, zr⟩ = true) (hby : by' = 1) {B : Nat} {a : Option Addr} {cap : Nat} {bs : List UInt8} (hR : RowS w B a cap bs)
    {ay : Option Addr} {cy : Nat} {l : List UInt8} (hy : Eng.Src w ay l.length (bC l)) (hb : bs.length + l.length ≤ 1099511627776) (hbase : B ≤ w.heap.size) (ty : TypeId) :
    ∃ a' cap' w', (Builtin.append_ #[T, T] ty #[.slice a bs.length cap, .slice ay l.length cy]).run P w = .ok (.slice a' (bs ++ l).length cap') w' ∧ RowS w' B a' cap' (bs ++ l) ∧ Ap w a w' ∧ ∀ g, a' = some ⟨g, 0, none⟩ → a = some ⟨g, 0, none⟩ ∨ w.heap.size ≤ g := by
  subst hby
  cases hR with
  | own hO =>
    obtain ⟨a', cap', w', hr, hO', hA, hf⟩ := append_run ht (by decide) hO hy (by rw [bC_length, Nat.mul_one]) (by rw [List.all_flatMap, List.all_eq_true]; exact fun _ _ => rfl) (by omega) (by omega) hbase ty (cy := cy)
    exact ⟨a', cap', w', by rw [List.length_append]; exact hr, .own (by unfold OwP; rw [List.length_append, List.flatMap_append]; exact hO'), hA, hf⟩
  | lit g ha hB hc hne hat =>
    subst ha
    subst hc
    rcases hy with ⟨h0, hn⟩ | ⟨b2, o2, rfl, hat2⟩
    · have hl : l = [] := List.eq_nil_of_length_eq_zero h0
      subst hl
      obtain ⟨d, x, z, hT⟩ := tiOk_und ht
      obtain ⟨rfl, hel⟩ := hT.sl _ _ _ rfl
      obtain ⟨y, zz, hyi, hys, hyb, hyz, hzc⟩ := elemOk_of hel
      refine ⟨some ⟨g, 0, none⟩, bs.length, w, ?_, .lit g rfl hB (by simp) (by simpa using hne) (by simpa using hat), Eng.Ap.bl (Bl.refl _) _, fun g' h => .inl h⟩
      cases ay <;> simp [Builtin.append_, run_underlying hT.und, sizeOf, typeInfo, hyi, Builtin.lenOf, Builtin.firstCells, storeCells, loadCells, loadCellsFrom]
    · by_cases hl0 : l = []
      · subst hl0
        obtain ⟨d, x, z, hT⟩ := tiOk_und ht
        obtain ⟨rfl, hel⟩ := hT.sl _ _ _ rfl
        obtain ⟨y, zz, hyi, hys, hyb, hyz, hzc⟩ := elemOk_of hel
        refine ⟨some ⟨g, 0, none⟩, bs.length, w, ?_, .lit g rfl hB (by simp) (by simpa using hne) (by simpa using hat), Eng.Ap.bl (Bl.refl _) _, fun g' h => .inl h⟩
        simp [Builtin.append_, run_underlying hT.und, sizeOf, typeInfo, hyi, Builtin.lenOf, Builtin.firstCells, storeCells, loadCells, loadCellsFrom]
      · obtain ⟨d, x, z, hT⟩ := tiOk_und ht
        obtain ⟨rfl, hel⟩ := hT.sl _ _ _ rfl
        obtain ⟨y, zz, hyi, hys, hyb, hyz, hzc⟩ := elemOk_of hel
        have hlp : 0 < l.length := List.length_pos_iff.2 hl0
        have hr := run_append_grow (P := P) w T ty 5 y zz hT.und hyi hyz ⟨g, 0, none⟩ bs.length bs.length (bC bs) (by rw [hys, bC_length, Nat.mul_one]) (fun j v hv => by rw [add_none]; exact hat j v hv) ⟨b2, o2, none⟩ l.length cy (bC l) (by rw [hys, bC_length, Nat.mul_one]) (fun j v hv => by rw [add_none]; exact hat2 j v hv) (by omega) (by omega) (growslice_fits (by omega) (by rw [hyb]; omega))
        have hge := grownCap_ge w (bs.length + l.length) bs.length 5
        have hcm := grownCap_le_maxLen w (bs.length + l.length) bs.length 5 (by unfold maxLen; omega)
        obtain ⟨W', hW'⟩ : ∃ W', w.drew.alloc (.cells ((bC bs).toArray ++ (bC l).toArray ++ Builtin.zeroCells zz.cells (grownCap w (bs.length + l.length) bs.length 5 - (bs.length + l.length))) 5) = W' := ⟨_, rfl⟩
        rw [hW'] at hr
        have hBl : Bl w W' := by rw [← hW']; exact ((Below.refl _ _).drew).alloc (Nat.le_refl _) _
        refine ⟨_, _, W', by rw [List.length_append]; exact hr, .own ⟨⟨by rw [bC_length, Nat.mul_one], .inr ⟨w.heap.size, _, _, by rw [List.length_append], hbase, by rw [← hW']; show (w.heap.push _)[w.heap.size]? = _; simp; rfl, by rw [List.length_append]; exact hge, hcm, ?_, ?_⟩⟩⟩, Eng.Ap.bl hBl _, fun g' hg' => ?_⟩
        · have hz : zz.cells.size = 1 := hzc
          have e1 : (List.flatMap encB bs).length = bs.length := bC_length bs
          have e2 : (List.flatMap encB l).length = l.length := bC_length l
          simp only [Array.size_append, size_zeroCells, hz, List.size_toArray, List.length_append, e1, e2]; omega
        · have e : List.flatMap encB (bs ++ l) = bC bs ++ bC l := bC_append bs l
          have e3 : (bC bs ++ bC l).length = (bs ++ l).length * 1 := by rw [List.length_append, bC_length, bC_length, List.length_append, Nat.mul_one]
          rw [e, Array.toList_append, List.take_append_of_le_length (by rw [e3]; exact Nat.le_refl _), List.take_of_length_le (by rw [e3]; exact Nat.le_refl _)]
        · simp only [Option.some.injEq, Addr.mk.injEq, and_true] at hg'
          right; rw [← hg']; exact Nat.le_refl _
theorem strCells_bC (s : ByteArray) : Lib.strCells s = bC (toL s) := by unfold Lib.strCells; rw [List.map_eq_flatMap]
theorem appendS_run {P : Program} {w : World} {T U by' sz sz2 : Nat} {ag ag2 : Bool} {zr zr2 : List Value} (ht : tiOk P T ⟨.slice 5 1 by', sz, ag, zr⟩ = true) (hu : tiOk P U ⟨.str, sz2, ag2, zr2⟩ = true) (hby : by' = 1) {B : Nat} {a : Option Addr} {cap : Nat} {bs : List UInt8} (hR : RowS w B a cap bs) (hne : bs ≠ [])
    {s : ByteArray} (hb : bs.length + s.size ≤ 1099511627776) (hbase : B ≤ w.heap.size) (ty : TypeId) :
    ∃ a' cap' w', (Builtin.append_ #[T, U] ty #[.slice a bs.length cap, .string s]).run P w = .ok (.slice a' (bs ++ toL s).length cap') w' ∧ RowS w' B a' cap' (bs ++ toL s) ∧ Ap w a w' ∧ ∀ g, a' = some ⟨g, 0, none⟩ → a = some ⟨g, 0, none⟩ ∨ w.heap.size ≤ g := by
  subst hby
  obtain ⟨d, x, z, hT⟩ := tiOk_und ht
  obtain ⟨d2, x2, z2, hT2⟩ := tiOk_und hu
  have hus : P.underlying U = some .string := by have := hT2.str rfl; subst this; exact hT2.und
  obtain ⟨rfl, hel⟩ := hT.sl _ _ _ rfl
  obtain ⟨y, zz, hyi, hys, hyb, hyz, hzc⟩ := elemOk_of hel
  have hsl : (toL s).length = s.size := ba_len s
  obtain ⟨g, rfl⟩ : ∃ g, a = some ⟨g, 0, none⟩ := by
    rcases hR.addr with ⟨_, h⟩ | h
    · exact absurd h hne
    · exact h
  have hat := hR.at rfl
  have hcg := hR.cap_ge
  have hlt := hR.lt rfl
  by_cases hroom : bs.length + s.size ≤ cap
  · cases hR with
    | own hO =>
      obtain ⟨cur, hbx, hcl, htk, hnc, hle⟩ := hO.box
      have hr := Lib.run_append_room_string (P := P) w T U ty 5 y hT.und hus hyi hys g bs.length cap cur.toArray hbx s hroom (by simp; omega)
      have hgr : (w.setRow g ((cur.toArray.toList.take bs.length) ++ Lib.strCells s ++ cur.toArray.toList.drop (bs.length + s.size)).toArray).heap[g]? = some (.cells ((cur.toArray.toList.take bs.length) ++ Lib.strCells s ++ cur.toArray.toList.drop (bs.length + s.size)).toArray 5 (0, 0)) := by
        unfold Box at hbx
        simp [World.setRow, Array.getElem?_modify, hbx]
      refine ⟨some ⟨g, 0, none⟩, cap, _, by rw [List.length_append, hsl]; exact hr, .own ⟨⟨by rw [show (List.flatMap encB (bs ++ toL s)).length = (bs ++ toL s).length from bC_length _, Nat.mul_one], .inr ⟨g, cap, _, by rw [List.length_append, hsl], hlt.1, hgr, by rw [List.length_append, hsl]; exact hroom, ?_, ?_, ?_⟩⟩⟩, ?_, fun g' h => .inl h⟩
      · have := hO.own.2
        rcases this with ⟨h, _⟩ | ⟨_, _, _, h, _, _, _, hm, _⟩
        · cases h
        · simp only [Value.slice.injEq] at h; rw [h.2.2]; exact hm
      · have : (Lib.strCells s).length = s.size := Lib.strCells_length s
        simp [this]; omega
      · have e1 : cur.take bs.length = bC bs := by rw [Nat.mul_one] at htk; exact htk
        have e2 : List.flatMap encB (bs ++ toL s) = bC bs ++ bC (toL s) := bC_append _ _
        have e3 : (bC bs ++ bC (toL s)).length = (bs ++ toL s).length * 1 := by rw [List.length_append, bC_length, bC_length, List.length_append, Nat.mul_one]
        rw [e2]
        simp only [strCells_bC, e1]
        rw [List.take_append_of_le_length (by rw [e3]; exact Nat.le_refl _), List.take_of_length_le (by rw [e3]; exact Nat.le_refl _)]
      · refine ⟨rfl, rfl, rfl, by simp [World.setRow], fun k hk hx => ?_⟩
        have : g ≠ k := fun e => hx (by rw [e])
        simp [World.setRow, Array.getElem?_modify, this]
    | lit g' ha hB hc hne2 hat2 =>
      have h0 : s.size = 0 := by omega
      have hs0 : toL s = [] := List.eq_nil_of_length_eq_zero (by rw [hsl, h0])
      refine ⟨some ⟨g, 0, none⟩, cap, w, ?_, by rw [hs0, List.append_nil]; exact .lit g rfl (by simp only [Option.some.injEq, Addr.mk.injEq, and_true] at ha; rw [ha]; exact hB) hc hne hat, Eng.Ap.bl (Bl.refl _) _, fun g' h => .inl h⟩
      have hsz : s = ⟨#[]⟩ := ba_nil.2 h0
      rw [hs0, List.append_nil, hsz]
      simp [Builtin.append_, run_underlying hT.und, run_underlying hus, sizeOf, typeInfo, hyi, Builtin.lenOf, Builtin.firstCells, storeCells]
      rw [if_pos (by show bs.length + 0 ≤ cap; omega)]
      rfl
  · have hr := Lib.run_append_grow_string (P := P) w T U ty 5 y zz hT.und hus hyi hyz ⟨g, 0, none⟩ bs.length cap (bC bs) (by rw [hys, bC_length, Nat.mul_one]) (fun j v hv => by rw [add_none]; exact hat j v hv) s (by omega) (by omega) (growslice_fits (by omega) (by rw [hyb]; omega))
    have hge := grownCap_ge w (bs.length + s.size) cap 5
    have hcm := grownCap_le_maxLen w (bs.length + s.size) cap 5 (by unfold maxLen; omega)
    rw [strCells_bC] at hr
    obtain ⟨W', hW'⟩ : ∃ W', w.drew.alloc (.cells ((bC bs).toArray ++ (bC (toL s)).toArray ++ Builtin.zeroCells zz.cells (grownCap w (bs.length + s.size) cap 5 - (bs.length + s.size))) 5) = W' := ⟨_, rfl⟩
    rw [hW'] at hr
    have hBl : Bl w W' := by rw [← hW']; exact ((Below.refl _ _).drew).alloc (Nat.le_refl _) _
    refine ⟨_, _, W', by rw [List.length_append, hsl]; exact hr, .own ⟨⟨by rw [show (List.flatMap encB (bs ++ toL s)).length = (bs ++ toL s).length from bC_length _, Nat.mul_one], .inr ⟨w.heap.size, _, _, by rw [List.length_append, hsl], hbase, by rw [← hW']; show (w.heap.push _)[w.heap.size]? = _; simp; rfl, by rw [List.length_append, hsl]; exact hge, hcm, ?_, ?_⟩⟩⟩, Eng.Ap.bl hBl _, fun g' hg' => ?_⟩
    · have hz : zz.cells.size = 1 := hzc
      have e1 : (List.flatMap encB bs).length = bs.length := bC_length bs
      have e2 : (List.flatMap encB (toL s)).length = s.size := by rw [show (List.flatMap encB (toL s)).length = (toL s).length from bC_length _, hsl]
      simp only [Array.size_append, size_zeroCells, hz, List.size_toArray, List.length_append, e1, e2]; omega
    · have e : List.flatMap encB (bs ++ toL s) = bC bs ++ bC (toL s) := bC_append bs _
      have e3 : (bC bs ++ bC (toL s)).length = (bs ++ toL s).length * 1 := by rw [List.length_append, bC_length, bC_length, List.length_append, Nat.mul_one]
      rw [e, Array.toList_append, List.take_append_of_le_length (by rw [e3]; exact Nat.le_refl _), List.take_of_length_le (by rw [e3]; exact Nat.le_refl _)]
    · simp only [Option.some.injEq, Addr.mk.injEq, and_true] at hg'
      right; rw [← hg']; exact Nat.le_refl _
section
variable {C : Cx} {s : St} {w : World}
/-- append of bytes -/
theorem apb {md : Option Md} {ops : Array Oper} {T T' : TypeId} {x y : Operand} {d : Nat} {ty : TypeId} {pos : String} {af : Array Edge} {g : Option (Nat × Bool)} {rest : List Oper} {k : List Item} {l : Env} {c : CEnv} {by' sz : Nat} {ag : Bool} {zr : List Value}
    {B : Nat} {a : Option Addr} {cap : Nat} {bs : List UInt8} {ay : Option Addr} {cy : Nat} {l1 : List UInt8} (hR : RowS w B a cap bs) (hsrc : Eng.Src w ay l1.length (bC l1)) (hbase : B ≤ w.heap.size)
    (h : ∀ a' cap' w', RowS w' B a' cap' (bs ++ l1) → Ap w a w' → (∀ g, a' = some ⟨g, 0, none⟩ → a = some ⟨g, 0, none⟩ ∨ w.heap.size ≤ g) → Wk C (.reg md ops rest k ((d, .slice a' (bs ++ l1).length cap') :: l) c) w')
    (hs : adv C.tab C.n C.ks 400 s = .opn md ops ⟨some d, .call ⟨.builtin .append, #[x, y], #[T, T']⟩, ty, pos, af, g⟩ rest k l c [] := by rfl) (ht : C.tab.at T = some ⟨.slice 5 1 by', sz, ag, zr⟩ := by rfl)
    (hx : evc l c [] x = some (.slice a bs.length cap) := by rfl) (hy : evc l c [] y = some (.slice ay l1.length cy) := by rfl) (hTT : T' = T := by rfl) (hby : by' = 1 := by rfl)
    (hb : bs.length + l1.length ≤ 1099511627776 := by omega) (hf : fresh d l c [] = true := by rfl) (hm : ∀ w', Ap w a w' → mdW md w w' := by intros; exact True.intro) (hnt : notT md = true := by rfl) : Wk C s w := by
  subst hTT
  refine by_adv hs ⟨fun hT hfn => ?_⟩
  obtain ⟨a', cap', w', hr, hR', hap, hfr⟩ := appendR_run (tab_at hT ht) hby hR hsrc hb hbase ty (cy := cy)
  refine (op_val0 (okW_of rfl hnt) (hm _ hap) (fun _ a hA => ?_) (h a' cap' w' hR' hap hfr) rfl hf).run hT hfn
  simp only [execOp, resolve, List.map_toArray, List.map_cons, List.map_nil, evc_ok hA.k hA.kc.c (p := []) trivial hx, evc_ok hA.k hA.kc.c (p := []) trivial hy]
  show (Sem.bind (Sem.pure _) _).run C.P w = _
  simp only [Sem.bind, invoke, builtin]
  exact (run_bind_ok hr).trans rfl
/-- append of a string's bytes -/
theorem aps {md : Option Md} {ops : Array Oper} {T U : TypeId} {x y : Operand} {d : Nat} {ty : TypeId} {pos : String} {af : Array Edge} {g : Option (Nat × Bool)} {rest : List Oper} {k : List Item} {l : Env} {c : CEnv} {by' sz sz2 : Nat} {ag ag2 : Bool} {zr zr2 : List Value}
    {B : Nat} {a : Option Addr} {cap : Nat} {bs : List UInt8} {str : ByteArray} (hR : RowS w B a cap bs) (hne : bs ≠ []) (hbase : B ≤ w.heap.size)
    (h : ∀ a' cap' w', RowS w' B a' cap' (bs ++ toL str) → Ap w a w' → (∀ g, a' = some ⟨g, 0, none⟩ → a = some ⟨g, 0, none⟩ ∨ w.heap.size ≤ g) → Wk C (.reg md ops rest k ((d, .slice a' (bs ++ toL str).length cap') :: l) c) w')
    (hs : adv C.tab C.n C.ks 400 s = .opn md ops ⟨some d, .call ⟨.builtin .append, #[x, y], #[T, U]⟩, ty, pos, af, g⟩ rest k l c [] := by rfl) (ht : C.tab.at T = some ⟨.slice 5 1 by', sz, ag, zr⟩ := by rfl) (hu : C.tab.at U = some ⟨.str, sz2, ag2, zr2⟩ := by rfl)
    (hx : evc l c [] x = some (.slice a bs.length cap) := by rfl) (hy : evc l c [] y = some (.string str) := by rfl) (hby : by' = 1 := by rfl)
    (hb : bs.length + str.size ≤ 1099511627776 := by omega) (hf : fresh d l c [] = true := by rfl) (hm : ∀ w', Ap w a w' → mdW md w w' := by intros; exact True.intro) (hnt : notT md = true := by rfl) : Wk C s w := by
  refine by_adv hs ⟨fun hT hfn => ?_⟩
  obtain ⟨a', cap', w', hr, hR', hap, hfr⟩ := appendS_run (tab_at hT ht) (tab_at hT hu) hby hR hne hb hbase ty
  refine (op_val0 (okW_of rfl hnt) (hm _ hap) (fun _ a hA => ?_) (h a' cap' w' hR' hap hfr) rfl hf).run hT hfn
  simp only [execOp, resolve, List.map_toArray, List.map_cons, List.map_nil, evc_ok hA.k hA.kc.c (p := []) trivial hx, evc_ok hA.k hA.kc.c (p := []) trivial hy]
  show (Sem.bind (Sem.pure _) _).run C.P w = _
  simp only [Sem.bind, invoke, builtin]
  exact (run_bind_ok hr).trans rfl
/-- a literal's bytes: the row is marked -/
theorem cvl {md : Option Md} {ops : Array Oper} {T : TypeId} {x : Operand} {d : Nat} {ty : TypeId} {pos : String} {af : Array Edge} {g : Option (Nat × Bool)} {rest : List Oper} {k : List Item} {l : Env} {c : CEnv} {w0 : World} {b : Nat} {cs : List Value} {n cc : Nat} (hn : New w0 b 5 cs w)
    (h : ∀ w', At w' b 0 cs → Bl w0 w' → w'.heap.size = w.heap.size → Wk C (.reg md ops rest k ((d, .slice (some ⟨b, 0, none⟩) n cc) :: l) c) w')
    (hs : adv C.tab C.n C.ks 400 s = .opn md ops ⟨some d, .convert T T x, ty, pos, af, g⟩ rest k l c [] := by rfl) (hx : evc l c [] x = some (.slice (some ⟨b, 0, none⟩) n cc) := by rfl) (hT : C.P.underlying T = some (.slice 5) := by kernel_rfl) (he : C.P.underlying 5 = some (.int .u8) := by kernel_rfl) (hf : fresh d l c [] = true := by rfl) (hmd : md = none := by rfl) : Wk C s w := by
  subst hmd
  have hb := hn.blk
  have hw := hn.eq
  have hrun := Lib.run_convert_bytes_const (P := C.P) w0 T 5 cs.toArray n cc hT he
  rw [← hw, ← hb] at hrun
  obtain ⟨W', hW'⟩ : ∃ W', w0.alloc (.cells cs.toArray 5 (cs.toArray.size, cs.toArray.size + 1)) = W' := ⟨_, rfl⟩
  rw [hW'] at hrun
  have hB : Bl w0 W' := by rw [← hW']; exact (Below.refl _ _).alloc (Nat.le_refl _) _
  have hat : At W' b 0 cs := fun j v hj => by
    rw [← hW', hb, Nat.zero_add]
    have : (w0.alloc (.cells cs.toArray 5 (cs.toArray.size, cs.toArray.size + 1))).heap[w0.heap.size]? = some (.cells cs.toArray 5 (cs.toArray.size, cs.toArray.size + 1)) := by show (w0.heap.push _)[w0.heap.size]? = _; simp
    simp only [World.cell?, this]
    simpa using hj
  have hsz : W'.heap.size = w.heap.size := by rw [← hW', hw]; show (w0.heap.push _).size = (w0.heap.push _).size; simp
  refine by_adv hs ⟨fun hT2 hfn hdk a hA hw2 => ?_⟩
  show wpList C.P ops (nq C k) (_ :: rest) a w
  unfold wpList
  rw [if_pos (hw2.2 trivial)]
  left
  unfold Oper.wp
  have e : (execOp a.eval ⟨some d, .convert T T x, ty, pos, af, g⟩).run C.P w = .ok (.value (.slice (some ⟨b, 0, none⟩) n cc)) W' := by
    simp only [execOp, evc_ok hA.k hA.kc.c (p := []) trivial hx]
    exact (run_bind_ok hrun).trans rfl
  rw [e]
  exact (h W' hat hB hsz).run hT2 hfn _ ((ok_put (v := .slice (some ⟨b, 0, none⟩) n cc) (u := .slice (some ⟨b, 0, none⟩) n cc) (p := []) hA hdk hf).1 rfl)
end
end Go.Proofs.YtopjmiklpnejmaaGreatDoor
