import Derived.Test.YtopjmiklpnejmaaGreatDoorM3
import Derived.Test.YtopjmiklpnejmaaGreatDoorCards
import Derived.Test.YtopjmiklpnejmaaGreatDoorTie
import Derived.ProofKit
import Derived.OpenShut
import Derived.ShutString
import Derived.Deep.DeepHandedRow
import Derived.Lib.LaidTab
import Derived.Shelf.Vars
import Derived.Test.YtopjmiklpnejmaaGreatDoorM2
import Derived.Deep.Slices
import Derived.Laws.StructEq
/- Walks: numbers as bytes, and check sums; the program's and the document's. -/
namespace Go.Proofs.YtopjmiklpnejmaaGreatDoor
open Eng Go.RowKit
def byteOf (n : Int) (k : Nat) : UInt8 := UInt8.ofNat ((n / 2 ^ k) % 256).toNat
def isWord (n : Int) : Bool := decide (-2147483648 ≤ n) && decide (n ≤ 2147483647)
/-- the bytes of a number, none if it is no word -/
def num (n : Int) : List UInt8 := if isWord n = true then [byteOf n 24, byteOf n 16, byteOf n 8, byteOf n 0] else []
theorem num_len (n : Int) : (num n).length ≤ 4 := by unfold num; split <;> simp
theorem num_word {n : Int} (h : isWord n = true) : (num n).length = 4 := by unfold num; rw [if_pos h]; rfl
theorem byteOf_nat (n : Int) (k : Nat) : ((byteOf n k).toNat : Int) = (n / 2 ^ k) % 256 := by
  unfold byteOf
  have h : 0 ≤ (n / 2 ^ k) % 256 ∧ (n / 2 ^ k) % 256 < 256 := by omega
  rw [UInt8.toNat_ofNat']
  omega
theorem fdiv_ediv {a : Int} {b : Int} (h : 0 ≤ b) : a.fdiv b = a / b := Int.fdiv_eq_ediv_of_nonneg _ h
theorem u8_wrap (a : Int) : IntKind.u8.wrap a = a % 256 := by simp [IntKind.wrap, IntKind.bits, IntKind.signed]
theorem u32_wrap (a : Int) : IntKind.u32.wrap a = a % 4294967296 := by simp [IntKind.wrap, IntKind.bits, IntKind.signed]
theorem i32_word {a : Int} (h : isWord a = true) : IntKind.i32.wrap a = a := by
  unfold isWord at h
  simp only [Bool.and_eq_true, decide_eq_true_eq] at h
  simp [IntKind.wrap, IntKind.bits, IntKind.signed]
  omega
theorem w_WValid (n : Int) (w : World) : Ret Tryz.prog 230 #[I n] w fun v w' => v = .bool (isWord n) ∧ w' = w := by
  refine entr (vs := [I n]) [0, 2] tabok Tryz.func230 (by kernel_rfl) ?_
  exact rt1 ⟨rfl, rfl⟩
theorem r_WValid (n : Int) (w : World) : Ret Tryz.prog 231 #[I n] w fun v w' => v = .bool (isWord n) ∧ w' = w := by
  refine entr (vs := [I n]) [0, 2] tabok Tryz.func231 (by kernel_rfl) ?_
  exact rt1 ⟨rfl, rfl⟩
theorem w_words1 (n : Int) (b : Nat) (w : World) (hb : At w b 0 [I n]) : Ret Tryz.prog 207 #[.slice (some ⟨b, 0, none⟩) 1 1] w fun v w' => v = .bool (isWord n) ∧ w' = w := by
  refine entr (vs := [.slice (some ⟨b, 0, none⟩) 1 1]) [0, 2, 4, 5, 6, 7, 8, 13] tabok Tryz.func207 (by kernel_rfl) ?_
  refine lpk 1 7 [] [(5, .slice (some ⟨b, 0, none⟩) 1 1), (6, I 1)] (fun k vals w' => vals = [] ∧ (k = 0 ∨ isWord n = true) ∧ w = w') ⟨rfl, .inl rfl, rfl⟩ ?_
  rintro k vals _ hk ⟨rfl, h0, rfl⟩ ih
  by_cases hlt : k < 1
  · obtain rfl : k = 0 := by omega
    refine brT ?_
    refine ix ?_
    refine ld (o := 0 + 0 * 1) (v := I n) (hb.one) ?_
    refine cl (w_WValid n _) ?_
    rintro _ _ ⟨rfl, rfl⟩
    refine br (t := !isWord n) (fun h => ?_) (fun h => ?_)
    · refine rt1 ⟨vb ?_, rfl⟩
      symm; simpa using h
    · exact ih hlt ⟨rfl, .inr (by simpa using h), rfl⟩
  · refine brF ?_
    refine rt1 ⟨vb ?_, rfl⟩
    rcases h0 with h | h
    · omega
    · exact h.symm
theorem bytes_src {w : World} {b : Nat} {l : List UInt8} (h : At w b 0 (bC l)) : Eng.Src w (some ⟨b, 0, none⟩) l.length (bC l) := .inr ⟨b, 0, rfl, h⟩
theorem u_Bytes (n : Int) (w : World) : Ret Tryz.prog 160 #[I n] w fun v w' => ∃ ab cb e, v = .tuple #[.slice ab (num n).length cb, I e] ∧ Eng.Src w' ab (num n).length (bC (num n)) ∧ Bl w w' := by
  refine entr (vs := [I n]) [0, 2, 3, 4, 8] tabok Tryz.func160 (by kernel_rfl) ?_
  refine bs fun b1 w1 h1 => ?_
  refine cl (w_words1 n b1 w1 h1.box.at) ?_
  rintro _ _ ⟨rfl, rfl⟩
  refine br (t := !isWord n) (fun h => ?_) (fun h => ?_)
  · have hw : isWord n = false := by simpa using h
    have e : num n = [] := by unfold num; rw [hw]; rfl
    rw [e]
    exact rt2 ⟨none, 0, 1, rfl, .inl ⟨rfl, rfl⟩, h1.bl⟩
  have hw : isWord n = true := by simpa using h
  have hr : -2147483648 ≤ n ∧ n ≤ 2147483647 := by unfold isWord at hw; simpa using hw
  refine cv (ks := .i64) (kb := .i32) (by kernel_rfl) (by kernel_rfl) ?_
  rw [i32_word hw]
  refine cv (ks := .i32) (kb := .u32) (by kernel_rfl) (by kernel_rfl) ?_
  rw [u32_wrap]
  refine iop (shr_run (k := .u32) (n := 24) (by decide)) ?_
  refine cv (ks := .u32) (kb := .u8) (by kernel_rfl) (by kernel_rfl) ?_
  refine iop (shr_run (k := .u32) (n := 16) (by decide)) ?_
  refine cv (ks := .u32) (kb := .u8) (by kernel_rfl) (by kernel_rfl) ?_
  refine iop (shr_run (k := .u32) (n := 8) (by decide)) ?_
  refine cv (ks := .u32) (kb := .u8) (by kernel_rfl) (by kernel_rfl) ?_
  refine cv (ks := .u32) (kb := .u8) (by kernel_rfl) (by kernel_rfl) ?_
  refine bs fun b2 w2 h2 => ?_
  have e : num n = [byteOf n 24, byteOf n 16, byteOf n 8, byteOf n 0] := by unfold num; rw [if_pos hw]
  have hc : ∀ k : Nat, k = 24 ∨ k = 16 ∨ k = 8 ∨ k = 0 → IntKind.u8.wrap ((n % 4294967296).fdiv (2 ^ k)) = ((byteOf n k).toNat : Int) := fun k hk => by
    rw [byteOf_nat, u8_wrap, fdiv_ediv (by rcases hk with rfl | rfl | rfl | rfl <;> decide)]
    rcases hk with rfl | rfl | rfl | rfl <;> omega
  refine rt2 ⟨some ⟨b2, 0, none⟩, 4, 0, by rw [e], ?_, h1.bl.trans h2.bl⟩
  rw [e]
  refine bytes_src (l := [byteOf n 24, byteOf n 16, byteOf n 8, byteOf n 0]) ?_
  have h3 := h2.box.at
  have h0 := hc 0 (by simp)
  rw [fdiv_ediv (by decide), show (2 : Int) ^ 0 = 1 from rfl, Int.ediv_one] at h0
  rw [hc 24 (by simp), hc 16 (by simp), hc 8 (by simp), h0] at h3
  exact h3
theorem r_residue (n : Int) (w : World) (hw : isWord n = true) : Ret Tryz.prog 232 #[I n] w fun v w' => v = I (n % 4294967296) ∧ w' = w := by
  have hr : -2147483648 ≤ n ∧ n ≤ 2147483647 := by unfold isWord at hw; simpa using hw
  refine entr (vs := [I n]) [0, 2, 3, 7] tabok Tryz.func232 (by kernel_rfl) ?_
  refine iop (rem_run (b := 4294967296) (by decide)) ?_
  have ht : n.tmod 4294967296 = n := by
    rcases Int.le_total 0 n with h | h
    · rw [Int.tmod_eq_emod_of_nonneg h]; omega
    · have : (-n).tmod 4294967296 = -n := by rw [Int.tmod_eq_emod_of_nonneg (by omega)]; omega
      rw [Int.neg_tmod] at this; omega
  rw [ht]
  by_cases h : n < 0
  · refine brT ?_
    refine rt1 ⟨vi ?_, rfl⟩
    rw [wrap_fit (by omega) (by omega)]; omega
  · refine brF ?_
    refine rt1 ⟨vi ?_, rfl⟩
    omega
theorem r_Bytes (n : Int) (w : World) : Ret Tryz.prog 208 #[I n] w fun v w' => ∃ ab cb e, v = .tuple #[.slice ab (num n).length cb, I e] ∧ Eng.Src w' ab (num n).length (bC (num n)) ∧ Bl w w' := by
  refine entr (vs := [I n]) [0, 2, 3, 4, 7] tabok Tryz.func208 (by kernel_rfl) ?_
  refine cl (r_WValid n w) ?_
  rintro _ _ ⟨rfl, rfl⟩
  refine br (t := !isWord n) (fun h => ?_) (fun h => ?_)
  · have hw : isWord n = false := by simpa using h
    have e : num n = [] := by unfold num; rw [hw]; rfl
    rw [e]
    exact rt2 ⟨none, 0, 1, rfl, .inl ⟨rfl, rfl⟩, Bl.refl _⟩
  have hw : isWord n = true := by simpa using h
  have hr : -2147483648 ≤ n ∧ n ≤ 2147483647 := by unfold isWord at hw; simpa using hw
  refine cl (r_residue n _ hw) ?_
  rintro _ w1 ⟨rfl, rfl⟩
  have hm : 0 ≤ n % 4294967296 ∧ n % 4294967296 < 4294967296 := by omega
  refine iop (quo_run (b := 16777216) (by decide)) ?_
  refine cv (ks := .i64) (kb := .u8) (by kernel_rfl) (by kernel_rfl) ?_
  refine iop (quo_run (b := 65536) (by decide)) ?_
  refine iop (rem_run (b := 256) (by decide)) ?_
  refine cv (ks := .i64) (kb := .u8) (by kernel_rfl) (by kernel_rfl) ?_
  refine iop (quo_run (b := 256) (by decide)) ?_
  refine iop (rem_run (b := 256) (by decide)) ?_
  refine cv (ks := .i64) (kb := .u8) (by kernel_rfl) (by kernel_rfl) ?_
  refine iop (rem_run (b := 256) (by decide)) ?_
  refine cv (ks := .i64) (kb := .u8) (by kernel_rfl) (by kernel_rfl) ?_
  refine bs fun b2 w2 h2 => ?_
  have e : num n = [byteOf n 24, byteOf n 16, byteOf n 8, byteOf n 0] := by unfold num; rw [if_pos hw]
  have q : ∀ d : Int, 0 < d → IntKind.i64.wrap ((n % 4294967296).tdiv d) = n % 4294967296 / d := fun d hd => by
    rw [Int.tdiv_eq_ediv_of_nonneg hm.1]
    have h1 : 0 ≤ n % 4294967296 / d := Int.ediv_nonneg hm.1 (by omega)
    have h2 : n % 4294967296 / d ≤ n % 4294967296 := Int.ediv_le_self _ hm.1
    exact wrap_fit (by omega) (by omega)
  have r : ∀ x : Int, 0 ≤ x → x.tmod 256 = x % 256 := fun x hx => Int.tmod_eq_emod_of_nonneg hx
  have c24 : IntKind.u8.wrap (IntKind.i64.wrap ((n % 4294967296).tdiv 16777216)) = ((byteOf n 24).toNat : Int) := by rw [q _ (by decide), byteOf_nat, u8_wrap]; omega
  have c16 : IntKind.u8.wrap ((IntKind.i64.wrap ((n % 4294967296).tdiv 65536)).tmod 256) = ((byteOf n 16).toNat : Int) := by rw [q _ (by decide), r _ (by omega), byteOf_nat, u8_wrap]; omega
  have c8 : IntKind.u8.wrap ((IntKind.i64.wrap ((n % 4294967296).tdiv 256)).tmod 256) = ((byteOf n 8).toNat : Int) := by rw [q _ (by decide), r _ (by omega), byteOf_nat, u8_wrap]; omega
  have c0 : IntKind.u8.wrap ((n % 4294967296).tmod 256) = ((byteOf n 0).toNat : Int) := by rw [r _ hm.1, byteOf_nat, u8_wrap]; omega
  refine rt2 ⟨some ⟨b2, 0, none⟩, 4, 0, by rw [e], ?_, h2.bl⟩
  rw [e]
  refine bytes_src (l := [byteOf n 24, byteOf n 16, byteOf n 8, byteOf n 0]) ?_
  have h3 := h2.box.at
  rw [c24, c16, c8, c0] at h3
  exact h3
end Go.Proofs.YtopjmiklpnejmaaGreatDoor
/- Walks: check sums. -/
namespace Go.Proofs.YtopjmiklpnejmaaGreatDoor
open Eng Go.RowKit
def sumN (s : Int) (c : UInt8) : Int := (s * 257 + (c.toNat : Int) + 1) % 65521
def sumB (l : List UInt8) : Int := l.foldl sumN 0
theorem sumN_range (s : Int) (c : UInt8) : 0 ≤ sumN s c ∧ sumN s c < 65521 := by unfold sumN; omega
theorem sumB_snoc {l : List UInt8} {k : Nat} {x : UInt8} (h : l[k]? = some x) : sumB (l.take (k + 1)) = sumN (sumB (l.take k)) x := by rw [take_succ_some h]; simp [sumB]
theorem sumB_range (l : List UInt8) : 0 ≤ sumB l ∧ sumB l < 65521 := by
  unfold sumB
  rcases List.eq_nil_or_concat l with rfl | ⟨l', x, rfl⟩
  · simp
  · rw [List.concat_eq_append, List.foldl_append]; exact sumN_range _ _
theorem sum_step {s : Int} (h : 0 ≤ s ∧ s < 65521) (c : UInt8) : (IntKind.i64.wrap (IntKind.i64.wrap (IntKind.i64.wrap (s * 257) + IntKind.i64.wrap (c.toNat : Int)) + 1)).tmod 65521 = sumN s c := by
  have hc : c.toNat < 256 := c.toNat_lt
  rw [wrap_fit (a := (c.toNat : Int)) (by omega) (by omega), wrap_fit (a := s * 257) (by omega) (by omega), wrap_fit (a := s * 257 + (c.toNat : Int)) (by omega) (by omega), wrap_fit (by omega) (by omega), Int.tmod_eq_emod_of_nonneg (by omega)]; rfl
theorem bC_cell {w : World} {g : Nat} {bs : List UInt8} (h : At w g 0 (bC bs)) {k : Nat} {x : UInt8} (hx : bs[k]? = some x) : w.cell? ⟨g, 0 + k * 1, none⟩ = some (.int .u8 (x.toNat : Int)) := by
  have := h (k * 1 + 0) (.int .u8 (x.toNat : Int)) (by rw [flat_get (sz := 1) (fun _ => rfl) hx 0 (by decide)]; rfl)
  simpa using this
theorem u_Sum (bs : List UInt8) (g cap : Nat) (w : World) (hat : At w g 0 (bC bs)) (hn : bs.length ≤ 1099511627776) : Ret Tryz.prog 101 #[I 0, .slice (some ⟨g, 0, none⟩) bs.length cap] w fun v w' => v = I (sumB bs) ∧ w' = w := by
  refine entr (vs := [I 0, .slice (some ⟨g, 0, none⟩) bs.length cap]) [0, 1, 4, 5, 7, 12, 13, 14, 15] tabok Tryz.func101 (by kernel_rfl) ?_
  refine iop (rem_run (b := 65521) (by decide)) ?_
  refine iop (rem_run (b := 65521) (by decide)) ?_
  refine lpk bs.length 14 [5] [(12, .slice (some ⟨g, 0, none⟩) bs.length cap), (13, I bs.length)] (fun k vals w' => vals = [I (sumB (bs.take k))] ∧ w = w') ⟨rfl, rfl⟩ ?_
  rintro k vals _ hk ⟨rfl, rfl⟩ ih
  by_cases hlt : k < bs.length
  · refine brT ?_
    obtain ⟨x, hx⟩ := some_of_lt hlt
    refine ix ?_
    refine ld (bC_cell hat hx) ?_
    refine cv (ks := .u8) (kb := .i64) (by kernel_rfl) (by kernel_rfl) ?_
    refine iop (rem_run (b := 65521) (by decide)) ?_
    refine ih hlt ⟨lst1 (vi ?_), rfl⟩
    rw [sumB_snoc hx]
    exact sum_step (sumB_range _) x
  · refine brF ?_
    obtain rfl : k = bs.length := by omega
    rw [List.take_length]
    exact rt1 ⟨rfl, rfl⟩
theorem r_Sum (bs : List UInt8) (g cap : Nat) (w : World) (hat : At w g 0 (bC bs)) (hn : bs.length ≤ 1099511627776) : Ret Tryz.prog 155 #[I 0, .slice (some ⟨g, 0, none⟩) bs.length cap] w fun v w' => v = I (sumB bs) ∧ w' = w := by
  refine entr (vs := [I 0, .slice (some ⟨g, 0, none⟩) bs.length cap]) [0, 1, 4, 5, 6, 10, 16] tabok Tryz.func155 (by kernel_rfl) ?_
  refine iop (rem_run (b := 65521) (by decide)) ?_
  refine brF ?_ (hp := by decide)
  refine lpk bs.length 6 [5] [(1, .slice (some ⟨g, 0, none⟩) bs.length cap)] (fun k vals w' => vals = [I (sumB (bs.take k))] ∧ w = w') ⟨rfl, rfl⟩ ?_
  rintro k vals _ hk ⟨rfl, rfl⟩ ih
  by_cases hlt : k < bs.length
  · refine brT ?_
    obtain ⟨x, hx⟩ := some_of_lt hlt
    refine ix ?_
    refine ld (bC_cell hat hx) ?_
    refine cv (ks := .u8) (kb := .i64) (by kernel_rfl) (by kernel_rfl) ?_
    refine iop (rem_run (b := 65521) (by decide)) ?_
    refine ih hlt ⟨lst1 (vi ?_), rfl⟩
    rw [sumB_snoc hx]
    exact sum_step (sumB_range _) x
  · refine brF ?_
    obtain rfl : k = bs.length := by omega
    rw [List.take_length]
    exact rt1 ⟨rfl, rfl⟩
end Go.Proofs.YtopjmiklpnejmaaGreatDoor
/- Walks: the program's writer. Printed by wip/tools/mkput.py. -/
namespace Go.Proofs.YtopjmiklpnejmaaGreatDoor
open Eng Go.RowKit
def oTy (t : Ty) : List UInt8 := num t.kind ++ num t.cls
def oFld (f : Fld) : List UInt8 := num f.name ++ oTy f.ty
def oList {α : Type} (out : α → List UInt8) (l : List α) : List UInt8 := num l.length ++ l.flatMap out
def oCls (c : Cls) : List UInt8 := num c.name ++ num c.super ++ oList oFld c.fields
def oIns (i : Ins) : List UInt8 := num i.op ++ num i.a ++ num i.b
def oMth (m : Mth) : List UInt8 := num m.name ++ num m.cls ++ oList oTy m.params ++ oList oTy m.locals ++ oTy m.result ++ oList oIns m.code
def oTxt (s : ByteArray) : List UInt8 := num s.size ++ toL s
/-- the writer's state: its one cell holds the row of what has been written -/
structure WS (B wb : Nat) (a : Option Addr) (cap : Nat) (bs : List UInt8) (w : World) : Prop where
  box : Box w wb 119 [.slice a bs.length cap]
  row : RowS w B a cap bs
  ne : a ≠ some ⟨wb, 0, none⟩
  hB : B ≤ wb
theorem WS.bl {B wb : Nat} {a : Option Addr} {cap : Nat} {bs : List UInt8} {w w' : World} (h : WS B wb a cap bs w) (k : Bl w w') : WS B wb a cap bs w' := ⟨Bl.box k h.box, h.row.bl k, h.ne, h.hB⟩
theorem WS.size {B wb : Nat} {a : Option Addr} {cap : Nat} {bs : List UInt8} {w : World} (h : WS B wb a cap bs w) : B ≤ w.heap.size := by have := h.box.lt; have := h.hB; omega
abbrev WX (wb : Nat) : Nat → Prop := fun i => i = wb
theorem WS.below {B wb : Nat} {a a' : Option Addr} {cap : Nat} {bs : List UInt8} {w w' : World} (h : WS B wb a cap bs w) (k : Stp (WX wb) a w a' w') : Below B w w' :=
  k.below (Below.refl _ _) (fun i e => by have := h.hB; rw [e]; exact this) (fun g hg => (h.row.lt hg).1) h.size
/-- bytes are appended and stored -/
theorem WS.step {B wb : Nat} {a a' : Option Addr} {cap cap' : Nat} {bs l : List UInt8} {w w1 w2 : World} (h : WS B wb a cap bs w) (hR : RowS w1 B a' cap' (bs ++ l)) (hA : Ap w a w1) (hf : ∀ g, a' = some ⟨g, 0, none⟩ → a = some ⟨g, 0, none⟩ ∨ w.heap.size ≤ g) (hW : Wr w1 wb w2) (hb : Box w2 wb 119 [.slice a' (bs ++ l).length cap']) :
    WS B wb a' cap' (bs ++ l) w2 ∧ Stp (WX wb) a w a' w2 := by
  have hne : a' ≠ some ⟨wb, 0, none⟩ := fun e => by
    rcases hf wb e with e2 | e2
    · exact h.ne e2
    · have := h.box.lt; omega
  exact ⟨⟨hb, hR.wr hW hne, hne, h.hB⟩, (Stp.ap hA hf).trans (Stp.wr hW rfl)⟩
abbrev MX : Nat := 1099511627776
theorem flatMap_take_len {α : Type} (f : α → List UInt8) (l : List α) (k : Nat) : ((l.take k).flatMap f).length ≤ (l.flatMap f).length := by
  conv => rhs; rw [← List.take_append_drop k l, List.flatMap_append, List.length_append]
  omega
theorem wr_number (l : List Int) (b wb B : Nat) (a : Option Addr) (cap : Nat) (bs : List UInt8) (w : World) (hW : WS B wb a cap bs w) (hl : At w b 0 (l.flatMap encInt)) (hb : b ≠ wb) (hba : a ≠ some ⟨b, 0, none⟩) (_hbl : b < w.heap.size) (hll : l.length ≤ 1048576) (hn : (bs ++ l.flatMap num).length ≤ MX) :
    Ret Tryz.prog 111 #[.pointer (some ⟨wb, 0, none⟩), .slice (some ⟨b, 0, none⟩) l.length l.length] w fun _ w' => ∃ a' cap', WS B wb a' cap' (bs ++ l.flatMap num) w' ∧ Stp (WX wb) a w a' w' := by
  refine entr (vs := [.pointer (some ⟨wb, 0, none⟩), .slice (some ⟨b, 0, none⟩) l.length l.length]) [0, 1, 5, 6, 8, 9, 10, 11] tabok Tryz.func111 (by kernel_rfl) ?_
  refine lpk l.length 10 [] [(0, .pointer (some ⟨wb, 0, none⟩)), (8, .slice (some ⟨b, 0, none⟩) l.length l.length), (9, I l.length)] (fun k vals w' => vals = [] ∧ ∃ a' cap', WS B wb a' cap' (bs ++ (l.take k).flatMap num) w' ∧ Stp (WX wb) a w a' w') ⟨rfl, a, cap, by simpa using hW, Stp.refl⟩ ?_
  rintro k vals w1 hk ⟨rfl, a1, c1, hW1, hT1⟩ ih
  by_cases hlt : k < l.length
  · refine brT ?_
    obtain ⟨n, hnk⟩ := some_of_lt hlt
    have hcell : w1.cell? ⟨b, 0 + k * 1, none⟩ = some (I n) := hT1.kp _ _ _ ⟨fun e => hb e, hba⟩ (by
      have := hl (k * 1 + 0) (I n) (by rw [flat_get (sz := 1) (fun _ => rfl) hnk 0 (by decide)]; rfl)
      simpa using this)
    refine ix ?_
    refine ld hcell ?_
    refine cl (u_Bytes n w1) ?_
    rintro _ w2 ⟨ab, cb, e, rfl, hs, hB2⟩
    have hW2 := hW1.bl hB2
    refine ld (hW2.box.cell rfl) ?_
    have hlen : (bs ++ (l.take k).flatMap num).length + (num n).length ≤ MX := by
      have e1 : ((l.take (k + 1)).flatMap num).length = ((l.take k).flatMap num).length + (num n).length := by rw [flatMap_snoc hnk, List.length_append]
      have := flatMap_take_len num l (k + 1)
      rw [List.length_append] at hn ⊢
      omega
    refine apb hW2.row hs hW2.size (fun a3 c3 w3 hR3 hA3 hf3 => ?_) (hb := hlen)
    refine st (hA3.box hW2.box hW2.ne) (fun w4 h4 y4 => ?_)
    obtain ⟨hW4, hT4⟩ := hW2.step hR3 hA3 hf3 h4 y4
    refine ih hlt ⟨rfl, a3, c3, ?_, (hT1.trans (Stp.bl hB2)).trans hT4⟩
    rw [flatMap_snoc hnk, ← List.append_assoc]; exact hW4
  · refine brF ?_
    obtain rfl : k = l.length := by omega
    rw [List.take_length] at hW1
    exact en (vs := []) ⟨a1, c1, hW1, hT1⟩
/-- numbers that lie in a row that was made for them -/
theorem wr_nums (l : List Int) {b wb B : Nat} {a : Option Addr} {cap : Nat} {bs : List UInt8} {w0 w : World} (hW : WS B wb a cap bs w0) (hn : New w0 b 3 (l.flatMap encInt) w) (hll : l.length ≤ 1048576) (hm : (bs ++ l.flatMap num).length ≤ MX) :
    Ret Tryz.prog 111 #[.pointer (some ⟨wb, 0, none⟩), .slice (some ⟨b, 0, none⟩) l.length l.length] w fun _ w' => ∃ a' cap', WS B wb a' cap' (bs ++ l.flatMap num) w' ∧ Stp (WX wb) a w0 a' w' := by
  have hb := hn.blk
  refine (wr_number l b wb B a cap bs w (hW.bl hn.bl) hn.box.at (by have := hW.box.lt; omega) (fun e => by have := (hW.row.lt e).2; omega) hn.box.lt hll hm).mono ?_
  rintro v w' ⟨a', cap', h1, h2⟩
  exact ⟨a', cap', h1, (Stp.bl hn.bl).trans h2⟩
theorem wr_text (s : ByteArray) (wb B : Nat) (a : Option Addr) (cap : Nat) (bs : List UInt8) (w : World) (hW : WS B wb a cap bs w) (hs : s.size ≤ 1048576) (hn : (bs ++ oTxt s).length ≤ MX) :
    Ret Tryz.prog 103 #[.pointer (some ⟨wb, 0, none⟩), .string s] w fun _ w' => ∃ a' cap', WS B wb a' cap' (bs ++ oTxt s) w' ∧ Stp (WX wb) a w a' w' := by
  have hw : isWord (s.size : Int) = true := by unfold isWord; simp; omega
  have h4 := num_word hw
  have hl : (toL s).length = s.size := ba_len s
  have e1 : [(s.size : Int)].flatMap num = num s.size := by simp
  have e2 : (bs ++ oTxt s).length = bs.length + 4 + s.size := by unfold oTxt; rw [List.length_append, List.length_append, h4, hl]; omega
  have hn' : bs.length + 4 + s.size ≤ 1099511627776 := by rw [e2] at hn; exact hn
  refine entr (vs := [.pointer (some ⟨wb, 0, none⟩), .string s]) [0, 1] tabok Tryz.func103 (by kernel_rfl) ?_
  refine Eng.bs fun b1 w1 h1 => ?_
  refine cl (wr_nums [(s.size : Int)] hW h1 (by simp) (by rw [e1, List.length_append, h4]; omega)) ?_
  rintro v w2 ⟨a2, c2, hW2, hT2⟩
  rw [e1] at hW2
  refine ld (hW2.box.cell rfl) ?_
  refine aps hW2.row (fun e => by have := congrArg List.length e; rw [List.length_append, h4] at this; simp at this) hW2.size (fun a3 c3 w3 hR3 hA3 hf3 => ?_) (hb := by rw [List.length_append, h4]; omega)
  refine st (hA3.box hW2.box hW2.ne) (fun w4 h4 y4 => ?_)
  obtain ⟨hW4, hT4⟩ := hW2.step hR3 hA3 hf3 h4 y4
  refine en (vs := []) ⟨a3, c3, ?_, hT2.trans hT4⟩
  unfold oTxt; rw [← List.append_assoc]; exact hW4
theorem asV_agg {cs : List Value} {n : Nat} (h : cs.length = n) (hn : 2 ≤ n) : asV cs = .agg cs.toArray := by
  match cs, h with
  | [], h => simp at h; omega
  | [_], h => simp at h; omega
  | _ :: _ :: _, _ => rfl
theorem rel_one_cls {S : Nat → Prop} {w : World} {cs : List Value} {x : Cls} (h : eCls.rel S w cs x) : cs.all Value.oneCell' = true := by obtain ⟨_, _, rfl, _⟩ := h; rfl
theorem rel_one_fld {S : Nat → Prop} {w : World} {cs : List Value} {x : Fld} (h : eFld.rel S w cs x) : cs.all Value.oneCell' = true := by obtain rfl : cs = encFld x := h; rfl
theorem rel_one_mth {S : Nat → Prop} {w : World} {cs : List Value} {x : Mth} (h : eMth.rel S w cs x) : cs.all Value.oneCell' = true := by obtain ⟨_, _, _, _, _, _, rfl, _⟩ := h; rfl
theorem rel_one_ty {S : Nat → Prop} {w : World} {cs : List Value} {x : Ty} (h : eTy.rel S w cs x) : cs.all Value.oneCell' = true := by obtain rfl : cs = encTy x := h; rfl
theorem rel_one_ins {S : Nat → Prop} {w : World} {cs : List Value} {x : Ins} (h : eIns.rel S w cs x) : cs.all Value.oneCell' = true := by obtain rfl : cs = encIns x := h; rfl
theorem put_str (out : ByteArray → List UInt8) (l : List ByteArray) (aL : Option Addr) (cL : Nat) (g : FuncId) (first caps : List Value) (wb B : Nat) (P : Option Addr → World → Prop) (hP : ∀ a w a' w', P a w → Stp (WX wb) a w a' w' → P a' w')
    (hone : ∀ x cs a cap bs w, x ∈ l → P a w → WS B wb a cap bs w → (eStr).rel (· < B) w cs x → (bs ++ out x).length ≤ MX → Ret Tryz.prog g (first ++ ([asV cs] ++ caps)).toArray w fun _ w' => ∃ a' cap', WS B wb a' cap' (bs ++ out x) w' ∧ Stp (WX wb) a w a' w')
    (a : Option Addr) (cap : Nat) (bs : List UInt8) (w : World) (hW : WS B wb a cap bs w) (hPw : P a w) (hS : Sl eStr (· < B) w aL l) (hM : (bs ++ oList out l).length ≤ MX) :
    Ret Tryz.prog 104 #[.pointer (some ⟨wb, 0, none⟩), .slice aL l.length cL, .func (.func g) first.toArray caps.toArray] w fun _ w' => ∃ a' cap', WS B wb a' cap' (bs ++ oList out l) w' ∧ Stp (WX wb) a w a' w' := by
  have hbig := hS.big
  have hw : isWord (l.length : Int) = true := by unfold isWord; simp; omega
  have h4 := num_word hw
  have e1 : [(l.length : Int)].flatMap num = num l.length := by simp
  have e2 : (bs ++ oList out l).length = bs.length + 4 + (l.flatMap out).length := by unfold oList; rw [List.length_append, List.length_append, h4]; omega
  refine entr (vs := [.pointer (some ⟨wb, 0, none⟩), .slice aL l.length cL, .func (.func g) first.toArray caps.toArray]) [0, 1, 2, 7, 13, 14, 15, 16] tabok Tryz.func104 (by kernel_rfl) ?_
  refine Eng.bs fun b1 w1 h1 => ?_
  refine cl (wr_nums [(l.length : Int)] hW h1 (by simp) (by rw [e1, List.length_append, h4]; omega)) ?_
  rintro v w2 ⟨a2, c2, hW2, hT2⟩
  rw [e1] at hW2
  refine lpk l.length 15 [] [(2, .func (.func g) first.toArray caps.toArray), (13, .slice aL l.length cL), (14, I l.length)] (fun k vals w' => vals = [] ∧ ∃ a' cap', WS B wb a' cap' (bs ++ num l.length ++ (l.take k).flatMap out) w' ∧ Stp (WX wb) a w a' w') ⟨rfl, a2, c2, by simpa using hW2, hT2⟩ ?_
  rintro k vals w3 hk ⟨rfl, a3, c3, hW3, hT3⟩ ih
  by_cases hlt : k < l.length
  · refine brT ?_
    obtain ⟨x, b, o, cs, hx, rfl, hSb, hAt, hrel⟩ := at_some (hS.kp (Below.kp (hW.below hT3))) hlt
    have hlen : (bs ++ num l.length ++ (l.take k).flatMap out ++ out x).length ≤ MX := by
      have e3 : ((l.take (k + 1)).flatMap out).length = ((l.take k).flatMap out).length + (out x).length := by rw [flatMap_snoc hx, List.length_append]
      have := flatMap_take_len out l (k + 1)
      rw [List.length_append, List.length_append, List.length_append, h4]
      omega
    refine ix ?_
    obtain rfl : cs = [.string x] := hrel
    refine ld (hAt 0 _ rfl) ?_
    refine cl (hone x [.string x] a3 c3 _ w3 (List.mem_of_getElem? hx) (hP _ _ _ _ hPw hT3) hW3 rfl hlen) ?_
    rintro v5 w5 ⟨a5, c5, hW5, hT5⟩
    refine ih hlt ⟨rfl, a5, c5, ?_, hT3.trans hT5⟩
    rw [flatMap_snoc hx, ← List.append_assoc]; exact hW5
  · refine brF ?_
    obtain rfl : k = l.length := by omega
    rw [List.take_length] at hW3
    exact en (vs := []) ⟨a3, c3, by unfold oList; rw [← List.append_assoc]; exact hW3, hT3⟩
theorem put_cls (out : Cls → List UInt8) (l : List Cls) (aL : Option Addr) (cL : Nat) (g : FuncId) (first caps : List Value) (wb B : Nat) (P : Option Addr → World → Prop) (hP : ∀ a w a' w', P a w → Stp (WX wb) a w a' w' → P a' w')
    (hone : ∀ x cs a cap bs w, x ∈ l → P a w → WS B wb a cap bs w → (eCls).rel (· < B) w cs x → (bs ++ out x).length ≤ MX → Ret Tryz.prog g (first ++ ([asV cs] ++ caps)).toArray w fun _ w' => ∃ a' cap', WS B wb a' cap' (bs ++ out x) w' ∧ Stp (WX wb) a w a' w')
    (a : Option Addr) (cap : Nat) (bs : List UInt8) (w : World) (hW : WS B wb a cap bs w) (hPw : P a w) (hS : Sl eCls (· < B) w aL l) (hM : (bs ++ oList out l).length ≤ MX) :
    Ret Tryz.prog 105 #[.pointer (some ⟨wb, 0, none⟩), .slice aL l.length cL, .func (.func g) first.toArray caps.toArray] w fun _ w' => ∃ a' cap', WS B wb a' cap' (bs ++ oList out l) w' ∧ Stp (WX wb) a w a' w' := by
  have hbig := hS.big
  have hw : isWord (l.length : Int) = true := by unfold isWord; simp; omega
  have h4 := num_word hw
  have e1 : [(l.length : Int)].flatMap num = num l.length := by simp
  have e2 : (bs ++ oList out l).length = bs.length + 4 + (l.flatMap out).length := by unfold oList; rw [List.length_append, List.length_append, h4]; omega
  refine entr (vs := [.pointer (some ⟨wb, 0, none⟩), .slice aL l.length cL, .func (.func g) first.toArray caps.toArray]) [0, 1, 2, 7, 13, 14, 15, 16] tabok Tryz.func105 (by kernel_rfl) ?_
  refine Eng.bs fun b1 w1 h1 => ?_
  refine cl (wr_nums [(l.length : Int)] hW h1 (by simp) (by rw [e1, List.length_append, h4]; omega)) ?_
  rintro v w2 ⟨a2, c2, hW2, hT2⟩
  rw [e1] at hW2
  refine lpk l.length 15 [] [(2, .func (.func g) first.toArray caps.toArray), (13, .slice aL l.length cL), (14, I l.length)] (fun k vals w' => vals = [] ∧ ∃ a' cap', WS B wb a' cap' (bs ++ num l.length ++ (l.take k).flatMap out) w' ∧ Stp (WX wb) a w a' w') ⟨rfl, a2, c2, by simpa using hW2, hT2⟩ ?_
  rintro k vals w3 hk ⟨rfl, a3, c3, hW3, hT3⟩ ih
  by_cases hlt : k < l.length
  · refine brT ?_
    obtain ⟨x, b, o, cs, hx, rfl, hSb, hAt, hrel⟩ := at_some (hS.kp (Below.kp (hW.below hT3))) hlt
    have hlen : (bs ++ num l.length ++ (l.take k).flatMap out ++ out x).length ≤ MX := by
      have e3 : ((l.take (k + 1)).flatMap out).length = ((l.take k).flatMap out).length + (out x).length := by rw [flatMap_snoc hx, List.length_append]
      have := flatMap_take_len out l (k + 1)
      rw [List.length_append, List.length_append, List.length_append, h4]
      omega
    refine ix ?_
    have hcl := (eCls).len hrel
    refine lda hAt ?_ (hl := hcl)
    refine al fun b4 w4 h4' => ?_
    refine stw h4'.box hcl rfl (rel_one_cls hrel) (fun w6 h6 y6 => ?_)
    have hB4 : Bl w3 w6 := Eng.New.wr h4' h6
    refine lda y6.at ?_ (hl := hcl)
    refine cl (hone x cs a3 c3 _ w6 (List.mem_of_getElem? hx) (hP _ _ _ _ hPw (hT3.trans (Stp.bl hB4))) (hW3.bl hB4) ((eCls).kp (hB4.kp _) hrel) hlen) ?_ (hav := by rw [asV_agg hcl (by decide)])
    rintro v5 w5 ⟨a5, c5, hW5, hT5⟩
    refine ih hlt ⟨rfl, a5, c5, ?_, (hT3.trans (Stp.bl hB4)).trans hT5⟩
    rw [flatMap_snoc hx, ← List.append_assoc]; exact hW5
  · refine brF ?_
    obtain rfl : k = l.length := by omega
    rw [List.take_length] at hW3
    exact en (vs := []) ⟨a3, c3, by unfold oList; rw [← List.append_assoc]; exact hW3, hT3⟩
theorem put_fld (out : Fld → List UInt8) (l : List Fld) (aL : Option Addr) (cL : Nat) (g : FuncId) (first caps : List Value) (wb B : Nat) (P : Option Addr → World → Prop) (hP : ∀ a w a' w', P a w → Stp (WX wb) a w a' w' → P a' w')
    (hone : ∀ x cs a cap bs w, x ∈ l → P a w → WS B wb a cap bs w → (eFld).rel (· < B) w cs x → (bs ++ out x).length ≤ MX → Ret Tryz.prog g (first ++ ([asV cs] ++ caps)).toArray w fun _ w' => ∃ a' cap', WS B wb a' cap' (bs ++ out x) w' ∧ Stp (WX wb) a w a' w')
    (a : Option Addr) (cap : Nat) (bs : List UInt8) (w : World) (hW : WS B wb a cap bs w) (hPw : P a w) (hS : Sl eFld (· < B) w aL l) (hM : (bs ++ oList out l).length ≤ MX) :
    Ret Tryz.prog 107 #[.pointer (some ⟨wb, 0, none⟩), .slice aL l.length cL, .func (.func g) first.toArray caps.toArray] w fun _ w' => ∃ a' cap', WS B wb a' cap' (bs ++ oList out l) w' ∧ Stp (WX wb) a w a' w' := by
  have hbig := hS.big
  have hw : isWord (l.length : Int) = true := by unfold isWord; simp; omega
  have h4 := num_word hw
  have e1 : [(l.length : Int)].flatMap num = num l.length := by simp
  have e2 : (bs ++ oList out l).length = bs.length + 4 + (l.flatMap out).length := by unfold oList; rw [List.length_append, List.length_append, h4]; omega
  refine entr (vs := [.pointer (some ⟨wb, 0, none⟩), .slice aL l.length cL, .func (.func g) first.toArray caps.toArray]) [0, 1, 2, 7, 13, 14, 15, 16] tabok Tryz.func107 (by kernel_rfl) ?_
  refine Eng.bs fun b1 w1 h1 => ?_
  refine cl (wr_nums [(l.length : Int)] hW h1 (by simp) (by rw [e1, List.length_append, h4]; omega)) ?_
  rintro v w2 ⟨a2, c2, hW2, hT2⟩
  rw [e1] at hW2
  refine lpk l.length 15 [] [(2, .func (.func g) first.toArray caps.toArray), (13, .slice aL l.length cL), (14, I l.length)] (fun k vals w' => vals = [] ∧ ∃ a' cap', WS B wb a' cap' (bs ++ num l.length ++ (l.take k).flatMap out) w' ∧ Stp (WX wb) a w a' w') ⟨rfl, a2, c2, by simpa using hW2, hT2⟩ ?_
  rintro k vals w3 hk ⟨rfl, a3, c3, hW3, hT3⟩ ih
  by_cases hlt : k < l.length
  · refine brT ?_
    obtain ⟨x, b, o, cs, hx, rfl, hSb, hAt, hrel⟩ := at_some (hS.kp (Below.kp (hW.below hT3))) hlt
    have hlen : (bs ++ num l.length ++ (l.take k).flatMap out ++ out x).length ≤ MX := by
      have e3 : ((l.take (k + 1)).flatMap out).length = ((l.take k).flatMap out).length + (out x).length := by rw [flatMap_snoc hx, List.length_append]
      have := flatMap_take_len out l (k + 1)
      rw [List.length_append, List.length_append, List.length_append, h4]
      omega
    refine ix ?_
    have hcl := (eFld).len hrel
    refine lda hAt ?_ (hl := hcl)
    refine al fun b4 w4 h4' => ?_
    refine stw h4'.box hcl rfl (rel_one_fld hrel) (fun w6 h6 y6 => ?_)
    have hB4 : Bl w3 w6 := Eng.New.wr h4' h6
    refine lda y6.at ?_ (hl := hcl)
    refine cl (hone x cs a3 c3 _ w6 (List.mem_of_getElem? hx) (hP _ _ _ _ hPw (hT3.trans (Stp.bl hB4))) (hW3.bl hB4) ((eFld).kp (hB4.kp _) hrel) hlen) ?_ (hav := by rw [asV_agg hcl (by decide)])
    rintro v5 w5 ⟨a5, c5, hW5, hT5⟩
    refine ih hlt ⟨rfl, a5, c5, ?_, (hT3.trans (Stp.bl hB4)).trans hT5⟩
    rw [flatMap_snoc hx, ← List.append_assoc]; exact hW5
  · refine brF ?_
    obtain rfl : k = l.length := by omega
    rw [List.take_length] at hW3
    exact en (vs := []) ⟨a3, c3, by unfold oList; rw [← List.append_assoc]; exact hW3, hT3⟩
theorem put_mth (out : Mth → List UInt8) (l : List Mth) (aL : Option Addr) (cL : Nat) (g : FuncId) (first caps : List Value) (wb B : Nat) (P : Option Addr → World → Prop) (hP : ∀ a w a' w', P a w → Stp (WX wb) a w a' w' → P a' w')
    (hone : ∀ x cs a cap bs w, x ∈ l → P a w → WS B wb a cap bs w → (eMth).rel (· < B) w cs x → (bs ++ out x).length ≤ MX → Ret Tryz.prog g (first ++ ([asV cs] ++ caps)).toArray w fun _ w' => ∃ a' cap', WS B wb a' cap' (bs ++ out x) w' ∧ Stp (WX wb) a w a' w')
    (a : Option Addr) (cap : Nat) (bs : List UInt8) (w : World) (hW : WS B wb a cap bs w) (hPw : P a w) (hS : Sl eMth (· < B) w aL l) (hM : (bs ++ oList out l).length ≤ MX) :
    Ret Tryz.prog 109 #[.pointer (some ⟨wb, 0, none⟩), .slice aL l.length cL, .func (.func g) first.toArray caps.toArray] w fun _ w' => ∃ a' cap', WS B wb a' cap' (bs ++ oList out l) w' ∧ Stp (WX wb) a w a' w' := by
  have hbig := hS.big
  have hw : isWord (l.length : Int) = true := by unfold isWord; simp; omega
  have h4 := num_word hw
  have e1 : [(l.length : Int)].flatMap num = num l.length := by simp
  have e2 : (bs ++ oList out l).length = bs.length + 4 + (l.flatMap out).length := by unfold oList; rw [List.length_append, List.length_append, h4]; omega
  refine entr (vs := [.pointer (some ⟨wb, 0, none⟩), .slice aL l.length cL, .func (.func g) first.toArray caps.toArray]) [0, 1, 2, 7, 13, 14, 15, 16] tabok Tryz.func109 (by kernel_rfl) ?_
  refine Eng.bs fun b1 w1 h1 => ?_
  refine cl (wr_nums [(l.length : Int)] hW h1 (by simp) (by rw [e1, List.length_append, h4]; omega)) ?_
  rintro v w2 ⟨a2, c2, hW2, hT2⟩
  rw [e1] at hW2
  refine lpk l.length 15 [] [(2, .func (.func g) first.toArray caps.toArray), (13, .slice aL l.length cL), (14, I l.length)] (fun k vals w' => vals = [] ∧ ∃ a' cap', WS B wb a' cap' (bs ++ num l.length ++ (l.take k).flatMap out) w' ∧ Stp (WX wb) a w a' w') ⟨rfl, a2, c2, by simpa using hW2, hT2⟩ ?_
  rintro k vals w3 hk ⟨rfl, a3, c3, hW3, hT3⟩ ih
  by_cases hlt : k < l.length
  · refine brT ?_
    obtain ⟨x, b, o, cs, hx, rfl, hSb, hAt, hrel⟩ := at_some (hS.kp (Below.kp (hW.below hT3))) hlt
    have hlen : (bs ++ num l.length ++ (l.take k).flatMap out ++ out x).length ≤ MX := by
      have e3 : ((l.take (k + 1)).flatMap out).length = ((l.take k).flatMap out).length + (out x).length := by rw [flatMap_snoc hx, List.length_append]
      have := flatMap_take_len out l (k + 1)
      rw [List.length_append, List.length_append, List.length_append, h4]
      omega
    refine ix ?_
    have hcl := (eMth).len hrel
    refine lda hAt ?_ (hl := hcl)
    refine al fun b4 w4 h4' => ?_
    refine stw h4'.box hcl rfl (rel_one_mth hrel) (fun w6 h6 y6 => ?_)
    have hB4 : Bl w3 w6 := Eng.New.wr h4' h6
    refine lda y6.at ?_ (hl := hcl)
    refine cl (hone x cs a3 c3 _ w6 (List.mem_of_getElem? hx) (hP _ _ _ _ hPw (hT3.trans (Stp.bl hB4))) (hW3.bl hB4) ((eMth).kp (hB4.kp _) hrel) hlen) ?_ (hav := by rw [asV_agg hcl (by decide)])
    rintro v5 w5 ⟨a5, c5, hW5, hT5⟩
    refine ih hlt ⟨rfl, a5, c5, ?_, (hT3.trans (Stp.bl hB4)).trans hT5⟩
    rw [flatMap_snoc hx, ← List.append_assoc]; exact hW5
  · refine brF ?_
    obtain rfl : k = l.length := by omega
    rw [List.take_length] at hW3
    exact en (vs := []) ⟨a3, c3, by unfold oList; rw [← List.append_assoc]; exact hW3, hT3⟩
theorem put_ty (out : Ty → List UInt8) (l : List Ty) (aL : Option Addr) (cL : Nat) (g : FuncId) (first caps : List Value) (wb B : Nat) (P : Option Addr → World → Prop) (hP : ∀ a w a' w', P a w → Stp (WX wb) a w a' w' → P a' w')
    (hone : ∀ x cs a cap bs w, x ∈ l → P a w → WS B wb a cap bs w → (eTy).rel (· < B) w cs x → (bs ++ out x).length ≤ MX → Ret Tryz.prog g (first ++ ([asV cs] ++ caps)).toArray w fun _ w' => ∃ a' cap', WS B wb a' cap' (bs ++ out x) w' ∧ Stp (WX wb) a w a' w')
    (a : Option Addr) (cap : Nat) (bs : List UInt8) (w : World) (hW : WS B wb a cap bs w) (hPw : P a w) (hS : Sl eTy (· < B) w aL l) (hM : (bs ++ oList out l).length ≤ MX) :
    Ret Tryz.prog 157 #[.pointer (some ⟨wb, 0, none⟩), .slice aL l.length cL, .func (.func g) first.toArray caps.toArray] w fun _ w' => ∃ a' cap', WS B wb a' cap' (bs ++ oList out l) w' ∧ Stp (WX wb) a w a' w' := by
  have hbig := hS.big
  have hw : isWord (l.length : Int) = true := by unfold isWord; simp; omega
  have h4 := num_word hw
  have e1 : [(l.length : Int)].flatMap num = num l.length := by simp
  have e2 : (bs ++ oList out l).length = bs.length + 4 + (l.flatMap out).length := by unfold oList; rw [List.length_append, List.length_append, h4]; omega
  refine entr (vs := [.pointer (some ⟨wb, 0, none⟩), .slice aL l.length cL, .func (.func g) first.toArray caps.toArray]) [0, 1, 2, 7, 13, 14, 15, 16] tabok Tryz.func157 (by kernel_rfl) ?_
  refine Eng.bs fun b1 w1 h1 => ?_
  refine cl (wr_nums [(l.length : Int)] hW h1 (by simp) (by rw [e1, List.length_append, h4]; omega)) ?_
  rintro v w2 ⟨a2, c2, hW2, hT2⟩
  rw [e1] at hW2
  refine lpk l.length 15 [] [(2, .func (.func g) first.toArray caps.toArray), (13, .slice aL l.length cL), (14, I l.length)] (fun k vals w' => vals = [] ∧ ∃ a' cap', WS B wb a' cap' (bs ++ num l.length ++ (l.take k).flatMap out) w' ∧ Stp (WX wb) a w a' w') ⟨rfl, a2, c2, by simpa using hW2, hT2⟩ ?_
  rintro k vals w3 hk ⟨rfl, a3, c3, hW3, hT3⟩ ih
  by_cases hlt : k < l.length
  · refine brT ?_
    obtain ⟨x, b, o, cs, hx, rfl, hSb, hAt, hrel⟩ := at_some (hS.kp (Below.kp (hW.below hT3))) hlt
    have hlen : (bs ++ num l.length ++ (l.take k).flatMap out ++ out x).length ≤ MX := by
      have e3 : ((l.take (k + 1)).flatMap out).length = ((l.take k).flatMap out).length + (out x).length := by rw [flatMap_snoc hx, List.length_append]
      have := flatMap_take_len out l (k + 1)
      rw [List.length_append, List.length_append, List.length_append, h4]
      omega
    refine ix ?_
    have hcl := (eTy).len hrel
    refine lda hAt ?_ (hl := hcl)
    refine al fun b4 w4 h4' => ?_
    refine stw h4'.box hcl rfl (rel_one_ty hrel) (fun w6 h6 y6 => ?_)
    have hB4 : Bl w3 w6 := Eng.New.wr h4' h6
    refine lda y6.at ?_ (hl := hcl)
    refine cl (hone x cs a3 c3 _ w6 (List.mem_of_getElem? hx) (hP _ _ _ _ hPw (hT3.trans (Stp.bl hB4))) (hW3.bl hB4) ((eTy).kp (hB4.kp _) hrel) hlen) ?_ (hav := by rw [asV_agg hcl (by decide)])
    rintro v5 w5 ⟨a5, c5, hW5, hT5⟩
    refine ih hlt ⟨rfl, a5, c5, ?_, (hT3.trans (Stp.bl hB4)).trans hT5⟩
    rw [flatMap_snoc hx, ← List.append_assoc]; exact hW5
  · refine brF ?_
    obtain rfl : k = l.length := by omega
    rw [List.take_length] at hW3
    exact en (vs := []) ⟨a3, c3, by unfold oList; rw [← List.append_assoc]; exact hW3, hT3⟩
theorem put_ins (out : Ins → List UInt8) (l : List Ins) (aL : Option Addr) (cL : Nat) (g : FuncId) (first caps : List Value) (wb B : Nat) (P : Option Addr → World → Prop) (hP : ∀ a w a' w', P a w → Stp (WX wb) a w a' w' → P a' w')
    (hone : ∀ x cs a cap bs w, x ∈ l → P a w → WS B wb a cap bs w → (eIns).rel (· < B) w cs x → (bs ++ out x).length ≤ MX → Ret Tryz.prog g (first ++ ([asV cs] ++ caps)).toArray w fun _ w' => ∃ a' cap', WS B wb a' cap' (bs ++ out x) w' ∧ Stp (WX wb) a w a' w')
    (a : Option Addr) (cap : Nat) (bs : List UInt8) (w : World) (hW : WS B wb a cap bs w) (hPw : P a w) (hS : Sl eIns (· < B) w aL l) (hM : (bs ++ oList out l).length ≤ MX) :
    Ret Tryz.prog 158 #[.pointer (some ⟨wb, 0, none⟩), .slice aL l.length cL, .func (.func g) first.toArray caps.toArray] w fun _ w' => ∃ a' cap', WS B wb a' cap' (bs ++ oList out l) w' ∧ Stp (WX wb) a w a' w' := by
  have hbig := hS.big
  have hw : isWord (l.length : Int) = true := by unfold isWord; simp; omega
  have h4 := num_word hw
  have e1 : [(l.length : Int)].flatMap num = num l.length := by simp
  have e2 : (bs ++ oList out l).length = bs.length + 4 + (l.flatMap out).length := by unfold oList; rw [List.length_append, List.length_append, h4]; omega
  refine entr (vs := [.pointer (some ⟨wb, 0, none⟩), .slice aL l.length cL, .func (.func g) first.toArray caps.toArray]) [0, 1, 2, 7, 13, 14, 15, 16] tabok Tryz.func158 (by kernel_rfl) ?_
  refine Eng.bs fun b1 w1 h1 => ?_
  refine cl (wr_nums [(l.length : Int)] hW h1 (by simp) (by rw [e1, List.length_append, h4]; omega)) ?_
  rintro v w2 ⟨a2, c2, hW2, hT2⟩
  rw [e1] at hW2
  refine lpk l.length 15 [] [(2, .func (.func g) first.toArray caps.toArray), (13, .slice aL l.length cL), (14, I l.length)] (fun k vals w' => vals = [] ∧ ∃ a' cap', WS B wb a' cap' (bs ++ num l.length ++ (l.take k).flatMap out) w' ∧ Stp (WX wb) a w a' w') ⟨rfl, a2, c2, by simpa using hW2, hT2⟩ ?_
  rintro k vals w3 hk ⟨rfl, a3, c3, hW3, hT3⟩ ih
  by_cases hlt : k < l.length
  · refine brT ?_
    obtain ⟨x, b, o, cs, hx, rfl, hSb, hAt, hrel⟩ := at_some (hS.kp (Below.kp (hW.below hT3))) hlt
    have hlen : (bs ++ num l.length ++ (l.take k).flatMap out ++ out x).length ≤ MX := by
      have e3 : ((l.take (k + 1)).flatMap out).length = ((l.take k).flatMap out).length + (out x).length := by rw [flatMap_snoc hx, List.length_append]
      have := flatMap_take_len out l (k + 1)
      rw [List.length_append, List.length_append, List.length_append, h4]
      omega
    refine ix ?_
    have hcl := (eIns).len hrel
    refine lda hAt ?_ (hl := hcl)
    refine al fun b4 w4 h4' => ?_
    refine stw h4'.box hcl rfl (rel_one_ins hrel) (fun w6 h6 y6 => ?_)
    have hB4 : Bl w3 w6 := Eng.New.wr h4' h6
    refine lda y6.at ?_ (hl := hcl)
    refine cl (hone x cs a3 c3 _ w6 (List.mem_of_getElem? hx) (hP _ _ _ _ hPw (hT3.trans (Stp.bl hB4))) (hW3.bl hB4) ((eIns).kp (hB4.kp _) hrel) hlen) ?_ (hav := by rw [asV_agg hcl (by decide)])
    rintro v5 w5 ⟨a5, c5, hW5, hT5⟩
    refine ih hlt ⟨rfl, a5, c5, ?_, (hT3.trans (Stp.bl hB4)).trans hT5⟩
    rw [flatMap_snoc hx, ← List.append_assoc]; exact hW5
  · refine brF ?_
    obtain rfl : k = l.length := by omega
    rw [List.take_length] at hW3
    exact en (vs := []) ⟨a3, c3, by unfold oList; rw [← List.append_assoc]; exact hW3, hT3⟩
end Go.Proofs.YtopjmiklpnejmaaGreatDoor
/- Walks: the program's Encode. -/
namespace Go.Proofs.YtopjmiklpnejmaaGreatDoor
open Eng Go.RowKit
theorem wr_kind (t : Ty) (wb B : Nat) (a : Option Addr) (cap : Nat) (ss : List UInt8) (w : World) (hW : WS B wb a cap ss w) (hn : (ss ++ oTy t).length ≤ MX) :
    Ret Tryz.prog 156 #[.pointer (some ⟨wb, 0, none⟩), .agg #[I t.kind, I t.cls]] w fun _ w' => ∃ a' cap', WS B wb a' cap' (ss ++ oTy t) w' ∧ Stp (WX wb) a w a' w' := by
  have e1 : [t.kind, t.cls].flatMap num = oTy t := by simp [oTy]
  refine entr (vs := [.pointer (some ⟨wb, 0, none⟩), .agg #[I t.kind, I t.cls]]) [0, 1, 3] tabok Tryz.func156 (by kernel_rfl) ?_
  refine bx (cs := [I t.kind, I t.cls]) fun b1 w1 h1 => ?_
  refine ld (h1.box.cell rfl) ?_
  refine ld (h1.box.cell rfl) ?_
  refine bs fun b2 w2 h2 => ?_
  refine cl (wr_nums [t.kind, t.cls] (hW.bl h1.bl) h2 (by simp) (by rw [e1]; exact hn)) ?_
  rintro v w3 ⟨a3, c3, hW3, hT3⟩
  rw [e1] at hW3
  exact en (vs := []) ⟨a3, c3, hW3, (Stp.bl h1.bl).trans hT3⟩
theorem wr_field (f : Fld) (wb B : Nat) (a : Option Addr) (cap : Nat) (ss : List UInt8) (w : World) (hW : WS B wb a cap ss w) (hn : (ss ++ oFld f).length ≤ MX) :
    Ret Tryz.prog 108 #[.pointer (some ⟨wb, 0, none⟩), .agg (encFld f).toArray] w fun _ w' => ∃ a' cap', WS B wb a' cap' (ss ++ oFld f) w' ∧ Stp (WX wb) a w a' w' := by
  have e1 : [f.name].flatMap num = num f.name := by simp
  have e2 : ss ++ oFld f = ss ++ num f.name ++ oTy f.ty := by unfold oFld; rw [List.append_assoc]
  rw [e2] at hn ⊢
  have hn1 : (ss ++ num f.name).length ≤ MX := by rw [List.length_append] at hn; exact Nat.le_trans (Nat.le_add_right _ _) hn
  refine entr (vs := [.pointer (some ⟨wb, 0, none⟩), .agg (encFld f).toArray]) [0, 1, 3] tabok Tryz.func108 (by kernel_rfl) ?_
  refine bx (cs := encFld f) fun b1 w1 h1 => ?_
  refine ld (h1.box.cell rfl) ?_
  refine bs fun b2 w2 h2 => ?_
  refine cl (wr_nums [f.name] (hW.bl h1.bl) h2 (by simp) (by rw [e1]; exact hn1)) ?_
  rintro v w3 ⟨a3, c3, hW3, hT3⟩
  rw [e1] at hW3
  have q1 : b1 ≠ wb := by have := h1.blk; have := hW.box.lt; omega
  have q2 : a ≠ some ⟨b1, 0, none⟩ := fun e => by have := (hW.row.lt e).2; have := h1.blk; omega
  refine lda (fldAt (hT3.box h1.box q1 q2).at) ?_
  refine cl (wr_kind f.ty wb B a3 c3 _ w3 hW3 hn) ?_
  rintro v w4 ⟨a4, c4, hW4, hT4⟩
  exact en (vs := []) ⟨a4, c4, hW4, ((Stp.bl h1.bl).trans hT3).trans hT4⟩
theorem wr_fields (l : List Fld) (aL : Option Addr) (cL wb B : Nat) (a : Option Addr) (cap : Nat) (ss : List UInt8) (w : World) (hW : WS B wb a cap ss w) (hS : Sl eFld (· < B) w aL l) (hM : (ss ++ oList oFld l).length ≤ MX) :
    Ret Tryz.prog 107 #[.pointer (some ⟨wb, 0, none⟩), .slice aL l.length cL, .func (.func 108) #[.pointer (some ⟨wb, 0, none⟩)] #[]] w fun _ w' => ∃ a' cap', WS B wb a' cap' (ss ++ oList oFld l) w' ∧ Stp (WX wb) a w a' w' :=
  put_fld oFld l aL cL _ [.pointer (some ⟨wb, 0, none⟩)] [] wb B (fun _ _ => True) (fun _ _ _ _ _ _ => trivial) (fun x cs a cap ss w _ _ hW hr hn => by
    obtain rfl : cs = encFld x := hr
    exact wr_field x wb B a cap ss w hW hn) a cap ss w hW trivial hS hM
theorem wr_types (l : List Ty) (aL : Option Addr) (cL wb B : Nat) (a : Option Addr) (cap : Nat) (ss : List UInt8) (w : World) (hW : WS B wb a cap ss w) (hS : Sl eTy (· < B) w aL l) (hM : (ss ++ oList oTy l).length ≤ MX) :
    Ret Tryz.prog 157 #[.pointer (some ⟨wb, 0, none⟩), .slice aL l.length cL, .func (.func 156) #[.pointer (some ⟨wb, 0, none⟩)] #[]] w fun _ w' => ∃ a' cap', WS B wb a' cap' (ss ++ oList oTy l) w' ∧ Stp (WX wb) a w a' w' :=
  put_ty oTy l aL cL _ [.pointer (some ⟨wb, 0, none⟩)] [] wb B (fun _ _ => True) (fun _ _ _ _ _ _ => trivial) (fun x cs a cap ss w _ _ hW hr hn => by
    obtain rfl : cs = encTy x := hr
    exact wr_kind x wb B a cap ss w hW hn) a cap ss w hW trivial hS hM
theorem wr_texts (l : List ByteArray) (hs : ∀ s ∈ l, s.size ≤ 1048576) (aL : Option Addr) (cL wb B : Nat) (a : Option Addr) (cap : Nat) (ss : List UInt8) (w : World) (hW : WS B wb a cap ss w) (hS : Sl eStr (· < B) w aL l) (hM : (ss ++ oList oTxt l).length ≤ MX) :
    Ret Tryz.prog 104 #[.pointer (some ⟨wb, 0, none⟩), .slice aL l.length cL, .func (.func 103) #[.pointer (some ⟨wb, 0, none⟩)] #[]] w fun _ w' => ∃ a' cap', WS B wb a' cap' (ss ++ oList oTxt l) w' ∧ Stp (WX wb) a w a' w' :=
  put_str oTxt l aL cL _ [.pointer (some ⟨wb, 0, none⟩)] [] wb B (fun _ _ => True) (fun _ _ _ _ _ _ => trivial) (fun x cs a cap ss w hx _ hW hr hn => by
    obtain rfl : cs = [.string x] := hr
    exact wr_text x wb B a cap ss w hW (hs x hx) hn) a cap ss w hW trivial hS hM
theorem wr_class (c : Cls) (af : Option Addr) (cf : Nat) (wb B : Nat) (a : Option Addr) (cap : Nat) (ss : List UInt8) (w : World) (hW : WS B wb a cap ss w) (hF : Sl eFld (· < B) w af c.fields) (hn : (ss ++ oCls c).length ≤ MX) :
    Ret Tryz.prog 106 #[.pointer (some ⟨wb, 0, none⟩), .agg (ccells c af cf).toArray] w fun _ w' => ∃ a' cap', WS B wb a' cap' (ss ++ oCls c) w' ∧ Stp (WX wb) a w a' w' := by
  have e1 : [c.name, c.super].flatMap num = num c.name ++ num c.super := by simp
  have e2 : ss ++ oCls c = ss ++ (num c.name ++ num c.super) ++ oList oFld c.fields := by unfold oCls; simp only [List.append_assoc]
  rw [e2] at hn ⊢
  have hn1 : (ss ++ (num c.name ++ num c.super)).length ≤ MX := by rw [List.length_append] at hn; exact Nat.le_trans (Nat.le_add_right _ _) hn
  refine entr (vs := [.pointer (some ⟨wb, 0, none⟩), .agg (ccells c af cf).toArray]) [0, 1, 3] tabok Tryz.func106 (by kernel_rfl) ?_
  refine bx (cs := ccells c af cf) fun b1 w1 h1 => ?_
  refine ld (h1.box.cell rfl) ?_
  refine ld (h1.box.cell rfl) ?_
  refine bs fun b2 w2 h2 => ?_
  refine cl (wr_nums [c.name, c.super] (hW.bl h1.bl) h2 (by simp) (by rw [e1]; exact hn1)) ?_
  rintro v w3 ⟨a3, c3, hW3, hT3⟩
  rw [e1] at hW3
  have q1 : b1 ≠ wb := by have := h1.blk; have := hW.box.lt; omega
  have q2 : a ≠ some ⟨b1, 0, none⟩ := fun e => by have := (hW.row.lt e).2; have := h1.blk; omega
  refine ld ((hT3.box h1.box q1 q2).cell rfl) ?_
  have hT : Stp (WX wb) a w a3 w3 := (Stp.bl h1.bl).trans hT3
  refine cl (wr_fields c.fields af cf wb B a3 c3 _ w3 hW3 (hF.kp (Below.kp (hW.below hT))) hn) ?_
  rintro v w4 ⟨a4, c4, hW4, hT4⟩
  exact en (vs := []) ⟨a4, c4, hW4, hT.trans hT4⟩
theorem wr_ins1 (i : Ins) (b2 wb B : Nat) (a : Option Addr) (cap : Nat) (ss : List UInt8) (w : World) (hW : WS B wb a cap ss w) (hb : Box w b2 117 [.pointer (some ⟨wb, 0, none⟩)]) (hn : (ss ++ oIns i).length ≤ MX) :
    Ret Tryz.prog 159 #[.agg (encIns i).toArray, .pointer (some ⟨b2, 0, none⟩)] w fun _ w' => ∃ a' cap', WS B wb a' cap' (ss ++ oIns i) w' ∧ Stp (WX wb) a w a' w' := by
  have e1 : [i.op, i.a, i.b].flatMap num = oIns i := by simp [oIns]
  refine entr (vs := [.agg (encIns i).toArray, .pointer (some ⟨b2, 0, none⟩)]) [0, 1, 2] tabok Tryz.func159 (by kernel_rfl) ?_
  refine bx (cs := encIns i) fun b1 w1 h1 => ?_
  refine ld ((Bl.box h1.bl hb).cell rfl) ?_
  refine ld (h1.box.cell rfl) ?_
  refine ld (h1.box.cell rfl) ?_
  refine ld (h1.box.cell rfl) ?_
  refine bs fun b3 w3 h3 => ?_
  refine cl (wr_nums [i.op, i.a, i.b] (hW.bl h1.bl) h3 (by simp) (by rw [e1]; exact hn)) ?_
  rintro v w4 ⟨a4, c4, hW4, hT4⟩
  rw [e1] at hW4
  exact en (vs := []) ⟨a4, c4, hW4, (Stp.bl h1.bl).trans hT4⟩
theorem wr_method (m : Mth) (a1 : Option Addr) (c1 : Nat) (a2 : Option Addr) (c2 : Nat) (a3 : Option Addr) (c3 : Nat) (wb B : Nat) (a : Option Addr) (cap : Nat) (ss : List UInt8) (w : World) (hW : WS B wb a cap ss w)
    (f1 : Sl eTy (· < B) w a1 m.params) (f2 : Sl eTy (· < B) w a2 m.locals) (f3 : Sl eIns (· < B) w a3 m.code) (hn : (ss ++ oMth m).length ≤ MX) :
    Ret Tryz.prog 110 #[.pointer (some ⟨wb, 0, none⟩), .agg (mcells m a1 c1 a2 c2 a3 c3).toArray] w fun _ w' => ∃ a' cap', WS B wb a' cap' (ss ++ oMth m) w' ∧ Stp (WX wb) a w a' w' := by
  have e1 : [m.name, m.cls].flatMap num = num m.name ++ num m.cls := by simp
  have e2 : ss ++ oMth m = ss ++ (num m.name ++ num m.cls) ++ oList oTy m.params ++ oList oTy m.locals ++ oTy m.result ++ oList oIns m.code := by unfold oMth; simp only [List.append_assoc]
  rw [e2] at hn ⊢
  have hn5 := hn
  rw [List.length_append] at hn
  have hn4 := Nat.le_trans (Nat.le_add_right _ _) hn
  have hn3 := hn4
  rw [List.length_append] at hn3
  have hn3 := Nat.le_trans (Nat.le_add_right _ _) hn3
  have hn2 := hn3
  rw [List.length_append] at hn2
  have hn2 := Nat.le_trans (Nat.le_add_right _ _) hn2
  have hn1 := hn2
  rw [List.length_append] at hn1
  have hn1 := Nat.le_trans (Nat.le_add_right _ _) hn1
  refine entr (vs := [.pointer (some ⟨wb, 0, none⟩), .agg (mcells m a1 c1 a2 c2 a3 c3).toArray]) [0, 1, 2, 3] tabok Tryz.func110 (by kernel_rfl) ?_
  refine bx (cs := [.pointer (some ⟨wb, 0, none⟩)]) fun b1 w1 h1 => ?_
  refine bx (cs := mcells m a1 c1 a2 c2 a3 c3) fun b2 w2 h2 => ?_
  have x1 := Bl.box h2.bl h1.box
  have hB2 := h1.bl.trans h2.bl
  have p1 := h1.blk
  have p2 := h2.blk
  have p3 := hW.box.lt
  have p4 := h1.size
  have q1 : b1 ≠ wb := by omega
  have q2 : b2 ≠ wb := by omega
  have q3 : a ≠ some ⟨b1, 0, none⟩ := fun e => by have := (hW.row.lt e).2; omega
  have q4 : a ≠ some ⟨b2, 0, none⟩ := fun e => by have := (hW.row.lt e).2; omega
  refine ld (x1.cell rfl) ?_
  refine ld (h2.box.cell rfl) ?_
  refine ld (h2.box.cell rfl) ?_
  refine bs fun b3 w3 h3 => ?_
  refine cl (wr_nums [m.name, m.cls] (hW.bl hB2) h3 (by simp) (by rw [e1]; exact hn1)) ?_
  rintro v w4 ⟨a4, c4, hW4, hT4⟩
  rw [e1] at hW4
  have X : ∀ {a' w'}, Stp (WX wb) a w2 a' w' → Box w' b1 _ _ ∧ Box w' b2 _ _ ∧ a' ≠ some ⟨b1, 0, none⟩ := fun h => ⟨h.box x1 q1 q3, h.box h2.box q2 q4, h.ne x1.lt q3⟩
  have Bw : ∀ {a' w'}, Stp (WX wb) a w2 a' w' → Below B w w' := fun h => hW.below ((Stp.bl hB2).trans h)
  obtain ⟨y1, y2, _⟩ := X hT4
  refine ld (y1.cell rfl) ?_
  refine ld (y2.cell rfl) ?_
  refine ld (y1.cell rfl) ?_
  refine cl (wr_types m.params a1 c1 wb B a4 c4 _ w4 hW4 (f1.kp (Below.kp (Bw hT4))) hn2) ?_
  rintro v w5 ⟨a5, c5, hW5, hT5⟩
  have hT5 := hT4.trans hT5
  obtain ⟨y1, y2, _⟩ := X hT5
  refine ld (y1.cell rfl) ?_
  refine ld (y2.cell rfl) ?_
  refine ld (y1.cell rfl) ?_
  refine cl (wr_types m.locals a2 c2 wb B a5 c5 _ w5 hW5 (f2.kp (Below.kp (Bw hT5))) hn3) ?_
  rintro v w6 ⟨a6, c6, hW6, hT6⟩
  have hT6 := hT5.trans hT6
  obtain ⟨y1, y2, _⟩ := X hT6
  refine ld (y1.cell rfl) ?_
  refine lda (cs := [I m.result.kind, I m.result.cls]) (b := b2) (o := 4) (fun j v hj => ?_) ?_
  · rcases j with _ | _ | j
    · exact y2.at 4 v hj
    · exact y2.at 5 v hj
    · simp at hj
  refine cl (wr_kind m.result wb B a6 c6 _ w6 hW6 hn4) ?_
  rintro v w7 ⟨a7, c7, hW7, hT7⟩
  have hT7 := hT6.trans hT7
  obtain ⟨y1, y2, y3⟩ := X hT7
  refine ld (y1.cell rfl) ?_
  refine ld (y2.cell rfl) ?_
  refine cl (put_ins oIns m.code a3 c3 159 [] [.pointer (some ⟨b1, 0, none⟩)] wb B (fun a w => Box w b1 117 [.pointer (some ⟨wb, 0, none⟩)] ∧ a ≠ some ⟨b1, 0, none⟩) (fun a w a' w' h k => ⟨k.box h.1 q1 h.2, k.ne h.1.lt h.2⟩) (fun x cs a cap ss w _ hP hW hr hn => by
    obtain rfl : cs = encIns x := hr
    exact wr_ins1 x b1 wb B a cap ss w hW hP.1 hn) a7 c7 _ w7 hW7 ⟨y1, y3⟩ (f3.kp (Below.kp (Bw hT7))) hn5) ?_
  rintro v w8 ⟨a8, c8, hW8, hT8⟩
  exact en (vs := []) ⟨a8, c8, hW8, (Stp.bl hB2).trans (hT7.trans hT8)⟩
end Go.Proofs.YtopjmiklpnejmaaGreatDoor
/- Walks: the program's Encode of a unit. -/
namespace Go.Proofs.YtopjmiklpnejmaaGreatDoor
open Eng Go.RowKit
def magic : List UInt8 := [73, 83, 79, 49]
def body (u : Unt) : List UInt8 := magic ++ oTxt u.name ++ oList oTxt u.pool ++ oList oCls u.classes ++ oList oFld u.statics ++ oList oMth u.methods
def enc (u : Unt) : List UInt8 := body u ++ num (sumB (body u))
theorem oList_le {α : Type} {f : α → List UInt8} {B : Nat} {l : List α} (h : ∀ x ∈ l, (f x).length ≤ B) : (oList f l).length ≤ 4 + l.length * B := by
  unfold oList
  rw [List.length_append]
  have := num_len l.length
  have := flatMap_le h
  omega
theorem oTy_le (t : Ty) : (oTy t).length ≤ 8 := by unfold oTy; rw [List.length_append]; have := num_len t.kind; have := num_len t.cls; omega
theorem oFld_le (f : Fld) : (oFld f).length ≤ 12 := by unfold oFld; rw [List.length_append]; have := num_len f.name; have := oTy_le f.ty; omega
theorem oIns_le (i : Ins) : (oIns i).length ≤ 12 := by unfold oIns; rw [List.length_append, List.length_append]; have := num_len i.op; have := num_len i.a; have := num_len i.b; omega
theorem oTxt_le (s : ByteArray) : (oTxt s).length ≤ 4 + s.size := by unfold oTxt; rw [List.length_append, ba_len]; have := num_len s.size; omega
theorem oCls_le {c : Cls} (h : c.fields.length ≤ 7) : (oCls c).length ≤ 96 := by
  unfold oCls
  rw [List.length_append, List.length_append]
  have := num_len c.name
  have := num_len c.super
  have := oList_le (l := c.fields) fun f _ => oFld_le f
  omega
theorem oMth_le {m : Mth} (h : m.params.length + m.locals.length ≤ 10) (hc : m.code.length ≤ 120) : (oMth m).length ≤ 1548 := by
  unfold oMth
  simp only [List.length_append]
  have := num_len m.name
  have := num_len m.cls
  have := oList_le (l := m.params) fun f _ => oTy_le f
  have := oList_le (l := m.locals) fun f _ => oTy_le f
  have := oList_le (l := m.code) fun f _ => oIns_le f
  have := oTy_le m.result
  omega
theorem path_size {s : ByteArray} (h : path s ≠ 0) : s.size ≤ 38 := by
  rcases Nat.lt_or_ge 38 s.size with h1 | h1
  · exact absurd (path_long h1) h
  · exact h1
structure ChkOk (u : Unt) : Prop where
  lim : Lim u
  nm : simple u.name = true
  ps : ∀ s ∈ u.pool, path s ≠ 0
  knd : kinds u = true
  plc : places u = true
  rfs : refsOk u = true
  dbl : doubled u = false
  cod : ∀ m ∈ u.methods, codeE m.code true = 0
  cds : codesOk u = true
theorem mErr_all {l : List Mth} (h : mErr l = 0) : ∀ m ∈ l, codeE m.code true = 0 := by
  induction l with
  | nil => simp
  | cons m l ih =>
    intro x hx
    by_cases h0 : codeE m.code true = 0
    · simp only [mErr, h0, if_true] at h
      cases hx with
      | head => exact h0
      | tail _ hx => exact ih h x hx
    · simp only [mErr, h0, if_false] at h
theorem chk_ok {u : Unt} (h : checkE u = 0) : ChkOk u := by
  unfold checkE at h
  by_cases h1 : limits u = false
  · rw [if_pos h1] at h; cases h
  rw [if_neg h1] at h
  by_cases h2 : simple u.name = false
  · rw [if_pos h2] at h; cases h
  rw [if_neg h2] at h
  by_cases h3 : pathsOk u = false
  · rw [if_pos h3] at h; cases h
  rw [if_neg h3] at h
  by_cases h4 : (kinds u && places u) = false
  · rw [if_pos h4] at h; cases h
  rw [if_neg h4] at h
  by_cases h5 : refsOk u = false
  · rw [if_pos h5] at h; cases h
  rw [if_neg h5] at h
  by_cases h6 : doubled u = true
  · rw [if_pos h6] at h; cases h
  rw [if_neg h6] at h
  by_cases h7 : mErr u.methods ≠ 0
  · rw [if_pos h7] at h; exact absurd h h7
  rw [if_neg h7] at h
  by_cases h8 : codesOk u = false
  · rw [if_pos h8] at h; cases h
  simp only [Bool.not_eq_false] at h1 h2 h3 h4 h5 h8
  simp only [Bool.not_eq_true] at h6
  rw [Bool.and_eq_true] at h4
  refine ⟨lim_of h1, h2, fun s hs e => ?_, h4.1, h4.2, h5, h6, mErr_all (Classical.not_not.1 h7), h8⟩
  have := List.all_eq_true.1 h3 s hs
  simp [e] at this
theorem body_le {u : Unt} (h : checkE u = 0) : (body u).length ≤ 100000 := by
  have k := chk_ok h
  have hL := k.lim
  unfold body
  simp only [List.length_append]
  have h1 := oTxt_le u.name
  have h2 : u.name.size ≤ 12 := by
    have := simpleL_len (l := u.name.data.toList) k.nm
    rw [ba_len] at this; exact this.2
  have h3 := oList_le (f := oTxt) (B := 42) (l := u.pool) fun s hs => by have := oTxt_le s; have := path_size (k.ps s hs); omega
  have h4 := oList_le (f := oCls) (B := 96) (l := u.classes) fun c hc => oCls_le (hL.flds c hc)
  have h5 := oList_le (f := oFld) (B := 12) (l := u.statics) fun f _ => oFld_le f
  have h6 := oList_le (f := oMth) (B := 1548) (l := u.methods) fun m hm => oMth_le (hL.locs m hm) (by
    have := k.cod m hm
    unfold codeE at this
    split at this
    · cases this
    · omega)
  have g1 := hL.pool
  have g2 := hL.cls
  have g3 := hL.sta
  have g4 := hL.mth
  have g5 : magic.length = 4 := rfl
  omega
theorem enc_le {u : Unt} (h : checkE u = 0) : (enc u).length ≤ 100004 := by
  unfold enc
  rw [List.length_append]
  have := body_le h
  have := num_len (sumB (body u))
  omega
def EncR (u : Unt) (w : World) (v : Value) (w' : World) : Prop :=
  if checkE u = 0 then ∃ ar cr, v = .tuple #[.slice ar (enc u).length cr, I 0] ∧ RowS w' w.heap.size ar cr (enc u) else v = .tuple #[.slice none 0 0, I (checkE u)]
theorem u_Encode (u : Unt) (a : UA) (w : World) (hU : UnR T w u a) (hG : Gl w) : Ret Tryz.prog 39 #[.agg (ucells u a).toArray] w fun v w' => EncR u w v w' ∧ Bl w w' := by
  refine entr (vs := [.agg (ucells u a).toArray]) [0, 1, 2, 3, 4, 5, 9] tabok Tryz.func39 (by kernel_rfl) ?_
  refine bx (cs := ucells u a) fun b1 w1 h1 => ?_
  refine lda h1.box.at ?_
  refine cl (u_Check u a w1 (hU.bl h1.bl) (hG.bl h1.bl)) ?_
  rintro _ w2 ⟨rfl, hB2⟩
  refine br (t := decide (¬ checkE u = 0)) (fun h => ?_) (fun h => ?_)
  · have h0 := of_decide_eq_true h
    exact rt2 ⟨by unfold EncR; rw [if_neg h0], h1.bl.trans hB2⟩
  have h0 : checkE u = 0 := Classical.not_not.1 (of_decide_eq_false h)
  have hb := body_le h0
  have hB02 := h1.bl.trans hB2
  refine bs fun b3 w3 h3 => ?_
  refine cvl h3 fun w4 hat4 hB4 hz4 => ?_
  refine bd ?_
  refine bx (cs := [.slice (some ⟨b3, 0, none⟩) 4 4]) fun wb w5 h5 => ?_
  have p3 := h3.blk
  have p4 := h3.size
  have p5 := h5.blk
  have p1 := h1.blk
  have p6 := hB02.size
  have p7 := h1.size
  have hB05 := (hB02.trans hB4).trans h5.bl
  have x5 := Bl.box ((hB2.trans hB4).trans h5.bl) h1.box
  have hW5 : WS w.heap.size wb (some ⟨b3, 0, none⟩) 4 magic w5 := ⟨h5.box, .lit b3 rfl (by omega) rfl (by decide) (At.bl h5.bl hat4) (by decide), fun e => by cases e; omega, by omega⟩
  have hUl : UnR (· < w.heap.size) w u a := hU.lt
  have q1 : b1 ≠ wb := by omega
  have q2 : (some ⟨b3, 0, none⟩ : Option Addr) ≠ some ⟨b1, 0, none⟩ := fun e => by cases e; have := h1.box.lt; have := hB2.size; omega
  have X : ∀ {a' w'}, Stp (WX wb) (some ⟨b3, 0, none⟩) w5 a' w' → Box w' b1 _ _ := fun h => h.box x5 q1 q2
  have Bw : ∀ {a' w'}, Stp (WX wb) (some ⟨b3, 0, none⟩) w5 a' w' → Bl w w' := fun h => h.below hB05 (fun i e => by rw [e]; omega) (fun g hg => by cases hg; omega) hB05.size
  have hb' : (magic ++ oTxt u.name ++ oList oTxt u.pool ++ oList oCls u.classes ++ oList oFld u.statics ++ oList oMth u.methods).length ≤ 100000 := hb
  have hb5 := hb'
  have hb4 := hb5
  rw [List.length_append] at hb4
  have hb4 := Nat.le_trans (Nat.le_add_right _ _) hb4
  have hb3 := hb4
  rw [List.length_append] at hb3
  have hb3 := Nat.le_trans (Nat.le_add_right _ _) hb3
  have hb2 := hb3
  rw [List.length_append] at hb2
  have hb2 := Nat.le_trans (Nat.le_add_right _ _) hb2
  have hb1 := hb2
  rw [List.length_append] at hb1
  have hb1 := Nat.le_trans (Nat.le_add_right _ _) hb1
  have mx : ∀ {n : Nat}, n ≤ 100000 → n ≤ MX := fun h => Nat.le_trans h (by decide)
  refine ld (x5.cell rfl) ?_
  refine cl (wr_text u.name wb _ _ 4 magic w5 hW5 hU.nm (mx hb1)) ?_
  rintro v w6 ⟨a6, c6, hW6, hT6⟩
  refine ld ((X hT6).cell rfl) ?_
  refine cl (wr_texts u.pool hU.ps a.a1 a.c1 wb _ a6 c6 _ w6 hW6 (hUl.pool.kp (Below.kp (Bw hT6))) (mx hb2)) ?_
  rintro v w7 ⟨a7, c7, hW7, hT7⟩
  have hT7 := hT6.trans hT7
  refine ld ((X hT7).cell rfl) ?_
  refine cl (put_cls oCls u.classes a.a2 a.c2 106 [.pointer (some ⟨wb, 0, none⟩)] [] wb w.heap.size (fun _ _ => True) (fun _ _ _ _ _ _ => trivial) (fun x cs a cap ss w _ _ hW hr hn => by
    obtain ⟨af, cf, rfl, hF⟩ := hr
    exact wr_class x af cf wb _ a cap ss w hW hF hn) a7 c7 _ w7 hW7 trivial (hUl.cls.kp (Below.kp (Bw hT7))) (mx hb3)) ?_
  rintro v w8 ⟨a8, c8, hW8, hT8⟩
  have hT8 := hT7.trans hT8
  refine ld ((X hT8).cell rfl) ?_
  refine cl (wr_fields u.statics a.a3 a.c3 wb _ a8 c8 _ w8 hW8 (hUl.sta.kp (Below.kp (Bw hT8))) (mx hb4)) ?_
  rintro v w9 ⟨a9, c9, hW9, hT9⟩
  have hT9 := hT8.trans hT9
  refine ld ((X hT9).cell rfl) ?_
  refine cl (put_mth oMth u.methods a.a4 a.c4 110 [.pointer (some ⟨wb, 0, none⟩)] [] wb w.heap.size (fun _ _ => True) (fun _ _ _ _ _ _ => trivial) (fun x cs a cap ss w _ _ hW hr hn => by
    obtain ⟨a1, c1, a2, c2, a3, c3, rfl, f1, f2, f3⟩ := hr
    exact wr_method x a1 c1 a2 c2 a3 c3 wb _ a cap ss w hW f1 f2 f3 hn) a9 c9 _ w9 hW9 trivial (hUl.mth.kp (Below.kp (Bw hT9))) (mx hb5)) ?_
  rintro v w10 ⟨a10, c10, hW10, hT10⟩
  have hT10 := hT9.trans hT10
  have hW10 : WS w.heap.size wb a10 c10 (body u) w10 := hW10
  refine ld (hW10.box.cell rfl) ?_
  obtain ⟨g, rfl⟩ : ∃ g, a10 = some ⟨g, 0, none⟩ := by
    rcases hW10.row.addr with ⟨_, h⟩ | h
    · have h2 := congrArg List.length h
      unfold body at h2
      simp only [List.length_append, List.length_nil] at h2
      have h3 : magic.length = 4 := rfl
      omega
    · exact h
  refine cl (u_Sum (body u) g c10 w10 (hW10.row.at rfl) (by omega)) ?_
  rintro _ _ ⟨rfl, rfl⟩
  refine bs fun b11 w11 h11 => ?_
  have e1 : [sumB (body u)].flatMap num = num (sumB (body u)) := by simp
  refine cl (wr_nums [sumB (body u)] hW10 h11 (by simp) (by rw [e1]; exact Nat.le_trans (enc_le h0) (by decide))) ?_
  rintro v w12 ⟨a12, c12, hW12, hT12⟩
  rw [e1] at hW12
  have hT12 := hT10.trans hT12
  refine ld (hW12.box.cell rfl) ?_
  refine rt2 ⟨?_, Bw hT12⟩
  unfold EncR
  rw [if_pos h0]
  exact ⟨a12, c12, rfl, hW12.row⟩
end Go.Proofs.YtopjmiklpnejmaaGreatDoor

/- Walks: the law's sanity test. -/
namespace Go.Proofs.YtopjmiklpnejmaaGreatDoor
open Eng Go.RowKit
theorem fold_push : ∀ (l : List UInt8) (s : ByteArray), (l.map fun c => ((c.toNat : Nat) : Int)).foldl (fun r n => r.push (UInt8.ofNat n.toNat)) s = ⟨s.data ++ l.toArray⟩
  | [], s => by simp
  | c :: l, s => by
    rw [List.map_cons, List.foldl_cons, fold_push l]
    apply ba_ext
    simp [ByteArray.push]
section
variable {C : Cx} {s : St} {w : World}
/-- bytes as a string -/
theorem cbs {md : Option Md} {ops : Array Oper} {T U : TypeId} {x : Operand} {d : Nat} {ty : TypeId} {pos : String} {af : Array Edge} {g : Option (Nat × Bool)} {rest : List Oper} {k : List Item} {l : Env} {c : CEnv} {b o cap n : Nat} {bs : List UInt8} (hat : At w b o (bC bs)) (hn : n = bs.length) (hmd : mdB md b)
    (h : Wk C (.reg md ops rest k ((d, .string (ofL bs)) :: l) c) w)
    (hs : adv C.tab C.n C.ks 400 s = .opn md ops ⟨some d, .convert T U x, ty, pos, af, g⟩ rest k l c [] := by rfl) (hx : evc l c [] x = some (.slice (some ⟨b, o, none⟩) n cap) := by rfl) (hT : C.P.underlying T = some (.slice 5) := by kernel_rfl) (hU : C.P.underlying U = some .string := by kernel_rfl) (he : C.P.underlying 5 = some (.int .u8) := by kernel_rfl) (hf : fresh d l c [] = true := by rfl) : Wk C s w := by
  subst hn
  refine rd (p := []) (fun _ _ hA hp w' hm => ?_) h hs rfl hf (okR_no rfl)
  have hat' := mdR_at hmd hm hat
  simp only [execOp, evc_ok hA.k hA.kc.c hp hx]
  refine (run_bind_ok (P := C.P) (x := .string (ofL bs)) (w' := w') ?_).trans rfl
  rw [run_convert_bytes_string w' T U 5 _ _ _ hT he hU]
  have hl : (loadCells ⟨b, o, none⟩ bs.length).run C.P w' = .ok ((bs.map fun c => ((c.toNat : Nat) : Int)).map (Value.int .u8)).toArray w' := by
    have e : (bs.map fun c => ((c.toNat : Nat) : Int)).map (Value.int .u8) = bC bs := by rw [List.map_map, List.map_eq_flatMap]; rfl
    rw [e]
    have := loadCells_run (P := C.P) hat' bs.length 0 #[] (by rw [bC_length]; omega)
    simpa [loadCells] using this
  have e2 : (⟨ByteArray.empty.data ++ bs.toArray⟩ : ByteArray) = ofL bs := by apply ba_ext; simp [ofL]
  rw [run_bytesToString w' ⟨b, o, none⟩ bs.length cap _ hl, fold_push, e2]
end
def u0 : Unt := ⟨⟨#[109]⟩, [], [], [], []⟩
def ua0 : UA := ⟨none, 0, none, 0, none, 0, none, 0⟩
theorem u0_R (w : World) : UnR T w u0 ua0 := ⟨by decide, by simp [u0], Sl.nil _ _ _ _, Sl.nil _ _ _ _, Sl.nil _ _ _ _, Sl.nil _ _ _ _⟩
theorem u0_chk : checkE u0 = 0 := by kernel_rfl
theorem u0_len : (enc u0).length = 29 := by kernel_rfl
theorem u0_nine : (enc u0).take 9 = [73, 83, 79, 49, 0, 0, 0, 1, 109] := by kernel_rfl
theorem ab_path : path ⟨#[97, 46, 98]⟩ = 2 := by kernel_rfl
theorem At.take {w : World} {b o : Nat} {cs : List Value} (h : At w b o cs) (n : Nat) : At w b o (cs.take n) := fun j v hj => h j v (by
  rw [List.getElem?_take] at hj
  split at hj
  · exact hj
  · cases hj)
theorem l_sane (w : World) (hG : Gl w) : Ret Tryz.prog 18 #[] w fun v w' => v = .bool true ∧ Bl w w' := by
  refine entr (vs := []) [0, 1, 2] tabok Tryz.func18 (by kernel_rfl) ?_
  refine bd ?_
  refine cl (u_Encode u0 ua0 w (u0_R w) hG) ?_
  rintro v w1 ⟨hE, hB1⟩
  unfold EncR at hE
  rw [if_pos u0_chk] at hE
  obtain ⟨ar, cr, rfl, hR⟩ := hE
  obtain ⟨g, rfl⟩ : ∃ g, ar = some ⟨g, 0, none⟩ := by
    rcases hR.addr with ⟨_, h⟩ | h
    · have := u0_len; rw [h] at this; cases this
    · exact h
  have hat := (hR.at rfl).take 9
  have hcap := hR.cap_ge
  rw [u0_len] at hcap
  have e9 : (bC (enc u0)).take 9 = bC [73, 83, 79, 49, 0, 0, 0, 1, 109] := by rw [← u0_nine]; kernel_rfl
  rw [e9] at hat
  rw [u0_len]
  refine sp (.slice none 0 0) (fun q => ?_) (fun q => ?_)
  rotate_left
  · cases q
  refine sl 0 9 ?_
  refine sp (.string ⟨#[]⟩) (fun q2 => ?_) (fun q2 => ?_)
  rotate_left
  · cases q2
  refine cbs (bs := [73, 83, 79, 49, 0, 0, 0, 1, 109]) (b := g) (o := 0) (cap := cr) (n := 9) hat rfl trivial ?_ (hx := ?_)
  rotate_left
  · exact congrArg (fun a => some (Value.slice a 9 cr)) (if_neg (show ¬ cr = 0 by omega))
  refine sp (.int .i64 0) (fun q3 => ?_) (fun q3 => ?_)
  rotate_left
  · exact absurd q3 (by decide)
  refine cl (u_Path ⟨#[97, 46, 98]⟩ w1 (by decide) (hG.bl hB1)) ?_
  rintro _ w2 ⟨rfl, hB2⟩
  rw [ab_path]
  exact rt1 ⟨rfl, hB1.trans hB2⟩
end Go.Proofs.YtopjmiklpnejmaaGreatDoor

/- Walks: the law UnitNames. -/
namespace Go.Proofs.YtopjmiklpnejmaaGreatDoor
open Eng Go.RowKit
theorem cutDot_none : ∀ {l : List UInt8}, (46 : UInt8) ∉ l → cutDot l = [l]
  | [], _ => rfl
  | c :: r, h => by
    have h1 : c ≠ 46 := fun e => h (by rw [e]; exact List.mem_cons_self ..)
    have h2 := cutDot_none (l := r) fun e => h (List.mem_cons_of_mem _ e)
    simp only [cutDot, if_neg h1, h2]
theorem cutDot_one : ∀ {l : List UInt8}, (cutDot l).length = 1 → (46 : UInt8) ∉ l
  | [], _ => by simp
  | c :: r, h => by
    simp only [cutDot] at h
    by_cases h1 : c = 46
    · rw [if_pos h1] at h
      have := cutDot_ne r
      simp at h
      exact absurd h this
    · rw [if_neg h1] at h
      cases hr : cutDot r with
      | nil => exact absurd hr (cutDot_ne r)
      | cons p ps =>
        rw [hr] at h
        have := cutDot_one (l := r) (by rw [hr]; simpa using h)
        intro hm
        cases hm with
        | head => exact h1 rfl
        | tail _ hm => exact this hm
theorem simple_nodot {l : List UInt8} (h : simpleL l = true) : (46 : UInt8) ∉ l := by
  intro hm
  unfold simpleL at h
  cases l with
  | nil => cases hm
  | cons c r =>
    simp only [Bool.and_eq_true] at h
    have := List.all_eq_true.1 h.2 46 hm
    exact absurd this (by decide)
theorem simple_path (s : ByteArray) : simple s = decide ((path s : Int) = 1) := by
  unfold path pathL simple
  rw [Bool.eq_iff_iff, decide_eq_true_eq]
  constructor
  · intro h
    rw [cutDot_none (simple_nodot h)]
    simp [h]
  · intro h
    split at h
    · rename_i hc
      have h1 : (cutDot s.data.toList).length = 1 := by omega
      rw [cutDot_none (cutDot_one h1)] at hc
      simpa using hc.2
    · cases h
theorem eqg_bool {P : Program} (w : World) (b : BinOp) (t : TypeId) (x y : Operand) (n m : Bool) : (eqGuard b t x y (.bool n) (.bool m)).run P w = .ok () w := by cases b <;> rfl
theorem equal_bool {P : Program} {w : World} {t : TypeId} {a b : Bool} (hu : P.underlying t = some .bool) : (Op.equal t (.bool a) (.bool b)).run P w = .ok (a == b) w := by
  unfold Op.equal Op.equalIn
  split
  · rename_i h; cases h
  · simp [run_underlying hu]
theorem binOp_beq {P : Program} {w : World} {t : TypeId} {a b : Bool} (hu : P.underlying t = some .bool) : (binOp .eql t (.bool a) (.bool b)).run P w = .ok (.bool (a == b)) w := by simp [binOp, pure, equal_bool hu]
/-- == on two truths -/
theorem Eng.beb {C : Cx} {s : St} {w : World} {md : Option Md} {ops : Array Oper} {T T' : TypeId} {x y : Operand} {d : Nat} {ty : TypeId} {pos : String} {af : Array Edge} {g : Option (Nat × Bool)} {rest : List Oper} {k : List Item} {l : Env} {c : CEnv} {a b : Bool}
    (h : Wk C (.reg md ops rest k ((d, .bool (a == b)) :: l) c) w)
    (hs : adv C.tab C.n C.ks 400 s = .opn md ops ⟨some d, .binOp .eql T x y T', ty, pos, af, g⟩ rest k l c [] := by rfl) (hx : evc l c [] x = some (.bool a) := by rfl) (hy : evc l c [] y = some (.bool b) := by rfl) (hu : C.P.underlying T = some .bool := by kernel_rfl) (hf : fresh d l c [] = true := by rfl) : Wk C s w :=
  rd (p := []) (fun _ _ hA hp w' _ => by
    simp only [execOp, evc_ok hA.k hA.kc.c hp hx, evc_ok hA.k hA.kc.c hp hy]
    exact run_bind_ok (run_bind_ok (eqg_bool ..) |>.trans (binOp_beq hu)) |>.trans rfl) h hs rfl hf (okR_no rfl)
theorem l_Names (s : ByteArray) (w : World) (hs : s.size ≤ 1048576) (hG : Gl w) : Ret Tryz.prog 3 #[.string s] w fun v w' => v = .bool true ∧ Bl w w' := by
  refine entr (vs := [.string s]) [0, 2] tabok Tryz.func3 (by kernel_rfl) ?_
  refine cl (u_Simple s w hs) ?_
  rintro _ w ⟨rfl, rfl⟩
  refine cl (r_Simple s w hs) ?_
  rintro _ w ⟨rfl, rfl⟩
  refine beb ?_
  rw [beq_self_eq_true]
  refine sp (I 0) (fun q => ?_) (fun q => ?_)
  rotate_left
  · cases q
  refine cl (u_Path s w hs hG) ?_
  rintro _ w1 ⟨rfl, hB1⟩
  refine sp (I 0) (fun q => ?_) (fun q => ?_)
  rotate_left
  · cases q
  refine cl (r_Path s w1 hs) ?_
  rintro _ w2 ⟨rfl, hB2⟩
  refine sp (.bool false) (fun q => ?_) (fun q => ?_)
  rotate_left
  · exact absurd q (by simp)
  refine cl (u_Simple s w2 hs) ?_
  rintro _ w2 ⟨rfl, rfl⟩
  refine sp (I 0) (fun q => ?_) (fun q => ?_)
  rotate_left
  · exact absurd q (by simp)
  refine cl (u_Path s w2 hs (hG.bl (hB1.trans hB2))) ?_
  rintro _ w3 ⟨rfl, hB3⟩
  have hB := (hB1.trans hB2).trans hB3
  have e : (simple s == decide ((path s : Int) = 1)) = true := by rw [simple_path]; simp
  refine sp (.bool false) (fun q => ?_) (fun q => ?_)
  rotate_left
  · exact absurd q (by simp)
  refine beb ?_
  rw [e]
  refine sp (.bool false) (fun q => ?_) (fun q => ?_)
  rotate_left
  · exact absurd q (by simp)
  refine cl (l_sane w3 (hG.bl hB)) ?_
  rintro _ w4 ⟨rfl, hB4⟩
  exact rt1 ⟨rfl, hB.trans hB4⟩
end Go.Proofs.YtopjmiklpnejmaaGreatDoor

/- What all claims of this seat share: worlds in which nothing that was there has turned; the tables that the rows list; the bound. -/
namespace Go.Proofs.YtopjmiklpnejmaaGreatDoor
open Eng Go.ChangeShapes Go.WideShapes Go.ChangeAt Go.RowKit
theorem own : ownKnob Tryz.prog.godebug = none := by kernel_rfl
theorem kept_of_bl {W W' : World} (h : Bl W W') (may : MemPlace → Prop) : W.keptBut W' may := by
  refine ⟨h.os, h.output, fun i hi => ?_⟩
  rw [h.block i hi]
  cases hw : W.heap[i]? with
  | none => trivial
  | some o => cases o <;> first | exact ⟨rfl, rfl, rfl, fun _ _ => rfl⟩ | exact .inr ⟨rfl, rfl⟩ | rfl | trivial
theorem frozen_bl {W W' : World} (h : Bl W W') {b off : Nat} (hb : b < W.heap.size) : W'.frozen? ⟨b, off, none⟩ = W.frozen? ⟨b, off, none⟩ := by simp only [World.frozen?, h.block b hb]
variable {H : Type} {enc : TypeId × Value → H} {P : Program}
/-- the end of a call that has left alone what was there -/
theorem post_of_bl {f : Func} {s : ChangeSpec} {apart fresh handsOn again : Bool} {W W' : World} {args : Array Value} {v : Value} {ds gs : List (DataW H)} {before pa pv : List MemPlace}
    (hW : DataW.Whole enc P f.params.toList s.vars apart W args.toList ds gs before)
    (hres : ∀ (b : Nat) (sp : Nat → Bool) (hd : Bool), DataW.TrodAll enc P W' b sp hd f.resultTypes.toList (v.resultList f.resultTypes.size) (s.fn H (ds ++ gs)).results [])
    (hargs : ∀ sp : Nat → Bool, (∀ p ∈ before, sp p.block = true) → DataW.TrodAll enc P W' 0 sp true f.params.toList args.toList (s.fn H (ds ++ gs)).args pa)
    (hvars : ∀ sp : Nat → Bool, (∀ p ∈ before, sp p.block = true) → DataW.TrodVars enc P W' sp s.vars (s.fn H (ds ++ gs)).vars pv)
    (hps : before = pa ++ pv) (hB : Bl W W')
    (hok : ∀ (j : Nat) (t : TypeId) (r : Value), f.resultTypes[j]? = some t → (v.resultList f.resultTypes.size)[j]? = some r → Value.okWide P W' .any 0 t r) :
    s.post enc P f apart fresh handsOn again W args v W' := by
  have hlt := hW.lt
  have hold : ∀ p ∈ before, (fun b => decide (b < W.heap.size)) p.block = true := fun p hp => by simpa using hlt p hp
  refine ⟨ds, gs, before, [], pa, pv, hW, hres _ _ _, hargs _ hold, hvars _ hold, World.keptBut_mono (fun p hp => ⟨hp, ?_⟩) (kept_of_bl hB (· ∈ before)), fun _ => ?_⟩
  · rw [hps, List.mem_append] at hp
    exact Or.inr hp
  · obtain ⟨_, _, _, _, _, hz, hn⟩ := hW
    refine ⟨hok, _, _, ([] ++ pa) ++ pv, ⟨[] ++ pa, pv, trodAll_append (hargs _ (fun _ _ => rfl)) (hres _ _ _), hvars _ (fun _ _ => rfl), rfl, ?_, ?_⟩, ?_⟩
    · intro b off hp
      have hp' : MemPlace.cell b off ∈ before := by rw [hps]; simpa using hp
      rw [frozen_bl hB (b := b) (show b < W.heap.size from hlt _ hp')]
      exact hz b off hp'
    · intro ha
      have := hn ha
      rw [hps] at this
      simpa using this
    · intro p hp _
      rw [hps]
      simpa using hp
theorem calls_of_ret {f : FuncId} {args : Array Value} {w : World} {Q : Value → World → Prop} (h : Ret P f args w Q) : Calls P f args w fun e w' => ∃ v, e = .returned v ∧ Q v w' := h.run.mono fun e w' r => by
  cases e with
  | returned v => exact ⟨v, rfl, r⟩
  | panicked ch => exact r.elim
  | outgrown => exact r.elim
/-- the library's one variable holds a number -/
theorem gl_of {W : World} (h : W.ShapedOpen Tryz.prog) : Gl W :=
  cell_of_shapedOpen_int (P := Tryz.prog) (g := 0) (t := 3) (zero := #[.int .i64 0]) h (of_decide_eq_true (by kernel_rfl)) (by kernel_rfl) rfl (by kernel_rfl) (by kernel_rfl) Tryz.underlying3
/-- a world for the witnesses: the tables hold what the rows list -/
def fillO (cs : List Nat) : Obj → Obj
  | .cells _ t frozen => .cells (cs.map fun n : Nat => Value.int .u8 (n : Int)).toArray t frozen
  | o => o
noncomputable def laidWorld (os : Os) : World :=
  { World.holding Tryz.prog os ⟨#[], #[], []⟩ with
    heap := ((World.holding Tryz.prog os ⟨#[], #[], []⟩).heap.modify 1 (fillO Pinned.utf8FirstZ)).modify 2 (fillO [128, 191, 160, 191, 128, 159, 144, 191, 128, 143, 0, 0, 0, 0, 0, 0, 0, 0, 0, 0, 0, 0, 0, 0, 0, 0, 0, 0, 0, 0, 0, 0]) }
theorem laid_met1 (os : Os) : laidMet Tryz.prog Rows.unitNamesUptoRow.laid ((laidWorld os).forCall (fun _ _ => 0) ⟨#[], #[.string ⟨#[]⟩], []⟩).memory :=
  laidMet_of_run' 8 (by kernel_rfl) (by kernel_rfl)
theorem small_le {H : Type} {ds : List (DataW H)} (h : Rows.uptoSmall H ds = true) : Rows.uptoBulkAll ds ≤ 1048576 := of_decide_eq_true h
end Go.Proofs.YtopjmiklpnejmaaGreatDoor

/- What an argument of the laws holds, as lists and structures: a unit, a list of strings, bytes. -/
namespace Go.Proofs.YtopjmiklpnejmaaGreatDoor
open Eng Go.ChangeShapes Go.WideShapes Go.ChangeAt Go.RowKit
theorem bulk_one {H : Type} (d : DataW H) : 1 ≤ Rows.uptoBulk d := by
  cases d with
  | lit l => cases l <;> simp [Rows.uptoBulk]
  | nil => simp [Rows.uptoBulk]
  | ptr d => simp [Rows.uptoBulk]
  | slice elems spare => simp [Rows.uptoBulk]
  | agg parts => simp [Rows.uptoBulk]
  | iface t d => simp [Rows.uptoBulk]
  | map entries => simp [Rows.uptoBulk]
  | held h => simp [Rows.uptoBulk]
theorem bulk_part {H : Type} {d : DataW H} {l : List (DataW H)} (h : d ∈ l) : Rows.uptoBulk d ≤ Rows.uptoBulkAll l := by
  induction l with
  | nil => cases h
  | cons x r ih =>
    simp only [Rows.uptoBulkAll]
    cases List.mem_cons.1 h with
    | inl e => subst e; omega
    | inr e => have := ih e; omega
theorem bulk_len {H : Type} (l : List (DataW H)) : l.length ≤ Rows.uptoBulkAll l := by
  induction l with
  | nil => simp [Rows.uptoBulkAll]
  | cons x r ih => have := bulk_one x; simp only [Rows.uptoBulkAll, List.length_cons]; omega
theorem list_of {α : Type} {p : Nat → α → Prop} : ∀ {n : Nat}, (∀ i, i < n → ∃ x, p i x) → ∃ l : List α, l.length = n ∧ ∀ i x, l[i]? = some x → p i x
  | 0, _ => ⟨[], rfl, fun i x h => by simp at h⟩
  | n + 1, hel => by
    obtain ⟨l, e1, e2⟩ := list_of (n := n) fun i hi => hel i (by omega)
    obtain ⟨x, h1⟩ := hel n (by omega)
    refine ⟨l ++ [x], by simp [e1], fun i y hy => ?_⟩
    rcases Nat.lt_or_ge i l.length with q | q
    · rw [List.getElem?_append_left q] at hy
      exact e2 i y hy
    · rw [List.getElem?_append_right q] at hy
      rcases Nat.eq_zero_or_pos (i - l.length) with h0 | h0
      · rw [h0] at hy
        simp at hy
        subst hy
        obtain rfl : i = n := by omega
        exact h1
      · rw [List.getElem?_eq_none (by simp; omega)] at hy
        cases hy
section
variable {H : Type} {enc : TypeId × Value → H} {P : Program} {w : World} {base : Nat} {sp : Nat → Bool} {hd : Bool}
/-- cells of type t with a bulk of at most a million are such a datum -/
def Reads (enc : TypeId × Value → H) (P : Program) (w : World) (base : Nat) (sp : Nat → Bool) (hd : Bool) (t : TypeId) (R : List Value → Prop) : Prop :=
  ∀ (n : Nat) (cs : List Value) (y : DataW H × List MemPlace), DataW.trod enc P w base sp hd n t cs = some y → Rows.uptoBulk y.1 ≤ 1048576 → R cs
theorem reads_int {t : TypeId} (ht : P.underlying t = some (.int .i64)) : Reads enc P w base sp hd t fun cs => ∃ n, cs = [I n] := fun n cs y h _ => by
  obtain ⟨n, rfl, _⟩ := DataW.trod_int ht h
  exact ⟨n, rfl⟩
theorem reads_str {t : TypeId} (ht : P.underlying t = some .string) : Reads enc P w base sp hd t fun cs => ∃ s : ByteArray, cs = [.string s] ∧ s.size ≤ 1048576 := fun n cs y h hb => by
  obtain ⟨s, rfl, rfl, _⟩ := DataW.trod_string ht h
  refine ⟨s, rfl, ?_⟩
  simp only [Rows.uptoBulk] at hb
  have := ba_len s
  omega
/-- the fields of a struct -/
theorem reads_fields {t : TypeId} {L : List (TypeId × Nat)} (ht : P.underlying t = some (.struct (P.fieldsOf t))) (hm : ((P.fieldsOf t).toList.map fun f => (f.type, f.offset)) = L) {n : Nat} {cs : List Value} {y : DataW H × List MemPlace}
    (h : DataW.trod enc P w base sp hd n t cs = some y) (hb : Rows.uptoBulk y.1 ≤ 1048576) : cs.length = P.cellsOf t ∧ ∀ q ∈ L, ∀ R : List Value → Prop, Reads enc P w base sp hd q.1 R → R ((cs.drop q.2).take (P.cellsOf q.1)) := by
  obtain ⟨xs, m, rfl, rfl, h1, h2, h3⟩ := DataW.trod_struct ht h
  refine ⟨h1, fun q hq R hR => ?_⟩
  rw [← hm] at hq
  obtain ⟨f, hf, rfl⟩ := List.mem_map.1 hq
  obtain ⟨i, hi⟩ := List.mem_iff_getElem?.1 hf
  rw [Array.getElem?_toList] at hi
  have h4 := h3 i f hi
  have hlt : i < xs.length := by
    rw [h2]
    rcases Nat.lt_or_ge i (P.fieldsOf t).size with h5 | h5
    · exact h5
    · rw [Array.getElem?_eq_none h5] at hi; cases hi
  rw [List.getElem?_eq_getElem hlt] at h4
  refine hR m _ _ h4 ?_
  have : xs[i].1 ∈ xs.map (·.1) := List.mem_map_of_mem (List.getElem_mem hlt)
  have := bulk_part this
  simp only [Rows.uptoBulk] at hb
  omega
/-- a slice, and its capacity -/
theorem reads_sliceC {α : Type} {E : El α} {t e : TypeId} (ht : P.underlying t = some (.slice e)) (hc : P.cellsOf e = E.sz) (hpos : 0 < E.sz) (hE : Reads enc P w base sp hd e fun cs => ∃ x, E.rel T w cs x) :
    Reads enc P w base sp hd t fun cs => ∃ (a : Option Addr) (l : List α) (cap : Nat), cs = [.slice a l.length cap] ∧ Sl E T w a l ∧ l.length ≤ cap := fun n cs y h hb => by
  rcases Deep.open_slice ht h with ⟨rfl, rfl⟩ | ⟨a, len, cap, m, k, D, Pl, rfl, _, hl, _, hm, rfl, hx⟩
  · exact ⟨none, [], 0, rfl, Sl.nil .., Nat.le_refl _⟩
  · have hle : len ≤ m := by rw [hm]; split <;> omega
    simp only [Rows.uptoBulk] at hb
    have hlen : len ≤ 1048576 := by
      have := bulk_len ((List.range len).map D)
      rw [List.length_map, List.length_range] at this
      omega
    obtain ⟨l, hl2, hl3⟩ := list_of (n := len) (p := fun i (x : α) => ∃ cs', w.cells? base (a.add (i * E.sz)) E.sz = some cs' ∧ E.rel T w cs' x) fun i hi => by
      obtain ⟨cs', h1, h2⟩ := hx i (by omega)
      rw [hc] at h1
      obtain ⟨x, hr⟩ := hE k cs' _ h2 (by
        have : D i ∈ (List.range len).map D := List.mem_map_of_mem (List.mem_range.2 hi)
        have := bulk_part this
        show Rows.uptoBulk (D i) ≤ 1048576
        omega)
      exact ⟨x, cs', h1, hr⟩
    obtain ⟨b, o, s⟩ := a
    refine ⟨some ⟨b, o, s⟩, l, cap, by rw [hl2], ⟨by omega, fun i x hx => ?_⟩, by omega⟩
    obtain ⟨cs', h1, h2⟩ := hl3 i x hx
    obtain ⟨_, h3, h4⟩ := World.cells?_some h1
    have hs : s = none := by
      obtain ⟨x0, e0⟩ := some_of_lt (l := l) (k := 0) (by have := (List.getElem?_eq_some_iff.1 hx).1; omega)
      obtain ⟨cs0, g1, _⟩ := hl3 0 x0 e0
      obtain ⟨_, g3, g4⟩ := World.cells?_some g1
      have h5 := g4 0 hpos
      rw [List.getElem?_eq_getElem (by omega)] at h5
      have := World.cell?_spot h5
      simpa [Addr.add] using this
    subst hs
    refine ⟨b, o, cs', rfl, trivial, fun j v hj => ?_, h2⟩
    have hj' : j < E.sz := by rw [← h3]; exact (List.getElem?_eq_some_iff.1 hj).1
    have := h4 j hj'
    rw [hj] at this
    rw [← this, Deep.add_add]
    congr 1
    simp only [Addr.add]
    split <;> simp <;> omega
/-- a slice -/
theorem reads_slice {α : Type} {E : El α} {t e : TypeId} (ht : P.underlying t = some (.slice e)) (hc : P.cellsOf e = E.sz) (hpos : 0 < E.sz) (hE : Reads enc P w base sp hd e fun cs => ∃ x, E.rel T w cs x) :
    Reads enc P w base sp hd t fun cs => ∃ (a : Option Addr) (l : List α) (cap : Nat), cs = [.slice a l.length cap] ∧ Sl E T w a l := fun n cs y h hb => by
  obtain ⟨a, l, cap, h1, h2, _⟩ := reads_sliceC ht hc hpos hE n cs y h hb
  exact ⟨a, l, cap, h1, h2⟩
end
section
variable {H : Type} {enc : TypeId × Value → H} {w : World} {base : Nat} {sp : Nat → Bool} {hd : Bool}
set_option maxRecDepth 100000 in
theorem rd_ty : Reads enc Tryz.prog w base sp hd 61 fun cs => ∃ x, eTy.rel T w cs x := fun n cs y h hb => by
  obtain ⟨h1, h2⟩ := reads_fields (L := [(3, 0), (3, 1)]) (by kernel_rfl) (by kernel_rfl) h hb
  rw [show Tryz.prog.cellsOf 61 = 2 by kernel_rfl] at h1
  match cs, h1 with
  | [c0, c1], _ =>
    obtain ⟨a, ea⟩ := h2 (3, 0) (by simp) _ (reads_int (by kernel_rfl))
    obtain ⟨b, eb⟩ := h2 (3, 1) (by simp) _ (reads_int (by kernel_rfl))
    simp only [show Tryz.prog.cellsOf 3 = 1 by kernel_rfl, List.drop, List.take, List.cons.injEq, and_true] at ea eb
    subst ea eb
    exact ⟨⟨a, b⟩, rfl⟩
set_option maxRecDepth 100000 in
theorem rd_ins : Reads enc Tryz.prog w base sp hd 89 fun cs => ∃ x, eIns.rel T w cs x := fun n cs y h hb => by
  obtain ⟨h1, h2⟩ := reads_fields (L := [(3, 0), (3, 1), (3, 2)]) (by kernel_rfl) (by kernel_rfl) h hb
  rw [show Tryz.prog.cellsOf 89 = 3 by kernel_rfl] at h1
  match cs, h1 with
  | [c0, c1, c2], _ =>
    obtain ⟨a, ea⟩ := h2 (3, 0) (by simp) _ (reads_int (by kernel_rfl))
    obtain ⟨b, eb⟩ := h2 (3, 1) (by simp) _ (reads_int (by kernel_rfl))
    obtain ⟨c, ec⟩ := h2 (3, 2) (by simp) _ (reads_int (by kernel_rfl))
    simp only [show Tryz.prog.cellsOf 3 = 1 by kernel_rfl, List.drop, List.take, List.cons.injEq, and_true] at ea eb ec
    subst ea eb ec
    exact ⟨⟨a, b, c⟩, rfl⟩
set_option maxRecDepth 100000 in
theorem rd_fld : Reads enc Tryz.prog w base sp hd 86 fun cs => ∃ x, eFld.rel T w cs x := fun n cs y h hb => by
  obtain ⟨h1, h2⟩ := reads_fields (L := [(3, 0), (61, 1)]) (by kernel_rfl) (by kernel_rfl) h hb
  rw [show Tryz.prog.cellsOf 86 = 3 by kernel_rfl] at h1
  match cs, h1 with
  | [c0, c1, c2], _ =>
    obtain ⟨a, ea⟩ := h2 (3, 0) (by simp) _ (reads_int (by kernel_rfl))
    obtain ⟨t, et⟩ := h2 (61, 1) (by simp) _ rd_ty
    simp only [show Tryz.prog.cellsOf 3 = 1 by kernel_rfl, show Tryz.prog.cellsOf 61 = 2 by kernel_rfl, List.drop, List.take, List.cons.injEq, and_true] at ea et
    subst ea
    simp only [eTy, plainEl, encTy, List.cons.injEq, and_true] at et
    obtain ⟨rfl, rfl⟩ := et
    exact ⟨⟨a, t⟩, rfl⟩
theorem rd_str : Reads enc Tryz.prog w base sp hd 9 fun cs => ∃ x : ByteArray, (cs = encStr x ∧ x.size ≤ 1048576) := fun n cs y h hb => by
  obtain ⟨s, rfl, hs⟩ := reads_str (by kernel_rfl) n cs y h hb
  exact ⟨s, rfl, hs⟩
set_option maxRecDepth 100000 in
theorem rd_cls : Reads enc Tryz.prog w base sp hd 58 fun cs => ∃ x, eCls.rel T w cs x := fun n cs y h hb => by
  obtain ⟨h1, h2⟩ := reads_fields (L := [(3, 0), (3, 1), (27, 2)]) (by kernel_rfl) (by kernel_rfl) h hb
  rw [show Tryz.prog.cellsOf 58 = 3 by kernel_rfl] at h1
  match cs, h1 with
  | [c0, c1, c2], _ =>
    obtain ⟨a, ea⟩ := h2 (3, 0) (by simp) _ (reads_int (by kernel_rfl))
    obtain ⟨b, eb⟩ := h2 (3, 1) (by simp) _ (reads_int (by kernel_rfl))
    obtain ⟨ad, l, cap, ec, hl⟩ := h2 (27, 2) (by simp) _ (reads_slice (by kernel_rfl) (by kernel_rfl) (by decide) rd_fld)
    simp only [show Tryz.prog.cellsOf 3 = 1 by kernel_rfl, show Tryz.prog.cellsOf 27 = 1 by kernel_rfl, List.drop, List.take, List.cons.injEq, and_true] at ea eb ec
    subst ea eb ec
    exact ⟨⟨a, b, l⟩, ad, cap, rfl, hl⟩
set_option maxRecDepth 100000 in
theorem rd_mth : Reads enc Tryz.prog w base sp hd 64 fun cs => ∃ x, eMth.rel T w cs x := fun n cs y h hb => by
  obtain ⟨h1, h2⟩ := reads_fields (L := [(3, 0), (3, 1), (59, 2), (59, 3), (61, 4), (62, 6)]) (by kernel_rfl) (by kernel_rfl) h hb
  rw [show Tryz.prog.cellsOf 64 = 7 by kernel_rfl] at h1
  match cs, h1 with
  | [c0, c1, c2, c3, c4, c5, c6], _ =>
    obtain ⟨a, ea⟩ := h2 (3, 0) (by simp) _ (reads_int (by kernel_rfl))
    obtain ⟨b, eb⟩ := h2 (3, 1) (by simp) _ (reads_int (by kernel_rfl))
    obtain ⟨a1, l1, k1, e1, s1⟩ := h2 (59, 2) (by simp) _ (reads_slice (by kernel_rfl) (by kernel_rfl) (by decide) rd_ty)
    obtain ⟨a2, l2, k2, e2, s2⟩ := h2 (59, 3) (by simp) _ (reads_slice (by kernel_rfl) (by kernel_rfl) (by decide) rd_ty)
    obtain ⟨t, et⟩ := h2 (61, 4) (by simp) _ rd_ty
    obtain ⟨a3, l3, k3, e3, s3⟩ := h2 (62, 6) (by simp) _ (reads_slice (by kernel_rfl) (by kernel_rfl) (by decide) rd_ins)
    simp only [show Tryz.prog.cellsOf 3 = 1 by kernel_rfl, show Tryz.prog.cellsOf 61 = 2 by kernel_rfl, show Tryz.prog.cellsOf 59 = 1 by kernel_rfl, show Tryz.prog.cellsOf 62 = 1 by kernel_rfl, List.drop, List.take, List.cons.injEq, and_true] at ea eb e1 e2 e3 et
    subst ea eb e1 e2 e3
    simp only [eTy, plainEl, encTy, List.cons.injEq, and_true] at et
    obtain ⟨rfl, rfl⟩ := et
    exact ⟨⟨a, b, l1, l2, t, l3⟩, a1, k1, a2, k2, a3, k3, rfl, s1, s2, s3⟩
/-- strings, each of a size -/
def eStr' : El ByteArray :=
  { sz := 1, rel := fun _ _ cs x => cs = encStr x ∧ x.size ≤ 1048576, len := fun e => by rw [e.1]; rfl, kp := fun _ e => e, sub := fun _ e => e }
set_option maxRecDepth 100000 in
theorem rd_strs : Reads enc Tryz.prog w base sp hd 25 fun cs => ∃ (a : Option Addr) (l : List ByteArray) (cap : Nat), cs = [.slice a l.length cap] ∧ Sl eStr T w a l ∧ ∀ s ∈ l, s.size ≤ 1048576 := fun n cs y h hb => by
  obtain ⟨a, l, cap, e, hl⟩ := reads_slice (E := eStr') (by kernel_rfl) (by kernel_rfl) (by decide) rd_str n cs y h hb
  refine ⟨a, l, cap, e, ⟨hl.big, fun i x hx => ?_⟩, fun s hs => ?_⟩
  · obtain ⟨b, o, cs, e, hb, hat, hr⟩ := hl.el i x hx
    exact ⟨b, o, cs, e, hb, hat, hr.1⟩
  · obtain ⟨i, hi⟩ := List.mem_iff_getElem?.1 hs
    obtain ⟨b, o, cs, e, hb, hat, hr⟩ := hl.el i s hi
    exact hr.2
set_option maxRecDepth 100000 in
theorem rd_unit : Reads enc Tryz.prog w base sp hd 30 fun cs => ∃ (u : Unt) (a : UA), cs = ucells u a ∧ UnR T w u a := fun n cs y h hb => by
  obtain ⟨h1, h2⟩ := reads_fields (L := [(9, 0), (25, 1), (26, 2), (27, 3), (28, 4)]) (by kernel_rfl) (by kernel_rfl) h hb
  rw [show Tryz.prog.cellsOf 30 = 5 by kernel_rfl] at h1
  match cs, h1 with
  | [c0, c1, c2, c3, c4], _ =>
    obtain ⟨s, es, hs⟩ := h2 (9, 0) (by simp) _ rd_str
    obtain ⟨a1, l1, k1, e1, s1, p1⟩ := h2 (25, 1) (by simp) _ rd_strs
    obtain ⟨a2, l2, k2, e2, s2⟩ := h2 (26, 2) (by simp) _ (reads_slice (by kernel_rfl) (by kernel_rfl) (by decide) rd_cls)
    obtain ⟨a3, l3, k3, e3, s3⟩ := h2 (27, 3) (by simp) _ (reads_slice (by kernel_rfl) (by kernel_rfl) (by decide) rd_fld)
    obtain ⟨a4, l4, k4, e4, s4⟩ := h2 (28, 4) (by simp) _ (reads_slice (by kernel_rfl) (by kernel_rfl) (by decide) rd_mth)
    simp only [show Tryz.prog.cellsOf 9 = 1 by kernel_rfl, show Tryz.prog.cellsOf 25 = 1 by kernel_rfl, show Tryz.prog.cellsOf 26 = 1 by kernel_rfl, show Tryz.prog.cellsOf 27 = 1 by kernel_rfl, show Tryz.prog.cellsOf 28 = 1 by kernel_rfl, List.drop, List.take, List.cons.injEq, and_true] at es e1 e2 e3 e4
    subst es e1 e2 e3 e4
    exact ⟨⟨s, l1, l2, l3, l4⟩, ⟨a1, k1, a2, k2, a3, k3, a4, k4⟩, rfl, ⟨hs, p1, s1, s2, s3, s4⟩⟩
set_option maxRecDepth 100000 in
/-- an argument that is a unit -/
theorem open_unit {r : Reach} {b0 : Nat} {v : Value} {d : DataW H} {p : List MemPlace} (hval : Value.okWide Tryz.prog w r b0 30 v) (h : DataW.Trod enc Tryz.prog w base sp hd 30 v d p) (hb : Rows.uptoBulk d ≤ 1048576) :
    ∃ (u : Unt) (a : UA), v = .agg (ucells u a).toArray ∧ UnR T w u a := by
  obtain ⟨cs, rfl, _⟩ := okWide_struct (show Tryz.prog.underlying 30 = some (.struct (Tryz.prog.fieldsOf 30)) by kernel_rfl) hval
  obtain ⟨n, h⟩ := h
  obtain ⟨u, a, e, hu⟩ := rd_unit n _ _ h hb
  refine ⟨u, a, ?_, hu⟩
  rw [← e]
  simp [Value.cells]
end
theorem prog_kids : Kids Tryz.prog (· < Tryz.prog.types.size) := kids_rows (by kernel_rfl) (by kernel_rfl)
theorem prog_full : ∀ t e, t < Tryz.prog.types.size → Tryz.prog.underlying t = some (.slice e) → 0 < Tryz.prog.cellsOf e := slices_full_of Tryz.prog (by kernel_rfl)
theorem same_bl {W W' : World} (h : Bl W W') {p : MemPlace} (hp : p.block < W.heap.size) : W.sameAt W' p := by
  cases p with
  | cell b o => exact World.cell?_of_block (w := W) (h.block b hp)
  | map b => exact h.block b hp
theorem all_bl {H : Type} {enc : TypeId × Value → H} {P : Program} {W W' : World} {base : Nat} {sp : Nat → Bool} {hd : Bool} (h : Bl W W') : ∀ {ts : List TypeId} {vs : List Value} {ds : List (DataW H)} {ps : List MemPlace}, (∀ p ∈ ps, p.block < W.heap.size) →
    DataW.TrodAll enc P W base sp hd ts vs ds ps → DataW.TrodAll enc P W' base sp hd ts vs ds ps
  | [], [], [], _, _, h1 => h1
  | _ :: _, _ :: _, _ :: _, _, hp, ⟨p, q, ⟨n, h1⟩, h2, e⟩ =>
    ⟨p, q, ⟨n, DataW.trod_carry n _ _ _ h1 fun x hx => same_bl h (hp x (by rw [e]; exact List.mem_append_left _ hx))⟩, all_bl h (fun x hx => hp x (by rw [e]; exact List.mem_append_right _ hx)) h2, e⟩
set_option maxRecDepth 100000 in
/-- a law that holds and has left alone what was there -/
theorem post_law {H : Type} {enc : TypeId × Value → H} {f : Func} {s : ChangeSpec} {W W' : World} {args : Array Value} {ds gs : List (DataW H)} {before : List MemPlace} (hW : DataW.Whole enc Tryz.prog f.params.toList s.vars false W args.toList ds gs before)
    (hv : s.vars = []) (hs : ∀ gs', gs' = [] → (s.fn H (ds ++ gs')).results = [.lit (.bool true)] ∧ (s.fn H (ds ++ gs')).args = ds ∧ (s.fn H (ds ++ gs')).vars = []) (hpar : ∀ t ∈ f.params.toList, t < Tryz.prog.types.size) (hr : f.resultTypes = #[4]) (hB : Bl W W') :
    s.post enc Tryz.prog f false true false false W args (.bool true) W' := by
  have hW0 := hW
  have hlt := hW.lt
  obtain ⟨p, q, hA, hV, rfl, _⟩ := hW
  rw [hv] at hV
  obtain ⟨rfl, rfl⟩ := trodVars_none hV
  obtain ⟨h1, h2, h3⟩ := hs [] rfl
  have hA' := all_bl hB (fun x hx => hlt x (List.mem_append_left _ hx)) hA
  refine post_of_bl (pa := p) (pv := []) hW0 (fun _ _ _ => ?_) (fun sp hsp => ?_) (fun _ _ => ?_) rfl hB (ok_one hr rfl (okWide_bool_mk Tryz.underlying4 _))
  · rw [h1, hr]
    exact trodAll_cons_mk (shut_bool Tryz.underlying4 _) trodAll_mk0
  · rw [h2]
    exact DataW.TrodAll.respare prog_kids prog_full hpar hA' (fun x hx => hsp x (List.mem_append_left _ hx))
  · rw [h3, hv]; rfl
end Go.Proofs.YtopjmiklpnejmaaGreatDoor

/- An argument that is bytes. -/
namespace Go.Proofs.YtopjmiklpnejmaaGreatDoor
open Eng Go.ChangeShapes Go.WideShapes Go.ChangeAt Go.RowKit
theorem byte_of {n : Int} (h : (Lit.int .u8 n).wf = true) : ∃ x : UInt8, n = (x.toNat : Int) := by
  have hr : 0 ≤ n ∧ n < 256 := by
    simp [Lit.wf, IntKind.min, IntKind.max, IntKind.bits, IntKind.signed] at h
    omega
  refine ⟨UInt8.ofNat n.toNat, ?_⟩
  have e : (UInt8.ofNat n.toNat).toNat = n.toNat := by simp; omega
  rw [e, Int.toNat_of_nonneg hr.1]
section
variable {H : Type} {enc : TypeId × Value → H} {w : World} {base : Nat} {sp : Nat → Bool} {hd : Bool}
theorem rd_u8 : Reads enc Tryz.prog w base sp hd 5 fun cs => ∃ x, eB.rel T w cs x := fun n cs y h _ => by
  obtain ⟨n, rfl, _, hw⟩ := DataW.trod_int (show Tryz.prog.underlying 5 = some (.int .u8) by kernel_rfl) h
  have hr : 0 ≤ n ∧ n < 256 := by
    simp [Lit.wf, IntKind.min, IntKind.max, IntKind.bits, IntKind.signed] at hw
    omega
  refine ⟨UInt8.ofNat n.toNat, ?_⟩
  show [Value.int .u8 n] = [.int .u8 ((UInt8.ofNat n.toNat).toNat : Int)]
  have e : (UInt8.ofNat n.toNat).toNat = n.toNat := by simp; omega
  rw [e, Int.toNat_of_nonneg hr.1]
theorem bytes_bulk {H : Type} {P : Program} {w : World} {b : Nat} {sp : Nat → Bool} {hd : Bool} {enc : TypeId × Value → H} {t : TypeId} {n : Nat} {a : Option Addr} {len cap : Nat} {y : DataW H × List MemPlace} (ht : P.underlying t = some (.slice 5)) (h : DataW.trod enc P w b sp hd n t [.slice a len cap] = some y) (hb : Rows.uptoBulk y.1 ≤ 1048576) : len ≤ 1048576 := by
  rcases Deep.open_slice ht h with ⟨e, rfl⟩ | ⟨a', len', cap', m, k, D, Pl, e, _, hl, _, hm, rfl, hx⟩
  · simp only [List.cons.injEq, Value.slice.injEq, and_true] at e
    omega
  · simp only [List.cons.injEq, Value.slice.injEq, and_true] at e
    obtain ⟨_, rfl, _⟩ := e
    simp only [Rows.uptoBulk] at hb
    have := bulk_len ((List.range len).map D)
    rw [List.length_map, List.length_range] at this
    omega
set_option maxRecDepth 100000 in
theorem open_bytes {r : Reach} {b0 : Nat} {v : Value} {d : DataW H} {p : List MemPlace} (hval : Value.okWide Tryz.prog w r b0 45 v) (h : DataW.Trod enc Tryz.prog w base sp hd 45 v d p) (hb : Rows.uptoBulk d ≤ 1048576) :
    ∃ (a : Option Addr) (l : List UInt8) (cap : Nat), v = .slice a l.length cap ∧ Sl eB T w a l ∧ l.length ≤ cap ∧ l.length ≤ 1048576 := by
  obtain ⟨n, h⟩ := h
  obtain ⟨a, l, cap, e, h1, h2⟩ := reads_sliceC (E := eB) (show Tryz.prog.underlying 45 = some (.slice 5) by kernel_rfl) (by kernel_rfl) (by decide) rd_u8 n _ _ h hb
  have hb2 := bytes_bulk (a := a) (len := l.length) (cap := cap) (show Tryz.prog.underlying 45 = some (.slice 5) by kernel_rfl) (by rw [← e]; exact h) hb
  obtain ⟨a0, n0, c0, rfl⟩ := okWide_slice (show Tryz.prog.underlying 45 = some (.slice 5) by kernel_rfl) hval
  simp only [Value.cells, List.cons.injEq, and_true] at e
  exact ⟨a, l, cap, e, h1, h2, hb2⟩
end
end Go.Proofs.YtopjmiklpnejmaaGreatDoor

/- A unit whose indexes have moved, and whose strings have other names: it passes Check if the unit does. No program stands here. -/
namespace Go.Proofs.YtopjmiklpnejmaaGreatDoor
open Eng Go.RowKit
def mvTy (f : Int → Int) (t : Ty) : Ty := if tcls t = true then ⟨t.kind, f t.cls⟩ else t
def mvFld (f : Int → Int) (x : Fld) : Fld := ⟨f x.name, mvTy f x.ty⟩
def mvCls (f : Int → Int) (c : Cls) : Cls := ⟨f c.name, f c.super, c.fields.map (mvFld f)⟩
def mvIns (f : Int → Int) (i : Ins) : Ins := if (named i).1 = 1 then ⟨i.op, f i.a, i.b⟩ else if (named i).1 = 2 then ⟨i.op, i.a, f i.b⟩ else i
def mvMth (f : Int → Int) (m : Mth) : Mth := ⟨f m.name, f m.cls, m.params.map (mvTy f), m.locals.map (mvTy f), mvTy f m.result, m.code.map (mvIns f)⟩
def mvU (f : Int → Int) (name : ByteArray) (pool : List ByteArray) (u : Unt) : Unt := ⟨name, pool, u.classes.map (mvCls f), u.statics.map (mvFld f), u.methods.map (mvMth f)⟩
def mvRf (f : Int → Int) (r : Rf) : Rf := ⟨f r.at', r.parts, r.opt⟩
theorem tcls_mv (f : Int → Int) (t : Ty) : tcls (mvTy f t) = tcls t := by unfold mvTy; split <;> rfl
theorem kind_mv (f : Int → Int) (t : Ty) : (mvTy f t).kind = t.kind := by unfold mvTy; split <;> rfl
theorem kin_mv (f : Int → Int) (t : Ty) : kin (mvTy f t) = kin t := by unfold kin; rw [kind_mv]
theorem kout_mv (f : Int → Int) (t : Ty) : kout (mvTy f t) = kout t := by unfold kout; rw [kind_mv]
theorem bare_mv (f : Int → Int) (t : Ty) : bare (mvTy f t) = bare t := by
  unfold bare; rw [tcls_mv]
  by_cases h : tcls t = true
  · rw [h]; rfl
  · unfold mvTy; rw [if_neg h]
theorem limits_mv (f : Int → Int) (hf : ∀ i : Int, f i = -1 ↔ i = -1) (name : ByteArray) (pool : List ByteArray) (u : Unt) (hp : pool.length ≤ 60) (h : limits u = true) : limits (mvU f name pool u) = true := by
  simp only [limits, Bool.and_eq_true, decide_eq_true_eq, List.all_eq_true] at h ⊢
  obtain ⟨⟨⟨⟨⟨h1, h2⟩, h3⟩, h4⟩, h5⟩, h6⟩ := h
  refine ⟨⟨⟨⟨⟨hp, by simpa [mvU] using h2⟩, by simpa [mvU] using h3⟩, by simpa [mvU] using h4⟩, fun c' hc' => ?_⟩, fun m' hm' => ?_⟩
  · obtain ⟨c, hc, rfl⟩ := List.mem_map.1 hc'
    have := h5 c hc
    simpa [lcls, mvCls] using this
  · obtain ⟨m, hm, rfl⟩ := List.mem_map.1 hm'
    have := h6 m hm
    have e : lmth (mvMth f m) = lmth m := by
      have e0 : mslots (mvMth f m) = mslots m := by
        unfold mslots mvMth
        dsimp only
        rw [List.length_map, List.length_map]
        by_cases q : m.cls = -1
        · rw [if_pos q, if_pos ((hf _).2 q)]
        · rw [if_neg q, if_neg fun e => q ((hf _).1 e)]
      unfold lmth
      rw [e0]
      simp [mvMth]
    rw [e]; exact this
theorem kinds_mv (f : Int → Int) (name : ByteArray) (pool : List ByteArray) (u : Unt) : kinds (mvU f name pool u) = kinds u := by
  have e : (kin ∘ mvTy f) = kin := funext fun t => kin_mv f t
  have e1 : (fun x : Fld => kin (mvFld f x).ty) = fun x => kin x.ty := funext fun x => kin_mv f x.ty
  have e2 : (kcls ∘ mvCls f) = kcls := funext fun c => by simp only [Function.comp, kcls, mvCls, List.all_map]; exact congrArg (fun q => c.fields.all q) e1
  have e3 : (kmth ∘ mvMth f) = kmth := funext fun m => by simp only [Function.comp_def, kmth, mvMth, List.all_map, kout_mv, kin_mv]
  simp only [kinds, mvU, List.all_map, e2, e3]
  congr 2
  exact congrArg (fun q => u.statics.all q) e1
theorem classless_mv (f : Int → Int) (name : ByteArray) (pool : List ByteArray) (u : Unt) : classless (mvU f name pool u) = classless u := by
  have e1 : (fun x : Fld => bare (mvFld f x).ty) = fun x => bare x.ty := funext fun x => bare_mv f x.ty
  have e2 : (bcls ∘ mvCls f) = bcls := funext fun c => by simp only [Function.comp, bcls, mvCls, List.all_map]; exact congrArg (fun q => c.fields.all q) e1
  have e3 : (bmth ∘ mvMth f) = bmth := funext fun m => by simp only [Function.comp_def, bmth, mvMth, List.all_map, bare_mv]
  simp only [classless, mvU, List.all_map, e2, e3]
  congr 2
  exact congrArg (fun q => u.statics.all q) e1
theorem typed_mv (f : Int → Int) (hf : f (-1) = -1) (t : Ty) (h : bare t = true) : typed (mvTy f t) = mvRf f (typed t) := by
  unfold typed mvRf; rw [tcls_mv]
  by_cases h2 : tcls t = true
  · simp [mvTy, h2]
  · have : t.cls = -1 := by simpa [bare, h2] using h
    simp [mvTy, h2, this, hf]
theorem map_congr' {α β : Type} {g h : α → β} {l : List α} (e : ∀ x ∈ l, g x = h x) : l.map g = l.map h := List.map_congr_left e
theorem flatMap_congr' {α β : Type} {g h : α → List β} : ∀ {l : List α}, (∀ x ∈ l, g x = h x) → l.flatMap g = l.flatMap h
  | [], _ => rfl
  | x :: l, e => by rw [List.flatMap_cons, List.flatMap_cons, e x (List.mem_cons_self ..), flatMap_congr' fun y hy => e y (List.mem_cons_of_mem _ hy)]
theorem fref_mv (f : Int → Int) (hf : f (-1) = -1) (x : Fld) (h : bare x.ty = true) : fref (mvFld f x) = (fref x).map (mvRf f) := by
  simp only [fref, mvFld, List.map_cons, List.map_nil, typed_mv f hf x.ty h]; rfl
theorem refs_mv (f : Int → Int) (hf : f (-1) = -1) (name : ByteArray) (pool : List ByteArray) (u : Unt) (h : classless u = true) : refs (mvU f name pool u) = (refs u).map (mvRf f) := by
  simp only [classless, Bool.and_eq_true, List.all_eq_true] at h
  obtain ⟨⟨h1, h2⟩, h3⟩ := h
  simp only [refs, mvU, List.map_append, List.map_flatMap, List.flatMap_map]
  congr 1
  · congr 1
    · refine flatMap_congr' fun c hc => ?_
      have hb := h1 c hc
      simp only [bcls, List.all_eq_true] at hb
      simp only [cref, mvCls, List.map_append, List.map_cons, List.map_nil, List.flatMap_map, List.map_flatMap]
      congr 1
      exact flatMap_congr' fun x hx => fref_mv f hf x (hb x hx)
    · exact flatMap_congr' fun x hx => fref_mv f hf x (h2 x hx)
  · refine flatMap_congr' fun m hm => ?_
    have hb := h3 m hm
    simp only [bmth, Bool.and_eq_true, List.all_eq_true] at hb
    simp only [mref, mvMth, List.map_append, List.map_cons, List.map_nil, List.map_map, typed_mv f hf m.result hb.1.1]
    congr 1
    congr 1
    · congr 1
      exact map_congr' fun t ht => typed_mv f hf t (hb.1.2 t ht)
    · exact map_congr' fun t ht => typed_mv f hf t (hb.2 t ht)
theorem dup_of_map {α : Type} {g h : α → ByteArray} : ∀ {l : List α}, (∀ x ∈ l, ∀ y ∈ l, h x = h y → g x = g y) → dup (l.map g) = false → dup (l.map h) = false := by
  intro l e hd
  rw [← Bool.not_eq_true, dup_iff]
  rintro ⟨i, j, hij, x, h1, h2⟩
  rw [← Bool.not_eq_true, dup_iff] at hd
  rw [List.getElem?_map] at h1 h2
  obtain ⟨a, ha, ea⟩ := Option.map_eq_some_iff.1 h1
  obtain ⟨b, hb, eb⟩ := Option.map_eq_some_iff.1 h2
  refine hd ⟨i, j, hij, g a, by rw [List.getElem?_map, ha]; rfl, ?_⟩
  rw [List.getElem?_map, hb]
  have := e a (List.mem_of_getElem? ha) b (List.mem_of_getElem? hb) (ea.trans eb.symm)
  rw [this]; rfl
/-- a text with a point, then one without: both can be told -/
theorem split_dot {a b c d : List UInt8} (hb : (46 : UInt8) ∉ b) (hd : (46 : UInt8) ∉ d) (h : a ++ 46 :: b = c ++ 46 :: d) : a = c ∧ b = d := by
  have key : ∀ (x y : List UInt8), (46 : UInt8) ∉ x → (46 : UInt8) ∉ y → ∀ p q : List UInt8, x ++ 46 :: p = y ++ 46 :: q → x = y ∧ p = q := by
    intro x
    induction x with
    | nil =>
      intro y _ hy p q e
      cases y with
      | nil => simp at e; exact ⟨rfl, e⟩
      | cons c y => simp at e; exact absurd (by rw [← e.1]; exact List.mem_cons_self ..) hy
    | cons c x ih =>
      intro y hx hy p q e
      cases y with
      | nil => simp at e; exact absurd (by rw [e.1]; exact List.mem_cons_self ..) hx
      | cons d y =>
        simp only [List.cons_append, List.cons.injEq] at e
        obtain ⟨e1, e2⟩ := ih y (fun m => hx (List.mem_cons_of_mem _ m)) (fun m => hy (List.mem_cons_of_mem _ m)) p q e.2
        exact ⟨by rw [e.1, e1], e2⟩
  have h' := congrArg List.reverse h
  simp only [List.reverse_append, List.reverse_cons, List.append_assoc, List.cons_append, List.nil_append] at h'
  obtain ⟨e1, e2⟩ := key _ _ (by simpa using hb) (by simpa using hd) _ _ h'
  exact ⟨List.reverse_inj.1 e2, List.reverse_inj.1 e1⟩
theorem toL_dots (x y : ByteArray) : (dots x y).data.toList = x.data.toList ++ 46 :: y.data.toList := by
  unfold dots
  rw [show (x ++ ⟨#[46]⟩ ++ y : ByteArray).data = x.data ++ #[46] ++ y.data by rw [ByteArray.data_append, ByteArray.data_append]]
  simp
theorem dots_inj {a b c d : ByteArray} (hb : (46 : UInt8) ∉ b.data.toList) (hd : (46 : UInt8) ∉ d.data.toList) (h : dots a b = dots c d) : a = c ∧ b = d := by
  have := congrArg (fun s : ByteArray => s.data.toList) h
  simp only [toL_dots] at this
  obtain ⟨e1, e2⟩ := split_dot hb hd this
  exact ⟨ba_ext e1, ba_ext e2⟩
theorem path_one {s : ByteArray} (h : (path s : Int) = 1) : (46 : UInt8) ∉ s.data.toList := by
  unfold path pathL at h
  split at h
  · rename_i hc
    intro hm
    have hl : (cutDot s.data.toList).length = 1 := by omega
    have key : ∀ l : List UInt8, (46 : UInt8) ∈ l → 1 < (cutDot l).length := by
      intro l
      induction l with
      | nil => intro h; cases h
      | cons c r ih =>
        intro hm
        simp only [cutDot]
        have hn := cutDot_ne r
        by_cases h1 : c = 46
        · rw [if_pos h1]
          cases hr : cutDot r with
          | nil => exact absurd hr hn
          | cons p ps => simp
        · rw [if_neg h1]
          have := ih (by cases hm with
            | head => exact absurd rfl h1
            | tail _ h => exact h)
          cases hr : cutDot r with
          | nil => exact absurd hr hn
          | cons p ps => rw [hr] at this; simpa using this
    have := key _ hm
    omega
  · cases h
/-- what is known of a unit that passes Check -/
structure CkU (u : Unt) : Prop where
  lim : limits u = true
  nm : simple u.name = true
  ps : pathsOk u = true
  kd : kinds u = true
  pl : (refs u).all (refOk u.pool.length) = true
  cl : classless u = true
  rf : refsOk u = true
  db : doubled u = false
  me : mErr u.methods = 0
  cd : codesOk u = true
theorem ckU_iff (u : Unt) : checkE u = 0 ↔ CkU u := by
  constructor
  · intro h
    unfold checkE at h
    split at h; · cases h
    rename_i h1
    split at h; · cases h
    rename_i h2
    split at h; · cases h
    rename_i h3
    split at h; · cases h
    rename_i h4
    split at h; · cases h
    rename_i h5
    split at h; · cases h
    rename_i h6
    split at h; · rename_i h7; exact absurd h h7
    rename_i h7
    split at h; · cases h
    rename_i h8
    simp only [places, Bool.not_eq_false, Bool.and_eq_true] at h1 h2 h3 h4 h5 h8
    exact ⟨h1, h2, h3, h4.1, h4.2.1, h4.2.2, h5, by simpa using h6, by simpa using h7, h8⟩
  · rintro ⟨h1, h2, h3, h4, h5, h5', h6, h7, h8, h9⟩
    unfold checkE places
    rw [h1, h2, h3, h4, h5, h5', h6, h7, h8, h9]
    rfl
theorem mErr_zero {l : List Mth} (h : mErr l = 0) : ∀ m ∈ l, codeE m.code true = 0 := by
  induction l with
  | nil => intro m hm; cases hm
  | cons x l ih =>
    unfold mErr at h
    split at h
    · rename_i h1
      intro m hm
      rcases List.mem_cons.1 hm with rfl | hm
      · exact h1
      · exact ih h m hm
    · rename_i h1; exact absurd h h1
/-- the indexes that code names -/
def opRefs (u : Unt) : List Rf := u.methods.flatMap fun m => m.code.flatMap fun i => if 0 < (operand i).2 then [⟨(operand i).1, (operand i).2, false⟩] else []
def allRefs (u : Unt) : List Rf := refs u ++ opRefs u
structure Mv (f : Int → Int) (name : ByteArray) (pool : List ByteArray) (u : Unt) : Prop where
  neg : ∀ i : Int, f i = -1 ↔ i = -1
  sn : simple name = true
  len : pool.length ≤ 60
  ps : ∀ s ∈ pool, ¬ (path s : Int) = 0
  du : dup pool = false
  rg : ∀ r ∈ allRefs u, 0 ≤ r.at' → 0 ≤ f r.at' ∧ f r.at' < pool.length
  pt : ∀ r ∈ allRefs u, 0 ≤ r.at' → path (pool.getD (f r.at').toNat ⟨#[]⟩) = path (nm u r.at')
  eq : ∀ r ∈ allRefs u, ∀ q ∈ allRefs u, 0 ≤ r.at' → 0 ≤ q.at' → pool.getD (f r.at').toNat ⟨#[]⟩ = pool.getD (f q.at').toNat ⟨#[]⟩ → nm u r.at' = nm u q.at'
theorem getD_nm (u : Unt) (i : Int) : nm u i = u.pool.getD i.toNat ⟨#[]⟩ := rfl
theorem mem_refs_cls {u : Unt} {c : Cls} (hc : c ∈ u.classes) {r : Rf} (hr : r ∈ cref c) : r ∈ allRefs u := List.mem_append_left _ (List.mem_append_left _ (List.mem_append_left _ (List.mem_flatMap.2 ⟨c, hc, hr⟩)))
theorem mem_refs_sta {u : Unt} {c : Fld} (hc : c ∈ u.statics) {r : Rf} (hr : r ∈ fref c) : r ∈ allRefs u := List.mem_append_left _ (List.mem_append_left _ (List.mem_append_right _ (List.mem_flatMap.2 ⟨c, hc, hr⟩)))
theorem mem_refs_mth {u : Unt} {c : Mth} (hc : c ∈ u.methods) {r : Rf} (hr : r ∈ mref c) : r ∈ allRefs u := List.mem_append_left _ (List.mem_append_right _ (List.mem_flatMap.2 ⟨c, hc, hr⟩))
theorem mem_refs_fld {u : Unt} {c : Cls} (hc : c ∈ u.classes) {x : Fld} (hx : x ∈ c.fields) {r : Rf} (hr : r ∈ fref x) : r ∈ allRefs u := mem_refs_cls hc (List.mem_append_right _ (List.mem_flatMap.2 ⟨x, hx, hr⟩))
theorem mem_refs_op {u : Unt} {m : Mth} (hm : m ∈ u.methods) {i : Ins} (hi : i ∈ m.code) (h : 0 < (operand i).2) : (⟨(operand i).1, (operand i).2, false⟩ : Rf) ∈ allRefs u :=
  List.mem_append_right _ (List.mem_flatMap.2 ⟨m, hm, List.mem_flatMap.2 ⟨i, hi, by rw [if_pos h]; exact List.mem_singleton.2 rfl⟩⟩)
theorem named_mv (f : Int → Int) (i : Ins) : named (mvIns f i) = named i := by
  unfold mvIns
  by_cases h1 : (named i).1 = 1
  · rw [if_pos h1]
    obtain ⟨op, a, b⟩ := i
    unfold named at h1 ⊢
    dsimp only at h1 ⊢
    by_cases e1 : op = 17 ∨ op = 18
    · rw [if_pos e1, if_pos e1]
    rw [if_neg e1] at h1; rw [if_neg e1, if_neg e1]
    by_cases e2 : op = 14 ∨ op = 24 ∨ op = 22 ∨ op = 23 ∨ op = 25
    · rw [if_pos e2, if_pos e2]
    rw [if_neg e2] at h1; rw [if_neg e2, if_neg e2]
    by_cases e3 : op = 26
    · rw [if_pos e3, if_pos e3]
    rw [if_neg e3] at h1
    split at h1
    · cases h1
    · split at h1 <;> cases h1
  · rw [if_neg h1]
    by_cases h2 : (named i).1 = 2
    · rw [if_pos h2]; rfl
    · rw [if_neg h2]
theorem named_zero {i : Ins} (h1 : ¬ (named i).1 = 1) (h2 : ¬ (named i).1 = 2) : operand i = (-1, 0) := by unfold operand; rw [if_neg h1, if_neg h2]
theorem named_pos {i : Ins} (h : (named i).1 = 1 ∨ (named i).1 = 2) : 0 < (named i).2 := by
  unfold named at h ⊢
  split
  · decide
  · split
    · decide
    · split
      · decide
      · split
        · decide
        · split
          · decide
          · rename_i h1 h2 h3 h4 h5
            rw [if_neg h1, if_neg h2, if_neg h3, if_neg h4, if_neg h5] at h
            rcases h with h | h <;> cases h
theorem operand_mv (f : Int → Int) (i : Ins) : (operand (mvIns f i)).2 = (operand i).2 ∧ (0 < (operand i).2 → (operand (mvIns f i)).1 = f (operand i).1) := by
  by_cases h1 : (named i).1 = 1
  · have e : operand i = (i.a, (named i).2) := by unfold operand; rw [if_pos h1]
    have e2 : operand (mvIns f i) = (f i.a, (named i).2) := by unfold operand; rw [named_mv, if_pos h1]; unfold mvIns; rw [if_pos h1]
    rw [e, e2]; exact ⟨rfl, fun _ => rfl⟩
  · by_cases h2 : (named i).1 = 2
    · have e : operand i = (i.b, (named i).2) := by unfold operand; rw [if_neg h1, if_pos h2]
      have e2 : operand (mvIns f i) = (f i.b, (named i).2) := by unfold operand; rw [named_mv, if_neg h1, if_pos h2]; unfold mvIns; rw [if_neg h1, if_pos h2]
      rw [e, e2]; exact ⟨rfl, fun _ => rfl⟩
    · rw [named_zero h1 h2, named_zero (by rw [named_mv]; exact h1) (by rw [named_mv]; exact h2)]
      exact ⟨rfl, fun h => absurd h (by decide)⟩
theorem valid_mv (f : Int → Int) (i : Ins) (hv : validI i true = true) (h : 0 < (operand i).2 → 0 ≤ f (operand i).1 ∧ f (operand i).1 < 60) : validI (mvIns f i) true = true := by
  by_cases h1 : (named i).1 = 1
  · have hp := named_pos (.inl h1)
    have e : operand i = (i.a, (named i).2) := by unfold operand; rw [if_pos h1]
    rw [e] at h
    have h := h hp
    unfold mvIns; rw [if_pos h1]
    obtain ⟨op, a, b⟩ := i
    dsimp only at h ⊢
    have hc : op = 17 ∨ op = 18 ∨ op = 14 ∨ op = 24 ∨ op = 22 ∨ op = 23 ∨ op = 25 ∨ op = 26 := by
      unfold named at h1
      dsimp only at h1
      split at h1
      · omega
      · split at h1
        · omega
        · split at h1
          · omega
          · split at h1
            · cases h1
            · split at h1 <;> cases h1
    rcases hc with rfl | rfl | rfl | rfl | rfl | rfl | rfl | rfl <;>
      (simp [validI, inR, rngs, isPool, mosts] at hv ⊢; omega)
  · by_cases h2 : (named i).1 = 2
    · have hp := named_pos (.inr h2)
      have e : operand i = (i.b, (named i).2) := by unfold operand; rw [if_neg h1, if_pos h2]
      rw [e] at h
      have h := h hp
      unfold mvIns; rw [if_neg h1, if_pos h2]
      obtain ⟨op, a, b⟩ := i
      dsimp only at h ⊢
      have hc : op = 16 ∨ (op = 12 ∧ (a = 2 ∨ a = 4)) := by
        unfold named at h2
        dsimp only at h2
        split at h2
        · cases h2
        · split at h2
          · cases h2
          · split at h2
            · cases h2
            · split at h2
              · left; assumption
              · split at h2
                · right; assumption
                · cases h2
      rcases hc with rfl | ⟨rfl, rfl | rfl⟩ <;>
        (simp [validI, inR, rngs, isPool, mosts] at hv ⊢; omega)
    · unfold mvIns; rw [if_neg h1, if_neg h2]; exact hv
theorem op_mv (f : Int → Int) (i : Ins) : (mvIns f i).op = i.op := by unfold mvIns; split <;> (try split) <;> rfl
def hIdx (u : Unt) : List Int := (u.classes.map (·.name)) ++ (u.statics.map (·.name)) ++ (u.methods.filter fun m => decide (m.cls = -1)).map (·.name)
theorem heads_idx (u : Unt) : heads u = (hIdx u).map (nm u) := by simp only [heads, hIdx, List.map_append, List.map_map]; rfl
theorem filter_mv (f : Int → Int) (hf : ∀ i : Int, f i = -1 ↔ i = -1) (l : List Mth) : (l.map (mvMth f)).filter (fun m => decide (m.cls = -1)) = (l.filter fun m => decide (m.cls = -1)).map (mvMth f) := by
  rw [List.filter_map]
  congr 2
  funext m
  simp only [Function.comp, mvMth]
  exact decide_eq_decide.2 (hf m.cls)
theorem filter_mv' (f : Int → Int) (hf : ∀ i : Int, f i = -1 ↔ i = -1) (l : List Mth) : (l.map (mvMth f)).filter (fun m => !decide (m.cls = -1)) = (l.filter fun m => !decide (m.cls = -1)).map (mvMth f) := by
  rw [List.filter_map]
  congr 2
  funext m
  simp only [Function.comp, mvMth]
  exact congrArg (fun b : Bool => !b) (decide_eq_decide.2 (hf m.cls))
theorem hIdx_mv (f : Int → Int) (hf : ∀ i : Int, f i = -1 ↔ i = -1) (name : ByteArray) (pool : List ByteArray) (u : Unt) : hIdx (mvU f name pool u) = (hIdx u).map f := by
  simp only [hIdx, mvU, filter_mv f hf, List.map_append, List.map_map]; rfl
theorem hIdx_mem {u : Unt} {i : Int} (h : i ∈ hIdx u) : (⟨i, 1, false⟩ : Rf) ∈ allRefs u := by
  simp only [hIdx, List.mem_append, List.mem_map, List.mem_filter] at h
  rcases h with (⟨c, hc, rfl⟩ | ⟨c, hc, rfl⟩) | ⟨c, hc, rfl⟩
  · exact mem_refs_cls hc (by simp [cref])
  · exact mem_refs_sta hc (by simp [fref])
  · exact mem_refs_mth hc.1 (by simp [mref])
theorem ref_in {u : Unt} (hC : CkU u) {r : Rf} (hr : r ∈ refs u) : r.at' = -1 ∧ r.opt = true ∨ (0 ≤ r.at' ∧ r.at' < u.pool.length ∧ (path (nm u r.at') : Int) = r.parts) := by
  have h := List.all_eq_true.1 hC.pl r hr
  have h2 := List.all_eq_true.1 hC.rf r hr
  simp only [refOk, Bool.or_eq_true, Bool.and_eq_true, decide_eq_true_eq, Bool.not_eq_true', Bool.or_eq_false_iff, decide_eq_false_iff_not] at h
  rcases h with h | h
  · exact .inl h
  · refine .inr ⟨by omega, by omega, ?_⟩
    have h3 : 0 ≤ r.at' := by omega
    rw [decide_eq_true h3] at h2
    simpa using h2
theorem op_in {u : Unt} (hC : CkU u) {m : Mth} (hm : m ∈ u.methods) {i : Ins} (hi : i ∈ m.code) (h : 0 < (operand i).2) : 0 ≤ (operand i).1 ∧ (operand i).1 < u.pool.length ∧ (path (nm u (operand i).1) : Int) = (operand i).2 := by
  have h1 := mErr_zero hC.me m hm
  have hv : validI i true = true := by
    unfold codeE at h1
    split at h1
    · cases h1
    · split at h1
      · rename_i hv; exact List.all_eq_true.1 hv i hi
      · cases h1
  have h0 := operand_ge i hv h
  have h2 := List.all_eq_true.1 (List.all_eq_true.1 hC.cd m hm) i hi
  unfold insOk at h2
  rw [decide_eq_true h] at h2
  simp only [Bool.true_and, Bool.not_eq_true', Bool.or_eq_false_iff, decide_eq_false_iff_not] at h2
  refine ⟨h0, by omega, ?_⟩
  have := h2.2
  simpa using this
theorem name_in {u : Unt} (hC : CkU u) {i : Int} (h : (⟨i, 1, false⟩ : Rf) ∈ refs u) : 0 ≤ i ∧ i < u.pool.length ∧ (path (nm u i) : Int) = 1 := by
  rcases ref_in hC h with ⟨_, h2⟩ | h2
  · cases h2
  · exact h2
theorem checkE_mv {f : Int → Int} {name : ByteArray} {pool : List ByteArray} {u : Unt} (h : Mv f name pool u) (hc : checkE u = 0) : checkE (mvU f name pool u) = 0 := by
  have hC := (ckU_iff u).1 hc
  have hR := refs_mv f ((h.neg (-1)).2 rfl) name pool u hC.cl
  have hnv : ∀ i, nm (mvU f name pool u) i = pool.getD i.toNat ⟨#[]⟩ := fun i => rfl
  have sub : ∀ {r}, r ∈ refs u → r ∈ allRefs u := fun hr => List.mem_append_left _ hr
  have hidx : ∀ i ∈ hIdx u, 0 ≤ i := fun i hi => by
    have := hIdx_mem hi
    simp only [hIdx, List.mem_append, List.mem_map, List.mem_filter] at hi
    rcases hi with (⟨c, hc, rfl⟩ | ⟨c, hc, rfl⟩) | ⟨c, hc, rfl⟩
    · exact (name_in hC (List.mem_append_left _ (List.mem_append_left _ (List.mem_flatMap.2 ⟨c, hc, by simp [cref]⟩)))).1
    · exact (name_in hC (List.mem_append_left _ (List.mem_append_right _ (List.mem_flatMap.2 ⟨c, hc, by simp [fref]⟩)))).1
    · exact (name_in hC (List.mem_append_right _ (List.mem_flatMap.2 ⟨c, hc.1, by simp [mref]⟩))).1
  have hdb := hC.db
  simp only [doubled, Bool.or_eq_false_iff] at hdb
  obtain ⟨⟨⟨d1, d2⟩, d3⟩, d4⟩ := hdb
  refine (ckU_iff _).2 ⟨limits_mv f h.neg name pool u h.len hC.lim, h.sn, ?_, by rw [kinds_mv]; exact hC.kd, ?_, by rw [classless_mv]; exact hC.cl, ?_, ?_, ?_, ?_⟩
  · exact List.all_eq_true.2 fun s hs => decide_eq_true (h.ps s hs)
  · rw [hR, List.all_map]
    refine List.all_eq_true.2 fun r hr => ?_
    rcases ref_in hC hr with ⟨q1, q2⟩ | ⟨q1, q2, _⟩
    · simp only [Function.comp, refOk, mvRf, q1, q2, (h.neg (-1)).2 rfl]; rfl
    · have := h.rg r (sub hr) q1
      have e1 : ¬ f r.at' < 0 := by omega
      have e2 : ¬ f r.at' ≥ pool.length := by omega
      simp only [Function.comp, refOk, mvRf, mvU, Bool.or_eq_true, Bool.not_eq_true', Bool.or_eq_false_iff]
      exact .inr ⟨decide_eq_false e1, decide_eq_false e2⟩
  · unfold refsOk
    rw [hR, List.all_map]
    refine List.all_eq_true.2 fun r hr => ?_
    rcases ref_in hC hr with ⟨q1, q2⟩ | ⟨q1, q2, q3⟩
    · simp only [Function.comp, mvRf, q1, (h.neg (-1)).2 rfl]; rfl
    · have := h.pt r (sub hr) q1
      simp only [Function.comp, mvRf, hnv, this, q3]; simp
  · simp only [doubled, Bool.or_eq_false_iff]
    refine ⟨⟨⟨h.du, ?_⟩, ?_⟩, ?_⟩
    · rw [← Bool.not_eq_true, List.any_eq_true]
      rintro ⟨c', hc0, hd⟩
      obtain ⟨c, hc', rfl⟩ := List.mem_map.1 hc0
      have hd0 : cdup u c = false := by
        rw [← Bool.not_eq_true]; intro e
        rw [← Bool.not_eq_true, List.any_eq_true] at d2
        exact d2 ⟨c, hc', e⟩
      have : cdup (mvU f name pool u) (mvCls f c) = false := by
        unfold cdup at hd0 ⊢
        simp only [mvCls, List.map_map]
        refine dup_of_map (g := fun x => nm u x.name) (h := (fun x : Fld => nm (mvU f name pool u) x.name) ∘ mvFld f) (fun x hx y hy e => ?_) hd0
        have fx : (⟨x.name, 1, false⟩ : Rf) ∈ refs u := List.mem_append_left _ (List.mem_append_left _ (List.mem_flatMap.2 ⟨c, hc', List.mem_append_right _ (List.mem_flatMap.2 ⟨x, hx, by simp [fref]⟩)⟩))
        have fy : (⟨y.name, 1, false⟩ : Rf) ∈ refs u := List.mem_append_left _ (List.mem_append_left _ (List.mem_flatMap.2 ⟨c, hc', List.mem_append_right _ (List.mem_flatMap.2 ⟨y, hy, by simp [fref]⟩)⟩))
        exact h.eq _ (sub fx) _ (sub fy) (name_in hC fx).1 (name_in hC fy).1 e
      rw [this] at hd; cases hd
    · rw [heads_idx, hIdx_mv f h.neg, List.map_map]
      rw [heads_idx] at d3
      refine dup_of_map (g := nm u) (h := nm (mvU f name pool u) ∘ f) (fun x hx y hy e => ?_) d3
      exact h.eq _ (hIdx_mem hx) _ (hIdx_mem hy) (hidx x hx) (hidx y hy) e
    · unfold fulls at d4 ⊢
      simp only [mvU, filter_mv' f h.neg, List.map_map]
      refine dup_of_map (g := fun m => dots (nm u m.cls) (nm u m.name)) (h := (fun m : Mth => dots (pool.getD m.cls.toNat ⟨#[]⟩) (pool.getD m.name.toNat ⟨#[]⟩)) ∘ mvMth f) (fun x hx y hy e => ?_) d4
      have key : ∀ m ∈ u.methods.filter (fun m => !decide (m.cls = -1)), (⟨m.name, 1, false⟩ : Rf) ∈ refs u ∧ (⟨m.cls, 2, true⟩ : Rf) ∈ refs u ∧ 0 ≤ m.cls := fun m hm => by
        obtain ⟨hm1, hm2⟩ := List.mem_filter.1 hm
        have k1 : (⟨m.name, 1, false⟩ : Rf) ∈ refs u := List.mem_append_right _ (List.mem_flatMap.2 ⟨m, hm1, by simp [mref]⟩)
        have k2 : (⟨m.cls, 2, true⟩ : Rf) ∈ refs u := List.mem_append_right _ (List.mem_flatMap.2 ⟨m, hm1, by simp [mref]⟩)
        refine ⟨k1, k2, ?_⟩
        rcases ref_in hC k2 with ⟨q1, _⟩ | ⟨q1, _⟩
        · simp at hm2; exact absurd q1 hm2
        · exact q1
      obtain ⟨x1, x2, x3⟩ := key x hx
      obtain ⟨y1, y2, y3⟩ := key y hy
      obtain ⟨n1, n2, n3⟩ := name_in hC x1
      obtain ⟨m1, m2, m3⟩ := name_in hC y1
      have p1 := h.pt _ (sub x1) n1
      have p2 := h.pt _ (sub y1) m1
      obtain ⟨e1, e2⟩ := dots_inj (path_one (by rw [show (mvMth f x).name = f x.name from rfl, p1]; exact n3)) (path_one (by rw [show (mvMth f y).name = f y.name from rfl, p2]; exact m3)) e
      have a1 := h.eq _ (sub x1) _ (sub y1) n1 m1 e2
      have a2 := h.eq _ (sub x2) _ (sub y2) x3 y3 e1
      dsimp only at a1 a2
      rw [a1, a2]
  · refine mErr_none fun m' hm' => ?_
    obtain ⟨m, hm, rfl⟩ := List.mem_map.1 hm'
    have h1 := mErr_zero hC.me m hm
    unfold codeE at h1 ⊢
    split at h1
    · cases h1
    rename_i g1
    split at h1
    · rename_i hv
      split at h1
      · rename_i hb
        have hl : (mvMth f m).code.length = m.code.length := by simp [mvMth]
        have ho : (mvMth f m).code.map (·.op) = m.code.map (·.op) := by
          simp only [mvMth, List.map_map]
          exact map_congr' fun i _ => op_mv f i
        rw [if_neg (by rw [hl]; exact g1), if_pos, if_pos (by rw [ho]; exact hb)]
        simp only [mvMth, List.all_map]
        refine List.all_eq_true.2 fun i hi => ?_
        refine valid_mv f i (List.all_eq_true.1 hv i hi) fun hp => ?_
        have := h.rg _ (mem_refs_op hm hi hp) (op_in hC hm hi hp).1
        have := h.len
        dsimp only at *
        omega
      · cases h1
    · cases h1
  · refine List.all_eq_true.2 fun m' hm' => ?_
    obtain ⟨m, hm, rfl⟩ := List.mem_map.1 hm'
    refine List.all_eq_true.2 fun i' hi' => ?_
    obtain ⟨i, hi, rfl⟩ := List.mem_map.1 hi'
    obtain ⟨o1, o2⟩ := operand_mv f i
    unfold insOk
    rw [o1]
    by_cases hp : 0 < (operand i).2
    · have q := op_in hC hm hi hp
      have r1 := h.rg _ (mem_refs_op hm hi hp) q.1
      have r2 := h.pt _ (mem_refs_op hm hi hp) q.1
      dsimp only at r1 r2
      rw [o2 hp, hnv, r2, q.2.2]
      have : ¬ f (operand i).1 ≥ pool.length := by omega
      simp [mvU, this]
    · simp [hp]
end Go.Proofs.YtopjmiklpnejmaaGreatDoor

/- A unit gets another name, and its own again. No program stands here. -/
namespace Go.Proofs.YtopjmiklpnejmaaGreatDoor
open Eng Go.RowKit
/-- a text behind a name and a point gets another name -/
def renL (n m s : List UInt8) : List UInt8 := if (n ++ [46]).isPrefixOf s = true then m ++ 46 :: s.drop (n.length + 1) else s
def ren (n m s : ByteArray) : ByteArray := ofL (renL n.data.toList m.data.toList s.data.toList)
theorem pre_iff {n s : List UInt8} : (n ++ [46]).isPrefixOf s = true ↔ ∃ r, s = n ++ 46 :: r := by
  rw [List.isPrefixOf_iff_prefix]
  constructor
  · rintro ⟨r, e⟩
    exact ⟨r, by rw [← e]; simp⟩
  · rintro ⟨r, e⟩
    exact ⟨r, by rw [e]; simp⟩
theorem renL_hit (n m r : List UInt8) : renL n m (n ++ 46 :: r) = m ++ 46 :: r := by
  unfold renL
  rw [if_pos (pre_iff.2 ⟨r, rfl⟩)]
  congr 2
  have : (n ++ 46 :: r).drop (n.length + 1) = r := by
    rw [List.drop_append]; simp
  exact this
theorem renL_miss {n m s : List UInt8} (h : ¬ ∃ r, s = n ++ 46 :: r) : renL n m s = s := by
  unfold renL
  rw [if_neg fun q => h (pre_iff.1 q)]
theorem cutDot_name : ∀ {n r : List UInt8}, (46 : UInt8) ∉ n → cutDot (n ++ 46 :: r) = n :: cutDot r
  | [], r, _ => by simp [cutDot]
  | c :: n, r, h => by
    have h1 : c ≠ 46 := fun e => h (by rw [e]; exact List.mem_cons_self ..)
    have ih := cutDot_name (n := n) (r := r) fun e => h (List.mem_cons_of_mem _ e)
    simp only [List.cons_append, cutDot, if_neg h1, ih]
/-- the parts, put together again -/
theorem cutDot_join : ∀ {l p : List UInt8} {ps : List (List UInt8)}, cutDot l = p :: ps → l = p ++ ps.flatMap (fun q => 46 :: q)
  | [], p, ps, h => by
    simp only [cutDot, List.cons.injEq] at h
    obtain ⟨rfl, rfl⟩ := h; rfl
  | c :: r, p, ps, h => by
    simp only [cutDot] at h
    cases hr : cutDot r with
    | nil => exact absurd hr (cutDot_ne r)
    | cons q qs =>
      have ih := cutDot_join hr
      by_cases h1 : c = 46
      · rw [if_pos h1, hr] at h
        simp only [List.cons.injEq] at h
        obtain ⟨rfl, rfl⟩ := h
        rw [h1]
        simp only [List.flatMap_cons, List.nil_append]
        rw [List.cons_append, ← ih]
      · rw [if_neg h1, hr] at h
        simp only [List.cons.injEq] at h
        obtain ⟨rfl, rfl⟩ := h
        rw [List.cons_append, ← ih]
/-- the document's way -/
theorem renL_parts {n m s p : List UInt8} {ps : List (List UInt8)} (hn : (46 : UInt8) ∉ n) (h : cutDot s = p :: ps) : renL n m s = if 1 < ps.length + 1 ∧ p = n then m ++ ps.flatMap (fun q => 46 :: q) else s := by
  have e := cutDot_join h
  by_cases hc : 1 < ps.length + 1 ∧ p = n
  · rw [if_pos hc]
    obtain ⟨h1, rfl⟩ := hc
    cases ps with
    | nil => simp at h1
    | cons q qs =>
      simp only [List.flatMap_cons, List.cons_append] at e ⊢
      rw [e, renL_hit]
  · rw [if_neg hc]
    refine renL_miss ?_
    rintro ⟨r, rfl⟩
    rw [cutDot_name hn] at h
    simp only [List.cons.injEq] at h
    obtain ⟨rfl, rfl⟩ := h
    refine hc ⟨?_, rfl⟩
    have := cutDot_ne r
    cases hr : cutDot r with
    | nil => exact absurd hr this
    | cons a b => simp
theorem pathL_ren {n m s : List UInt8} (hn : simpleL n = true) (hm : simpleL m = true) : pathL (renL n m s) = pathL s := by
  by_cases h : ∃ r, s = n ++ 46 :: r
  · obtain ⟨r, rfl⟩ := h
    rw [renL_hit]
    unfold pathL
    rw [cutDot_name (simple_nodot hn), cutDot_name (simple_nodot hm)]
    simp only [List.length_cons, List.all_cons, hn, hm]
  · rw [renL_miss h]
theorem path_ren {n m s : ByteArray} (hn : simple n = true) (hm : simple m = true) : path (ren n m s) = path s := by
  unfold path ren
  rw [show (ofL (renL n.data.toList m.data.toList s.data.toList)).data.toList = renL n.data.toList m.data.toList s.data.toList from toL_ofL _]
  exact pathL_ren hn hm
def renPool (u : Unt) (name : ByteArray) : List ByteArray := u.pool.map (ren u.name name)
def renE (u : Unt) (name : ByteArray) : Int := if checkE u = 0 then (if simple name = false then 8 else if dup (renPool u name) = true then 9 else 0) else checkE u
def u00 : Unt := ⟨⟨#[]⟩, [], [], [], []⟩
def renU (u : Unt) (name : ByteArray) : Unt := if renE u name = 0 then { u with name := name, pool := renPool u name } else u00
/-- no path of the pool begins with the name -/
def freeU (u : Unt) (name : ByteArray) : Bool := u.pool.all fun s => !(decide (1 < (partsB s).length) && decide ((partsB s).head? = some name))
theorem renE_zero {u : Unt} {name : ByteArray} (h : renE u name = 0) : checkE u = 0 ∧ simple name = true ∧ dup (renPool u name) = false := by
  unfold renE at h
  split at h
  · rename_i h1
    split at h
    · cases h
    rename_i h2
    split at h
    · cases h
    rename_i h3
    exact ⟨h1, by simpa using h2, by simpa using h3⟩
  · rename_i h1; exact absurd h h1
theorem mvTy_id (t : Ty) : mvTy id t = t := by unfold mvTy; split <;> rfl
theorem mvFld_id (x : Fld) : mvFld id x = x := by unfold mvFld; rw [mvTy_id]; rfl
theorem mvIns_id (i : Ins) : mvIns id i = i := by unfold mvIns; split <;> (try split) <;> rfl
theorem mvU_id (name : ByteArray) (pool : List ByteArray) (u : Unt) : mvU id name pool u = { u with name := name, pool := pool } := by
  have e1 : mvFld id = id := funext mvFld_id
  have e2 : mvTy id = id := funext mvTy_id
  have e3 : mvIns id = id := funext mvIns_id
  have e4 : mvCls id = id := funext fun c => by unfold mvCls; rw [e1, List.map_id]; rfl
  have e5 : mvMth id = id := funext fun c => by unfold mvMth; rw [e2, e3, List.map_id, List.map_id, List.map_id]; rfl
  unfold mvU
  rw [e1, e4, e5, List.map_id, List.map_id, List.map_id]
theorem dup_inj {l : List ByteArray} (h : dup l = false) {i j : Nat} {x : ByteArray} (hi : l[i]? = some x) (hj : l[j]? = some x) : i = j := by
  rw [← Bool.not_eq_true, dup_iff] at h
  rcases Nat.lt_trichotomy i j with q | q | q
  · exact absurd ⟨j, i, q, x, hj, hi⟩ h
  · exact q
  · exact absurd ⟨i, j, q, x, hi, hj⟩ h
theorem all_in {u : Unt} (hC : CkU u) {r : Rf} (hr : r ∈ allRefs u) (h0 : 0 ≤ r.at') : r.at' < u.pool.length ∧ (path (nm u r.at') : Int) = r.parts := by
  rcases List.mem_append.1 hr with h | h
  · rcases ref_in hC h with ⟨q, _⟩ | ⟨_, q⟩
    · omega
    · exact q
  · obtain ⟨m, hm, h⟩ := List.mem_flatMap.1 h
    obtain ⟨i, hi, h⟩ := List.mem_flatMap.1 h
    split at h
    · rename_i hp
      rw [List.mem_singleton] at h
      subst h
      exact (op_in hC hm hi hp).2
    · cases h
theorem getD_at {l : List ByteArray} {i : Nat} (h : i < l.length) : l[i]? = some (l.getD i ⟨#[]⟩) := by
  rw [List.getD_eq_getElem?_getD, List.getElem?_eq_getElem h]; rfl
theorem ren_check {u : Unt} {name : ByteArray} (h : renE u name = 0) : checkE { u with name := name, pool := renPool u name } = 0 := by
  obtain ⟨h1, h2, h3⟩ := renE_zero h
  have hC := (ckU_iff u).1 h1
  have hlen : (renPool u name).length = u.pool.length := by simp [renPool]
  have hat : ∀ i : Nat, i < u.pool.length → (renPool u name).getD i ⟨#[]⟩ = ren u.name name (u.pool.getD i ⟨#[]⟩) := fun i hi => by
    have := getD_at hi
    have h2 : (renPool u name)[i]? = some (ren u.name name (u.pool.getD i ⟨#[]⟩)) := by unfold renPool; rw [List.getElem?_map, this]; rfl
    rw [List.getD_eq_getElem?_getD, h2]; rfl
  have hl : u.pool.length ≤ 60 := (lim_of hC.lim).pool
  rw [← mvU_id]
  refine checkE_mv ⟨fun _ => Iff.rfl, h2, by omega, fun s hs => ?_, h3, fun r hr h0 => ⟨h0, ?_⟩, fun r hr h0 => ?_, fun r hr q hq h0 h0' e => ?_⟩ h1
  · obtain ⟨x, hx, rfl⟩ := List.mem_map.1 hs
    rw [path_ren hC.nm h2]
    exact of_decide_eq_true (List.all_eq_true.1 hC.ps x hx)
  · have := (all_in hC hr h0).1
    simp only [id]; omega
  · have := (all_in hC hr h0).1
    simp only [id]
    rw [hat _ (by omega), path_ren hC.nm h2]; rfl
  · have a := (all_in hC hr h0).1
    have b := (all_in hC hq h0').1
    simp only [id] at e
    have e1 := getD_at (l := renPool u name) (i := r.at'.toNat) (by omega)
    have e2 := getD_at (l := renPool u name) (i := q.at'.toNat) (by omega)
    rw [e] at e1
    have := dup_inj h3 e1 e2
    unfold nm; rw [this]
/-- there and back -/
theorem ren_back {u : Unt} {name : ByteArray} (h : renE u name = 0) (hf : freeU u name = true) : renE (renU u name) u.name = 0 ∧ renU (renU u name) u.name = u := by
  obtain ⟨h1, h2, h3⟩ := renE_zero h
  have hC := (ckU_iff u).1 h1
  have e0 : renU u name = { u with name := name, pool := renPool u name } := by unfold renU; rw [if_pos h]
  have hb : renPool (renU u name) u.name = u.pool := by
    rw [e0]
    unfold renPool
    simp only [List.map_map]
    conv => rhs; rw [← List.map_id u.pool]
    refine List.map_congr_left fun s hs => ?_
    simp only [Function.comp, id]
    refine ba_ext ?_
    unfold ren
    rw [toL_ofL, toL_ofL]
    by_cases hp : ∃ r, s.data.toList = u.name.data.toList ++ 46 :: r
    · obtain ⟨r, e⟩ := hp
      rw [e, renL_hit, renL_hit]
    · rw [renL_miss hp]
      refine renL_miss ?_
      rintro ⟨r, e⟩
      have := List.all_eq_true.1 hf s hs
      have hc := cutDot_name (r := r) (simple_nodot h2)
      rw [← e] at hc
      have hl : 1 < (partsB s).length := by
        rw [partsB_length, hc]
        cases hr : cutDot r with
        | nil => exact absurd hr (cutDot_ne r)
        | cons a b => simp
      have hh : (partsB s).head? = some name := by
        unfold partsB; rw [hc]; simp only [List.map_cons, List.head?_cons]
        exact congrArg some (ba_ext (toL_ofL _))
      rw [decide_eq_true hl, decide_eq_true hh] at this
      cases this
  have hn : (renU u name).name = name := by rw [e0]
  have hz : renE (renU u name) u.name = 0 := by
    unfold renE
    rw [hb, e0, if_pos (ren_check h), hC.nm]
    have hd := hC.db
    simp only [doubled, Bool.or_eq_false_iff] at hd
    rw [hd.1.1.1]; rfl
  refine ⟨hz, ?_⟩
  have e1 : renU (renU u name) u.name = { (renU u name) with name := u.name, pool := renPool (renU u name) u.name } := if_pos hz
  rw [e1, hb, e0]
theorem renU_size {u : Unt} {name : ByteArray} (h : renE u name = 0) : ∀ s ∈ renPool u name, s.size ≤ 38 := fun s hs => by
  obtain ⟨h1, h2, h3⟩ := renE_zero h
  have hC := (ckU_iff u).1 h1
  obtain ⟨x, hx, rfl⟩ := List.mem_map.1 hs
  have := path_ren (s := x) hC.nm h2
  have h4 := of_decide_eq_true (List.all_eq_true.1 hC.ps x hx)
  rcases Nat.lt_or_ge 38 (ren u.name name x).size with q | q
  · have := path_long q; omega
  · exact q
end Go.Proofs.YtopjmiklpnejmaaGreatDoor

/- What a unit defines, uses and needs, and texts in ascending order, each once. No program stands here. -/
namespace Go.Proofs.YtopjmiklpnejmaaGreatDoor
open Eng Go.RowKit
/-- in ascending order, each once: a list of the members of l -/
structure Asc (l out : List ByteArray) : Prop where
  lt : (out.map toL).Pairwise (· < ·)
  mem : ∀ x, x ∈ out ↔ x ∈ l
theorem lt_le {x y : List UInt8} (h : x < y) : x ≤ y := List.le_of_lt h
theorem strict_eq : ∀ {a b : List (List UInt8)}, a.Pairwise (· < ·) → b.Pairwise (· < ·) → (∀ x, x ∈ a ↔ x ∈ b) → a = b
  | [], [], _, _, _ => rfl
  | [], y :: b, _, _, h => absurd ((h y).2 (List.mem_cons_self ..)) (by simp)
  | x :: a, [], _, _, h => absurd ((h x).1 (List.mem_cons_self ..)) (by simp)
  | x :: a, y :: b, ha, hb, h => by
    rw [List.pairwise_cons] at ha hb
    have exy : x = y := by
      have h1 := (h x).1 (List.mem_cons_self ..)
      have h2 := (h y).2 (List.mem_cons_self ..)
      rcases List.mem_cons.1 h1 with e | h1
      · exact e
      rcases List.mem_cons.1 h2 with e | h2
      · exact e.symm
      exact absurd (List.lt_trans (ha.1 y h2) (hb.1 x h1)) (List.lt_irrefl x)
    subst exy
    rw [strict_eq ha.2 hb.2 fun z => ?_]
    constructor
    · intro hz
      rcases List.mem_cons.1 ((h z).1 (List.mem_cons_of_mem _ hz)) with e | q
      · subst e; exact absurd (ha.1 z hz) (List.lt_irrefl z)
      · exact q
    · intro hz
      rcases List.mem_cons.1 ((h z).2 (List.mem_cons_of_mem _ hz)) with e | q
      · subst e; exact absurd (hb.1 z hz) (List.lt_irrefl z)
      · exact q
theorem Asc.eq {l l' a b : List ByteArray} (ha : Asc l a) (hb : Asc l' b) (h : ∀ x, x ∈ l ↔ x ∈ l') : a = b := by
  have : a.map toL = b.map toL := strict_eq ha.lt hb.lt fun x => by
    simp only [List.mem_map]
    constructor
    · rintro ⟨s, hs, rfl⟩; exact ⟨s, (hb.mem s).2 ((h s).1 ((ha.mem s).1 hs)), rfl⟩
    · rintro ⟨s, hs, rfl⟩; exact ⟨s, (ha.mem s).2 ((h s).2 ((hb.mem s).1 hs)), rfl⟩
  exact (List.map_inj_right fun x y e => ba_ext e).1 this
theorem le_lt_of_ne {x y : List UInt8} (h : x ≤ y) (hne : x ≠ y) : x < y := by
  rcases Classical.em (x < y) with q | q
  · exact q
  · exact absurd (List.le_antisymm h (List.not_lt.1 q)) hne
theorem sorted_nodup {zs : List (List UInt8)} (h : zs.Pairwise (· ≤ ·)) (hn : zs.Nodup) : zs.Pairwise (· < ·) := by
  have := List.pairwise_and_iff.2 ⟨h, hn⟩
  exact this.imp fun q => le_lt_of_ne q.1 q.2
def srt (l : List ByteArray) : List (List UInt8) := (l.map toL).mergeSort fun x y => decide (x ≤ y)
theorem srt_mem {l : List ByteArray} {x : List UInt8} : x ∈ srt l ↔ x ∈ l.map toL := List.mem_mergeSort
theorem mem_ofL {L : List (List UInt8)} {l : List ByteArray} (h : ∀ x, x ∈ L ↔ x ∈ l.map toL) (x : ByteArray) : x ∈ L.map ofL ↔ x ∈ l := by
  simp only [List.mem_map, h]
  constructor
  · rintro ⟨_, ⟨s, hs, rfl⟩, rfl⟩; rw [ofL_toL]; exact hs
  · intro hx; exact ⟨toL x, ⟨x, hx, rfl⟩, ofL_toL x⟩
theorem map_toL_ofL (L : List (List UInt8)) : (L.map ofL).map toL = L := by
  rw [List.map_map]
  conv => rhs; rw [← List.map_id L]
  exact List.map_congr_left fun x _ => toL_ofL x
/-- sorted, without doubles at all -/
theorem srt_asc {l : List ByteArray} (h : dup l = false) : Asc l ((srt l).map ofL) := by
  refine ⟨?_, mem_ofL fun x => srt_mem⟩
  rw [map_toL_ofL]
  refine sorted_nodup (sorted_le _) ?_
  have h2 : (l.map toL).Nodup := by
    rcases Classical.em (l.map toL).Nodup with q | q
    · exact q
    · rw [(dup_nodup l).2 q] at h; cases h
  exact (List.Perm.nodup_iff (List.mergeSort_perm _ _)).2 h2
/-- neighbours that are alike, taken out -/
def uniq : List (List UInt8) → List (List UInt8)
  | [] => []
  | [x] => [x]
  | x :: y :: r => if x = y then uniq (y :: r) else x :: uniq (y :: r)
theorem uniq_mem : ∀ {l : List (List UInt8)} {x : List UInt8}, x ∈ uniq l ↔ x ∈ l
  | [], x => by simp [uniq]
  | [y], x => by simp [uniq]
  | y :: z :: r, x => by
    have ih := uniq_mem (l := z :: r) (x := x)
    simp only [uniq]
    split
    · rename_i e; subst e; rw [ih]; simp
    · rw [List.mem_cons, ih]; simp only [List.mem_cons]
theorem uniq_lt : ∀ {l : List (List UInt8)}, l.Pairwise (· ≤ ·) → (uniq l).Pairwise (· < ·)
  | [], _ => by simp [uniq]
  | [y], _ => by simp [uniq]
  | y :: z :: r, h => by
    rw [List.pairwise_cons] at h
    have ih := uniq_lt h.2
    simp only [uniq]
    split
    · exact ih
    · rename_i hne
      rw [List.pairwise_cons]
      refine ⟨fun x hx => ?_, ih⟩
      have hx2 := uniq_mem.1 hx
      have h2 := List.pairwise_cons.1 h.2
      have yz : y < z := le_lt_of_ne (h.1 z (List.mem_cons_self ..)) hne
      rcases List.mem_cons.1 hx2 with rfl | hx3
      · exact yz
      · rcases Classical.em (z = x) with rfl | hzx
        · exact yz
        · exact List.lt_trans yz (le_lt_of_ne (h2.1 x hx3) hzx)
def defL (u : Unt) : List ByteArray :=
  (u.classes.flatMap fun c => dots u.name (nm u c.name) :: c.fields.map fun f => dots (dots u.name (nm u c.name)) (nm u f.name)) ++ u.statics.map (fun s => dots u.name (nm u s.name)) ++ (u.methods.filter fun m => decide (m.cls = -1)).map fun m => dots u.name (nm u m.name)
theorem dots_assoc (a b c : ByteArray) : dots (dots a b) c = dots a (dots b c) := by
  apply ba_ext
  simp only [toL_dots, List.append_assoc, List.cons_append]
/-- is a place of the pool named -/
def mkd (u : Unt) (i : Nat) : Bool := (allRefs u).any fun r => decide (r.at' = (i : Int))
def pickM (u : Unt) (q : Nat → Bool) : List ByteArray := ((List.range u.pool.length).filter q).map fun i : Nat => nm u (i : Int)
def useL (u : Unt) : List ByteArray := pickM u fun i => mkd u i && decide (1 < path (nm u (i : Int)))
def useP (l : List Rf) (u : Unt) : List ByteArray := (l.filter fun r => decide (¬ r.parts = 1) && decide (0 ≤ r.at')).map fun r => nm u r.at'
theorem opU_key {i : Ins} (hv : validI i true = true) : opU i = if 0 < (operand i).2 then [⟨(operand i).1, (operand i).2, false⟩] else [] := by
  have h12 : i.op = 12 → i.a = 2 ∨ i.a = 3 ∨ i.a = 4 := fun h => by
    obtain ⟨op, a, b⟩ := i
    subst h
    simp [validI, inR, rngs, isPool] at hv
    simp only
    omega
  unfold opU operand named
  by_cases e1 : i.op = 17 ∨ i.op = 18
  · simp [e1]
  by_cases e2 : i.op = 14 ∨ i.op = 24 ∨ i.op = 22 ∨ i.op = 23 ∨ i.op = 25
  · simp [e1, e2]
  by_cases e3 : i.op = 16
  · simp [e3]
  by_cases e4 : i.op = 12
  · have := h12 e4
    by_cases e5 : i.a = 3
    · simp [e4, e5]
    · have e6 : i.a = 2 ∨ i.a = 4 := by omega
      simp [e4, e5, e6]
  by_cases e7 : i.op = 26
  · simp [e7]
  simp [e1, e2, e3, e4, e7]
theorem code_valid {u : Unt} (hC : CkU u) {m : Mth} (hm : m ∈ u.methods) {i : Ins} (hi : i ∈ m.code) : validI i true = true := by
  have h1 := mErr_zero hC.me m hm
  unfold codeE at h1
  split at h1
  · cases h1
  · split at h1
    · rename_i hv; exact List.all_eq_true.1 hv i hi
    · cases h1
/-- what both hand out is alike, where it is not -1 -/
theorem ways_any {u : Unt} (hC : CkU u) {p : Rf → Bool} (hp : ∀ r : Rf, r.at' = -1 → p r = false) (_ho : ∀ r s : Rf, r.at' = s.at' → r.parts = s.parts → p r = p s) : (waysU u).any p = (allRefs u).any p := by
  unfold waysU allRefs
  rw [List.any_append, List.any_append, heads_any (fun r h _ => hp r h) hC.cl]
  congr 1
  unfold opRefs
  rw [List.any_flatMap, List.any_flatMap]
  refine any_congr fun m hm => ?_
  rw [List.any_flatMap, List.any_flatMap]
  refine any_congr fun i hi => ?_
  rw [opU_key (code_valid hC hm hi)]
theorem useL_iff {u : Unt} (hC : CkU u) (x : ByteArray) : x ∈ useL u ↔ ∃ r ∈ allRefs u, ¬ r.parts = 1 ∧ 0 ≤ r.at' ∧ nm u r.at' = x := by
  have key : ∀ {p : Rf → Bool} {l : List Rf}, l.any p = true ↔ ∃ r ∈ l, p r = true := fun {p l} => List.any_eq_true
  simp only [useL, pickM, List.mem_map, List.mem_filter, List.mem_range, Bool.and_eq_true, decide_eq_true_eq, mkd, key]
  constructor
  · rintro ⟨i, ⟨h1, ⟨r, h2, h3⟩, h4⟩, h5⟩
    have h0 : 0 ≤ r.at' := by omega
    obtain ⟨q1, q2⟩ := all_in hC h2 h0
    rw [h3] at q2
    exact ⟨r, h2, by omega, h0, by rw [h3]; exact h5⟩
  · rintro ⟨r, h1, h2, h3, h4⟩
    obtain ⟨q1, q2⟩ := all_in hC h1 h3
    have hn : ((r.at'.toNat : Nat) : Int) = r.at' := Int.toNat_of_nonneg h3
    have hpos : 0 < path (nm u r.at') := by
      have hmem : nm u r.at' ∈ u.pool := by
        have := getD_at (l := u.pool) (i := r.at'.toNat) (by omega)
        exact List.mem_of_getElem? this
      have := of_decide_eq_true (List.all_eq_true.1 hC.ps _ hmem)
      omega
    refine ⟨r.at'.toNat, ⟨by omega, ⟨r, h1, hn.symm⟩, ?_⟩, by rw [hn]; exact h4⟩
    rw [hn]; omega
theorem use_mem {u : Unt} (hC : CkU u) (x : ByteArray) : x ∈ useP (waysU u) u ↔ x ∈ useL u := by
  have key : ∀ {p : Rf → Bool} {l : List Rf}, l.any p = true ↔ ∃ r ∈ l, p r = true := fun {p l} => List.any_eq_true
  have e := ways_any hC (p := fun r => decide (¬ r.parts = 1) && decide (0 ≤ r.at') && decide (nm u r.at' = x)) (fun r h => by rw [h]; simp) (fun r s h1 h2 => by simp only [h1, h2])
  have e1 : x ∈ useP (waysU u) u ↔ (waysU u).any (fun r => decide (¬ r.parts = 1) && decide (0 ≤ r.at') && decide (nm u r.at' = x)) = true := by
    rw [key]
    simp only [useP, List.mem_map, List.mem_filter, Bool.and_eq_true, decide_eq_true_eq]
    constructor
    · rintro ⟨r, ⟨h1, h2, h3⟩, h4⟩; exact ⟨r, h1, ⟨h2, h3⟩, h4⟩
    · rintro ⟨r, h1, ⟨h2, h3⟩, h4⟩; exact ⟨r, ⟨h1, h2, h3⟩, h4⟩
  rw [e1, e, key, useL_iff hC]
  simp only [Bool.and_eq_true, decide_eq_true_eq, and_assoc]
/-- the first part of a path -/
def fstP (s : ByteArray) : ByteArray := (partsB s).headD ⟨#[]⟩
def needP (u : Unt) (l : List ByteArray) : List ByteArray := (l.map fstP).filter fun s => !decide (s = u.name)
theorem need_mem {u : Unt} {l l' : List ByteArray} (h : ∀ x, x ∈ l ↔ x ∈ l') (x : ByteArray) : x ∈ needP u l ↔ x ∈ needP u l' := by
  simp only [needP, List.mem_filter, List.mem_map, h]
/-- names in a unit that passes Check have no point -/
theorem name_plain {u : Unt} (hC : CkU u) {i : Int} (h : (⟨i, 1, false⟩ : Rf) ∈ refs u) : (46 : UInt8) ∉ (nm u i).data.toList := path_one (name_in hC h).2.2
theorem dup_iff_nodup (l : List ByteArray) : dup l = false ↔ l.Nodup := by
  rw [← Bool.not_eq_true, dup_nodup, Classical.not_not]
  rw [List.nodup_iff_pairwise_ne, List.nodup_iff_pairwise_ne, List.pairwise_map]
  exact ⟨fun h => h.imp fun hne e => hne (by rw [e]), fun h => h.imp fun hne e => hne (ba_ext e)⟩
theorem def_nodup {u : Unt} (hC : CkU u) : dup (defL u) = false := by
  rw [dup_iff_nodup]
  have hdb := hC.db
  simp only [doubled, Bool.or_eq_false_iff] at hdb
  obtain ⟨⟨⟨_, d2⟩, d3⟩, _⟩ := hdb
  rw [dup_iff_nodup] at d3
  have plc : ∀ c ∈ u.classes, (46 : UInt8) ∉ (nm u c.name).data.toList := fun c hc => name_plain hC (List.mem_append_left _ (List.mem_append_left _ (List.mem_flatMap.2 ⟨c, hc, by simp [cref]⟩)))
  have plf : ∀ c ∈ u.classes, ∀ f ∈ c.fields, (46 : UInt8) ∉ (nm u f.name).data.toList := fun c hc f hf => name_plain hC (List.mem_append_left _ (List.mem_append_left _ (List.mem_flatMap.2 ⟨c, hc, List.mem_append_right _ (List.mem_flatMap.2 ⟨f, hf, by simp [fref]⟩)⟩)))
  have pls : ∀ f ∈ u.statics, (46 : UInt8) ∉ (nm u f.name).data.toList := fun f hf => name_plain hC (List.mem_append_left _ (List.mem_append_right _ (List.mem_flatMap.2 ⟨f, hf, by simp [fref]⟩)))
  have plm : ∀ m ∈ u.methods, (46 : UInt8) ∉ (nm u m.name).data.toList := fun m hm => name_plain hC (List.mem_append_right _ (List.mem_flatMap.2 ⟨m, hm, by simp [mref]⟩))
  let N : Cls → ByteArray := fun c => nm u c.name
  let F : Cls → List ByteArray := fun c => c.fields.map fun f => dots (N c) (nm u f.name)
  let B : List ByteArray := u.statics.map (fun s => nm u s.name) ++ (u.methods.filter fun m => decide (m.cls = -1)).map fun m => nm u m.name
  have eD : defL u = ((u.classes.flatMap fun c => N c :: F c) ++ B).map (dots u.name) := by
    simp only [defL, N, F, B, List.map_append, List.map_flatMap, List.map_cons, List.map_map, List.append_assoc]
    congr 1
    refine flatMap_congr' fun c _ => ?_
    congr 1
    exact List.map_congr_left fun f _ => dots_assoc _ _ _
  have hdot : ∀ a b : ByteArray, (46 : UInt8) ∈ (dots a b).data.toList := fun a b => by rw [toL_dots]; simp
  have hinj : ∀ a b : ByteArray, dots u.name a = dots u.name b → a = b := fun a b e => by
    have := congrArg (fun s : ByteArray => s.data.toList) e
    simp only [toL_dots] at this
    have := List.append_cancel_left this
    simp only [List.cons.injEq, true_and] at this
    exact ba_ext this
  rw [eD]
  have hH : (u.classes.map N ++ B).Nodup := by
    have : u.classes.map N ++ B = heads u := by simp only [heads, N, B, List.append_assoc]
    rw [this]; exact d3
  obtain ⟨hN, hB, hNB⟩ := List.nodup_append.1 hH
  have plB : ∀ b ∈ B, (46 : UInt8) ∉ b.data.toList := fun b hb => by
    simp only [B, List.mem_append, List.mem_map, List.mem_filter] at hb
    rcases hb with ⟨s, hs, rfl⟩ | ⟨m, hm, rfl⟩
    · exact pls s hs
    · exact plm m hm.1
  have hA : ((u.classes.flatMap fun c => N c :: F c) ++ B).Nodup := by
    refine List.nodup_append.2 ⟨?_, hB, ?_⟩
    · refine List.pairwise_flatMap.2 ⟨fun c hc => ?_, ?_⟩
      · refine List.pairwise_cons.2 ⟨fun x hx e => ?_, ?_⟩
        · obtain ⟨f, hf, rfl⟩ := List.mem_map.1 hx
          exact plc c hc (by rw [show nm u c.name = N c from rfl, e]; exact hdot _ _)
        · have hd : cdup u c = false := by
            rw [← Bool.not_eq_true]; intro e
            rw [← Bool.not_eq_true, List.any_eq_true] at d2
            exact d2 ⟨c, hc, e⟩
          have hn : (c.fields.map fun f => nm u f.name).Nodup := (dup_iff_nodup _).1 hd
          refine List.pairwise_map.2 ?_
          have := List.pairwise_map.1 hn
          refine List.Pairwise.imp_of_mem (fun {f g} hf hg hne e => hne ?_) this
          exact (dots_inj (plf c hc f hf) (plf c hc g hg) e).2
      · have := List.pairwise_map.1 hN
        refine List.Pairwise.imp_of_mem (fun {c d} hc hd hne x hx y hy e => ?_) this
        subst e
        rcases List.mem_cons.1 hx with rfl | hx
        · rcases List.mem_cons.1 hy with e | hy
          · exact hne e
          · obtain ⟨g, hg, e⟩ := List.mem_map.1 hy
            exact plc c hc (by rw [show nm u c.name = N c from rfl, ← e]; exact hdot _ _)
        · obtain ⟨f, hf, rfl⟩ := List.mem_map.1 hx
          rcases List.mem_cons.1 hy with e | hy
          · exact plc d hd (by rw [show nm u d.name = N d from rfl, ← e]; exact hdot _ _)
          · obtain ⟨g, hg, e⟩ := List.mem_map.1 hy
            exact hne (dots_inj (plf d hd g hg) (plf c hc f hf) e).1.symm
    · intro x hx y hy e
      subst e
      obtain ⟨c, hc, hx⟩ := List.mem_flatMap.1 hx
      rcases List.mem_cons.1 hx with rfl | hx
      · exact hNB _ (List.mem_map.2 ⟨c, hc, rfl⟩) _ hy rfl
      · obtain ⟨f, hf, rfl⟩ := List.mem_map.1 hx
        exact plB _ hy (hdot _ _)
  exact List.pairwise_map.2 (hA.imp fun hne e => hne (hinj _ _ e))
end Go.Proofs.YtopjmiklpnejmaaGreatDoor

/- Walks: a unit copied, in the document; whether a unit is too large to look at. -/
namespace Go.Proofs.YtopjmiklpnejmaaGreatDoor
open Eng Go.RowKit
theorem flatten_get {sz : Nat} : ∀ {xs : List (List Value)} (_ : ∀ c ∈ xs, c.length = sz) {i : Nat} {c : List Value}, xs[i]? = some c → ∀ j, j < sz → xs.flatten[i * sz + j]? = c[j]?
  | [], _, i, c, hx, _, _ => by simp at hx
  | y :: l, h, 0, c, hx, j, hj => by
    simp at hx; subst hx
    rw [List.flatten_cons, Nat.zero_mul, Nat.zero_add, List.getElem?_append_left (by rw [h _ (List.mem_cons_self ..)]; exact hj)]
  | y :: l, h, i + 1, c, hx, j, hj => by
    have hy := h y (List.mem_cons_self ..)
    have := flatten_get (xs := l) (fun c hc => h c (List.mem_cons_of_mem _ hc)) (i := i) (by simpa using hx) j hj
    rw [List.flatten_cons, List.getElem?_append_right (by rw [hy, Nat.succ_mul]; omega), hy, ← this]
    congr 1; rw [Nat.succ_mul]; omega
theorem flatten_len {sz : Nat} : ∀ {xs : List (List Value)} (_ : ∀ c ∈ xs, c.length = sz), xs.flatten.length = xs.length * sz
  | [], _ => by simp
  | y :: l, h => by
    have hy := h y (List.mem_cons_self ..)
    have := flatten_len (xs := l) fun c hc => h c (List.mem_cons_of_mem _ hc)
    simp only [List.flatten_cons, List.length_append, List.length_cons, hy, this, Nat.succ_mul]; omega
/-- a row of the call's own, whose elements lie in blocks that hold R and are not the row's -/
structure OwC {α : Type} (E : El α) (R : Nat → Prop) (w : World) (base e : Nat) (a : Option Addr) (cap : Nat) (l : List α) : Prop where
  row : ∃ xs : List (List Value), xs.length = l.length ∧ (∀ c ∈ xs, c.length = E.sz) ∧ Ow w base e E.sz a l.length cap xs.flatten ∧
    ∀ (i : Nat) (cs : List Value) (x : α), xs[i]? = some cs → l[i]? = some x → E.rel (fun b => R b ∧ a ≠ some ⟨b, 0, none⟩ ∧ b < w.heap.size) w cs x
theorem OwC.nil {α : Type} (E : El α) (R : Nat → Prop) (w : World) (base e : Nat) : OwC E R w base e none 0 ([] : List α) :=
  ⟨[], rfl, (fun _ h => by simp at h), Ow.nil .., (fun i cs x h => by simp at h)⟩
theorem OwC.bl {α : Type} {E : El α} {R : Nat → Prop} {w w' : World} {base e cap : Nat} {a : Option Addr} {l : List α} (h : OwC E R w base e a cap l) (k : Bl w w') : OwC E R w' base e a cap l := by
  obtain ⟨xs, h1, h2, h3, h4⟩ := h.row
  exact ⟨xs, h1, h2, h3.bl k, fun i cs x hi hl => E.sub (fun b hb => ⟨hb.1, hb.2.1, Nat.lt_of_lt_of_le hb.2.2 k.size⟩) (E.kp (k.kp _) (h4 i cs x hi hl))⟩
theorem OwC.wr {α : Type} {E : El α} {R : Nat → Prop} {w w' : World} {base e cap : Nat} {a : Option Addr} {l : List α} (h : OwC E R w base e a cap l) {b : Nat} (k : Wr w b w') (hb : b < base) (hR : ∀ i, R i → i ≠ b) : OwC E R w' base e a cap l := by
  obtain ⟨xs, h1, h2, h3, h4⟩ := h.row
  exact ⟨xs, h1, h2, h3.wr k fun g hg => by have := (h3.lt hg).1; omega, fun i cs x hi hl => E.sub (fun b hb => ⟨hb.1, hb.2.1, by rw [k.size]; exact hb.2.2⟩) (E.kp (k.kp fun i hi => hR i hi.1) (h4 i cs x hi hl))⟩
theorem OwC.ow {α : Type} {E : El α} {R : Nat → Prop} {w : World} {base e cap : Nat} {a : Option Addr} {l : List α} (h : OwC E R w base e a cap l) : ∃ xs, Ow w base e E.sz a l.length cap xs := by
  obtain ⟨xs, h1, h2, h3, h4⟩ := h.row
  exact ⟨_, h3⟩
theorem OwC.lt {α : Type} {E : El α} {R : Nat → Prop} {w : World} {base e cap : Nat} {a : Option Addr} {l : List α} (h : OwC E R w base e a cap l) {g : Nat} (hg : a = some ⟨g, 0, none⟩) : base ≤ g ∧ g < w.heap.size := by
  obtain ⟨xs, h3⟩ := h.ow
  exact h3.lt hg
theorem OwC.push {α : Type} {E : El α} {R : Nat → Prop} {w w' : World} {base e cap' : Nat} {a a' : Option Addr} {l : List α} {x : α} {cs : List Value} {xs : List (List Value)} (h1 : xs.length = l.length) (h2 : ∀ c ∈ xs, c.length = E.sz)
    (h4 : ∀ (i : Nat) (cs : List Value) (x : α), xs[i]? = some cs → l[i]? = some x → E.rel (fun b => R b ∧ a ≠ some ⟨b, 0, none⟩ ∧ b < w.heap.size) w cs x)
    (hO : Ow w' base e E.sz a' (l.length + 1) cap' (xs.flatten ++ cs)) (hA : Ap w a w') (hf : ∀ g, a' = some ⟨g, 0, none⟩ → a = some ⟨g, 0, none⟩ ∨ w.heap.size ≤ g)
    (hr : E.rel (fun b => R b ∧ a ≠ some ⟨b, 0, none⟩ ∧ b < w.heap.size) w cs x) : OwC E R w' base e a' cap' (l ++ [x]) := by
  have hsub : ∀ b, (R b ∧ a ≠ some ⟨b, 0, none⟩ ∧ b < w.heap.size) → (R b ∧ a' ≠ some ⟨b, 0, none⟩ ∧ b < w'.heap.size) := fun b ⟨q1, q2, q3⟩ => by
    refine ⟨q1, fun e => ?_, Nat.lt_of_lt_of_le q3 hA.size⟩
    rcases hf b e with h | h
    · exact q2 h
    · omega
  have hkp : Kp (fun b => R b ∧ a ≠ some ⟨b, 0, none⟩ ∧ b < w.heap.size) w w' := hA.kp.sub fun i hi => hi.2.1
  refine ⟨xs ++ [cs], by simp [h1], fun c hc => ?_, by rw [List.length_append, List.flatten_append]; simpa using hO, fun i c y hi hl => ?_⟩
  · rcases List.mem_append.1 hc with hc | hc
    · exact h2 c hc
    · rw [List.mem_singleton.1 hc]; exact E.len hr
  · rcases Nat.lt_or_ge i l.length with hlt | hge
    · rw [List.getElem?_append_left (by omega)] at hi
      rw [List.getElem?_append_left hlt] at hl
      exact E.sub hsub (E.kp hkp (h4 i c y hi hl))
    · rw [List.getElem?_append_right (by omega), h1] at hi
      rw [List.getElem?_append_right hge] at hl
      rcases Nat.eq_zero_or_pos (i - l.length) with h0 | h0
      · rw [h0] at hi hl
        simp at hi hl
        subst hi hl
        exact E.sub hsub (E.kp hkp hr)
      · rw [List.getElem?_eq_none (by simp; omega)] at hi
        cases hi
theorem OwC.sl2 {α : Type} {E : El α} {w : World} {base e cap : Nat} {a : Option Addr} {l : List α} (h : OwC E (fun b => base ≤ b) w base e a cap l) (hl : l.length ≤ 4194304) : Sl E (fun b => base ≤ b ∧ b < w.heap.size) w a l := by
  obtain ⟨xs, h1, h2, h3, h4⟩ := h.row
  refine ⟨hl, fun i x hx => ?_⟩
  have hi : i < l.length := (List.getElem?_eq_some_iff.1 hx).1
  obtain ⟨cs, hc⟩ := some_of_lt (l := xs) (k := i) (by omega)
  have hcl := h2 cs (List.mem_of_getElem? hc)
  rcases h3.shape with ⟨_, h0, _⟩ | ⟨g, cur, rfl, _⟩
  · omega
  · refine ⟨g, 0, cs, rfl, h3.lt rfl, fun j v hj => ?_, E.sub (fun b hb => ⟨hb.1, hb.2.2⟩) (h4 i cs x hc hx)⟩
    have hj' : j < E.sz := by rw [← hcl]; exact (List.getElem?_eq_some_iff.1 hj).1
    have := h3.at rfl (i * E.sz + j) v (by rw [flatten_get h2 hc j hj']; exact hj)
    rw [Nat.zero_add] at this
    rw [Nat.zero_add]; exact this
theorem Bl.trans_wr {w w' w'' : World} {b : Nat} (h : Bl w w') (k : Wr w' b w'') (hb : w.heap.size ≤ b) : Bl w w'' := Below.trans h (k.below hb)
/-- the law looks at units of some size only -/
theorem l_heavy (u : Unt) (a : UA) (w : World) (hU : UnR T w u a) : Ret Tryz.prog 19 #[.agg (ucells u a).toArray] w fun v w' => ∃ b, v = .bool b ∧ Bl w w' := by
  refine entr (vs := [.agg (ucells u a).toArray]) [0, 1, 2, 3, 4, 5, 22, 27, 43] tabok Tryz.func19 (by kernel_rfl) ?_
  have hbc := hU.cls.big
  have hbm := hU.mth.big
  refine bx (cs := ucells u a) fun b w1 hn => ?_
  refine ld (hn.box.cell rfl) ?_
  refine ld (hn.box.cell rfl) ?_
  refine ld (hn.box.cell rfl) ?_
  refine ld (hn.box.cell rfl) ?_
  refine br (fun h => ?_) (fun h => ?_)
  · exact rt1 ⟨true, rfl, hn.bl⟩
  refine lpk u.classes.length 4 [3] [(1, .pointer (some ⟨b, 0, none⟩))] (fun k vals w' => ∃ n, vals = [I n] ∧ w1 = w') ⟨_, rfl, rfl⟩ ?_
  rintro k vals _ hk ⟨n, rfl, rfl⟩ ih
  refine ld (hn.box.cell rfl) ?_
  by_cases hlt : k < u.classes.length
  · refine brT ?_
    obtain ⟨c, b2, o2, cs, hc, e2, _, hAt, ac, cap, rfl, hf⟩ := at_some (hU.bl hn.bl).cls hlt
    refine ld (hn.box.cell rfl) ?_
    rw [e2]
    refine ix ?_
    refine ld (hAt 2 _ rfl) ?_
    exact ih hlt ⟨_, rfl, rfl⟩
  refine brF ?_
  clear ih
  refine lpk u.methods.length 5 [3] [(1, .pointer (some ⟨b, 0, none⟩))] (fun k vals w' => ∃ n, vals = [I n] ∧ Bl w1 w') ⟨_, rfl, Bl.refl _⟩ ?_
  rintro k vals w2 hk ⟨n, rfl, hB⟩ ih
  have hx := Bl.box hB hn.box
  refine ld (hx.cell rfl) ?_
  by_cases hlt : k < u.methods.length
  · refine brT ?_
    obtain ⟨m, b2, o2, cs, hm, e2, _, hAt, a1, c1, a2, c2, a3, c3, rfl, h1, h2, h3⟩ := at_some (hU.bl (hn.bl.trans hB)).mth hlt
    refine dh T (List.range 26) fun w8 h8 => ?_
    have hx9 := h8.box hx
    have hAt8 := hAt.bl h8.bl
    refine ld (hx9.cell rfl) ?_ (hm := trivial)
    rw [e2]
    refine ix ?_
    refine ld (hAt8 6 _ rfl) ?_ (hm := trivial)
    refine ld (hx9.cell rfl) ?_ (hm := trivial)
    rw [e2]
    refine ix ?_
    refine ld (hAt8 2 _ rfl) ?_ (hm := trivial)
    refine ld (hx9.cell rfl) ?_ (hm := trivial)
    rw [e2]
    refine ix ?_
    refine ld (hAt8 3 _ rfl) ?_ (hm := trivial)
    exact ih hlt ⟨_, rfl, hB.trans h8.bl⟩
  refine brF ?_
  exact rt1 ⟨_, rfl, hn.bl.trans hB⟩
/-- since wQ: nothing but block b3 and newer ones has turned -/
structure CpS (w wQ : World) (b3 : Nat) (w' : World) : Prop where
  h0 : w.heap.size ≤ wQ.heap.size
  h3 : w.heap.size ≤ b3
  below : Below w.heap.size w w'
  sz : wQ.heap.size ≤ w'.heap.size
  blk : ∀ b, b < wQ.heap.size → b ≠ b3 → w'.heap[b]? = wQ.heap[b]?
theorem CpS.refl {w wQ : World} {b3 : Nat} (h : Bl w wQ) (h3 : w.heap.size ≤ b3) : CpS w wQ b3 wQ := ⟨h.size, h3, h, Nat.le_refl _, fun _ _ _ => rfl⟩
theorem CpS.bl {w wQ w' w'' : World} {b3 : Nat} (h : CpS w wQ b3 w') (k : Bl w' w'') : CpS w wQ b3 w'' :=
  ⟨h.h0, h.h3, h.below.trans (k.mono (Nat.le_trans h.h0 h.sz)), Nat.le_trans h.sz k.size, fun b hb hn => (k.block b (Nat.lt_of_lt_of_le hb h.sz)).trans (h.blk b hb hn)⟩
theorem CpS.wr {w wQ w' w'' : World} {b3 b : Nat} (h : CpS w wQ b3 w') (k : Wr w' b w'') (hb : b = b3 ∨ wQ.heap.size ≤ b) : CpS w wQ b3 w'' :=
  ⟨h.h0, h.h3, h.below.trans (k.below (by have := h.h0; have := h.h3; omega)), by rw [k.size]; exact h.sz, fun i hi hn => (k.block i (by omega)).trans (h.blk i hi hn)⟩
theorem CpS.ap {w wQ w' w'' : World} {b3 : Nat} {a : Option Addr} (h : CpS w wQ b3 w') (k : Ap w' a w'') (ha : ∀ g, a = some ⟨g, 0, none⟩ → wQ.heap.size ≤ g) : CpS w wQ b3 w'' :=
  ⟨h.h0, h.h3, h.below.trans (k.below (Nat.le_trans h.h0 h.sz) fun g hg => Nat.le_trans h.h0 (ha g hg)), Nat.le_trans h.sz k.size, fun i hi hn => (k.block i (Nat.lt_of_lt_of_le hi h.sz) fun e => by have := ha i e; omega).trans (h.blk i hi hn)⟩
theorem CpS.box {w wQ w' : World} {b3 : Nat} (h : CpS w wQ b3 w') {b : Nat} {t : TypeId} {cs : List Value} (hb : Box wQ b t cs) (hn : b ≠ b3) : Box w' b t cs := by unfold Box; rw [h.blk b hb.lt hn]; exact hb
theorem CpS.kp {w wQ w' : World} {b3 : Nat} (h : CpS w wQ b3 w') : Kp (fun b => b < wQ.heap.size ∧ b ≠ b3) wQ w' := fun b o v s x => by rw [World.cell?_of_block (w := wQ) (h.blk b s.1 s.2)]; exact x
theorem nn {g : Nat} : (none : Option Addr) ≠ some ⟨g, 0, none⟩ := fun h => by cases h
theorem r_Copy (u : Unt) (a : UA) (w : World) (hU : UnR T w u a) : Ret Tryz.prog 20 #[.agg (ucells u a).toArray] w fun v w' => ∃ a', v = .agg (ucells u a').toArray ∧ UnR (fun b => w.heap.size ≤ b) w' u a' ∧ Bl w w' := by
  have hU0 := hU.lt
  have hp1 := hU.pool.big
  have hp2 := hU.cls.big
  have hp3 := hU.sta.big
  have hp4 := hU.mth.big
  refine entr (vs := [.agg (ucells u a).toArray]) [0, 1, 2, 3, 4, 5, 6, 7, 27, 49] tabok Tryz.func20 (by kernel_rfl) ?_
  refine bx (cs := ucells u a) fun b1 w1 h1 => ?_
  refine al fun b2 w2 h2 => ?_
  have hx12 := Bl.box h2.bl h1.box
  refine ld (hx12.cell rfl) ?_
  refine bd ?_
  refine al fun b3 w3 h3 => ?_
  refine sta h3.box fun w4 k4 hx4 => ?_
  have B24 : Bl w2 w4 := h3.wr k4
  have B04 : Bl w w4 := (h1.bl.trans h2.bl).trans B24
  have z1 := h1.size
  have z2 := h2.size
  have z3 := h3.size
  have z4 := k4.size
  have y1 := h1.blk
  have y2 := h2.blk
  have y3 := h3.blk
  have hx14 := Bl.box B24 hx12
  have hx24 := Bl.box B24 h2.box
  refine ld (hx4.cell rfl) ?_
  refine ld (hx14.cell rfl) ?_
  refine apl (enc := encStr) (base := w4.heap.size) (l0 := []) (l1 := u.pool) (Ow.nil ..) (src_of (hU.bl B04).pool) (Nat.le_refl _) (fun a5 cap5 w5 hO5 hA5 hf5 => ?_)
  have B45 : Bl w4 w5 := hA5.below (Nat.le_refl _) fun g hg => absurd hg nn
  refine st (Bl.box B45 hx4) fun w6 k6 hx6 => ?_
  refine ld (hx6.cell rfl) ?_
  have S6 : CpS w w4 b3 w6 := ((CpS.refl B04 (by omega)).bl B45).wr k6 (.inl rfl)
  refine ld ((S6.box hx14 (by omega)).cell rfl) ?_
  refine apl (enc := encFld) (base := w6.heap.size) (l0 := []) (l1 := u.statics) (Ow.nil ..) (src_of (hU0.below S6.below).sta) (Nat.le_refl _) (fun a7 cap7 w7 hO7 hA7 hf7 => ?_)
  have B67 : Bl w6 w7 := hA7.below (Nat.le_refl _) fun g hg => absurd hg nn
  refine st (Bl.box B67 hx6) fun w8 k8 hx8 => ?_
  have S8 : CpS w w4 b3 w8 := (S6.bl B67).wr k8 (.inl rfl)
  have z5 := B45.size
  have z6 := k6.size
  have z7 := B67.size
  have z8 := k8.size
  have hpool : Sl eStr (fun b => w4.heap.size ≤ b ∧ b < w8.heap.size) w8 a5 u.pool := by
    have q : Sl eStr (fun b => w4.heap.size ≤ b ∧ b < w8.heap.size) w5 a5 u.pool := owp_sl (enc := encStr) hO5 hp1 fun g hg => by have := hO5.lt hg; omega
    exact ((q.kp (k6.kp fun i hi => by omega)).bl B67).kp (k8.kp fun i hi => by omega)
  have hsta : Sl eFld (fun b => w4.heap.size ≤ b ∧ b < w8.heap.size) w8 a7 u.statics := by
    have q : Sl eFld (fun b => w4.heap.size ≤ b ∧ b < w8.heap.size) w7 a7 u.statics := owp_sl (enc := encFld) hO7 hp3 fun g hg => by have := hO7.lt hg; omega
    exact q.kp (k8.kp fun i hi => by omega)
  have R8 : CpS w w8 b3 w8 := ⟨by omega, by omega, S8.below, Nat.le_refl _, fun _ _ _ => rfl⟩
  have hx18 := S8.box hx14 (by omega)
  have hx28 := S8.box hx24 (by omega)
  refine lpk u.classes.length 4 [] [(1, .pointer (some ⟨b1, 0, none⟩)), (2, .pointer (some ⟨b2, 0, none⟩)), (3, .pointer (some ⟨b3, 0, none⟩))] (fun k vals w' => vals = [] ∧ CpS w w8 b3 w' ∧ ∃ ac cc, OwC eCls (fun b => w8.heap.size ≤ b) w' w8.heap.size 58 ac cc (u.classes.take k) ∧
    Box w' b3 30 [.string u.name, .slice a5 u.pool.length cap5, .slice ac (u.classes.take k).length cc, .slice a7 u.statics.length cap7, .slice none 0 0]) ⟨rfl, R8, none, 0, OwC.nil .., hx8⟩ ?_
  rintro k vals w9 hk ⟨rfl, S9, ac, cc, hO9, hx9⟩ ih
  have hx19 := S9.box hx18 (by omega)
  have z9 := S9.sz
  refine ld (hx19.cell rfl) ?_
  by_cases hlt : k < u.classes.length
  · refine brT ?_
    obtain ⟨c, bs2, o2, cs, hc, e2, _, hAt, af, cf, rfl, hf⟩ := at_some (hU0.below S9.below).cls hlt
    refine ld (hx19.cell rfl) ?_
    rw [e2]
    refine ix ?_
    refine lda hAt ?_
    refine al fun b5 w10 h10 => ?_
    refine sta h10.box fun w11 k11 hx11 => ?_
    have B911 : Bl w9 w11 := h10.wr k11
    have z10 := h10.size
    have z11 := k11.size
    have y10 := h10.blk
    have hfb := hf.big
    refine ld (hx11.cell rfl) ?_
    refine apl (enc := encFld) (base := w11.heap.size) (l0 := []) (l1 := c.fields) (Ow.nil ..) (src_of (hf.bl B911)) (Nat.le_refl _) (fun a12 cap12 w12 hO12 hA12 hf12 => ?_)
    have B1112 : Bl w11 w12 := hA12.below (Nat.le_refl _) fun g hg => absurd hg nn
    refine st (Bl.box B1112 hx11) fun w13 k13 hx13 => ?_
    have z12 := B1112.size
    have z13 := k13.size
    have B1013 : Bl w9 w13 := (B911.trans B1112).trans_wr k13 (by omega)
    refine ld ((Bl.box B1013 hx9).cell rfl) ?_
    refine lda hx13.at ?_
    refine bs fun b14 w14 h14 => ?_
    have z14 := h14.size
    have B914 : Bl w9 w14 := B1013.trans h14.bl
    obtain ⟨xs, e1, e3, hOx, e4⟩ := (hO9.bl B914).row
    have hl9 : (u.classes.take k).length ≤ 4194304 := by rw [List.length_take]; omega
    refine ap hOx (.inr ⟨b14, 0, rfl, h14.box.at⟩) (by omega) (fun a15 cap15 w15 hO15 hA15 hf15 => ?_)
    have hrel : eCls.rel (fun b => w8.heap.size ≤ b ∧ ac ≠ some ⟨b, 0, none⟩ ∧ b < w14.heap.size) w14 [I c.name, I c.super, .slice a12 c.fields.length cap12] c := by
      refine ⟨a12, cap12, rfl, ?_⟩
      have q : Sl eFld (fun b => w8.heap.size ≤ b ∧ ac ≠ some ⟨b, 0, none⟩ ∧ b < w14.heap.size ∧ b ≠ b5) w12 a12 c.fields := owp_sl (enc := encFld) hO12 hfb fun g hg => by
        have q1 := hO12.lt hg
        exact ⟨by omega, fun e => by have := (hO9.lt e).2; omega, by omega, by omega⟩
      exact ((q.kp (k13.kp fun i hi => hi.2.2.2)).bl h14.bl).sub fun i hi => ⟨hi.1, hi.2.1, hi.2.2.1⟩
    have hO15' := OwC.push e1 e3 e4 hO15 hA15 hf15 hrel
    have S15 := (S9.bl B914).ap hA15 fun g hg => (hO9.lt hg).1
    refine st (hA15.box (Bl.box B914 hx9) fun e => by have := (hO9.lt e).1; have := hx8.lt; omega) fun w16 k16 hx16 => ?_
    have e5 : (u.classes.take k).length + 1 = (u.classes.take (k + 1)).length := by rw [take_succ_some hc]; simp
    rw [← take_succ_some hc] at hO15'
    refine ih hlt ⟨rfl, S15.wr k16 (.inl rfl), a15, cap15, hO15'.wr k16 (by have := hx8.lt; omega) (fun i hi => by have := hx8.lt; omega), ?_⟩
    rw [← e5]; exact hx16
  refine brF ?_
  obtain rfl : k = u.classes.length := by omega
  clear ih
  rw [List.take_length] at hO9 hx9
  have hb3 := hx8.lt
  have hcls : Sl eCls (fun b => w8.heap.size ≤ b ∧ b < w9.heap.size) w9 ac u.classes := by
    exact OwC.sl2 hO9 hp2
  have R9 : CpS w w9 b3 w9 := ⟨by omega, by omega, S9.below, Nat.le_refl _, fun _ _ _ => rfl⟩
  have hx29 := S9.box hx28 (by omega)
  have hpool9 := hpool.kp (S9.kp.sub fun i hi => ⟨hi.2, by omega⟩)
  have hsta9 := hsta.kp (S9.kp.sub fun i hi => ⟨hi.2, by omega⟩)
  refine lpk u.methods.length 6 [] [(1, .pointer (some ⟨b1, 0, none⟩)), (2, .pointer (some ⟨b2, 0, none⟩)), (3, .pointer (some ⟨b3, 0, none⟩))] (fun k vals w' => vals = [] ∧ CpS w w9 b3 w' ∧ ∃ am cm, OwC eMth (fun b => w9.heap.size ≤ b) w' w9.heap.size 64 am cm (u.methods.take k) ∧
    Box w' b3 30 [.string u.name, .slice a5 u.pool.length cap5, .slice ac u.classes.length cc, .slice a7 u.statics.length cap7, .slice am (u.methods.take k).length cm]) ⟨rfl, R9, none, 0, OwC.nil .., hx9⟩ ?_
  rintro k vals wA hk ⟨rfl, SA, am, cm, hOA, hxA⟩ ih
  have hx1A := SA.box hx19 (by omega)
  have zA := SA.sz
  refine ld (hx1A.cell rfl) ?_
  by_cases hlt : k < u.methods.length
  · refine brT ?_
    obtain ⟨m, bs2, o2, cs, hm, e2, _, hAt, q1, s1, q2, s2, q3, s3, rfl, f1, f2, f3⟩ := at_some (hU0.below SA.below).mth hlt
    have g1 := f1.big
    have g2 := f2.big
    have g3 := f3.big
    refine ld (hx1A.cell rfl) ?_
    rw [e2]
    refine ix ?_
    refine lda hAt ?_
    refine al fun b5 w10 h10 => ?_
    refine sta h10.box fun w11 k11 hx11 => ?_
    have BA11 : Bl wA w11 := h10.wr k11
    have z10 := h10.size
    have z11 := k11.size
    have y10 := h10.blk
    refine ld (hx11.cell rfl) ?_
    refine apl (enc := encTy) (base := w11.heap.size) (l0 := []) (l1 := m.params) (Ow.nil ..) (src_of (f1.bl BA11)) (Nat.le_refl _) (fun a12 cap12 w12 hO12 hA12 hf12 => ?_)
    have B1112 : Bl w11 w12 := hA12.below (Nat.le_refl _) fun g hg => absurd hg nn
    refine st (Bl.box B1112 hx11) fun w13 k13 hx13 => ?_
    have z12 := B1112.size
    have z13 := k13.size
    have BA13 : Bl wA w13 := (BA11.trans B1112).trans_wr k13 (by omega)
    refine ld (hx13.cell rfl) ?_
    refine apl (enc := encTy) (base := w13.heap.size) (l0 := []) (l1 := m.locals) (Ow.nil ..) (src_of (f2.bl BA13)) (Nat.le_refl _) (fun a14 cap14 w14 hO14 hA14 hf14 => ?_)
    have B1314 : Bl w13 w14 := hA14.below (Nat.le_refl _) fun g hg => absurd hg nn
    refine st (Bl.box B1314 hx13) fun w15 k15 hx15 => ?_
    have z14 := B1314.size
    have z15 := k15.size
    have BA15 : Bl wA w15 := (BA13.trans B1314).trans_wr k15 (by omega)
    refine ld (hx15.cell rfl) ?_
    refine apl (enc := encIns) (base := w15.heap.size) (l0 := []) (l1 := m.code) (Ow.nil ..) (src_of (f3.bl BA15)) (Nat.le_refl _) (fun a16 cap16 w16 hO16 hA16 hf16 => ?_)
    have B1516 : Bl w15 w16 := hA16.below (Nat.le_refl _) fun g hg => absurd hg nn
    refine st (Bl.box B1516 hx15) fun w17 k17 hx17 => ?_
    have z16 := B1516.size
    have z17 := k17.size
    have BA17 : Bl wA w17 := (BA15.trans B1516).trans_wr k17 (by omega)
    refine ld ((Bl.box BA17 hxA).cell rfl) ?_
    refine lda hx17.at ?_
    refine bs fun b18 w18 h18 => ?_
    have z18 := h18.size
    have BA18 : Bl wA w18 := BA17.trans h18.bl
    obtain ⟨xs, e1, e3, hOx, e4⟩ := (hOA.bl BA18).row
    have hl9 : (u.methods.take k).length ≤ 4194304 := by rw [List.length_take]; omega
    refine ap hOx (.inr ⟨b18, 0, rfl, h18.box.at⟩) (by omega) (fun a19 cap19 w19 hO19 hA19 hf19 => ?_)
    have hrel : eMth.rel (fun b => w9.heap.size ≤ b ∧ am ≠ some ⟨b, 0, none⟩ ∧ b < w18.heap.size) w18 (mcells m a12 cap12 a14 cap14 a16 cap16) m := by
      have p1 : Sl eTy (fun b => w9.heap.size ≤ b ∧ am ≠ some ⟨b, 0, none⟩ ∧ b < w18.heap.size ∧ b ≠ b5) w12 a12 m.params := owp_sl (enc := encTy) hO12 g1 fun g hg => by
        have q1 := hO12.lt hg
        exact ⟨by omega, fun e => by have := (hOA.lt e).2; omega, by omega, by omega⟩
      have p2 : Sl eTy (fun b => w9.heap.size ≤ b ∧ am ≠ some ⟨b, 0, none⟩ ∧ b < w18.heap.size ∧ b ≠ b5) w14 a14 m.locals := owp_sl (enc := encTy) hO14 g2 fun g hg => by
        have q1 := hO14.lt hg
        exact ⟨by omega, fun e => by have := (hOA.lt e).2; omega, by omega, by omega⟩
      have p3 : Sl eIns (fun b => w9.heap.size ≤ b ∧ am ≠ some ⟨b, 0, none⟩ ∧ b < w18.heap.size ∧ b ≠ b5) w16 a16 m.code := owp_sl (enc := encIns) hO16 g3 fun g hg => by
        have q1 := hO16.lt hg
        exact ⟨by omega, fun e => by have := (hOA.lt e).2; omega, by omega, by omega⟩
      refine ⟨a12, cap12, a14, cap14, a16, cap16, rfl, ?_, ?_, ?_⟩
      · exact ((((((p1.kp (k13.kp fun i hi => hi.2.2.2)).bl B1314).kp (k15.kp fun i hi => hi.2.2.2)).bl B1516).kp (k17.kp fun i hi => hi.2.2.2)).bl h18.bl).sub fun i hi => ⟨hi.1, hi.2.1, hi.2.2.1⟩
      · exact ((((p2.kp (k15.kp fun i hi => hi.2.2.2)).bl B1516).kp (k17.kp fun i hi => hi.2.2.2)).bl h18.bl).sub fun i hi => ⟨hi.1, hi.2.1, hi.2.2.1⟩
      · exact ((p3.kp (k17.kp fun i hi => hi.2.2.2)).bl h18.bl).sub fun i hi => ⟨hi.1, hi.2.1, hi.2.2.1⟩
    have hO19' := OwC.push e1 e3 e4 hO19 hA19 hf19 hrel
    have S19 := (SA.bl BA18).ap hA19 fun g hg => (hOA.lt hg).1
    refine st (hA19.box (Bl.box BA18 hxA) fun e => by have := (hOA.lt e).1; omega) fun w20 k20 hx20 => ?_
    have e5 : (u.methods.take k).length + 1 = (u.methods.take (k + 1)).length := by rw [take_succ_some hm]; simp
    rw [← take_succ_some hm] at hO19'
    refine ih hlt ⟨rfl, S19.wr k20 (.inl rfl), a19, cap19, hO19'.wr k20 (by omega) (fun i hi => by omega), ?_⟩
    rw [← e5]; exact hx20
  refine brF ?_
  obtain rfl : k = u.methods.length := by omega
  rw [List.take_length] at hOA hxA
  refine lda hxA.at ?_
  refine sta (SA.box hx29 (by omega)) fun wB kB hxB => ?_
  refine rtc hxB.at ⟨⟨a5, cap5, ac, cc, a7, cap7, am, cm⟩, rfl, ⟨hU.nm, hU.ps, ?_, ?_, ?_, ?_⟩, SA.below.trans (kB.below (by omega))⟩
  · exact ((hpool9.kp (SA.kp.sub fun i hi => ⟨by omega, by omega⟩)).kp (kB.kp fun i hi => by omega)).sub fun i hi => by omega
  · exact ((hcls.kp (SA.kp.sub fun i hi => ⟨by omega, by omega⟩)).kp (kB.kp fun i hi => by omega)).sub fun i hi => by omega
  · exact ((hsta9.kp (SA.kp.sub fun i hi => ⟨by omega, by omega⟩)).kp (kB.kp fun i hi => by omega)).sub fun i hi => by omega
  · exact ((OwC.sl2 hOA hp4).kp (kB.kp fun i hi => by omega)).sub fun i hi => by omega
end Go.Proofs.YtopjmiklpnejmaaGreatDoor

/- Walks: the document's comparison of units. -/
namespace Go.Proofs.YtopjmiklpnejmaaGreatDoor
open Eng Go.RowKit
theorem part_cell {P : Program} {w : World} {t : TypeId} {tk : TK} {sz : Nat} {zr : List Value} {xs : Array Value} {off : Nat} {v : Value} (h : tiOk P t ⟨tk, sz, false, zr⟩ = true) (hv : xs[off]? = some v) : (part t xs off).run P w = .ok v w := by
  unfold part
  rw [run_bind_ok (ti_agg h w).1]
  simp only [hv]; rfl
theorem part_agg {P : Program} {w : World} {t : TypeId} {tk : TK} {sz : Nat} {zr : List Value} {xs : Array Value} {off : Nat} (h : tiOk P t ⟨tk, sz, true, zr⟩ = true) : (part t xs off).run P w = .ok (.agg (xs.extract off (off + sz))) w := by
  unfold part
  rw [run_bind_ok (ti_agg h w).1]
  simp only [if_true]
  rw [run_bind_ok (ti_agg h w).2]; rfl
/-- fields of these types at these places -/
def shp : List Field → List (Nat × Nat) → Bool
  | [], [] => true
  | f :: fs, (t, o) :: ts => decide (f.name ≠ "_") && decide (f.type = t) && decide (f.offset = o) && shp fs ts
  | _, _ => false
theorem eqf_gen {P : Program} {w : World} {d : Nat} {t o : Nat} {ts : List (Nat × Nat)} {fs : List Field} {xs ys : Array Value} {vx vy : Value} {r : Bool} (h : shp fs ((t, o) :: ts) = true)
    (hx : (part t xs o).run P w = .ok vx w) (hy : (part t ys o).run P w = .ok vy w) (he : (Op.equalIn d t vx vy).run P w = .ok r w) : ∃ fs', shp fs' ts = true ∧ (Op.eqFields d xs ys fs).run P w = if r = true then (Op.eqFields d xs ys fs').run P w else .ok false w := by
  cases fs with
  | nil => simp [shp] at h
  | cons f fs =>
    simp only [shp, Bool.and_eq_true, decide_eq_true_eq] at h
    obtain ⟨⟨⟨h1, rfl⟩, rfl⟩, h4⟩ := h
    refine ⟨fs, h4, ?_⟩
    rw [Op.eqFields, if_pos h1, run_bind_ok hx, run_bind_ok hy, run_bind_ok he]
    cases r <;> rfl
theorem eqf_nil {P : Program} {w : World} {d : Nat} {fs : List Field} {xs ys : Array Value} (h : shp fs [] = true) : (Op.eqFields d xs ys fs).run P w = .ok true w := by
  cases fs with
  | nil => rfl
  | cons f fs => simp [shp] at h
theorem ti_i : tiOk Tryz.prog 3 ⟨.other, 1, false, [.int .i64 0]⟩ = true := tab_at tabok rfl
theorem eq_i {w : World} {d : Nat} (a b : Int) : (Op.equalIn (d + 1) 3 (I a) (I b)).run Tryz.prog w = .ok (a == b) w := run_equalIn_int w d _ .i64 .i64 _ _ (by kernel_rfl)
theorem eq_ty {w : World} {d : Nat} (x y : Ty) : (Op.equalIn (d + 2) 61 (.agg (encTy x).toArray) (.agg (encTy y).toArray)).run Tryz.prog w = .ok (decide (x = y)) w := by
  rw [run_equalIn_struct w (d + 1) _ _ _ (by kernel_rfl) (by kernel_rfl)]
  obtain ⟨f1, h1, e1⟩ := eqf_gen (P := Tryz.prog) (w := w) (d := d + 1) (ts := [(3, 1)]) (xs := (encTy x).toArray) (ys := (encTy y).toArray) (show shp (Tryz.prog.fieldsOf 61).toList [(3, 0), (3, 1)] = true by kernel_rfl) (part_cell ti_i rfl) (part_cell ti_i rfl) (eq_i x.kind y.kind)
  obtain ⟨f2, h2, e2⟩ := eqf_gen (P := Tryz.prog) (w := w) (d := d + 1) (xs := (encTy x).toArray) (ys := (encTy y).toArray) h1 (part_cell ti_i rfl) (part_cell ti_i rfl) (eq_i x.cls y.cls)
  rw [e1, e2, eqf_nil h2]
  obtain ⟨a, b⟩ := x
  obtain ⟨c, e⟩ := y
  by_cases p : a = c <;> by_cases q : b = e <;> simp [p, q]
theorem eq_fld {w : World} {d : Nat} (x y : Fld) : (Op.equalIn (d + 3) 86 (.agg (encFld x).toArray) (.agg (encFld y).toArray)).run Tryz.prog w = .ok (decide (x = y)) w := by
  rw [run_equalIn_struct w (d + 2) _ _ _ (by kernel_rfl) (by kernel_rfl)]
  obtain ⟨f1, h1, e1⟩ := eqf_gen (P := Tryz.prog) (w := w) (d := d + 2) (ts := [(61, 1)]) (xs := (encFld x).toArray) (ys := (encFld y).toArray) (show shp (Tryz.prog.fieldsOf 86).toList [(3, 0), (61, 1)] = true by kernel_rfl) (part_cell ti_i rfl) (part_cell ti_i rfl) (eq_i (d := d + 1) x.name y.name)
  obtain ⟨f2, h2, e2⟩ := eqf_gen (P := Tryz.prog) (w := w) (d := d + 2) (xs := (encFld x).toArray) (ys := (encFld y).toArray) h1 (part_agg (tab_at tabok rfl)) (part_agg (tab_at tabok rfl)) (eq_ty (d := d) x.ty y.ty)
  rw [e1, e2, eqf_nil h2]
  obtain ⟨a, b⟩ := x
  obtain ⟨c, e⟩ := y
  by_cases p : a = c <;> by_cases q : b = e <;> simp [p, q]
theorem eq_ins {w : World} {d : Nat} (x y : Ins) : (Op.equalIn (d + 2) 89 (.agg (encIns x).toArray) (.agg (encIns y).toArray)).run Tryz.prog w = .ok (decide (x = y)) w := by
  rw [run_equalIn_struct w (d + 1) _ _ _ (by kernel_rfl) (by kernel_rfl)]
  obtain ⟨f1, h1, e1⟩ := eqf_gen (P := Tryz.prog) (w := w) (d := d + 1) (ts := [(3, 1), (3, 2)]) (xs := (encIns x).toArray) (ys := (encIns y).toArray) (show shp (Tryz.prog.fieldsOf 89).toList [(3, 0), (3, 1), (3, 2)] = true by kernel_rfl) (part_cell ti_i rfl) (part_cell ti_i rfl) (eq_i x.op y.op)
  obtain ⟨f2, h2, e2⟩ := eqf_gen (P := Tryz.prog) (w := w) (d := d + 1) (xs := (encIns x).toArray) (ys := (encIns y).toArray) h1 (part_cell ti_i rfl) (part_cell ti_i rfl) (eq_i x.a y.a)
  obtain ⟨f3, h3, e3⟩ := eqf_gen (P := Tryz.prog) (w := w) (d := d + 1) (xs := (encIns x).toArray) (ys := (encIns y).toArray) h2 (part_cell ti_i rfl) (part_cell ti_i rfl) (eq_i x.b y.b)
  rw [e1, e2, e3, eqf_nil h3]
  obtain ⟨a, b, c⟩ := x
  obtain ⟨a', b', c'⟩ := y
  by_cases p : a = a' <;> by_cases q : b = b' <;> by_cases r : c = c' <;> simp [p, q, r]
/-- != on two values of a struct -/
theorem Eng.neA {C : Cx} {s : St} {w : World} {md : Option Md} {ops : Array Oper} {T T' : TypeId} {x y : Operand} {d : Nat} {ty : TypeId} {pos : String} {af : Array Edge} {g : Option (Nat × Bool)} {rest : List Oper} {k : List Item} {l : Env} {c : CEnv} {a b : List Value} {r : Bool}
    (he : ∀ w', (Op.equalIn 10000 T (.agg a.toArray) (.agg b.toArray)).run C.P w' = .ok r w') (h : Wk C (.reg md ops rest k ((d, .bool (!r)) :: l) c) w)
    (hs : adv C.tab C.n C.ks 400 s = .opn md ops ⟨some d, .binOp .neq T x y T', ty, pos, af, g⟩ rest k l c [] := by rfl) (hx : evc l c [] x = some (.agg a.toArray) := by rfl) (hy : evc l c [] y = some (.agg b.toArray) := by rfl) (hg : C.P.eqGuardType C.P.depth T = false := by kernel_rfl) (hf : fresh d l c [] = true := by rfl) : Wk C s w :=
  rd (p := []) (fun _ _ hA hp w' _ => by
    simp only [execOp, evc_ok hA.k hA.kc.c hp hx, evc_ok hA.k hA.kc.c hp hy]
    have hb : (binOp .neq T (.agg a.toArray) (.agg b.toArray)).run C.P w' = .ok (.bool (!r)) w' := by rw [run_neq_struct, he]; rfl
    exact run_bind_ok (run_bind_ok (run_eqGuard_agg _ _ _ _ _ _ _ hg) |>.trans hb) |>.trans rfl) h hs rfl hf (okR_no rfl)
theorem same_no {α : Type} [DecidableEq α] {l m : List α} {k : Nat} {x y : α} (hx : l[k]? = some x) (hy : m[k]? = some y) (h : x ≠ y) : decide (l = m) = false := by
  rw [decide_eq_false_iff_not]
  rintro rfl
  rw [hx] at hy
  exact h (Option.some.inj hy)
theorem same_len {α : Type} [DecidableEq α] {l m : List α} (h : (l.length : Int) ≠ m.length) : decide (l = m) = false := by
  rw [decide_eq_false_iff_not]
  rintro rfl
  exact h rfl
theorem same_go {α : Type} {l m : List α} {k : Nat} {x y : α} (hx : l[k]? = some x) (hy : m[k]? = some y) (h : x = y) (hk : l.take k = m.take k) : l.take (k + 1) = m.take (k + 1) := by
  rw [take_succ_some hx, take_succ_some hy, hk, h]
theorem same_end {α : Type} [DecidableEq α] {l m : List α} {k : Nat} (hl : (l.length : Int) = m.length) (h : l.take k = m.take k) (hk : k = l.length) : decide (l = m) = true := by
  subst hk
  rw [List.take_length, List.take_of_length_le (by omega)] at h
  exact decide_eq_true h
theorem r_SameStrings (l m : List ByteArray) (a1 a2 : Option Addr) (c1 c2 : Nat) (w : World) (h1 : Sl eStr T w a1 l) (h2 : Sl eStr T w a2 m) : Ret Tryz.prog 26 #[.slice a1 l.length c1, .slice a2 m.length c2] w fun v w' => v = .bool (decide (l = m)) ∧ Bl w w' := by
  refine entr (vs := [.slice a1 l.length c1, .slice a2 m.length c2]) [0, 1, 4, 5, 10, 14, 25] tabok Tryz.func26 (by kernel_rfl) ?_
  have hb1 := h1.big
  have hb2 := h2.big
  refine br (fun h => ?_) (fun h => ?_)
  · exact rt1 ⟨vb (same_len (of_decide_eq_true h)).symm, Bl.refl _⟩
  have hl := Classical.not_not.1 (of_decide_eq_false h)
  refine lpk l.length 5 [] [(0, .slice a1 l.length c1), (1, .slice a2 m.length c2)] (fun k vals w' => vals = [] ∧ l.take k = m.take k ∧ Bl w w') ⟨rfl, rfl, Bl.refl _⟩ ?_
  rintro k vals w2 hk ⟨rfl, ha, hB⟩ ih
  by_cases hlt : k < l.length
  · refine brT ?_
    obtain ⟨x, b, o, cs, hx, rfl, _, hAt, rfl⟩ := at_some (h1.bl hB) hlt
    obtain ⟨y, b', o', cs', hy, rfl, _, hAt', rfl⟩ := at_some (h2.bl hB) (i := k) (by omega)
    refine dh T (List.range 9) fun w8 h8 => ?_
    have hC := hAt.bl h8.bl
    have hC' := hAt'.bl h8.bl
    refine ix ?_
    refine ld (hC 0 _ rfl) ?_ (hm := trivial)
    refine ix ?_
    refine ld (hC' 0 _ rfl) ?_ (hm := trivial)
    skip
    refine br (fun h => ?_) (fun h => ?_)
    · exact rt1 ⟨vb (same_no hx hy (of_decide_eq_true h)).symm, hB.trans h8.bl⟩
    · exact ih hlt ⟨rfl, same_go hx hy (Classical.not_not.1 (of_decide_eq_false h)) ha, hB.trans h8.bl⟩
  refine brF ?_
  exact rt1 ⟨vb (same_end hl ha (by omega)).symm, hB⟩
theorem r_sameFields (l m : List Fld) (a1 a2 : Option Addr) (c1 c2 : Nat) (w : World) (h1 : Sl eFld T w a1 l) (h2 : Sl eFld T w a2 m) : Ret Tryz.prog 64 #[.slice a1 l.length c1, .slice a2 m.length c2] w fun v w' => v = .bool (decide (l = m)) ∧ Bl w w' := by
  refine entr (vs := [.slice a1 l.length c1, .slice a2 m.length c2]) [0, 1, 4, 5, 10, 14, 25] tabok Tryz.func64 (by kernel_rfl) ?_
  have hb1 := h1.big
  have hb2 := h2.big
  refine br (fun h => ?_) (fun h => ?_)
  · exact rt1 ⟨vb (same_len (of_decide_eq_true h)).symm, Bl.refl _⟩
  have hl := Classical.not_not.1 (of_decide_eq_false h)
  refine lpk l.length 5 [] [(0, .slice a1 l.length c1), (1, .slice a2 m.length c2)] (fun k vals w' => vals = [] ∧ l.take k = m.take k ∧ Bl w w') ⟨rfl, rfl, Bl.refl _⟩ ?_
  rintro k vals w2 hk ⟨rfl, ha, hB⟩ ih
  by_cases hlt : k < l.length
  · refine brT ?_
    obtain ⟨x, b, o, cs, hx, rfl, _, hAt, rfl⟩ := at_some (h1.bl hB) hlt
    obtain ⟨y, b', o', cs', hy, rfl, _, hAt', rfl⟩ := at_some (h2.bl hB) (i := k) (by omega)
    refine dh T (List.range 9) fun w8 h8 => ?_
    have hC := hAt.bl h8.bl
    have hC' := hAt'.bl h8.bl
    refine ix ?_
    refine lda hC ?_ (hm := trivial)
    refine ix ?_
    refine lda hC' ?_ (hm := trivial)
    refine neA (fun w => eq_fld x y) ?_
    refine br (fun h => ?_) (fun h => ?_)
    · exact rt1 ⟨vb (same_no hx hy (fun e => by rw [decide_eq_true e] at h; cases h)).symm, hB.trans h8.bl⟩
    · exact ih hlt ⟨rfl, same_go hx hy (Classical.byContradiction fun e => by rw [decide_eq_false e] at h; cases h) ha, hB.trans h8.bl⟩
  refine brF ?_
  exact rt1 ⟨vb (same_end hl ha (by omega)).symm, hB⟩
theorem r_sameTypes (l m : List Ty) (a1 a2 : Option Addr) (c1 c2 : Nat) (w : World) (h1 : Sl eTy T w a1 l) (h2 : Sl eTy T w a2 m) : Ret Tryz.prog 65 #[.slice a1 l.length c1, .slice a2 m.length c2] w fun v w' => v = .bool (decide (l = m)) ∧ Bl w w' := by
  refine entr (vs := [.slice a1 l.length c1, .slice a2 m.length c2]) [0, 1, 4, 5, 10, 14, 25] tabok Tryz.func65 (by kernel_rfl) ?_
  have hb1 := h1.big
  have hb2 := h2.big
  refine br (fun h => ?_) (fun h => ?_)
  · exact rt1 ⟨vb (same_len (of_decide_eq_true h)).symm, Bl.refl _⟩
  have hl := Classical.not_not.1 (of_decide_eq_false h)
  refine lpk l.length 5 [] [(0, .slice a1 l.length c1), (1, .slice a2 m.length c2)] (fun k vals w' => vals = [] ∧ l.take k = m.take k ∧ Bl w w') ⟨rfl, rfl, Bl.refl _⟩ ?_
  rintro k vals w2 hk ⟨rfl, ha, hB⟩ ih
  by_cases hlt : k < l.length
  · refine brT ?_
    obtain ⟨x, b, o, cs, hx, rfl, _, hAt, rfl⟩ := at_some (h1.bl hB) hlt
    obtain ⟨y, b', o', cs', hy, rfl, _, hAt', rfl⟩ := at_some (h2.bl hB) (i := k) (by omega)
    refine dh T (List.range 9) fun w8 h8 => ?_
    have hC := hAt.bl h8.bl
    have hC' := hAt'.bl h8.bl
    refine ix ?_
    refine lda hC ?_ (hm := trivial)
    refine ix ?_
    refine lda hC' ?_ (hm := trivial)
    refine neA (fun w => eq_ty x y) ?_
    refine br (fun h => ?_) (fun h => ?_)
    · exact rt1 ⟨vb (same_no hx hy (fun e => by rw [decide_eq_true e] at h; cases h)).symm, hB.trans h8.bl⟩
    · exact ih hlt ⟨rfl, same_go hx hy (Classical.byContradiction fun e => by rw [decide_eq_false e] at h; cases h) ha, hB.trans h8.bl⟩
  refine brF ?_
  exact rt1 ⟨vb (same_end hl ha (by omega)).symm, hB⟩
theorem r_SameCode (l m : List Ins) (a1 a2 : Option Addr) (c1 c2 : Nat) (w : World) (h1 : Sl eIns T w a1 l) (h2 : Sl eIns T w a2 m) : Ret Tryz.prog 66 #[.slice a1 l.length c1, .slice a2 m.length c2] w fun v w' => v = .bool (decide (l = m)) ∧ Bl w w' := by
  refine entr (vs := [.slice a1 l.length c1, .slice a2 m.length c2]) [0, 1, 4, 5, 10, 14, 25] tabok Tryz.func66 (by kernel_rfl) ?_
  have hb1 := h1.big
  have hb2 := h2.big
  refine br (fun h => ?_) (fun h => ?_)
  · exact rt1 ⟨vb (same_len (of_decide_eq_true h)).symm, Bl.refl _⟩
  have hl := Classical.not_not.1 (of_decide_eq_false h)
  refine lpk l.length 5 [] [(0, .slice a1 l.length c1), (1, .slice a2 m.length c2)] (fun k vals w' => vals = [] ∧ l.take k = m.take k ∧ Bl w w') ⟨rfl, rfl, Bl.refl _⟩ ?_
  rintro k vals w2 hk ⟨rfl, ha, hB⟩ ih
  by_cases hlt : k < l.length
  · refine brT ?_
    obtain ⟨x, b, o, cs, hx, rfl, _, hAt, rfl⟩ := at_some (h1.bl hB) hlt
    obtain ⟨y, b', o', cs', hy, rfl, _, hAt', rfl⟩ := at_some (h2.bl hB) (i := k) (by omega)
    refine dh T (List.range 9) fun w8 h8 => ?_
    have hC := hAt.bl h8.bl
    have hC' := hAt'.bl h8.bl
    refine ix ?_
    refine lda hC ?_ (hm := trivial)
    refine ix ?_
    refine lda hC' ?_ (hm := trivial)
    refine neA (fun w => eq_ins x y) ?_
    refine br (fun h => ?_) (fun h => ?_)
    · exact rt1 ⟨vb (same_no hx hy (fun e => by rw [decide_eq_true e] at h; cases h)).symm, hB.trans h8.bl⟩
    · exact ih hlt ⟨rfl, same_go hx hy (Classical.byContradiction fun e => by rw [decide_eq_false e] at h; cases h) ha, hB.trans h8.bl⟩
  refine brF ?_
  exact rt1 ⟨vb (same_end hl ha (by omega)).symm, hB⟩
/-- a guard that says yes -/
theorem Eng.spt {C : Cx} {s : St} {w : World} {md : Option Md} {ops : Array Oper} {o : Oper} {rest : List Oper} {k : List Item} {l : Env} {c : CEnv} {gs : Nat} {gb gt : Bool} {d : Nat} (u : Value)
    (h1 : Wk C (.opn md ops o rest k (bools [(gs, gb)] (settleL [(gs, gb)] c l)) (settleC [(gs, gb)] c) []) w)
    (hs : adv C.tab C.n C.ks 400 s = .opn md ops o rest k l c [(gs, gb)] := by rfl) (hg : evc l c [] (.tmp gs) = some (.bool gt) := by rfl) (hd : o.dst = some d := by rfl) (hf : fresh d l c [(gs, gb)] = true := by rfl) (hb : gt = gb := by first | rfl | simp) : Wk C s w :=
  sp u (fun _ => h1) (fun q => by rw [hb] at q; cases gb <;> cases q) hs hg hd hf
/-- a unit is the same as itself, wherever both lie -/
theorem r_Same_eq (u : Unt) (a b : UA) (w : World) (hU : UnR T w u a) (hV : UnR T w u b) : Ret Tryz.prog 23 #[.agg (ucells u a).toArray, .agg (ucells u b).toArray] w fun v w' => v = .bool true ∧ Bl w w' := by
  refine entr (vs := [.agg (ucells u a).toArray, .agg (ucells u b).toArray]) [0, 1, 2, 3, 4, 5, 6, 7, 8, 9, 10, 49, 54, 86, 91, 146] tabok Tryz.func23 (by kernel_rfl) ?_
  have hp2 := hU.cls.big
  have hp4 := hU.mth.big
  refine bx (cs := ucells u a) fun b1 w1 h1 => ?_
  refine bx (cs := ucells u b) fun b2 w2 h2 => ?_
  have B02 : Bl w w2 := h1.bl.trans h2.bl
  have hx1 := Bl.box h2.bl h1.box
  have hx2 := h2.box
  refine ld (hx1.cell rfl) ?_
  refine ld (hx2.cell rfl) ?_
  refine ldg (fun _ => hx1.cell rfl) ?_
  refine ldg (fun _ => hx2.cell rfl) ?_
  refine spt (.bool true) ?_
  refine cl (r_SameStrings u.pool u.pool a.a1 b.a1 a.c1 b.c1 w2 (hU.bl B02).pool (hV.bl B02).pool) ?_
  rintro _ w3 ⟨rfl, h3⟩
  rw [decide_eq_true (rfl : u.pool = u.pool)]
  replace hx1 := Bl.box h3 hx1
  replace hx2 := Bl.box h3 hx2
  have B03 := B02.trans h3
  refine ldg (fun _ => hx1.cell rfl) ?_
  refine ldg (fun _ => hx2.cell rfl) ?_
  refine ldg (fun _ => hx1.cell rfl) ?_
  refine ldg (fun _ => hx2.cell rfl) ?_
  refine ldg (fun _ => hx1.cell rfl) ?_
  refine ldg (fun _ => hx2.cell rfl) ?_
  refine spt (.bool true) ?_
  refine cl (r_sameFields u.statics u.statics a.a3 b.a3 a.c3 b.c3 w3 (hU.bl B03).sta (hV.bl B03).sta) ?_
  rintro _ w4 ⟨rfl, h4⟩
  rw [decide_eq_true (rfl : u.statics = u.statics)]
  replace hx1 := Bl.box h4 hx1
  replace hx2 := Bl.box h4 hx2
  have B04 := B03.trans h4
  refine brf ?_
  refine lpk u.classes.length 5 [] [(2, .pointer (some ⟨b1, 0, none⟩)), (3, .pointer (some ⟨b2, 0, none⟩))] (fun k vals w' => vals = [] ∧ Bl w4 w') ⟨rfl, Bl.refl _⟩ ?_
  rintro k vals w5 hk ⟨rfl, hB⟩ ih
  have hy1 := Bl.box hB hx1
  have hy2 := Bl.box hB hx2
  have B05 := B04.trans hB
  refine ld (hy1.cell rfl) ?_
  by_cases hlt : k < u.classes.length
  · refine brT ?_
    obtain ⟨c, bs, o, cs, hc, e2, _, hAt, af, cf, rfl, hf⟩ := at_some (hU.bl B05).cls hlt
    obtain ⟨c', bs', o', cs', hc', e2', _, hAt', af', cf', rfl, hf'⟩ := at_some (hV.bl B05).cls hlt
    obtain rfl : c = c' := by rw [hc] at hc'; exact Option.some.inj hc'
    refine ld (hy1.cell rfl) ?_
    rw [e2]
    refine ix ?_
    refine lda hAt ?_
    refine al fun b6 w6 h6 => ?_
    refine sta h6.box fun w7 k7 hx7 => ?_
    have B57 : Bl w5 w7 := h6.wr k7
    refine ld ((Bl.box B57 hy2).cell rfl) ?_
    rw [e2']
    refine ix ?_
    refine lda (hAt'.bl B57) ?_
    refine al fun b8 w8 h8 => ?_
    refine sta h8.box fun w9 k9 hx9 => ?_
    have B79 : Bl w7 w9 := h8.wr k9
    have hz7 := Bl.box B79 hx7
    refine ld (hz7.cell rfl) ?_
    refine ld (hx9.cell rfl) ?_
    refine ldg (fun _ => hz7.cell rfl) ?_
    refine ldg (fun _ => hx9.cell rfl) ?_
    refine ldg (fun _ => hz7.cell rfl) ?_
    refine ldg (fun _ => hx9.cell rfl) ?_
    refine spt (.bool true) ?_
    refine cl (r_sameFields c.fields c.fields af af' cf cf' w9 (hf.bl (B57.trans B79)) (hf'.bl (B57.trans B79))) ?_
    rintro _ w10 ⟨rfl, h10⟩
    rw [decide_eq_true (rfl : c.fields = c.fields)]
    refine brf ?_
    exact ih hlt ⟨rfl, ((hB.trans B57).trans B79).trans h10⟩
  refine brF ?_
  clear ih hy1 hy2
  refine lpk u.methods.length 8 [] [(2, .pointer (some ⟨b1, 0, none⟩)), (3, .pointer (some ⟨b2, 0, none⟩))] (fun k vals w' => vals = [] ∧ Bl w4 w') ⟨rfl, hB⟩ ?_
  clear hB B05
  rintro k vals w5 hk ⟨rfl, hB⟩ ih
  have hy1 := Bl.box hB hx1
  have hy2 := Bl.box hB hx2
  have B05 := B04.trans hB
  refine ld (hy1.cell rfl) ?_
  by_cases hlt : k < u.methods.length
  · refine brT ?_
    obtain ⟨m, bs, o, cs, hm, e2, _, hAt, q1, s1, q2, s2, q3, s3, rfl, f1, f2, f3⟩ := at_some (hU.bl B05).mth hlt
    obtain ⟨m', bs', o', cs', hm', e2', _, hAt', q1', s1', q2', s2', q3', s3', rfl, f1', f2', f3'⟩ := at_some (hV.bl B05).mth hlt
    obtain rfl : m = m' := by rw [hm] at hm'; exact Option.some.inj hm'
    refine ld (hy1.cell rfl) ?_
    rw [e2]
    refine ix ?_
    refine lda hAt ?_
    refine al fun b6 w6 h6 => ?_
    refine sta h6.box fun w7 k7 hx7 => ?_
    have B57 : Bl w5 w7 := h6.wr k7
    refine ld ((Bl.box B57 hy2).cell rfl) ?_
    rw [e2']
    refine ix ?_
    refine lda (hAt'.bl B57) ?_
    refine al fun b8 w8 h8 => ?_
    refine sta h8.box fun w9 k9 hx9 => ?_
    have B79 : Bl w7 w9 := h8.wr k9
    have hz7 := Bl.box B79 hx7
    have B59 := B57.trans B79
    refine ld (hz7.cell rfl) ?_
    refine ld (hx9.cell rfl) ?_
    refine ldg (fun _ => hz7.cell rfl) ?_
    refine ldg (fun _ => hx9.cell rfl) ?_
    refine spt (.bool true) ?_
    refine lda (At.left (cs := encTy m.result) hz7.at.tail.tail.tail.tail) ?_
    refine spt (.bool true) ?_
    refine lda (At.left (cs := encTy m.result) hx9.at.tail.tail.tail.tail) ?_
    refine spt (.bool true) ?_
    refine neA (fun w => eq_ty m.result m.result) ?_
    rw [decide_eq_true (rfl : m.result = m.result)]
    refine ldg (fun _ => hz7.cell rfl) ?_
    refine ldg (fun _ => hx9.cell rfl) ?_
    refine spt (.bool true) ?_
    refine cl (r_sameTypes m.params m.params q1 q1' s1 s1' w9 (f1.bl B59) (f1'.bl B59)) ?_
    rintro _ w10 ⟨rfl, h10⟩
    rw [decide_eq_true (rfl : m.params = m.params)]
    replace hz7 := Bl.box h10 hz7
    replace hx9 := Bl.box h10 hx9
    refine ldg (fun _ => hz7.cell rfl) ?_
    refine ldg (fun _ => hx9.cell rfl) ?_
    refine spt (.bool true) ?_
    refine cl (r_sameTypes m.locals m.locals q2 q2' s2 s2' w10 (f2.bl (B59.trans h10)) (f2'.bl (B59.trans h10))) ?_
    rintro _ w11 ⟨rfl, h11⟩
    rw [decide_eq_true (rfl : m.locals = m.locals)]
    replace hz7 := Bl.box h11 hz7
    replace hx9 := Bl.box h11 hx9
    have B511 := (B59.trans h10).trans h11
    refine ldg (fun _ => hz7.cell rfl) ?_
    refine ldg (fun _ => hx9.cell rfl) ?_
    refine spt (.bool true) ?_
    refine cl (r_SameCode m.code m.code q3 q3' s3 s3' w11 (f3.bl B511) (f3'.bl B511)) ?_
    rintro _ w12 ⟨rfl, h12⟩
    rw [decide_eq_true (rfl : m.code = m.code)]
    refine brf ?_
    exact ih hlt ⟨rfl, (hB.trans B511).trans h12⟩
  refine brF ?_
  exact rt1 ⟨rfl, B05⟩
end Go.Proofs.YtopjmiklpnejmaaGreatDoor

/- Walks: the program's comparison of lists. -/
namespace Go.Proofs.YtopjmiklpnejmaaGreatDoor
open Eng Go.RowKit
theorem c_EqStr (l m : List ByteArray) (a1 a2 : Option Addr) (c1 c2 : Nat) (w : World) (h1 : Sl eStr T w a1 l) (h2 : Sl eStr T w a2 m) : Ret Tryz.prog 77 #[.slice a1 l.length c1, .slice a2 m.length c2] w fun v w' => v = .bool (decide (l = m)) ∧ Bl w w' := by
  refine entr (vs := [.slice a1 l.length c1, .slice a2 m.length c2]) [0, 1, 4, 5, 10, 12, 13, 14, 24] tabok Tryz.func77 (by kernel_rfl) ?_
  have hb1 := h1.big
  have hb2 := h2.big
  refine br (fun h => ?_) (fun h => ?_)
  · exact rt1 ⟨vb (same_len (of_decide_eq_true h)).symm, Bl.refl _⟩
  have hl := Classical.not_not.1 (of_decide_eq_false h)
  refine lpk l.length 13 [] [(0, .slice a1 l.length c1), (1, .slice a2 m.length c2), (12, I l.length)] (fun k vals w' => vals = [] ∧ l.take k = m.take k ∧ Bl w w') ⟨rfl, rfl, Bl.refl _⟩ ?_
  rintro k vals w2 hk ⟨rfl, ha, hB⟩ ih
  by_cases hlt : k < l.length
  · refine brT ?_
    obtain ⟨x, b, o, cs, hx, rfl, _, hAt, rfl⟩ := at_some (h1.bl hB) hlt
    obtain ⟨y, b', o', cs', hy, rfl, _, hAt', rfl⟩ := at_some (h2.bl hB) (i := k) (by omega)
    refine dh T (List.range 9) fun w8 h8 => ?_
    have hC := hAt.bl h8.bl
    have hC' := hAt'.bl h8.bl
    refine ix ?_
    refine ld (hC 0 _ rfl) ?_ (hm := trivial)
    refine ix ?_
    refine ld (hC' 0 _ rfl) ?_ (hm := trivial)
    skip
    refine br (fun h => ?_) (fun h => ?_)
    · exact rt1 ⟨vb (same_no hx hy (of_decide_eq_true h)).symm, hB.trans h8.bl⟩
    · exact ih hlt ⟨rfl, same_go hx hy (Classical.not_not.1 (of_decide_eq_false h)) ha, hB.trans h8.bl⟩
  refine brF ?_
  exact rt1 ⟨vb (same_end hl ha (by omega)).symm, hB⟩
theorem c_EqFld (l m : List Fld) (a1 a2 : Option Addr) (c1 c2 : Nat) (w : World) (h1 : Sl eFld T w a1 l) (h2 : Sl eFld T w a2 m) : Ret Tryz.prog 73 #[.slice a1 l.length c1, .slice a2 m.length c2] w fun v w' => v = .bool (decide (l = m)) ∧ Bl w w' := by
  refine entr (vs := [.slice a1 l.length c1, .slice a2 m.length c2]) [0, 1, 4, 5, 10, 12, 13, 14, 24] tabok Tryz.func73 (by kernel_rfl) ?_
  have hb1 := h1.big
  have hb2 := h2.big
  refine br (fun h => ?_) (fun h => ?_)
  · exact rt1 ⟨vb (same_len (of_decide_eq_true h)).symm, Bl.refl _⟩
  have hl := Classical.not_not.1 (of_decide_eq_false h)
  refine lpk l.length 13 [] [(0, .slice a1 l.length c1), (1, .slice a2 m.length c2), (12, I l.length)] (fun k vals w' => vals = [] ∧ l.take k = m.take k ∧ Bl w w') ⟨rfl, rfl, Bl.refl _⟩ ?_
  rintro k vals w2 hk ⟨rfl, ha, hB⟩ ih
  by_cases hlt : k < l.length
  · refine brT ?_
    obtain ⟨x, b, o, cs, hx, rfl, _, hAt, rfl⟩ := at_some (h1.bl hB) hlt
    obtain ⟨y, b', o', cs', hy, rfl, _, hAt', rfl⟩ := at_some (h2.bl hB) (i := k) (by omega)
    refine dh T (List.range 9) fun w8 h8 => ?_
    have hC := hAt.bl h8.bl
    have hC' := hAt'.bl h8.bl
    refine ix ?_
    refine lda hC ?_ (hm := trivial)
    refine ix ?_
    refine lda hC' ?_ (hm := trivial)
    refine neA (fun w => eq_fld x y) ?_
    refine br (fun h => ?_) (fun h => ?_)
    · exact rt1 ⟨vb (same_no hx hy (fun e => by rw [decide_eq_true e] at h; cases h)).symm, hB.trans h8.bl⟩
    · exact ih hlt ⟨rfl, same_go hx hy (Classical.byContradiction fun e => by rw [decide_eq_false e] at h; cases h) ha, hB.trans h8.bl⟩
  refine brF ?_
  exact rt1 ⟨vb (same_end hl ha (by omega)).symm, hB⟩
theorem c_EqTy (l m : List Ty) (a1 a2 : Option Addr) (c1 c2 : Nat) (w : World) (h1 : Sl eTy T w a1 l) (h2 : Sl eTy T w a2 m) : Ret Tryz.prog 75 #[.slice a1 l.length c1, .slice a2 m.length c2] w fun v w' => v = .bool (decide (l = m)) ∧ Bl w w' := by
  refine entr (vs := [.slice a1 l.length c1, .slice a2 m.length c2]) [0, 1, 4, 5, 10, 12, 13, 14, 24] tabok Tryz.func75 (by kernel_rfl) ?_
  have hb1 := h1.big
  have hb2 := h2.big
  refine br (fun h => ?_) (fun h => ?_)
  · exact rt1 ⟨vb (same_len (of_decide_eq_true h)).symm, Bl.refl _⟩
  have hl := Classical.not_not.1 (of_decide_eq_false h)
  refine lpk l.length 13 [] [(0, .slice a1 l.length c1), (1, .slice a2 m.length c2), (12, I l.length)] (fun k vals w' => vals = [] ∧ l.take k = m.take k ∧ Bl w w') ⟨rfl, rfl, Bl.refl _⟩ ?_
  rintro k vals w2 hk ⟨rfl, ha, hB⟩ ih
  by_cases hlt : k < l.length
  · refine brT ?_
    obtain ⟨x, b, o, cs, hx, rfl, _, hAt, rfl⟩ := at_some (h1.bl hB) hlt
    obtain ⟨y, b', o', cs', hy, rfl, _, hAt', rfl⟩ := at_some (h2.bl hB) (i := k) (by omega)
    refine dh T (List.range 9) fun w8 h8 => ?_
    have hC := hAt.bl h8.bl
    have hC' := hAt'.bl h8.bl
    refine ix ?_
    refine lda hC ?_ (hm := trivial)
    refine ix ?_
    refine lda hC' ?_ (hm := trivial)
    refine neA (fun w => eq_ty x y) ?_
    refine br (fun h => ?_) (fun h => ?_)
    · exact rt1 ⟨vb (same_no hx hy (fun e => by rw [decide_eq_true e] at h; cases h)).symm, hB.trans h8.bl⟩
    · exact ih hlt ⟨rfl, same_go hx hy (Classical.byContradiction fun e => by rw [decide_eq_false e] at h; cases h) ha, hB.trans h8.bl⟩
  refine brF ?_
  exact rt1 ⟨vb (same_end hl ha (by omega)).symm, hB⟩
theorem c_EqIns (l m : List Ins) (a1 a2 : Option Addr) (c1 c2 : Nat) (w : World) (h1 : Sl eIns T w a1 l) (h2 : Sl eIns T w a2 m) : Ret Tryz.prog 76 #[.slice a1 l.length c1, .slice a2 m.length c2] w fun v w' => v = .bool (decide (l = m)) ∧ Bl w w' := by
  refine entr (vs := [.slice a1 l.length c1, .slice a2 m.length c2]) [0, 1, 4, 5, 10, 12, 13, 14, 24] tabok Tryz.func76 (by kernel_rfl) ?_
  have hb1 := h1.big
  have hb2 := h2.big
  refine br (fun h => ?_) (fun h => ?_)
  · exact rt1 ⟨vb (same_len (of_decide_eq_true h)).symm, Bl.refl _⟩
  have hl := Classical.not_not.1 (of_decide_eq_false h)
  refine lpk l.length 13 [] [(0, .slice a1 l.length c1), (1, .slice a2 m.length c2), (12, I l.length)] (fun k vals w' => vals = [] ∧ l.take k = m.take k ∧ Bl w w') ⟨rfl, rfl, Bl.refl _⟩ ?_
  rintro k vals w2 hk ⟨rfl, ha, hB⟩ ih
  by_cases hlt : k < l.length
  · refine brT ?_
    obtain ⟨x, b, o, cs, hx, rfl, _, hAt, rfl⟩ := at_some (h1.bl hB) hlt
    obtain ⟨y, b', o', cs', hy, rfl, _, hAt', rfl⟩ := at_some (h2.bl hB) (i := k) (by omega)
    refine dh T (List.range 9) fun w8 h8 => ?_
    have hC := hAt.bl h8.bl
    have hC' := hAt'.bl h8.bl
    refine ix ?_
    refine lda hC ?_ (hm := trivial)
    refine ix ?_
    refine lda hC' ?_ (hm := trivial)
    refine neA (fun w => eq_ins x y) ?_
    refine br (fun h => ?_) (fun h => ?_)
    · exact rt1 ⟨vb (same_no hx hy (fun e => by rw [decide_eq_true e] at h; cases h)).symm, hB.trans h8.bl⟩
    · exact ih hlt ⟨rfl, same_go hx hy (Classical.byContradiction fun e => by rw [decide_eq_false e] at h; cases h) ha, hB.trans h8.bl⟩
  refine brF ?_
  exact rt1 ⟨vb (same_end hl ha (by omega)).symm, hB⟩
theorem c_EqCls (l m : List Cls) (a1 a2 : Option Addr) (c1 c2 : Nat) (g : FuncId) (caps : List Value) (w : World) (h1 : Sl eCls T w a1 l) (h2 : Sl eCls T w a2 m)
    (hp : ∀ x y cs ds, ∀ w', Bl w w' → (eCls).rel T w' cs x → (eCls).rel T w' ds y → Ret Tryz.prog g ([asV cs, asV ds] ++ caps).toArray w' fun v w'' => v = .bool (decide (x = y)) ∧ Bl w' w'') :
    Ret Tryz.prog 78 #[.slice a1 l.length c1, .slice a2 m.length c2, .func (.func g) #[] caps.toArray] w fun v w' => v = .bool (decide (l = m)) ∧ Bl w w' := by
  refine entr (vs := [.slice a1 l.length c1, .slice a2 m.length c2, .func (.func g) #[] caps.toArray]) [0, 1, 2, 6, 7, 8, 9, 14, 15, 16, 17, 18, 30] tabok Tryz.func78 (by kernel_rfl) ?_
  have hb1 := h1.big
  have hb2 := h2.big
  refine br (fun h => ?_) (fun h => ?_)
  · exact rt1 ⟨vb (same_len (of_decide_eq_true h)).symm, Bl.refl _⟩
  have hl := Classical.not_not.1 (of_decide_eq_false h)
  refine lpk l.length 17 [] [(1, .slice a2 m.length c2), (2, .func (.func g) #[] caps.toArray), (15, .slice a1 l.length c1), (16, I l.length)] (fun k vals w' => vals = [] ∧ l.take k = m.take k ∧ Bl w w') ⟨rfl, rfl, Bl.refl _⟩ ?_
  rintro k vals w2 hk ⟨rfl, ha, hB⟩ ih
  by_cases hlt : k < l.length
  · refine brT ?_
    obtain ⟨x, b, o, cs, hx, rfl, _, hAt, hr⟩ := at_some (h1.bl hB) hlt
    obtain ⟨y, b', o', cs', hy, rfl, _, hAt', hr'⟩ := at_some (h2.bl hB) (i := k) (by omega)
    have hr0 := hr
    have hr0' := hr'
    obtain ⟨af, cf, rfl, _⟩ := hr
    obtain ⟨af', cf', rfl, _⟩ := hr'
    refine ix ?_
    refine lda hAt ?_
    refine al fun b5 w5 h5 => ?_
    refine sta h5.box fun w6 k6 hx6 => ?_
    have B26 : Bl w2 w6 := h5.wr k6
    refine ix ?_
    refine lda (hAt'.bl B26) ?_
    refine al fun b7 w7 h7 => ?_
    refine sta h7.box fun w8 k8 hx8 => ?_
    have B68 : Bl w6 w8 := h7.wr k8
    have B28 := B26.trans B68
    refine lda (Bl.box B68 hx6).at ?_
    refine lda hx8.at ?_
    refine cl (hp x y _ _ w8 (hB.trans B28) ((eCls).kp (B28.kp T) hr0) ((eCls).kp (B28.kp T) hr0')) ?_
    rintro _ w9 ⟨rfl, h9⟩
    refine br (fun h => ?_) (fun h => ?_)
    · exact rt1 ⟨vb (same_no hx hy (fun e => by rw [decide_eq_true e] at h; cases h)).symm, (hB.trans B28).trans h9⟩
    · exact ih hlt ⟨rfl, same_go hx hy (Classical.byContradiction fun e => by rw [decide_eq_false e] at h; cases h) ha, (hB.trans B28).trans h9⟩
  refine brF ?_
  exact rt1 ⟨vb (same_end hl ha (by omega)).symm, hB⟩
theorem c_EqMth (l m : List Mth) (a1 a2 : Option Addr) (c1 c2 : Nat) (g : FuncId) (caps : List Value) (w : World) (h1 : Sl eMth T w a1 l) (h2 : Sl eMth T w a2 m)
    (hp : ∀ x y cs ds, ∀ w', Bl w w' → (eMth).rel T w' cs x → (eMth).rel T w' ds y → Ret Tryz.prog g ([asV cs, asV ds] ++ caps).toArray w' fun v w'' => v = .bool (decide (x = y)) ∧ Bl w' w'') :
    Ret Tryz.prog 79 #[.slice a1 l.length c1, .slice a2 m.length c2, .func (.func g) #[] caps.toArray] w fun v w' => v = .bool (decide (l = m)) ∧ Bl w w' := by
  refine entr (vs := [.slice a1 l.length c1, .slice a2 m.length c2, .func (.func g) #[] caps.toArray]) [0, 1, 2, 6, 7, 8, 9, 14, 15, 16, 17, 18, 30] tabok Tryz.func79 (by kernel_rfl) ?_
  have hb1 := h1.big
  have hb2 := h2.big
  refine br (fun h => ?_) (fun h => ?_)
  · exact rt1 ⟨vb (same_len (of_decide_eq_true h)).symm, Bl.refl _⟩
  have hl := Classical.not_not.1 (of_decide_eq_false h)
  refine lpk l.length 17 [] [(1, .slice a2 m.length c2), (2, .func (.func g) #[] caps.toArray), (15, .slice a1 l.length c1), (16, I l.length)] (fun k vals w' => vals = [] ∧ l.take k = m.take k ∧ Bl w w') ⟨rfl, rfl, Bl.refl _⟩ ?_
  rintro k vals w2 hk ⟨rfl, ha, hB⟩ ih
  by_cases hlt : k < l.length
  · refine brT ?_
    obtain ⟨x, b, o, cs, hx, rfl, _, hAt, hr⟩ := at_some (h1.bl hB) hlt
    obtain ⟨y, b', o', cs', hy, rfl, _, hAt', hr'⟩ := at_some (h2.bl hB) (i := k) (by omega)
    have hr0 := hr
    have hr0' := hr'
    obtain ⟨q1, s1, q2, s2, q3, s3, rfl, _⟩ := hr
    obtain ⟨q1', s1', q2', s2', q3', s3', rfl, _⟩ := hr'
    refine ix ?_
    refine lda hAt ?_
    refine al fun b5 w5 h5 => ?_
    refine sta h5.box fun w6 k6 hx6 => ?_
    have B26 : Bl w2 w6 := h5.wr k6
    refine ix ?_
    refine lda (hAt'.bl B26) ?_
    refine al fun b7 w7 h7 => ?_
    refine sta h7.box fun w8 k8 hx8 => ?_
    have B68 : Bl w6 w8 := h7.wr k8
    have B28 := B26.trans B68
    refine lda (Bl.box B68 hx6).at ?_
    refine lda hx8.at ?_
    refine cl (hp x y _ _ w8 (hB.trans B28) ((eMth).kp (B28.kp T) hr0) ((eMth).kp (B28.kp T) hr0')) ?_
    rintro _ w9 ⟨rfl, h9⟩
    refine br (fun h => ?_) (fun h => ?_)
    · exact rt1 ⟨vb (same_no hx hy (fun e => by rw [decide_eq_true e] at h; cases h)).symm, (hB.trans B28).trans h9⟩
    · exact ih hlt ⟨rfl, same_go hx hy (Classical.byContradiction fun e => by rw [decide_eq_false e] at h; cases h) ha, (hB.trans B28).trans h9⟩
  refine brF ?_
  exact rt1 ⟨vb (same_end hl ha (by omega)).symm, hB⟩
end Go.Proofs.YtopjmiklpnejmaaGreatDoor

/- Walks: the program's comparison of units. -/
namespace Go.Proofs.YtopjmiklpnejmaaGreatDoor
open Eng Go.RowKit
/-- == on two values of a struct -/
theorem Eng.eqA {C : Cx} {s : St} {w : World} {md : Option Md} {ops : Array Oper} {T T' : TypeId} {x y : Operand} {d : Nat} {ty : TypeId} {pos : String} {af : Array Edge} {g : Option (Nat × Bool)} {rest : List Oper} {k : List Item} {l : Env} {c : CEnv} {a b : List Value} {r : Bool}
    (he : ∀ w', (Op.equalIn 10000 T (.agg a.toArray) (.agg b.toArray)).run C.P w' = .ok r w') (h : Wk C (.reg md ops rest k ((d, .bool r) :: l) c) w)
    (hs : adv C.tab C.n C.ks 400 s = .opn md ops ⟨some d, .binOp .eql T x y T', ty, pos, af, g⟩ rest k l c [] := by rfl) (hx : evc l c [] x = some (.agg a.toArray) := by rfl) (hy : evc l c [] y = some (.agg b.toArray) := by rfl) (hg : C.P.eqGuardType C.P.depth T = false := by kernel_rfl) (hf : fresh d l c [] = true := by rfl) : Wk C s w :=
  rd (p := []) (fun _ _ hA hp w' _ => by
    simp only [execOp, evc_ok hA.k hA.kc.c hp hx, evc_ok hA.k hA.kc.c hp hy]
    have hb : (binOp .eql T (.agg a.toArray) (.agg b.toArray)).run C.P w' = .ok (.bool r) w' := by rw [run_eql_struct, he]; rfl
    exact run_bind_ok (run_bind_ok (run_eqGuard_agg _ _ _ _ _ _ _ hg) |>.trans hb) |>.trans rfl) h hs rfl hf (okR_no rfl)
/-- a guard that says no -/
theorem Eng.spn {C : Cx} {s : St} {w : World} {md : Option Md} {ops : Array Oper} {o : Oper} {rest : List Oper} {k : List Item} {l : Env} {c : CEnv} {gs : Nat} {gb gt : Bool} {d : Nat} (u : Value)
    (h2 : Wk C (.reg md ops rest k l ((d, [(gs, gb)], u) :: c)) w)
    (hs : adv C.tab C.n C.ks 400 s = .opn md ops o rest k l c [(gs, gb)] := by rfl) (hg : evc l c [] (.tmp gs) = some (.bool gt) := by rfl) (hd : o.dst = some d := by rfl) (hf : fresh d l c [(gs, gb)] = true := by rfl) (hb : gt = (!gb) := by first | rfl | simp_all) : Wk C s w :=
  sp u (fun q => by rw [q] at hb; cases gb <;> cases hb) (fun _ => h2) hs hg hd hf
theorem cls_eq (c d : Cls) : c = d ↔ c.name = d.name ∧ c.super = d.super ∧ c.fields = d.fields := by
  obtain ⟨a, b, e⟩ := c
  obtain ⟨a', b', e'⟩ := d
  simp
theorem mth_eq (c d : Mth) : c = d ↔ c.name = d.name ∧ c.cls = d.cls ∧ c.result = d.result ∧ c.params = d.params ∧ c.locals = d.locals ∧ c.code = d.code := by
  obtain ⟨a, b, e, f, g, h⟩ := c
  obtain ⟨a', b', e', f', g', h'⟩ := d
  simp only [Mth.mk.injEq]
  constructor
  · rintro ⟨h1, h2, h3, h4, h5, h6⟩; exact ⟨h1, h2, h5, h3, h4, h6⟩
  · rintro ⟨h1, h2, h3, h4, h5, h6⟩; exact ⟨h1, h2, h4, h5, h3, h6⟩
def sameU (u v : Unt) : Bool := decide (u.name = v.name) && decide (u.pool = v.pool) && decide (u.classes = v.classes) && decide (u.statics = v.statics) && decide (u.methods = v.methods)
theorem u_Same1 (c d : Cls) (cs ds : List Value) (w : World) (hc : eCls.rel T w cs c) (hd : eCls.rel T w ds d) : Ret Tryz.prog 72 #[asV cs, asV ds] w fun v w' => v = .bool (decide (c = d)) ∧ Bl w w' := by
  obtain ⟨a, cap, rfl, hf⟩ := hc
  obtain ⟨a', cap', rfl, hf'⟩ := hd
  refine entr (vs := [asV [I c.name, I c.super, .slice a c.fields.length cap], asV [I d.name, I d.super, .slice a' d.fields.length cap']]) [0, 1, 2, 3, 4] tabok Tryz.func72 (by kernel_rfl) ?_
  refine bx (cs := [I c.name, I c.super, .slice a c.fields.length cap]) fun b1 w1 h1 => ?_
  refine bx (cs := [I d.name, I d.super, .slice a' d.fields.length cap']) fun b2 w2 h2 => ?_
  have hx1 := Bl.box h2.bl h1.box
  have hx2 := h2.box
  have B := h1.bl.trans h2.bl
  refine ld (hx1.cell rfl) ?_
  refine ld (hx2.cell rfl) ?_
  refine ldg (fun _ => hx1.cell rfl) ?_
  refine ldg (fun _ => hx2.cell rfl) ?_
  refine ldg (fun _ => hx1.cell rfl) ?_
  refine ldg (fun _ => hx2.cell rfl) ?_
  refine sp (.bool false) (fun q => ?_) (fun q => ?_)
  · refine cl (c_EqFld c.fields d.fields a a' cap cap' w2 (hf.bl B) (hf'.bl B)) ?_
    rintro _ w3 ⟨rfl, h3⟩
    refine rt1 ⟨vb ?_, B.trans h3⟩
    simp_all [cls_eq]
  · refine rt1 ⟨vb ?_, B⟩
    simp_all [cls_eq]
theorem u_Same2 (c d : Mth) (cs ds : List Value) (w : World) (hc : eMth.rel T w cs c) (hd : eMth.rel T w ds d) : Ret Tryz.prog 74 #[asV cs, asV ds] w fun v w' => v = .bool (decide (c = d)) ∧ Bl w w' := by
  obtain ⟨q1, s1, q2, s2, q3, s3, rfl, f1, f2, f3⟩ := hc
  obtain ⟨q1', s1', q2', s2', q3', s3', rfl, f1', f2', f3'⟩ := hd
  refine entr (vs := [asV (mcells c q1 s1 q2 s2 q3 s3), asV (mcells d q1' s1' q2' s2' q3' s3')]) [0, 1, 2, 3, 4] tabok Tryz.func74 (by kernel_rfl) ?_
  refine bx (cs := mcells c q1 s1 q2 s2 q3 s3) fun b1 w1 h1 => ?_
  refine bx (cs := mcells d q1' s1' q2' s2' q3' s3') fun b2 w2 h2 => ?_
  have hx1 := Bl.box h2.bl h1.box
  have hx2 := h2.box
  have B := h1.bl.trans h2.bl
  refine ld (hx1.cell rfl) ?_
  refine ld (hx2.cell rfl) ?_
  refine ldg (fun _ => hx1.cell rfl) ?_
  refine ldg (fun _ => hx2.cell rfl) ?_
  refine sp (.agg (encTy c.result).toArray) (fun q => ?_) (fun q => ?_)
  rotate_left
  · refine spn (.agg (encTy d.result).toArray) ?_
    refine spn (.bool false) ?_
    refine ldg (fun _ => hx1.cell rfl) ?_
    refine ldg (fun _ => hx2.cell rfl) ?_
    refine spn (.bool false) ?_
    refine ldg (fun _ => hx1.cell rfl) ?_
    refine ldg (fun _ => hx2.cell rfl) ?_
    refine spn (.bool false) ?_
    refine ldg (fun _ => hx1.cell rfl) ?_
    refine ldg (fun _ => hx2.cell rfl) ?_
    refine spn (.bool false) ?_
    refine rt1 ⟨vb ?_, B⟩
    simp_all [mth_eq]
  refine lda (At.left (cs := encTy c.result) hx1.at.tail.tail.tail.tail) ?_
  refine spt (.agg (encTy d.result).toArray) ?_
  refine lda (At.left (cs := encTy d.result) hx2.at.tail.tail.tail.tail) ?_
  refine spt (.bool false) ?_
  refine eqA (fun w => eq_ty c.result d.result) ?_
  refine ldg (fun _ => hx1.cell rfl) ?_
  refine ldg (fun _ => hx2.cell rfl) ?_
  refine sp (.bool false) (fun k2 => ?_) (fun k2 => ?_)
  rotate_left
  · refine ldg (fun _ => hx1.cell rfl) ?_
    refine ldg (fun _ => hx2.cell rfl) ?_
    refine spn (.bool false) ?_
    refine ldg (fun _ => hx1.cell rfl) ?_
    refine ldg (fun _ => hx2.cell rfl) ?_
    refine spn (.bool false) ?_
    refine rt1 ⟨vb ?_, B⟩
    simp_all [mth_eq]
  refine cl (c_EqTy c.params d.params q1 q1' s1 s1' w2 (f1.bl B) (f1'.bl B)) ?_
  rintro _ w3 ⟨rfl, h3⟩
  have B3 := B.trans h3
  replace hx1 := Bl.box h3 hx1
  replace hx2 := Bl.box h3 hx2
  refine ldg (fun _ => hx1.cell rfl) ?_
  refine ldg (fun _ => hx2.cell rfl) ?_
  refine sp (.bool false) (fun k3 => ?_) (fun k3 => ?_)
  rotate_left
  · refine ldg (fun _ => hx1.cell rfl) ?_
    refine ldg (fun _ => hx2.cell rfl) ?_
    refine spn (.bool false) ?_
    refine rt1 ⟨vb ?_, B3⟩
    simp_all [mth_eq]
  refine cl (c_EqTy c.locals d.locals q2 q2' s2 s2' w3 (f2.bl B3) (f2'.bl B3)) ?_
  rintro _ w4 ⟨rfl, h4⟩
  have B4 := B3.trans h4
  replace hx1 := Bl.box h4 hx1
  replace hx2 := Bl.box h4 hx2
  refine ldg (fun _ => hx1.cell rfl) ?_
  refine ldg (fun _ => hx2.cell rfl) ?_
  refine sp (.bool false) (fun k4 => ?_) (fun k4 => ?_)
  rotate_left
  · refine rt1 ⟨vb ?_, B4⟩
    simp_all [mth_eq]
  refine cl (c_EqIns c.code d.code q3 q3' s3 s3' w4 (f3.bl B4) (f3'.bl B4)) ?_
  rintro _ w5 ⟨rfl, h5⟩
  refine rt1 ⟨vb ?_, B4.trans h5⟩
  simp_all [mth_eq]
theorem u_Same (u v : Unt) (a b : UA) (w : World) (hU : UnR T w u a) (hV : UnR T w v b) : Ret Tryz.prog 27 #[.agg (ucells u a).toArray, .agg (ucells v b).toArray] w fun x w' => x = .bool (sameU u v) ∧ Bl w w' := by
  refine entr (vs := [.agg (ucells u a).toArray, .agg (ucells v b).toArray]) [0, 1, 2, 3, 4, 5, 6] tabok Tryz.func27 (by kernel_rfl) ?_
  refine bx (cs := ucells u a) fun b1 w1 h1 => ?_
  refine bx (cs := ucells v b) fun b2 w2 h2 => ?_
  have hx1 := Bl.box h2.bl h1.box
  have hx2 := h2.box
  have B := h1.bl.trans h2.bl
  refine ld (hx1.cell rfl) ?_
  refine ld (hx2.cell rfl) ?_
  refine ldg (fun _ => hx1.cell rfl) ?_
  refine ldg (fun _ => hx2.cell rfl) ?_
  refine sp (.bool false) (fun k1 => ?_) (fun k1 => ?_)
  rotate_left
  · refine ldg (fun _ => hx1.cell rfl) ?_
    refine ldg (fun _ => hx2.cell rfl) ?_
    refine spn (.bool false) ?_
    refine ldg (fun _ => hx1.cell rfl) ?_
    refine ldg (fun _ => hx2.cell rfl) ?_
    refine spn (.bool false) ?_
    refine ldg (fun _ => hx1.cell rfl) ?_
    refine ldg (fun _ => hx2.cell rfl) ?_
    refine spn (.bool false) ?_
    refine rt1 ⟨vb ?_, B⟩
    simp_all [sameU]
  refine cl (c_EqStr u.pool v.pool a.a1 b.a1 a.c1 b.c1 w2 (hU.bl B).pool (hV.bl B).pool) ?_
  rintro _ w3 ⟨rfl, h3⟩
  have B3 := B.trans h3
  replace hx1 := Bl.box h3 hx1
  replace hx2 := Bl.box h3 hx2
  refine ldg (fun _ => hx1.cell rfl) ?_
  refine ldg (fun _ => hx2.cell rfl) ?_
  refine sp (.bool false) (fun k2 => ?_) (fun k2 => ?_)
  rotate_left
  · refine ldg (fun _ => hx1.cell rfl) ?_
    refine ldg (fun _ => hx2.cell rfl) ?_
    refine spn (.bool false) ?_
    refine ldg (fun _ => hx1.cell rfl) ?_
    refine ldg (fun _ => hx2.cell rfl) ?_
    refine spn (.bool false) ?_
    refine rt1 ⟨vb ?_, B3⟩
    simp_all [sameU]
  refine cl (c_EqCls u.classes v.classes a.a2 b.a2 a.c2 b.c2 72 [] w3 (hU.bl B3).cls (hV.bl B3).cls (fun x y cs ds w' _ hc hd => u_Same1 x y cs ds w' hc hd)) ?_
  rintro _ w4 ⟨rfl, h4⟩
  have B4 := B3.trans h4
  replace hx1 := Bl.box h4 hx1
  replace hx2 := Bl.box h4 hx2
  refine ldg (fun _ => hx1.cell rfl) ?_
  refine ldg (fun _ => hx2.cell rfl) ?_
  refine sp (.bool false) (fun k3 => ?_) (fun k3 => ?_)
  rotate_left
  · refine ldg (fun _ => hx1.cell rfl) ?_
    refine ldg (fun _ => hx2.cell rfl) ?_
    refine spn (.bool false) ?_
    refine rt1 ⟨vb ?_, B4⟩
    simp_all [sameU]
  refine cl (c_EqFld u.statics v.statics a.a3 b.a3 a.c3 b.c3 w4 (hU.bl B4).sta (hV.bl B4).sta) ?_
  rintro _ w5 ⟨rfl, h5⟩
  have B5 := B4.trans h5
  replace hx1 := Bl.box h5 hx1
  replace hx2 := Bl.box h5 hx2
  refine ldg (fun _ => hx1.cell rfl) ?_
  refine ldg (fun _ => hx2.cell rfl) ?_
  refine sp (.bool false) (fun k4 => ?_) (fun k4 => ?_)
  rotate_left
  · refine rt1 ⟨vb ?_, B5⟩
    simp_all [sameU]
  refine cl (c_EqMth u.methods v.methods a.a4 b.a4 a.c4 b.c4 74 [] w5 (hU.bl B5).mth (hV.bl B5).mth (fun x y cs ds w' _ hc hd => u_Same2 x y cs ds w' hc hd)) ?_
  rintro _ w6 ⟨rfl, h6⟩
  refine rt1 ⟨vb ?_, B5.trans h6⟩
  simp_all [sameU]
end Go.Proofs.YtopjmiklpnejmaaGreatDoor
