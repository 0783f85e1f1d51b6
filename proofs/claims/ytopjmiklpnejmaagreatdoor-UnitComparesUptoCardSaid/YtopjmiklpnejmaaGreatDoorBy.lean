/- Walks: numbers as bytes, and check sums; the program's and the document's. -/
import Derived.Test.YtopjmiklpnejmaaGreatDoorRow
namespace Go.Proofs.YtopjmiklpnejmaaGreatDoor
open Eng Go.RowKit
def byteOf (n : Int) (k : Nat) : UInt8 := UInt8.ofNat ((n / 2 ^ k) % 256).toNat
def isWord (n : Int) : Bool := decide (-2147483648 ≤ n) && decide (n ≤ 2147483647)
/-- the bytes of a number, none if it is no word -/
def num (n : Int) : List UInt8 := if isWord n = true then [byteOf n 24, byteOf n 16, byteOf n 8, byteOf n 0] else []
theorem num_len (n : Int) : (num n).length ≤ 4 := by unfold num; split <;> simp
theorem num_word {n : Int} (h : isWord n = true) : (num n).length = 4 := by unfold num; rw [if_pos h]; rfl
theorem byteOf_nat (n : Int) (k : Nat) : ((byteOf n k).toNat : Int) = (n / 2 ^ k) % 256 := by
  unfold byteOf
  have h : 0 ≤ (n / 2 ^ k) % 256 ∧ (n / 2 ^ k) % 256 < 256 := by omega
  rw [UInt8.toNat_ofNat']
  omega
theorem fdiv_ediv {a : Int} {b : Int} (h : 0 ≤ b) : a.fdiv b = a / b := Int.fdiv_eq_ediv_of_nonneg _ h
theorem u8_wrap (a : Int) : IntKind.u8.wrap a = a % 256 := by simp [IntKind.wrap, IntKind.bits, IntKind.signed]
theorem u32_wrap (a : Int) : IntKind.u32.wrap a = a % 4294967296 := by simp [IntKind.wrap, IntKind.bits, IntKind.signed]
theorem i32_word {a : Int} (h : isWord a = true) : IntKind.i32.wrap a = a := by
  unfold isWord at h
  simp only [Bool.and_eq_true, decide_eq_true_eq] at h
  simp [IntKind.wrap, IntKind.bits, IntKind.signed]
  omega
theorem w_WValid (n : Int) (w : World) : Ret Tryz.prog 230 #[I n] w fun v w' => v = .bool (isWord n) ∧ w' = w := by
  refine entr (vs := [I n]) [0, 2] tabok Tryz.func230 (by kernel_rfl) ?_
  exact rt1 ⟨rfl, rfl⟩
theorem r_WValid (n : Int) (w : World) : Ret Tryz.prog 231 #[I n] w fun v w' => v = .bool (isWord n) ∧ w' = w := by
  refine entr (vs := [I n]) [0, 2] tabok Tryz.func231 (by kernel_rfl) ?_
  exact rt1 ⟨rfl, rfl⟩
theorem w_words1 (n : Int) (b : Nat) (w : World) (hb : At w b 0 [I n]) : Ret Tryz.prog 207 #[.slice (some ⟨b, 0, none⟩) 1 1] w fun v w' => v = .bool (isWord n) ∧ w' = w := by
  refine entr (vs := [.slice (some ⟨b, 0, none⟩) 1 1]) [0, 2, 4, 5, 6, 7, 8, 13] tabok Tryz.func207 (by kernel_rfl) ?_
  refine lpk 1 7 [] [(5, .slice (some ⟨b, 0, none⟩) 1 1), (6, I 1)] (fun k vals w' => vals = [] ∧ (k = 0 ∨ isWord n = true) ∧ w = w') ⟨rfl, .inl rfl, rfl⟩ ?_
  rintro k vals _ hk ⟨rfl, h0, rfl⟩ ih
  by_cases hlt : k < 1
  · obtain rfl : k = 0 := by omega
    refine brT ?_
    refine ix ?_
    refine ld (o := 0 + 0 * 1) (v := I n) (hb.one) ?_
    refine cl (w_WValid n _) ?_
    rintro _ _ ⟨rfl, rfl⟩
    refine br (t := !isWord n) (fun h => ?_) (fun h => ?_)
    · refine rt1 ⟨vb ?_, rfl⟩
      symm; simpa using h
    · exact ih hlt ⟨rfl, .inr (by simpa using h), rfl⟩
  · refine brF ?_
    refine rt1 ⟨vb ?_, rfl⟩
    rcases h0 with h | h
    · omega
    · exact h.symm
theorem bytes_src {w : World} {b : Nat} {l : List UInt8} (h : At w b 0 (bC l)) : Eng.Src w (some ⟨b, 0, none⟩) l.length (bC l) := .inr ⟨b, 0, rfl, h⟩
theorem u_Bytes (n : Int) (w : World) : Ret Tryz.prog 160 #[I n] w fun v w' => ∃ ab cb e, v = .tuple #[.slice ab (num n).length cb, I e] ∧ Eng.Src w' ab (num n).length (bC (num n)) ∧ Bl w w' := by
  refine entr (vs := [I n]) [0, 2, 3, 4, 8] tabok Tryz.func160 (by kernel_rfl) ?_
  refine bs fun b1 w1 h1 => ?_
  refine cl (w_words1 n b1 w1 h1.box.at) ?_
  rintro _ _ ⟨rfl, rfl⟩
  refine br (t := !isWord n) (fun h => ?_) (fun h => ?_)
  · have hw : isWord n = false := by simpa using h
    have e : num n = [] := by unfold num; rw [hw]; rfl
    rw [e]
    exact rt2 ⟨none, 0, 1, rfl, .inl ⟨rfl, rfl⟩, h1.bl⟩
  have hw : isWord n = true := by simpa using h
  have hr : -2147483648 ≤ n ∧ n ≤ 2147483647 := by unfold isWord at hw; simpa using hw
  refine cv (ks := .i64) (kb := .i32) (by kernel_rfl) (by kernel_rfl) ?_
  rw [i32_word hw]
  refine cv (ks := .i32) (kb := .u32) (by kernel_rfl) (by kernel_rfl) ?_
  rw [u32_wrap]
  refine iop (shr_run (k := .u32) (n := 24) (by decide)) ?_
  refine cv (ks := .u32) (kb := .u8) (by kernel_rfl) (by kernel_rfl) ?_
  refine iop (shr_run (k := .u32) (n := 16) (by decide)) ?_
  refine cv (ks := .u32) (kb := .u8) (by kernel_rfl) (by kernel_rfl) ?_
  refine iop (shr_run (k := .u32) (n := 8) (by decide)) ?_
  refine cv (ks := .u32) (kb := .u8) (by kernel_rfl) (by kernel_rfl) ?_
  refine cv (ks := .u32) (kb := .u8) (by kernel_rfl) (by kernel_rfl) ?_
  refine bs fun b2 w2 h2 => ?_
  have e : num n = [byteOf n 24, byteOf n 16, byteOf n 8, byteOf n 0] := by unfold num; rw [if_pos hw]
  have hc : ∀ k : Nat, k = 24 ∨ k = 16 ∨ k = 8 ∨ k = 0 → IntKind.u8.wrap ((n % 4294967296).fdiv (2 ^ k)) = ((byteOf n k).toNat : Int) := fun k hk => by
    rw [byteOf_nat, u8_wrap, fdiv_ediv (by rcases hk with rfl | rfl | rfl | rfl <;> decide)]
    rcases hk with rfl | rfl | rfl | rfl <;> omega
  refine rt2 ⟨some ⟨b2, 0, none⟩, 4, 0, by rw [e], ?_, h1.bl.trans h2.bl⟩
  rw [e]
  refine bytes_src (l := [byteOf n 24, byteOf n 16, byteOf n 8, byteOf n 0]) ?_
  have h3 := h2.box.at
  have h0 := hc 0 (by simp)
  rw [fdiv_ediv (by decide), show (2 : Int) ^ 0 = 1 from rfl, Int.ediv_one] at h0
  rw [hc 24 (by simp), hc 16 (by simp), hc 8 (by simp), h0] at h3
  exact h3
theorem r_residue (n : Int) (w : World) (hw : isWord n = true) : Ret Tryz.prog 232 #[I n] w fun v w' => v = I (n % 4294967296) ∧ w' = w := by
  have hr : -2147483648 ≤ n ∧ n ≤ 2147483647 := by unfold isWord at hw; simpa using hw
  refine entr (vs := [I n]) [0, 2, 3, 7] tabok Tryz.func232 (by kernel_rfl) ?_
  refine iop (rem_run (b := 4294967296) (by decide)) ?_
  have ht : n.tmod 4294967296 = n := by
    rcases Int.le_total 0 n with h | h
    · rw [Int.tmod_eq_emod_of_nonneg h]; omega
    · have : (-n).tmod 4294967296 = -n := by rw [Int.tmod_eq_emod_of_nonneg (by omega)]; omega
      rw [Int.neg_tmod] at this; omega
  rw [ht]
  by_cases h : n < 0
  · refine brT ?_
    refine rt1 ⟨vi ?_, rfl⟩
    rw [wrap_fit (by omega) (by omega)]; omega
  · refine brF ?_
    refine rt1 ⟨vi ?_, rfl⟩
    omega
theorem r_Bytes (n : Int) (w : World) : Ret Tryz.prog 208 #[I n] w fun v w' => ∃ ab cb e, v = .tuple #[.slice ab (num n).length cb, I e] ∧ Eng.Src w' ab (num n).length (bC (num n)) ∧ Bl w w' := by
  refine entr (vs := [I n]) [0, 2, 3, 4, 7] tabok Tryz.func208 (by kernel_rfl) ?_
  refine cl (r_WValid n w) ?_
  rintro _ _ ⟨rfl, rfl⟩
  refine br (t := !isWord n) (fun h => ?_) (fun h => ?_)
  · have hw : isWord n = false := by simpa using h
    have e : num n = [] := by unfold num; rw [hw]; rfl
    rw [e]
    exact rt2 ⟨none, 0, 1, rfl, .inl ⟨rfl, rfl⟩, Bl.refl _⟩
  have hw : isWord n = true := by simpa using h
  have hr : -2147483648 ≤ n ∧ n ≤ 2147483647 := by unfold isWord at hw; simpa using hw
  refine cl (r_residue n _ hw) ?_
  rintro _ w1 ⟨rfl, rfl⟩
  have hm : 0 ≤ n % 4294967296 ∧ n % 4294967296 < 4294967296 := by omega
  refine iop (quo_run (b := 16777216) (by decide)) ?_
  refine cv (ks := .i64) (kb := .u8) (by kernel_rfl) (by kernel_rfl) ?_
  refine iop (quo_run (b := 65536) (by decide)) ?_
  refine iop (rem_run (b := 256) (by decide)) ?_
  refine cv (ks := .i64) (kb := .u8) (by kernel_rfl) (by kernel_rfl) ?_
  refine iop (quo_run (b := 256) (by decide)) ?_
  refine iop (rem_run (b := 256) (by decide)) ?_
  refine cv (ks := .i64) (kb := .u8) (by kernel_rfl) (by kernel_rfl) ?_
  refine iop (rem_run (b := 256) (by decide)) ?_
  refine cv (ks := .i64) (kb := .u8) (by kernel_rfl) (by kernel_rfl) ?_
  refine bs fun b2 w2 h2 => ?_
  have e : num n = [byteOf n 24, byteOf n 16, byteOf n 8, byteOf n 0] := by unfold num; rw [if_pos hw]
  have q : ∀ d : Int, 0 < d → IntKind.i64.wrap ((n % 4294967296).tdiv d) = n % 4294967296 / d := fun d hd => by
    rw [Int.tdiv_eq_ediv_of_nonneg hm.1]
    have h1 : 0 ≤ n % 4294967296 / d := Int.ediv_nonneg hm.1 (by omega)
    have h2 : n % 4294967296 / d ≤ n % 4294967296 := Int.ediv_le_self _ hm.1
    exact wrap_fit (by omega) (by omega)
  have r : ∀ x : Int, 0 ≤ x → x.tmod 256 = x % 256 := fun x hx => Int.tmod_eq_emod_of_nonneg hx
  have c24 : IntKind.u8.wrap (IntKind.i64.wrap ((n % 4294967296).tdiv 16777216)) = ((byteOf n 24).toNat : Int) := by rw [q _ (by decide), byteOf_nat, u8_wrap]; omega
  have c16 : IntKind.u8.wrap ((IntKind.i64.wrap ((n % 4294967296).tdiv 65536)).tmod 256) = ((byteOf n 16).toNat : Int) := by rw [q _ (by decide), r _ (by omega), byteOf_nat, u8_wrap]; omega
  have c8 : IntKind.u8.wrap ((IntKind.i64.wrap ((n % 4294967296).tdiv 256)).tmod 256) = ((byteOf n 8).toNat : Int) := by rw [q _ (by decide), r _ (by omega), byteOf_nat, u8_wrap]; omega
  have c0 : IntKind.u8.wrap ((n % 4294967296).tmod 256) = ((byteOf n 0).toNat : Int) := by rw [r _ hm.1, byteOf_nat, u8_wrap]; omega
  refine rt2 ⟨some ⟨b2, 0, none⟩, 4, 0, by rw [e], ?_, h2.bl⟩
  rw [e]
  refine bytes_src (l := [byteOf n 24, byteOf n 16, byteOf n 8, byteOf n 0]) ?_
  have h3 := h2.box.at
  rw [c24, c16, c8, c0] at h3
  exact h3
end Go.Proofs.YtopjmiklpnejmaaGreatDoor
/- Walks: check sums. -/
namespace Go.Proofs.YtopjmiklpnejmaaGreatDoor
open Eng Go.RowKit
def sumN (s : Int) (c : UInt8) : Int := (s * 257 + (c.toNat : Int) + 1) % 65521
def sumB (l : List UInt8) : Int := l.foldl sumN 0
theorem sumN_range (s : Int) (c : UInt8) : 0 ≤ sumN s c ∧ sumN s c < 65521 := by unfold sumN; omega
theorem sumB_snoc {l : List UInt8} {k : Nat} {x : UInt8} (h : l[k]? = some x) : sumB (l.take (k + 1)) = sumN (sumB (l.take k)) x := by rw [take_succ_some h]; simp [sumB]
theorem sumB_range (l : List UInt8) : 0 ≤ sumB l ∧ sumB l < 65521 := by
  unfold sumB
  rcases List.eq_nil_or_concat l with rfl | ⟨l', x, rfl⟩
  · simp
  · rw [List.concat_eq_append, List.foldl_append]; exact sumN_range _ _
theorem sum_step {s : Int} (h : 0 ≤ s ∧ s < 65521) (c : UInt8) : (IntKind.i64.wrap (IntKind.i64.wrap (IntKind.i64.wrap (s * 257) + IntKind.i64.wrap (c.toNat : Int)) + 1)).tmod 65521 = sumN s c := by
  have hc : c.toNat < 256 := c.toNat_lt
  rw [wrap_fit (a := (c.toNat : Int)) (by omega) (by omega), wrap_fit (a := s * 257) (by omega) (by omega), wrap_fit (a := s * 257 + (c.toNat : Int)) (by omega) (by omega), wrap_fit (by omega) (by omega), Int.tmod_eq_emod_of_nonneg (by omega)]; rfl
theorem bC_cell {w : World} {g : Nat} {bs : List UInt8} (h : At w g 0 (bC bs)) {k : Nat} {x : UInt8} (hx : bs[k]? = some x) : w.cell? ⟨g, 0 + k * 1, none⟩ = some (.int .u8 (x.toNat : Int)) := by
  have := h (k * 1 + 0) (.int .u8 (x.toNat : Int)) (by rw [flat_get (sz := 1) (fun _ => rfl) hx 0 (by decide)]; rfl)
  simpa using this
theorem u_Sum (bs : List UInt8) (g cap : Nat) (w : World) (hat : At w g 0 (bC bs)) (hn : bs.length ≤ 1099511627776) : Ret Tryz.prog 101 #[I 0, .slice (some ⟨g, 0, none⟩) bs.length cap] w fun v w' => v = I (sumB bs) ∧ w' = w := by
  refine entr (vs := [I 0, .slice (some ⟨g, 0, none⟩) bs.length cap]) [0, 1, 4, 5, 7, 12, 13, 14, 15] tabok Tryz.func101 (by kernel_rfl) ?_
  refine iop (rem_run (b := 65521) (by decide)) ?_
  refine iop (rem_run (b := 65521) (by decide)) ?_
  refine lpk bs.length 14 [5] [(12, .slice (some ⟨g, 0, none⟩) bs.length cap), (13, I bs.length)] (fun k vals w' => vals = [I (sumB (bs.take k))] ∧ w = w') ⟨rfl, rfl⟩ ?_
  rintro k vals _ hk ⟨rfl, rfl⟩ ih
  by_cases hlt : k < bs.length
  · refine brT ?_
    obtain ⟨x, hx⟩ := some_of_lt hlt
    refine ix ?_
    refine ld (bC_cell hat hx) ?_
    refine cv (ks := .u8) (kb := .i64) (by kernel_rfl) (by kernel_rfl) ?_
    refine iop (rem_run (b := 65521) (by decide)) ?_
    refine ih hlt ⟨lst1 (vi ?_), rfl⟩
    rw [sumB_snoc hx]
    exact sum_step (sumB_range _) x
  · refine brF ?_
    obtain rfl : k = bs.length := by omega
    rw [List.take_length]
    exact rt1 ⟨rfl, rfl⟩
theorem r_Sum (bs : List UInt8) (g cap : Nat) (w : World) (hat : At w g 0 (bC bs)) (hn : bs.length ≤ 1099511627776) : Ret Tryz.prog 155 #[I 0, .slice (some ⟨g, 0, none⟩) bs.length cap] w fun v w' => v = I (sumB bs) ∧ w' = w := by
  refine entr (vs := [I 0, .slice (some ⟨g, 0, none⟩) bs.length cap]) [0, 1, 4, 5, 6, 10, 16] tabok Tryz.func155 (by kernel_rfl) ?_
  refine iop (rem_run (b := 65521) (by decide)) ?_
  refine brF ?_ (hp := by decide)
  refine lpk bs.length 6 [5] [(1, .slice (some ⟨g, 0, none⟩) bs.length cap)] (fun k vals w' => vals = [I (sumB (bs.take k))] ∧ w = w') ⟨rfl, rfl⟩ ?_
  rintro k vals _ hk ⟨rfl, rfl⟩ ih
  by_cases hlt : k < bs.length
  · refine brT ?_
    obtain ⟨x, hx⟩ := some_of_lt hlt
    refine ix ?_
    refine ld (bC_cell hat hx) ?_
    refine cv (ks := .u8) (kb := .i64) (by kernel_rfl) (by kernel_rfl) ?_
    refine iop (rem_run (b := 65521) (by decide)) ?_
    refine ih hlt ⟨lst1 (vi ?_), rfl⟩
    rw [sumB_snoc hx]
    exact sum_step (sumB_range _) x
  · refine brF ?_
    obtain rfl : k = bs.length := by omega
    rw [List.take_length]
    exact rt1 ⟨rfl, rfl⟩
end Go.Proofs.YtopjmiklpnejmaaGreatDoor
/- Walks: the program's writer. Printed by wip/tools/mkput.py. -/
namespace Go.Proofs.YtopjmiklpnejmaaGreatDoor
open Eng Go.RowKit
def oTy (t : Ty) : List UInt8 := num t.kind ++ num t.cls
def oFld (f : Fld) : List UInt8 := num f.name ++ oTy f.ty
def oList {α : Type} (out : α → List UInt8) (l : List α) : List UInt8 := num l.length ++ l.flatMap out
def oCls (c : Cls) : List UInt8 := num c.name ++ num c.super ++ oList oFld c.fields
def oIns (i : Ins) : List UInt8 := num i.op ++ num i.a ++ num i.b
def oMth (m : Mth) : List UInt8 := num m.name ++ num m.cls ++ oList oTy m.params ++ oList oTy m.locals ++ oTy m.result ++ oList oIns m.code
def oTxt (s : ByteArray) : List UInt8 := num s.size ++ toL s
/-- the writer's state: its one cell holds the row of what has been written -/
structure WS (B wb : Nat) (a : Option Addr) (cap : Nat) (bs : List UInt8) (w : World) : Prop where
  box : Box w wb 119 [.slice a bs.length cap]
  row : RowS w B a cap bs
  ne : a ≠ some ⟨wb, 0, none⟩
  hB : B ≤ wb
theorem WS.bl {B wb : Nat} {a : Option Addr} {cap : Nat} {bs : List UInt8} {w w' : World} (h : WS B wb a cap bs w) (k : Bl w w') : WS B wb a cap bs w' := ⟨Bl.box k h.box, h.row.bl k, h.ne, h.hB⟩
theorem WS.size {B wb : Nat} {a : Option Addr} {cap : Nat} {bs : List UInt8} {w : World} (h : WS B wb a cap bs w) : B ≤ w.heap.size := by have := h.box.lt; have := h.hB; omega
abbrev WX (wb : Nat) : Nat → Prop := fun i => i = wb
theorem WS.below {B wb : Nat} {a a' : Option Addr} {cap : Nat} {bs : List UInt8} {w w' : World} (h : WS B wb a cap bs w) (k : Stp (WX wb) a w a' w') : Below B w w' :=
  k.below (Below.refl _ _) (fun i e => by have := h.hB; rw [e]; exact this) (fun g hg => (h.row.lt hg).1) h.size
/-- bytes are appended and stored -/
theorem WS.step {B wb : Nat} {a a' : Option Addr} {cap cap' : Nat} {bs l : List UInt8} {w w1 w2 : World} (h : WS B wb a cap bs w) (hR : RowS w1 B a' cap' (bs ++ l)) (hA : Ap w a w1) (hf : ∀ g, a' = some ⟨g, 0, none⟩ → a = some ⟨g, 0, none⟩ ∨ w.heap.size ≤ g) (hW : Wr w1 wb w2) (hb : Box w2 wb 119 [.slice a' (bs ++ l).length cap']) :
    WS B wb a' cap' (bs ++ l) w2 ∧ Stp (WX wb) a w a' w2 := by
  have hne : a' ≠ some ⟨wb, 0, none⟩ := fun e => by
    rcases hf wb e with e2 | e2
    · exact h.ne e2
    · have := h.box.lt; omega
  exact ⟨⟨hb, hR.wr hW hne, hne, h.hB⟩, (Stp.ap hA hf).trans (Stp.wr hW rfl)⟩
abbrev MX : Nat := 1099511627776
theorem flatMap_take_len {α : Type} (f : α → List UInt8) (l : List α) (k : Nat) : ((l.take k).flatMap f).length ≤ (l.flatMap f).length := by
  conv => rhs; rw [← List.take_append_drop k l, List.flatMap_append, List.length_append]
  omega
theorem wr_number (l : List Int) (b wb B : Nat) (a : Option Addr) (cap : Nat) (bs : List UInt8) (w : World) (hW : WS B wb a cap bs w) (hl : At w b 0 (l.flatMap encInt)) (hb : b ≠ wb) (hba : a ≠ some ⟨b, 0, none⟩) (_hbl : b < w.heap.size) (hll : l.length ≤ 1048576) (hn : (bs ++ l.flatMap num).length ≤ MX) :
    Ret Tryz.prog 111 #[.pointer (some ⟨wb, 0, none⟩), .slice (some ⟨b, 0, none⟩) l.length l.length] w fun _ w' => ∃ a' cap', WS B wb a' cap' (bs ++ l.flatMap num) w' ∧ Stp (WX wb) a w a' w' := by
  refine entr (vs := [.pointer (some ⟨wb, 0, none⟩), .slice (some ⟨b, 0, none⟩) l.length l.length]) [0, 1, 5, 6, 8, 9, 10, 11] tabok Tryz.func111 (by kernel_rfl) ?_
  refine lpk l.length 10 [] [(0, .pointer (some ⟨wb, 0, none⟩)), (8, .slice (some ⟨b, 0, none⟩) l.length l.length), (9, I l.length)] (fun k vals w' => vals = [] ∧ ∃ a' cap', WS B wb a' cap' (bs ++ (l.take k).flatMap num) w' ∧ Stp (WX wb) a w a' w') ⟨rfl, a, cap, by simpa using hW, Stp.refl⟩ ?_
  rintro k vals w1 hk ⟨rfl, a1, c1, hW1, hT1⟩ ih
  by_cases hlt : k < l.length
  · refine brT ?_
    obtain ⟨n, hnk⟩ := some_of_lt hlt
    have hcell : w1.cell? ⟨b, 0 + k * 1, none⟩ = some (I n) := hT1.kp _ _ _ ⟨fun e => hb e, hba⟩ (by
      have := hl (k * 1 + 0) (I n) (by rw [flat_get (sz := 1) (fun _ => rfl) hnk 0 (by decide)]; rfl)
      simpa using this)
    refine ix ?_
    refine ld hcell ?_
    refine cl (u_Bytes n w1) ?_
    rintro _ w2 ⟨ab, cb, e, rfl, hs, hB2⟩
    have hW2 := hW1.bl hB2
    refine ld (hW2.box.cell rfl) ?_
    have hlen : (bs ++ (l.take k).flatMap num).length + (num n).length ≤ MX := by
      have e1 : ((l.take (k + 1)).flatMap num).length = ((l.take k).flatMap num).length + (num n).length := by rw [flatMap_snoc hnk, List.length_append]
      have := flatMap_take_len num l (k + 1)
      rw [List.length_append] at hn ⊢
      omega
    refine apb hW2.row hs hW2.size (fun a3 c3 w3 hR3 hA3 hf3 => ?_) (hb := hlen)
    refine st (hA3.box hW2.box hW2.ne) (fun w4 h4 y4 => ?_)
    obtain ⟨hW4, hT4⟩ := hW2.step hR3 hA3 hf3 h4 y4
    refine ih hlt ⟨rfl, a3, c3, ?_, (hT1.trans (Stp.bl hB2)).trans hT4⟩
    rw [flatMap_snoc hnk, ← List.append_assoc]; exact hW4
  · refine brF ?_
    obtain rfl : k = l.length := by omega
    rw [List.take_length] at hW1
    exact en (vs := []) ⟨a1, c1, hW1, hT1⟩
/-- numbers that lie in a row that was made for them -/
theorem wr_nums (l : List Int) {b wb B : Nat} {a : Option Addr} {cap : Nat} {bs : List UInt8} {w0 w : World} (hW : WS B wb a cap bs w0) (hn : New w0 b 3 (l.flatMap encInt) w) (hll : l.length ≤ 1048576) (hm : (bs ++ l.flatMap num).length ≤ MX) :
    Ret Tryz.prog 111 #[.pointer (some ⟨wb, 0, none⟩), .slice (some ⟨b, 0, none⟩) l.length l.length] w fun _ w' => ∃ a' cap', WS B wb a' cap' (bs ++ l.flatMap num) w' ∧ Stp (WX wb) a w0 a' w' := by
  have hb := hn.blk
  refine (wr_number l b wb B a cap bs w (hW.bl hn.bl) hn.box.at (by have := hW.box.lt; omega) (fun e => by have := (hW.row.lt e).2; omega) hn.box.lt hll hm).mono ?_
  rintro v w' ⟨a', cap', h1, h2⟩
  exact ⟨a', cap', h1, (Stp.bl hn.bl).trans h2⟩
theorem wr_text (s : ByteArray) (wb B : Nat) (a : Option Addr) (cap : Nat) (bs : List UInt8) (w : World) (hW : WS B wb a cap bs w) (hs : s.size ≤ 1048576) (hn : (bs ++ oTxt s).length ≤ MX) :
    Ret Tryz.prog 103 #[.pointer (some ⟨wb, 0, none⟩), .string s] w fun _ w' => ∃ a' cap', WS B wb a' cap' (bs ++ oTxt s) w' ∧ Stp (WX wb) a w a' w' := by
  have hw : isWord (s.size : Int) = true := by unfold isWord; simp; omega
  have h4 := num_word hw
  have hl : (toL s).length = s.size := ba_len s
  have e1 : [(s.size : Int)].flatMap num = num s.size := by simp
  have e2 : (bs ++ oTxt s).length = bs.length + 4 + s.size := by unfold oTxt; rw [List.length_append, List.length_append, h4, hl]; omega
  have hn' : bs.length + 4 + s.size ≤ 1099511627776 := by rw [e2] at hn; exact hn
  refine entr (vs := [.pointer (some ⟨wb, 0, none⟩), .string s]) [0, 1] tabok Tryz.func103 (by kernel_rfl) ?_
  refine Eng.bs fun b1 w1 h1 => ?_
  refine cl (wr_nums [(s.size : Int)] hW h1 (by simp) (by rw [e1, List.length_append, h4]; omega)) ?_
  rintro v w2 ⟨a2, c2, hW2, hT2⟩
  rw [e1] at hW2
  refine ld (hW2.box.cell rfl) ?_
  refine aps hW2.row (fun e => by have := congrArg List.length e; rw [List.length_append, h4] at this; simp at this) hW2.size (fun a3 c3 w3 hR3 hA3 hf3 => ?_) (hb := by rw [List.length_append, h4]; omega)
  refine st (hA3.box hW2.box hW2.ne) (fun w4 h4 y4 => ?_)
  obtain ⟨hW4, hT4⟩ := hW2.step hR3 hA3 hf3 h4 y4
  refine en (vs := []) ⟨a3, c3, ?_, hT2.trans hT4⟩
  unfold oTxt; rw [← List.append_assoc]; exact hW4
theorem asV_agg {cs : List Value} {n : Nat} (h : cs.length = n) (hn : 2 ≤ n) : asV cs = .agg cs.toArray := by
  match cs, h with
  | [], h => simp at h; omega
  | [_], h => simp at h; omega
  | _ :: _ :: _, _ => rfl
theorem rel_one_cls {S : Nat → Prop} {w : World} {cs : List Value} {x : Cls} (h : eCls.rel S w cs x) : cs.all Value.oneCell' = true := by obtain ⟨_, _, rfl, _⟩ := h; rfl
theorem rel_one_fld {S : Nat → Prop} {w : World} {cs : List Value} {x : Fld} (h : eFld.rel S w cs x) : cs.all Value.oneCell' = true := by obtain rfl : cs = encFld x := h; rfl
theorem rel_one_mth {S : Nat → Prop} {w : World} {cs : List Value} {x : Mth} (h : eMth.rel S w cs x) : cs.all Value.oneCell' = true := by obtain ⟨_, _, _, _, _, _, rfl, _⟩ := h; rfl
theorem rel_one_ty {S : Nat → Prop} {w : World} {cs : List Value} {x : Ty} (h : eTy.rel S w cs x) : cs.all Value.oneCell' = true := by obtain rfl : cs = encTy x := h; rfl
theorem rel_one_ins {S : Nat → Prop} {w : World} {cs : List Value} {x : Ins} (h : eIns.rel S w cs x) : cs.all Value.oneCell' = true := by obtain rfl : cs = encIns x := h; rfl
theorem put_str (out : ByteArray → List UInt8) (l : List ByteArray) (aL : Option Addr) (cL : Nat) (g : FuncId) (first caps : List Value) (wb B : Nat) (P : Option Addr → World → Prop) (hP : ∀ a w a' w', P a w → Stp (WX wb) a w a' w' → P a' w')
    (hone : ∀ x cs a cap bs w, x ∈ l → P a w → WS B wb a cap bs w → (eStr).rel (· < B) w cs x → (bs ++ out x).length ≤ MX → Ret Tryz.prog g (first ++ ([asV cs] ++ caps)).toArray w fun _ w' => ∃ a' cap', WS B wb a' cap' (bs ++ out x) w' ∧ Stp (WX wb) a w a' w')
    (a : Option Addr) (cap : Nat) (bs : List UInt8) (w : World) (hW : WS B wb a cap bs w) (hPw : P a w) (hS : Sl eStr (· < B) w aL l) (hM : (bs ++ oList out l).length ≤ MX) :
    Ret Tryz.prog 104 #[.pointer (some ⟨wb, 0, none⟩), .slice aL l.length cL, .func (.func g) first.toArray caps.toArray] w fun _ w' => ∃ a' cap', WS B wb a' cap' (bs ++ oList out l) w' ∧ Stp (WX wb) a w a' w' := by
  have hbig := hS.big
  have hw : isWord (l.length : Int) = true := by unfold isWord; simp; omega
  have h4 := num_word hw
  have e1 : [(l.length : Int)].flatMap num = num l.length := by simp
  have e2 : (bs ++ oList out l).length = bs.length + 4 + (l.flatMap out).length := by unfold oList; rw [List.length_append, List.length_append, h4]; omega
  refine entr (vs := [.pointer (some ⟨wb, 0, none⟩), .slice aL l.length cL, .func (.func g) first.toArray caps.toArray]) [0, 1, 2, 7, 13, 14, 15, 16] tabok Tryz.func104 (by kernel_rfl) ?_
  refine Eng.bs fun b1 w1 h1 => ?_
  refine cl (wr_nums [(l.length : Int)] hW h1 (by simp) (by rw [e1, List.length_append, h4]; omega)) ?_
  rintro v w2 ⟨a2, c2, hW2, hT2⟩
  rw [e1] at hW2
  refine lpk l.length 15 [] [(2, .func (.func g) first.toArray caps.toArray), (13, .slice aL l.length cL), (14, I l.length)] (fun k vals w' => vals = [] ∧ ∃ a' cap', WS B wb a' cap' (bs ++ num l.length ++ (l.take k).flatMap out) w' ∧ Stp (WX wb) a w a' w') ⟨rfl, a2, c2, by simpa using hW2, hT2⟩ ?_
  rintro k vals w3 hk ⟨rfl, a3, c3, hW3, hT3⟩ ih
  by_cases hlt : k < l.length
  · refine brT ?_
    obtain ⟨x, b, o, cs, hx, rfl, hSb, hAt, hrel⟩ := at_some (hS.kp (Below.kp (hW.below hT3))) hlt
    have hlen : (bs ++ num l.length ++ (l.take k).flatMap out ++ out x).length ≤ MX := by
      have e3 : ((l.take (k + 1)).flatMap out).length = ((l.take k).flatMap out).length + (out x).length := by rw [flatMap_snoc hx, List.length_append]
      have := flatMap_take_len out l (k + 1)
      rw [List.length_append, List.length_append, List.length_append, h4]
      omega
    refine ix ?_
    obtain rfl : cs = [.string x] := hrel
    refine ld (hAt 0 _ rfl) ?_
    refine cl (hone x [.string x] a3 c3 _ w3 (List.mem_of_getElem? hx) (hP _ _ _ _ hPw hT3) hW3 rfl hlen) ?_
    rintro v5 w5 ⟨a5, c5, hW5, hT5⟩
    refine ih hlt ⟨rfl, a5, c5, ?_, hT3.trans hT5⟩
    rw [flatMap_snoc hx, ← List.append_assoc]; exact hW5
  · refine brF ?_
    obtain rfl : k = l.length := by omega
    rw [List.take_length] at hW3
    exact en (vs := []) ⟨a3, c3, by unfold oList; rw [← List.append_assoc]; exact hW3, hT3⟩
theorem put_cls (out : Cls → List UInt8) (l : List Cls) (aL : Option Addr) (cL : Nat) (g : FuncId) (first caps : List Value) (wb B : Nat) (P : Option Addr → World → Prop) (hP : ∀ a w a' w', P a w → Stp (WX wb) a w a' w' → P a' w')
    (hone : ∀ x cs a cap bs w, x ∈ l → P a w → WS B wb a cap bs w → (eCls).rel (· < B) w cs x → (bs ++ out x).length ≤ MX → Ret Tryz.prog g (first ++ ([asV cs] ++ caps)).toArray w fun _ w' => ∃ a' cap', WS B wb a' cap' (bs ++ out x) w' ∧ Stp (WX wb) a w a' w')
    (a : Option Addr) (cap : Nat) (bs : List UInt8) (w : World) (hW : WS B wb a cap bs w) (hPw : P a w) (hS : Sl eCls (· < B) w aL l) (hM : (bs ++ oList out l).length ≤ MX) :
    Ret Tryz.prog 105 #[.pointer (some ⟨wb, 0, none⟩), .slice aL l.length cL, .func (.func g) first.toArray caps.toArray] w fun _ w' => ∃ a' cap', WS B wb a' cap' (bs ++ oList out l) w' ∧ Stp (WX wb) a w a' w' := by
  have hbig := hS.big
  have hw : isWord (l.length : Int) = true := by unfold isWord; simp; omega
  have h4 := num_word hw
  have e1 : [(l.length : Int)].flatMap num = num l.length := by simp
  have e2 : (bs ++ oList out l).length = bs.length + 4 + (l.flatMap out).length := by unfold oList; rw [List.length_append, List.length_append, h4]; omega
  refine entr (vs := [.pointer (some ⟨wb, 0, none⟩), .slice aL l.length cL, .func (.func g) first.toArray caps.toArray]) [0, 1, 2, 7, 13, 14, 15, 16] tabok Tryz.func105 (by kernel_rfl) ?_
  refine Eng.bs fun b1 w1 h1 => ?_
  refine cl (wr_nums [(l.length : Int)] hW h1 (by simp) (by rw [e1, List.length_append, h4]; omega)) ?_
  rintro v w2 ⟨a2, c2, hW2, hT2⟩
  rw [e1] at hW2
  refine lpk l.length 15 [] [(2, .func (.func g) first.toArray caps.toArray), (13, .slice aL l.length cL), (14, I l.length)] (fun k vals w' => vals = [] ∧ ∃ a' cap', WS B wb a' cap' (bs ++ num l.length ++ (l.take k).flatMap out) w' ∧ Stp (WX wb) a w a' w') ⟨rfl, a2, c2, by simpa using hW2, hT2⟩ ?_
  rintro k vals w3 hk ⟨rfl, a3, c3, hW3, hT3⟩ ih
  by_cases hlt : k < l.length
  · refine brT ?_
    obtain ⟨x, b, o, cs, hx, rfl, hSb, hAt, hrel⟩ := at_some (hS.kp (Below.kp (hW.below hT3))) hlt
    have hlen : (bs ++ num l.length ++ (l.take k).flatMap out ++ out x).length ≤ MX := by
      have e3 : ((l.take (k + 1)).flatMap out).length = ((l.take k).flatMap out).length + (out x).length := by rw [flatMap_snoc hx, List.length_append]
      have := flatMap_take_len out l (k + 1)
      rw [List.length_append, List.length_append, List.length_append, h4]
      omega
    refine ix ?_
    have hcl := (eCls).len hrel
    refine lda hAt ?_ (hl := hcl)
    refine al fun b4 w4 h4' => ?_
    refine stw h4'.box hcl rfl (rel_one_cls hrel) (fun w6 h6 y6 => ?_)
    have hB4 : Bl w3 w6 := Eng.New.wr h4' h6
    refine lda y6.at ?_ (hl := hcl)
    refine cl (hone x cs a3 c3 _ w6 (List.mem_of_getElem? hx) (hP _ _ _ _ hPw (hT3.trans (Stp.bl hB4))) (hW3.bl hB4) ((eCls).kp (hB4.kp _) hrel) hlen) ?_ (hav := by rw [asV_agg hcl (by decide)])
    rintro v5 w5 ⟨a5, c5, hW5, hT5⟩
    refine ih hlt ⟨rfl, a5, c5, ?_, (hT3.trans (Stp.bl hB4)).trans hT5⟩
    rw [flatMap_snoc hx, ← List.append_assoc]; exact hW5
  · refine brF ?_
    obtain rfl : k = l.length := by omega
    rw [List.take_length] at hW3
    exact en (vs := []) ⟨a3, c3, by unfold oList; rw [← List.append_assoc]; exact hW3, hT3⟩
theorem put_fld (out : Fld → List UInt8) (l : List Fld) (aL : Option Addr) (cL : Nat) (g : FuncId) (first caps : List Value) (wb B : Nat) (P : Option Addr → World → Prop) (hP : ∀ a w a' w', P a w → Stp (WX wb) a w a' w' → P a' w')
    (hone : ∀ x cs a cap bs w, x ∈ l → P a w → WS B wb a cap bs w → (eFld).rel (· < B) w cs x → (bs ++ out x).length ≤ MX → Ret Tryz.prog g (first ++ ([asV cs] ++ caps)).toArray w fun _ w' => ∃ a' cap', WS B wb a' cap' (bs ++ out x) w' ∧ Stp (WX wb) a w a' w')
    (a : Option Addr) (cap : Nat) (bs : List UInt8) (w : World) (hW : WS B wb a cap bs w) (hPw : P a w) (hS : Sl eFld (· < B) w aL l) (hM : (bs ++ oList out l).length ≤ MX) :
    Ret Tryz.prog 107 #[.pointer (some ⟨wb, 0, none⟩), .slice aL l.length cL, .func (.func g) first.toArray caps.toArray] w fun _ w' => ∃ a' cap', WS B wb a' cap' (bs ++ oList out l) w' ∧ Stp (WX wb) a w a' w' := by
  have hbig := hS.big
  have hw : isWord (l.length : Int) = true := by unfold isWord; simp; omega
  have h4 := num_word hw
  have e1 : [(l.length : Int)].flatMap num = num l.length := by simp
  have e2 : (bs ++ oList out l).length = bs.length + 4 + (l.flatMap out).length := by unfold oList; rw [List.length_append, List.length_append, h4]; omega
  refine entr (vs := [.pointer (some ⟨wb, 0, none⟩), .slice aL l.length cL, .func (.func g) first.toArray caps.toArray]) [0, 1, 2, 7, 13, 14, 15, 16] tabok Tryz.func107 (by kernel_rfl) ?_
  refine Eng.bs fun b1 w1 h1 => ?_
  refine cl (wr_nums [(l.length : Int)] hW h1 (by simp) (by rw [e1, List.length_append, h4]; omega)) ?_
  rintro v w2 ⟨a2, c2, hW2, hT2⟩
  rw [e1] at hW2
  refine lpk l.length 15 [] [(2, .func (.func g) first.toArray caps.toArray), (13, .slice aL l.length cL), (14, I l.length)] (fun k vals w' => vals = [] ∧ ∃ a' cap', WS B wb a' cap' (bs ++ num l.length ++ (l.take k).flatMap out) w' ∧ Stp (WX wb) a w a' w') ⟨rfl, a2, c2, by simpa using hW2, hT2⟩ ?_
  rintro k vals w3 hk ⟨rfl, a3, c3, hW3, hT3⟩ ih
  by_cases hlt : k < l.length
  · refine brT ?_
    obtain ⟨x, b, o, cs, hx, rfl, hSb, hAt, hrel⟩ := at_some (hS.kp (Below.kp (hW.below hT3))) hlt
    have hlen : (bs ++ num l.length ++ (l.take k).flatMap out ++ out x).length ≤ MX := by
      have e3 : ((l.take (k + 1)).flatMap out).length = ((l.take k).flatMap out).length + (out x).length := by rw [flatMap_snoc hx, List.length_append]
      have := flatMap_take_len out l (k + 1)
      rw [List.length_append, List.length_append, List.length_append, h4]
      omega
    refine ix ?_
    have hcl := (eFld).len hrel
    refine lda hAt ?_ (hl := hcl)
    refine al fun b4 w4 h4' => ?_
    refine stw h4'.box hcl rfl (rel_one_fld hrel) (fun w6 h6 y6 => ?_)
    have hB4 : Bl w3 w6 := Eng.New.wr h4' h6
    refine lda y6.at ?_ (hl := hcl)
    refine cl (hone x cs a3 c3 _ w6 (List.mem_of_getElem? hx) (hP _ _ _ _ hPw (hT3.trans (Stp.bl hB4))) (hW3.bl hB4) ((eFld).kp (hB4.kp _) hrel) hlen) ?_ (hav := by rw [asV_agg hcl (by decide)])
    rintro v5 w5 ⟨a5, c5, hW5, hT5⟩
    refine ih hlt ⟨rfl, a5, c5, ?_, (hT3.trans (Stp.bl hB4)).trans hT5⟩
    rw [flatMap_snoc hx, ← List.append_assoc]; exact hW5
  · refine brF ?_
    obtain rfl : k = l.length := by omega
    rw [List.take_length] at hW3
    exact en (vs := []) ⟨a3, c3, by unfold oList; rw [← List.append_assoc]; exact hW3, hT3⟩
theorem put_mth (out : Mth → List UInt8) (l : List Mth) (aL : Option Addr) (cL : Nat) (g : FuncId) (first caps : List Value) (wb B : Nat) (P : Option Addr → World → Prop) (hP : ∀ a w a' w', P a w → Stp (WX wb) a w a' w' → P a' w')
    (hone : ∀ x cs a cap bs w, x ∈ l → P a w → WS B wb a cap bs w → (eMth).rel (· < B) w cs x → (bs ++ out x).length ≤ MX → Ret Tryz.prog g (first ++ ([asV cs] ++ caps)).toArray w fun _ w' => ∃ a' cap', WS B wb a' cap' (bs ++ out x) w' ∧ Stp (WX wb) a w a' w')
    (a : Option Addr) (cap : Nat) (bs : List UInt8) (w : World) (hW : WS B wb a cap bs w) (hPw : P a w) (hS : Sl eMth (· < B) w aL l) (hM : (bs ++ oList out l).length ≤ MX) :
    Ret Tryz.prog 109 #[.pointer (some ⟨wb, 0, none⟩), .slice aL l.length cL, .func (.func g) first.toArray caps.toArray] w fun _ w' => ∃ a' cap', WS B wb a' cap' (bs ++ oList out l) w' ∧ Stp (WX wb) a w a' w' := by
  have hbig := hS.big
  have hw : isWord (l.length : Int) = true := by unfold isWord; simp; omega
  have h4 := num_word hw
  have e1 : [(l.length : Int)].flatMap num = num l.length := by simp
  have e2 : (bs ++ oList out l).length = bs.length + 4 + (l.flatMap out).length := by unfold oList; rw [List.length_append, List.length_append, h4]; omega
  refine entr (vs := [.pointer (some ⟨wb, 0, none⟩), .slice aL l.length cL, .func (.func g) first.toArray caps.toArray]) [0, 1, 2, 7, 13, 14, 15, 16] tabok Tryz.func109 (by kernel_rfl) ?_
  refine Eng.bs fun b1 w1 h1 => ?_
  refine cl (wr_nums [(l.length : Int)] hW h1 (by simp) (by rw [e1, List.length_append, h4]; omega)) ?_
  rintro v w2 ⟨a2, c2, hW2, hT2⟩
  rw [e1] at hW2
  refine lpk l.length 15 [] [(2, .func (.func g) first.toArray caps.toArray), (13, .slice aL l.length cL), (14, I l.length)] (fun k vals w' => vals = [] ∧ ∃ a' cap', WS B wb a' cap' (bs ++ num l.length ++ (l.take k).flatMap out) w' ∧ Stp (WX wb) a w a' w') ⟨rfl, a2, c2, by simpa using hW2, hT2⟩ ?_
  rintro k vals w3 hk ⟨rfl, a3, c3, hW3, hT3⟩ ih
  by_cases hlt : k < l.length
  · refine brT ?_
    obtain ⟨x, b, o, cs, hx, rfl, hSb, hAt, hrel⟩ := at_some (hS.kp (Below.kp (hW.below hT3))) hlt
    have hlen : (bs ++ num l.length ++ (l.take k).flatMap out ++ out x).length ≤ MX := by
      have e3 : ((l.take (k + 1)).flatMap out).length = ((l.take k).flatMap out).length + (out x).length := by rw [flatMap_snoc hx, List.length_append]
      have := flatMap_take_len out l (k + 1)
      rw [List.length_append, List.length_append, List.length_append, h4]
      omega
    refine ix ?_
    have hcl := (eMth).len hrel
    refine lda hAt ?_ (hl := hcl)
    refine al fun b4 w4 h4' => ?_
    refine stw h4'.box hcl rfl (rel_one_mth hrel) (fun w6 h6 y6 => ?_)
    have hB4 : Bl w3 w6 := Eng.New.wr h4' h6
    refine lda y6.at ?_ (hl := hcl)
    refine cl (hone x cs a3 c3 _ w6 (List.mem_of_getElem? hx) (hP _ _ _ _ hPw (hT3.trans (Stp.bl hB4))) (hW3.bl hB4) ((eMth).kp (hB4.kp _) hrel) hlen) ?_ (hav := by rw [asV_agg hcl (by decide)])
    rintro v5 w5 ⟨a5, c5, hW5, hT5⟩
    refine ih hlt ⟨rfl, a5, c5, ?_, (hT3.trans (Stp.bl hB4)).trans hT5⟩
    rw [flatMap_snoc hx, ← List.append_assoc]; exact hW5
  · refine brF ?_
    obtain rfl : k = l.length := by omega
    rw [List.take_length] at hW3
    exact en (vs := []) ⟨a3, c3, by unfold oList; rw [← List.append_assoc]; exact hW3, hT3⟩
theorem put_ty (out : Ty → List UInt8) (l : List Ty) (aL : Option Addr) (cL : Nat) (g : FuncId) (first caps : List Value) (wb B : Nat) (P : Option Addr → World → Prop) (hP : ∀ a w a' w', P a w → Stp (WX wb) a w a' w' → P a' w')
    (hone : ∀ x cs a cap bs w, x ∈ l → P a w → WS B wb a cap bs w → (eTy).rel (· < B) w cs x → (bs ++ out x).length ≤ MX → Ret Tryz.prog g (first ++ ([asV cs] ++ caps)).toArray w fun _ w' => ∃ a' cap', WS B wb a' cap' (bs ++ out x) w' ∧ Stp (WX wb) a w a' w')
    (a : Option Addr) (cap : Nat) (bs : List UInt8) (w : World) (hW : WS B wb a cap bs w) (hPw : P a w) (hS : Sl eTy (· < B) w aL l) (hM : (bs ++ oList out l).length ≤ MX) :
    Ret Tryz.prog 157 #[.pointer (some ⟨wb, 0, none⟩), .slice aL l.length cL, .func (.func g) first.toArray caps.toArray] w fun _ w' => ∃ a' cap', WS B wb a' cap' (bs ++ oList out l) w' ∧ Stp (WX wb) a w a' w' := by
  have hbig := hS.big
  have hw : isWord (l.length : Int) = true := by unfold isWord; simp; omega
  have h4 := num_word hw
  have e1 : [(l.length : Int)].flatMap num = num l.length := by simp
  have e2 : (bs ++ oList out l).length = bs.length + 4 + (l.flatMap out).length := by unfold oList; rw [List.length_append, List.length_append, h4]; omega
  refine entr (vs := [.pointer (some ⟨wb, 0, none⟩), .slice aL l.length cL, .func (.func g) first.toArray caps.toArray]) [0, 1, 2, 7, 13, 14, 15, 16] tabok Tryz.func157 (by kernel_rfl) ?_
  refine Eng.bs fun b1 w1 h1 => ?_
  refine cl (wr_nums [(l.length : Int)] hW h1 (by simp) (by rw [e1, List.length_append, h4]; omega)) ?_
  rintro v w2 ⟨a2, c2, hW2, hT2⟩
  rw [e1] at hW2
  refine lpk l.length 15 [] [(2, .func (.func g) first.toArray caps.toArray), (13, .slice aL l.length cL), (14, I l.length)] (fun k vals w' => vals = [] ∧ ∃ a' cap', WS B wb a' cap' (bs ++ num l.length ++ (l.take k).flatMap out) w' ∧ Stp (WX wb) a w a' w') ⟨rfl, a2, c2, by simpa using hW2, hT2⟩ ?_
  rintro k vals w3 hk ⟨rfl, a3, c3, hW3, hT3⟩ ih
  by_cases hlt : k < l.length
  · refine brT ?_
    obtain ⟨x, b, o, cs, hx, rfl, hSb, hAt, hrel⟩ := at_some (hS.kp (Below.kp (hW.below hT3))) hlt
    have hlen : (bs ++ num l.length ++ (l.take k).flatMap out ++ out x).length ≤ MX := by
      have e3 : ((l.take (k + 1)).flatMap out).length = ((l.take k).flatMap out).length + (out x).length := by rw [flatMap_snoc hx, List.length_append]
      have := flatMap_take_len out l (k + 1)
      rw [List.length_append, List.length_append, List.length_append, h4]
      omega
    refine ix ?_
    have hcl := (eTy).len hrel
    refine lda hAt ?_ (hl := hcl)
    refine al fun b4 w4 h4' => ?_
    refine stw h4'.box hcl rfl (rel_one_ty hrel) (fun w6 h6 y6 => ?_)
    have hB4 : Bl w3 w6 := Eng.New.wr h4' h6
    refine lda y6.at ?_ (hl := hcl)
    refine cl (hone x cs a3 c3 _ w6 (List.mem_of_getElem? hx) (hP _ _ _ _ hPw (hT3.trans (Stp.bl hB4))) (hW3.bl hB4) ((eTy).kp (hB4.kp _) hrel) hlen) ?_ (hav := by rw [asV_agg hcl (by decide)])
    rintro v5 w5 ⟨a5, c5, hW5, hT5⟩
    refine ih hlt ⟨rfl, a5, c5, ?_, (hT3.trans (Stp.bl hB4)).trans hT5⟩
    rw [flatMap_snoc hx, ← List.append_assoc]; exact hW5
  · refine brF ?_
    obtain rfl : k = l.length := by omega
    rw [List.take_length] at hW3
    exact en (vs := []) ⟨a3, c3, by unfold oList; rw [← List.append_assoc]; exact hW3, hT3⟩
theorem put_ins (out : Ins → List UInt8) (l : List Ins) (aL : Option Addr) (cL : Nat) (g : FuncId) (first caps : List Value) (wb B : Nat) (P : Option Addr → World → Prop) (hP : ∀ a w a' w', P a w → Stp (WX wb) a w a' w' → P a' w')
    (hone : ∀ x cs a cap bs w, x ∈ l → P a w → WS B wb a cap bs w → (eIns).rel (· < B) w cs x → (bs ++ out x).length ≤ MX → Ret Tryz.prog g (first ++ ([asV cs] ++ caps)).toArray w fun _ w' => ∃ a' cap', WS B wb a' cap' (bs ++ out x) w' ∧ Stp (WX wb) a w a' w')
    (a : Option Addr) (cap : Nat) (bs : List UInt8) (w : World) (hW : WS B wb a cap bs w) (hPw : P a w) (hS : Sl eIns (· < B) w aL l) (hM : (bs ++ oList out l).length ≤ MX) :
    Ret Tryz.prog 158 #[.pointer (some ⟨wb, 0, none⟩), .slice aL l.length cL, .func (.func g) first.toArray caps.toArray] w fun _ w' => ∃ a' cap', WS B wb a' cap' (bs ++ oList out l) w' ∧ Stp (WX wb) a w a' w' := by
  have hbig := hS.big
  have hw : isWord (l.length : Int) = true := by unfold isWord; simp; omega
  have h4 := num_word hw
  have e1 : [(l.length : Int)].flatMap num = num l.length := by simp
  have e2 : (bs ++ oList out l).length = bs.length + 4 + (l.flatMap out).length := by unfold oList; rw [List.length_append, List.length_append, h4]; omega
  refine entr (vs := [.pointer (some ⟨wb, 0, none⟩), .slice aL l.length cL, .func (.func g) first.toArray caps.toArray]) [0, 1, 2, 7, 13, 14, 15, 16] tabok Tryz.func158 (by kernel_rfl) ?_
  refine Eng.bs fun b1 w1 h1 => ?_
  refine cl (wr_nums [(l.length : Int)] hW h1 (by simp) (by rw [e1, List.length_append, h4]; omega)) ?_
  rintro v w2 ⟨a2, c2, hW2, hT2⟩
  rw [e1] at hW2
  refine lpk l.length 15 [] [(2, .func (.func g) first.toArray caps.toArray), (13, .slice aL l.length cL), (14, I l.length)] (fun k vals w' => vals = [] ∧ ∃ a' cap', WS B wb a' cap' (bs ++ num l.length ++ (l.take k).flatMap out) w' ∧ Stp (WX wb) a w a' w') ⟨rfl, a2, c2, by simpa using hW2, hT2⟩ ?_
  rintro k vals w3 hk ⟨rfl, a3, c3, hW3, hT3⟩ ih
  by_cases hlt : k < l.length
  · refine brT ?_
    obtain ⟨x, b, o, cs, hx, rfl, hSb, hAt, hrel⟩ := at_some (hS.kp (Below.kp (hW.below hT3))) hlt
    have hlen : (bs ++ num l.length ++ (l.take k).flatMap out ++ out x).length ≤ MX := by
      have e3 : ((l.take (k + 1)).flatMap out).length = ((l.take k).flatMap out).length + (out x).length := by rw [flatMap_snoc hx, List.length_append]
      have := flatMap_take_len out l (k + 1)
      rw [List.length_append, List.length_append, List.length_append, h4]
      omega
    refine ix ?_
    have hcl := (eIns).len hrel
    refine lda hAt ?_ (hl := hcl)
    refine al fun b4 w4 h4' => ?_
    refine stw h4'.box hcl rfl (rel_one_ins hrel) (fun w6 h6 y6 => ?_)
    have hB4 : Bl w3 w6 := Eng.New.wr h4' h6
    refine lda y6.at ?_ (hl := hcl)
    refine cl (hone x cs a3 c3 _ w6 (List.mem_of_getElem? hx) (hP _ _ _ _ hPw (hT3.trans (Stp.bl hB4))) (hW3.bl hB4) ((eIns).kp (hB4.kp _) hrel) hlen) ?_ (hav := by rw [asV_agg hcl (by decide)])
    rintro v5 w5 ⟨a5, c5, hW5, hT5⟩
    refine ih hlt ⟨rfl, a5, c5, ?_, (hT3.trans (Stp.bl hB4)).trans hT5⟩
    rw [flatMap_snoc hx, ← List.append_assoc]; exact hW5
  · refine brF ?_
    obtain rfl : k = l.length := by omega
    rw [List.take_length] at hW3
    exact en (vs := []) ⟨a3, c3, by unfold oList; rw [← List.append_assoc]; exact hW3, hT3⟩
end Go.Proofs.YtopjmiklpnejmaaGreatDoor
/- Walks: the program's Encode. -/
namespace Go.Proofs.YtopjmiklpnejmaaGreatDoor
open Eng Go.RowKit
theorem wr_kind (t : Ty) (wb B : Nat) (a : Option Addr) (cap : Nat) (ss : List UInt8) (w : World) (hW : WS B wb a cap ss w) (hn : (ss ++ oTy t).length ≤ MX) :
    Ret Tryz.prog 156 #[.pointer (some ⟨wb, 0, none⟩), .agg #[I t.kind, I t.cls]] w fun _ w' => ∃ a' cap', WS B wb a' cap' (ss ++ oTy t) w' ∧ Stp (WX wb) a w a' w' := by
  have e1 : [t.kind, t.cls].flatMap num = oTy t := by simp [oTy]
  refine entr (vs := [.pointer (some ⟨wb, 0, none⟩), .agg #[I t.kind, I t.cls]]) [0, 1, 3] tabok Tryz.func156 (by kernel_rfl) ?_
  refine bx (cs := [I t.kind, I t.cls]) fun b1 w1 h1 => ?_
  refine ld (h1.box.cell rfl) ?_
  refine ld (h1.box.cell rfl) ?_
  refine bs fun b2 w2 h2 => ?_
  refine cl (wr_nums [t.kind, t.cls] (hW.bl h1.bl) h2 (by simp) (by rw [e1]; exact hn)) ?_
  rintro v w3 ⟨a3, c3, hW3, hT3⟩
  rw [e1] at hW3
  exact en (vs := []) ⟨a3, c3, hW3, (Stp.bl h1.bl).trans hT3⟩
theorem wr_field (f : Fld) (wb B : Nat) (a : Option Addr) (cap : Nat) (ss : List UInt8) (w : World) (hW : WS B wb a cap ss w) (hn : (ss ++ oFld f).length ≤ MX) :
    Ret Tryz.prog 108 #[.pointer (some ⟨wb, 0, none⟩), .agg (encFld f).toArray] w fun _ w' => ∃ a' cap', WS B wb a' cap' (ss ++ oFld f) w' ∧ Stp (WX wb) a w a' w' := by
  have e1 : [f.name].flatMap num = num f.name := by simp
  have e2 : ss ++ oFld f = ss ++ num f.name ++ oTy f.ty := by unfold oFld; rw [List.append_assoc]
  rw [e2] at hn ⊢
  have hn1 : (ss ++ num f.name).length ≤ MX := by rw [List.length_append] at hn; exact Nat.le_trans (Nat.le_add_right _ _) hn
  refine entr (vs := [.pointer (some ⟨wb, 0, none⟩), .agg (encFld f).toArray]) [0, 1, 3] tabok Tryz.func108 (by kernel_rfl) ?_
  refine bx (cs := encFld f) fun b1 w1 h1 => ?_
  refine ld (h1.box.cell rfl) ?_
  refine bs fun b2 w2 h2 => ?_
  refine cl (wr_nums [f.name] (hW.bl h1.bl) h2 (by simp) (by rw [e1]; exact hn1)) ?_
  rintro v w3 ⟨a3, c3, hW3, hT3⟩
  rw [e1] at hW3
  have q1 : b1 ≠ wb := by have := h1.blk; have := hW.box.lt; omega
  have q2 : a ≠ some ⟨b1, 0, none⟩ := fun e => by have := (hW.row.lt e).2; have := h1.blk; omega
  refine lda (fldAt (hT3.box h1.box q1 q2).at) ?_
  refine cl (wr_kind f.ty wb B a3 c3 _ w3 hW3 hn) ?_
  rintro v w4 ⟨a4, c4, hW4, hT4⟩
  exact en (vs := []) ⟨a4, c4, hW4, ((Stp.bl h1.bl).trans hT3).trans hT4⟩
theorem wr_fields (l : List Fld) (aL : Option Addr) (cL wb B : Nat) (a : Option Addr) (cap : Nat) (ss : List UInt8) (w : World) (hW : WS B wb a cap ss w) (hS : Sl eFld (· < B) w aL l) (hM : (ss ++ oList oFld l).length ≤ MX) :
    Ret Tryz.prog 107 #[.pointer (some ⟨wb, 0, none⟩), .slice aL l.length cL, .func (.func 108) #[.pointer (some ⟨wb, 0, none⟩)] #[]] w fun _ w' => ∃ a' cap', WS B wb a' cap' (ss ++ oList oFld l) w' ∧ Stp (WX wb) a w a' w' :=
  put_fld oFld l aL cL _ [.pointer (some ⟨wb, 0, none⟩)] [] wb B (fun _ _ => True) (fun _ _ _ _ _ _ => trivial) (fun x cs a cap ss w _ _ hW hr hn => by
    obtain rfl : cs = encFld x := hr
    exact wr_field x wb B a cap ss w hW hn) a cap ss w hW trivial hS hM
theorem wr_types (l : List Ty) (aL : Option Addr) (cL wb B : Nat) (a : Option Addr) (cap : Nat) (ss : List UInt8) (w : World) (hW : WS B wb a cap ss w) (hS : Sl eTy (· < B) w aL l) (hM : (ss ++ oList oTy l).length ≤ MX) :
    Ret Tryz.prog 157 #[.pointer (some ⟨wb, 0, none⟩), .slice aL l.length cL, .func (.func 156) #[.pointer (some ⟨wb, 0, none⟩)] #[]] w fun _ w' => ∃ a' cap', WS B wb a' cap' (ss ++ oList oTy l) w' ∧ Stp (WX wb) a w a' w' :=
  put_ty oTy l aL cL _ [.pointer (some ⟨wb, 0, none⟩)] [] wb B (fun _ _ => True) (fun _ _ _ _ _ _ => trivial) (fun x cs a cap ss w _ _ hW hr hn => by
    obtain rfl : cs = encTy x := hr
    exact wr_kind x wb B a cap ss w hW hn) a cap ss w hW trivial hS hM
theorem wr_texts (l : List ByteArray) (hs : ∀ s ∈ l, s.size ≤ 1048576) (aL : Option Addr) (cL wb B : Nat) (a : Option Addr) (cap : Nat) (ss : List UInt8) (w : World) (hW : WS B wb a cap ss w) (hS : Sl eStr (· < B) w aL l) (hM : (ss ++ oList oTxt l).length ≤ MX) :
    Ret Tryz.prog 104 #[.pointer (some ⟨wb, 0, none⟩), .slice aL l.length cL, .func (.func 103) #[.pointer (some ⟨wb, 0, none⟩)] #[]] w fun _ w' => ∃ a' cap', WS B wb a' cap' (ss ++ oList oTxt l) w' ∧ Stp (WX wb) a w a' w' :=
  put_str oTxt l aL cL _ [.pointer (some ⟨wb, 0, none⟩)] [] wb B (fun _ _ => True) (fun _ _ _ _ _ _ => trivial) (fun x cs a cap ss w hx _ hW hr hn => by
    obtain rfl : cs = [.string x] := hr
    exact wr_text x wb B a cap ss w hW (hs x hx) hn) a cap ss w hW trivial hS hM
theorem wr_class (c : Cls) (af : Option Addr) (cf : Nat) (wb B : Nat) (a : Option Addr) (cap : Nat) (ss : List UInt8) (w : World) (hW : WS B wb a cap ss w) (hF : Sl eFld (· < B) w af c.fields) (hn : (ss ++ oCls c).length ≤ MX) :
    Ret Tryz.prog 106 #[.pointer (some ⟨wb, 0, none⟩), .agg (ccells c af cf).toArray] w fun _ w' => ∃ a' cap', WS B wb a' cap' (ss ++ oCls c) w' ∧ Stp (WX wb) a w a' w' := by
  have e1 : [c.name, c.super].flatMap num = num c.name ++ num c.super := by simp
  have e2 : ss ++ oCls c = ss ++ (num c.name ++ num c.super) ++ oList oFld c.fields := by unfold oCls; simp only [List.append_assoc]
  rw [e2] at hn ⊢
  have hn1 : (ss ++ (num c.name ++ num c.super)).length ≤ MX := by rw [List.length_append] at hn; exact Nat.le_trans (Nat.le_add_right _ _) hn
  refine entr (vs := [.pointer (some ⟨wb, 0, none⟩), .agg (ccells c af cf).toArray]) [0, 1, 3] tabok Tryz.func106 (by kernel_rfl) ?_
  refine bx (cs := ccells c af cf) fun b1 w1 h1 => ?_
  refine ld (h1.box.cell rfl) ?_
  refine ld (h1.box.cell rfl) ?_
  refine bs fun b2 w2 h2 => ?_
  refine cl (wr_nums [c.name, c.super] (hW.bl h1.bl) h2 (by simp) (by rw [e1]; exact hn1)) ?_
  rintro v w3 ⟨a3, c3, hW3, hT3⟩
  rw [e1] at hW3
  have q1 : b1 ≠ wb := by have := h1.blk; have := hW.box.lt; omega
  have q2 : a ≠ some ⟨b1, 0, none⟩ := fun e => by have := (hW.row.lt e).2; have := h1.blk; omega
  refine ld ((hT3.box h1.box q1 q2).cell rfl) ?_
  have hT : Stp (WX wb) a w a3 w3 := (Stp.bl h1.bl).trans hT3
  refine cl (wr_fields c.fields af cf wb B a3 c3 _ w3 hW3 (hF.kp (Below.kp (hW.below hT))) hn) ?_
  rintro v w4 ⟨a4, c4, hW4, hT4⟩
  exact en (vs := []) ⟨a4, c4, hW4, hT.trans hT4⟩
theorem wr_ins1 (i : Ins) (b2 wb B : Nat) (a : Option Addr) (cap : Nat) (ss : List UInt8) (w : World) (hW : WS B wb a cap ss w) (hb : Box w b2 117 [.pointer (some ⟨wb, 0, none⟩)]) (hn : (ss ++ oIns i).length ≤ MX) :
    Ret Tryz.prog 159 #[.agg (encIns i).toArray, .pointer (some ⟨b2, 0, none⟩)] w fun _ w' => ∃ a' cap', WS B wb a' cap' (ss ++ oIns i) w' ∧ Stp (WX wb) a w a' w' := by
  have e1 : [i.op, i.a, i.b].flatMap num = oIns i := by simp [oIns]
  refine entr (vs := [.agg (encIns i).toArray, .pointer (some ⟨b2, 0, none⟩)]) [0, 1, 2] tabok Tryz.func159 (by kernel_rfl) ?_
  refine bx (cs := encIns i) fun b1 w1 h1 => ?_
  refine ld ((Bl.box h1.bl hb).cell rfl) ?_
  refine ld (h1.box.cell rfl) ?_
  refine ld (h1.box.cell rfl) ?_
  refine ld (h1.box.cell rfl) ?_
  refine bs fun b3 w3 h3 => ?_
  refine cl (wr_nums [i.op, i.a, i.b] (hW.bl h1.bl) h3 (by simp) (by rw [e1]; exact hn)) ?_
  rintro v w4 ⟨a4, c4, hW4, hT4⟩
  rw [e1] at hW4
  exact en (vs := []) ⟨a4, c4, hW4, (Stp.bl h1.bl).trans hT4⟩
theorem wr_method (m : Mth) (a1 : Option Addr) (c1 : Nat) (a2 : Option Addr) (c2 : Nat) (a3 : Option Addr) (c3 : Nat) (wb B : Nat) (a : Option Addr) (cap : Nat) (ss : List UInt8) (w : World) (hW : WS B wb a cap ss w)
    (f1 : Sl eTy (· < B) w a1 m.params) (f2 : Sl eTy (· < B) w a2 m.locals) (f3 : Sl eIns (· < B) w a3 m.code) (hn : (ss ++ oMth m).length ≤ MX) :
    Ret Tryz.prog 110 #[.pointer (some ⟨wb, 0, none⟩), .agg (mcells m a1 c1 a2 c2 a3 c3).toArray] w fun _ w' => ∃ a' cap', WS B wb a' cap' (ss ++ oMth m) w' ∧ Stp (WX wb) a w a' w' := by
  have e1 : [m.name, m.cls].flatMap num = num m.name ++ num m.cls := by simp
  have e2 : ss ++ oMth m = ss ++ (num m.name ++ num m.cls) ++ oList oTy m.params ++ oList oTy m.locals ++ oTy m.result ++ oList oIns m.code := by unfold oMth; simp only [List.append_assoc]
  rw [e2] at hn ⊢
  have hn5 := hn
  rw [List.length_append] at hn
  have hn4 := Nat.le_trans (Nat.le_add_right _ _) hn
  have hn3 := hn4
  rw [List.length_append] at hn3
  have hn3 := Nat.le_trans (Nat.le_add_right _ _) hn3
  have hn2 := hn3
  rw [List.length_append] at hn2
  have hn2 := Nat.le_trans (Nat.le_add_right _ _) hn2
  have hn1 := hn2
  rw [List.length_append] at hn1
  have hn1 := Nat.le_trans (Nat.le_add_right _ _) hn1
  refine entr (vs := [.pointer (some ⟨wb, 0, none⟩), .agg (mcells m a1 c1 a2 c2 a3 c3).toArray]) [0, 1, 2, 3] tabok Tryz.func110 (by kernel_rfl) ?_
  refine bx (cs := [.pointer (some ⟨wb, 0, none⟩)]) fun b1 w1 h1 => ?_
  refine bx (cs := mcells m a1 c1 a2 c2 a3 c3) fun b2 w2 h2 => ?_
  have x1 := Bl.box h2.bl h1.box
  have hB2 := h1.bl.trans h2.bl
  have p1 := h1.blk
  have p2 := h2.blk
  have p3 := hW.box.lt
  have p4 := h1.size
  have q1 : b1 ≠ wb := by omega
  have q2 : b2 ≠ wb := by omega
  have q3 : a ≠ some ⟨b1, 0, none⟩ := fun e => by have := (hW.row.lt e).2; omega
  have q4 : a ≠ some ⟨b2, 0, none⟩ := fun e => by have := (hW.row.lt e).2; omega
  refine ld (x1.cell rfl) ?_
  refine ld (h2.box.cell rfl) ?_
  refine ld (h2.box.cell rfl) ?_
  refine bs fun b3 w3 h3 => ?_
  refine cl (wr_nums [m.name, m.cls] (hW.bl hB2) h3 (by simp) (by rw [e1]; exact hn1)) ?_
  rintro v w4 ⟨a4, c4, hW4, hT4⟩
  rw [e1] at hW4
  have X : ∀ {a' w'}, Stp (WX wb) a w2 a' w' → Box w' b1 _ _ ∧ Box w' b2 _ _ ∧ a' ≠ some ⟨b1, 0, none⟩ := fun h => ⟨h.box x1 q1 q3, h.box h2.box q2 q4, h.ne x1.lt q3⟩
  have Bw : ∀ {a' w'}, Stp (WX wb) a w2 a' w' → Below B w w' := fun h => hW.below ((Stp.bl hB2).trans h)
  obtain ⟨y1, y2, _⟩ := X hT4
  refine ld (y1.cell rfl) ?_
  refine ld (y2.cell rfl) ?_
  refine ld (y1.cell rfl) ?_
  refine cl (wr_types m.params a1 c1 wb B a4 c4 _ w4 hW4 (f1.kp (Below.kp (Bw hT4))) hn2) ?_
  rintro v w5 ⟨a5, c5, hW5, hT5⟩
  have hT5 := hT4.trans hT5
  obtain ⟨y1, y2, _⟩ := X hT5
  refine ld (y1.cell rfl) ?_
  refine ld (y2.cell rfl) ?_
  refine ld (y1.cell rfl) ?_
  refine cl (wr_types m.locals a2 c2 wb B a5 c5 _ w5 hW5 (f2.kp (Below.kp (Bw hT5))) hn3) ?_
  rintro v w6 ⟨a6, c6, hW6, hT6⟩
  have hT6 := hT5.trans hT6
  obtain ⟨y1, y2, _⟩ := X hT6
  refine ld (y1.cell rfl) ?_
  refine lda (cs := [I m.result.kind, I m.result.cls]) (b := b2) (o := 4) (fun j v hj => ?_) ?_
  · rcases j with _ | _ | j
    · exact y2.at 4 v hj
    · exact y2.at 5 v hj
    · simp at hj
  refine cl (wr_kind m.result wb B a6 c6 _ w6 hW6 hn4) ?_
  rintro v w7 ⟨a7, c7, hW7, hT7⟩
  have hT7 := hT6.trans hT7
  obtain ⟨y1, y2, y3⟩ := X hT7
  refine ld (y1.cell rfl) ?_
  refine ld (y2.cell rfl) ?_
  refine cl (put_ins oIns m.code a3 c3 159 [] [.pointer (some ⟨b1, 0, none⟩)] wb B (fun a w => Box w b1 117 [.pointer (some ⟨wb, 0, none⟩)] ∧ a ≠ some ⟨b1, 0, none⟩) (fun a w a' w' h k => ⟨k.box h.1 q1 h.2, k.ne h.1.lt h.2⟩) (fun x cs a cap ss w _ hP hW hr hn => by
    obtain rfl : cs = encIns x := hr
    exact wr_ins1 x b1 wb B a cap ss w hW hP.1 hn) a7 c7 _ w7 hW7 ⟨y1, y3⟩ (f3.kp (Below.kp (Bw hT7))) hn5) ?_
  rintro v w8 ⟨a8, c8, hW8, hT8⟩
  exact en (vs := []) ⟨a8, c8, hW8, (Stp.bl hB2).trans (hT7.trans hT8)⟩
end Go.Proofs.YtopjmiklpnejmaaGreatDoor
/- Walks: the program's Encode of a unit. -/
namespace Go.Proofs.YtopjmiklpnejmaaGreatDoor
open Eng Go.RowKit
def magic : List UInt8 := [73, 83, 79, 49]
def body (u : Unt) : List UInt8 := magic ++ oTxt u.name ++ oList oTxt u.pool ++ oList oCls u.classes ++ oList oFld u.statics ++ oList oMth u.methods
def enc (u : Unt) : List UInt8 := body u ++ num (sumB (body u))
theorem oList_le {α : Type} {f : α → List UInt8} {B : Nat} {l : List α} (h : ∀ x ∈ l, (f x).length ≤ B) : (oList f l).length ≤ 4 + l.length * B := by
  unfold oList
  rw [List.length_append]
  have := num_len l.length
  have := flatMap_le h
  omega
theorem oTy_le (t : Ty) : (oTy t).length ≤ 8 := by unfold oTy; rw [List.length_append]; have := num_len t.kind; have := num_len t.cls; omega
theorem oFld_le (f : Fld) : (oFld f).length ≤ 12 := by unfold oFld; rw [List.length_append]; have := num_len f.name; have := oTy_le f.ty; omega
theorem oIns_le (i : Ins) : (oIns i).length ≤ 12 := by unfold oIns; rw [List.length_append, List.length_append]; have := num_len i.op; have := num_len i.a; have := num_len i.b; omega
theorem oTxt_le (s : ByteArray) : (oTxt s).length ≤ 4 + s.size := by unfold oTxt; rw [List.length_append, ba_len]; have := num_len s.size; omega
theorem oCls_le {c : Cls} (h : c.fields.length ≤ 7) : (oCls c).length ≤ 96 := by
  unfold oCls
  rw [List.length_append, List.length_append]
  have := num_len c.name
  have := num_len c.super
  have := oList_le (l := c.fields) fun f _ => oFld_le f
  omega
theorem oMth_le {m : Mth} (h : m.params.length + m.locals.length ≤ 10) (hc : m.code.length ≤ 120) : (oMth m).length ≤ 1548 := by
  unfold oMth
  simp only [List.length_append]
  have := num_len m.name
  have := num_len m.cls
  have := oList_le (l := m.params) fun f _ => oTy_le f
  have := oList_le (l := m.locals) fun f _ => oTy_le f
  have := oList_le (l := m.code) fun f _ => oIns_le f
  have := oTy_le m.result
  omega
theorem path_size {s : ByteArray} (h : path s ≠ 0) : s.size ≤ 38 := by
  rcases Nat.lt_or_ge 38 s.size with h1 | h1
  · exact absurd (path_long h1) h
  · exact h1
structure ChkOk (u : Unt) : Prop where
  lim : Lim u
  nm : simple u.name = true
  ps : ∀ s ∈ u.pool, path s ≠ 0
  knd : kinds u = true
  plc : places u = true
  rfs : refsOk u = true
  dbl : doubled u = false
  cod : ∀ m ∈ u.methods, codeE m.code true = 0
  cds : codesOk u = true
theorem mErr_all {l : List Mth} (h : mErr l = 0) : ∀ m ∈ l, codeE m.code true = 0 := by
  induction l with
  | nil => simp
  | cons m l ih =>
    intro x hx
    by_cases h0 : codeE m.code true = 0
    · simp only [mErr, h0, if_true] at h
      cases hx with
      | head => exact h0
      | tail _ hx => exact ih h x hx
    · simp only [mErr, h0, if_false] at h
theorem chk_ok {u : Unt} (h : checkE u = 0) : ChkOk u := by
  unfold checkE at h
  by_cases h1 : limits u = false
  · rw [if_pos h1] at h; cases h
  rw [if_neg h1] at h
  by_cases h2 : simple u.name = false
  · rw [if_pos h2] at h; cases h
  rw [if_neg h2] at h
  by_cases h3 : pathsOk u = false
  · rw [if_pos h3] at h; cases h
  rw [if_neg h3] at h
  by_cases h4 : (kinds u && places u) = false
  · rw [if_pos h4] at h; cases h
  rw [if_neg h4] at h
  by_cases h5 : refsOk u = false
  · rw [if_pos h5] at h; cases h
  rw [if_neg h5] at h
  by_cases h6 : doubled u = true
  · rw [if_pos h6] at h; cases h
  rw [if_neg h6] at h
  by_cases h7 : mErr u.methods ≠ 0
  · rw [if_pos h7] at h; exact absurd h h7
  rw [if_neg h7] at h
  by_cases h8 : codesOk u = false
  · rw [if_pos h8] at h; cases h
  simp only [Bool.not_eq_false] at h1 h2 h3 h4 h5 h8
  simp only [Bool.not_eq_true] at h6
  rw [Bool.and_eq_true] at h4
  refine ⟨lim_of h1, h2, fun s hs e => ?_, h4.1, h4.2, h5, h6, mErr_all (Classical.not_not.1 h7), h8⟩
  have := List.all_eq_true.1 h3 s hs
  simp [e] at this
theorem body_le {u : Unt} (h : checkE u = 0) : (body u).length ≤ 100000 := by
  have k := chk_ok h
  have hL := k.lim
  unfold body
  simp only [List.length_append]
  have h1 := oTxt_le u.name
  have h2 : u.name.size ≤ 12 := by
    have := simpleL_len (l := u.name.data.toList) k.nm
    rw [ba_len] at this; exact this.2
  have h3 := oList_le (f := oTxt) (B := 42) (l := u.pool) fun s hs => by have := oTxt_le s; have := path_size (k.ps s hs); omega
  have h4 := oList_le (f := oCls) (B := 96) (l := u.classes) fun c hc => oCls_le (hL.flds c hc)
  have h5 := oList_le (f := oFld) (B := 12) (l := u.statics) fun f _ => oFld_le f
  have h6 := oList_le (f := oMth) (B := 1548) (l := u.methods) fun m hm => oMth_le (hL.locs m hm) (by
    have := k.cod m hm
    unfold codeE at this
    split at this
    · cases this
    · omega)
  have g1 := hL.pool
  have g2 := hL.cls
  have g3 := hL.sta
  have g4 := hL.mth
  have g5 : magic.length = 4 := rfl
  omega
theorem enc_le {u : Unt} (h : checkE u = 0) : (enc u).length ≤ 100004 := by
  unfold enc
  rw [List.length_append]
  have := body_le h
  have := num_len (sumB (body u))
  omega
def EncR (u : Unt) (w : World) (v : Value) (w' : World) : Prop :=
  if checkE u = 0 then ∃ ar cr, v = .tuple #[.slice ar (enc u).length cr, I 0] ∧ RowS w' w.heap.size ar cr (enc u) else v = .tuple #[.slice none 0 0, I (checkE u)]
theorem u_Encode (u : Unt) (a : UA) (w : World) (hU : UnR T w u a) (hG : Gl w) : Ret Tryz.prog 39 #[.agg (ucells u a).toArray] w fun v w' => EncR u w v w' ∧ Bl w w' := by
  refine entr (vs := [.agg (ucells u a).toArray]) [0, 1, 2, 3, 4, 5, 9] tabok Tryz.func39 (by kernel_rfl) ?_
  refine bx (cs := ucells u a) fun b1 w1 h1 => ?_
  refine lda h1.box.at ?_
  refine cl (u_Check u a w1 (hU.bl h1.bl) (hG.bl h1.bl)) ?_
  rintro _ w2 ⟨rfl, hB2⟩
  refine br (t := decide (¬ checkE u = 0)) (fun h => ?_) (fun h => ?_)
  · have h0 := of_decide_eq_true h
    exact rt2 ⟨by unfold EncR; rw [if_neg h0], h1.bl.trans hB2⟩
  have h0 : checkE u = 0 := Classical.not_not.1 (of_decide_eq_false h)
  have hb := body_le h0
  have hB02 := h1.bl.trans hB2
  refine bs fun b3 w3 h3 => ?_
  refine cvl h3 fun w4 hat4 hB4 hz4 => ?_
  refine bd ?_
  refine bx (cs := [.slice (some ⟨b3, 0, none⟩) 4 4]) fun wb w5 h5 => ?_
  have p3 := h3.blk
  have p4 := h3.size
  have p5 := h5.blk
  have p1 := h1.blk
  have p6 := hB02.size
  have p7 := h1.size
  have hB05 := (hB02.trans hB4).trans h5.bl
  have x5 := Bl.box ((hB2.trans hB4).trans h5.bl) h1.box
  have hW5 : WS w.heap.size wb (some ⟨b3, 0, none⟩) 4 magic w5 := ⟨h5.box, .lit b3 rfl (by omega) rfl (by decide) (At.bl h5.bl hat4), fun e => by cases e; omega, by omega⟩
  have hUl : UnR (· < w.heap.size) w u a := hU.lt
  have q1 : b1 ≠ wb := by omega
  have q2 : (some ⟨b3, 0, none⟩ : Option Addr) ≠ some ⟨b1, 0, none⟩ := fun e => by cases e; have := h1.box.lt; have := hB2.size; omega
  have X : ∀ {a' w'}, Stp (WX wb) (some ⟨b3, 0, none⟩) w5 a' w' → Box w' b1 _ _ := fun h => h.box x5 q1 q2
  have Bw : ∀ {a' w'}, Stp (WX wb) (some ⟨b3, 0, none⟩) w5 a' w' → Bl w w' := fun h => h.below hB05 (fun i e => by rw [e]; omega) (fun g hg => by cases hg; omega) hB05.size
  have hb' : (magic ++ oTxt u.name ++ oList oTxt u.pool ++ oList oCls u.classes ++ oList oFld u.statics ++ oList oMth u.methods).length ≤ 100000 := hb
  have hb5 := hb'
  have hb4 := hb5
  rw [List.length_append] at hb4
  have hb4 := Nat.le_trans (Nat.le_add_right _ _) hb4
  have hb3 := hb4
  rw [List.length_append] at hb3
  have hb3 := Nat.le_trans (Nat.le_add_right _ _) hb3
  have hb2 := hb3
  rw [List.length_append] at hb2
  have hb2 := Nat.le_trans (Nat.le_add_right _ _) hb2
  have hb1 := hb2
  rw [List.length_append] at hb1
  have hb1 := Nat.le_trans (Nat.le_add_right _ _) hb1
  have mx : ∀ {n : Nat}, n ≤ 100000 → n ≤ MX := fun h => Nat.le_trans h (by decide)
  refine ld (x5.cell rfl) ?_
  refine cl (wr_text u.name wb _ _ 4 magic w5 hW5 hU.nm (mx hb1)) ?_
  rintro v w6 ⟨a6, c6, hW6, hT6⟩
  refine ld ((X hT6).cell rfl) ?_
  refine cl (wr_texts u.pool hU.ps a.a1 a.c1 wb _ a6 c6 _ w6 hW6 (hUl.pool.kp (Below.kp (Bw hT6))) (mx hb2)) ?_
  rintro v w7 ⟨a7, c7, hW7, hT7⟩
  have hT7 := hT6.trans hT7
  refine ld ((X hT7).cell rfl) ?_
  refine cl (put_cls oCls u.classes a.a2 a.c2 106 [.pointer (some ⟨wb, 0, none⟩)] [] wb w.heap.size (fun _ _ => True) (fun _ _ _ _ _ _ => trivial) (fun x cs a cap ss w _ _ hW hr hn => by
    obtain ⟨af, cf, rfl, hF⟩ := hr
    exact wr_class x af cf wb _ a cap ss w hW hF hn) a7 c7 _ w7 hW7 trivial (hUl.cls.kp (Below.kp (Bw hT7))) (mx hb3)) ?_
  rintro v w8 ⟨a8, c8, hW8, hT8⟩
  have hT8 := hT7.trans hT8
  refine ld ((X hT8).cell rfl) ?_
  refine cl (wr_fields u.statics a.a3 a.c3 wb _ a8 c8 _ w8 hW8 (hUl.sta.kp (Below.kp (Bw hT8))) (mx hb4)) ?_
  rintro v w9 ⟨a9, c9, hW9, hT9⟩
  have hT9 := hT8.trans hT9
  refine ld ((X hT9).cell rfl) ?_
  refine cl (put_mth oMth u.methods a.a4 a.c4 110 [.pointer (some ⟨wb, 0, none⟩)] [] wb w.heap.size (fun _ _ => True) (fun _ _ _ _ _ _ => trivial) (fun x cs a cap ss w _ _ hW hr hn => by
    obtain ⟨a1, c1, a2, c2, a3, c3, rfl, f1, f2, f3⟩ := hr
    exact wr_method x a1 c1 a2 c2 a3 c3 wb _ a cap ss w hW f1 f2 f3 hn) a9 c9 _ w9 hW9 trivial (hUl.mth.kp (Below.kp (Bw hT9))) (mx hb5)) ?_
  rintro v w10 ⟨a10, c10, hW10, hT10⟩
  have hT10 := hT9.trans hT10
  have hW10 : WS w.heap.size wb a10 c10 (body u) w10 := hW10
  refine ld (hW10.box.cell rfl) ?_
  obtain ⟨g, rfl⟩ : ∃ g, a10 = some ⟨g, 0, none⟩ := by
    rcases hW10.row.addr with ⟨_, h⟩ | h
    · have h2 := congrArg List.length h
      unfold body at h2
      simp only [List.length_append, List.length_nil] at h2
      have h3 : magic.length = 4 := rfl
      omega
    · exact h
  refine cl (u_Sum (body u) g c10 w10 (hW10.row.at rfl) (by omega)) ?_
  rintro _ _ ⟨rfl, rfl⟩
  refine bs fun b11 w11 h11 => ?_
  have e1 : [sumB (body u)].flatMap num = num (sumB (body u)) := by simp
  refine cl (wr_nums [sumB (body u)] hW10 h11 (by simp) (by rw [e1]; exact Nat.le_trans (enc_le h0) (by decide))) ?_
  rintro v w12 ⟨a12, c12, hW12, hT12⟩
  rw [e1] at hW12
  have hT12 := hT10.trans hT12
  refine ld (hW12.box.cell rfl) ?_
  refine rt2 ⟨?_, Bw hT12⟩
  unfold EncR
  rw [if_pos h0]
  exact ⟨a12, c12, rfl, hW12.row⟩
end Go.Proofs.YtopjmiklpnejmaaGreatDoor
