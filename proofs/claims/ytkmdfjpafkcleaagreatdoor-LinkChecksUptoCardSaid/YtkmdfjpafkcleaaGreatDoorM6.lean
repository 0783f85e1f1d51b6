import Derived.Test.YtkmdfjpafkcleaaGreatDoorM5
import Derived.Lib.LastIndexByte
import Derived.Test.YtkmdfjpafkcleaaGreatDoorM4
import Derived.Test.YtkmdfjpafkcleaaGreatDoorM3
import Derived.Test.YtkmdfjpafkcleaaGreatDoorM1
/- Walks: the linker resolves instructions. -/
namespace Go.Proofs.YtkmdfjpafkcleaaGreatDoor
open Eng Go.RowKit
variable {w w' : World} {b : Nat} {us : List Unt} {O : Ords}
theorem cut_of {p : ByteArray} (h : (46 : UInt8) ∈ p.data.toList) : Lib.lastIndexByte p 46 = (cutI p : Nat) ∧ cutI p < p.size := by
  rcases Lib.lastIndexByte_spec p 46 with ⟨_, hn⟩ | ⟨i, hi, e, _, _⟩
  · obtain ⟨j, hj⟩ := List.mem_iff_getElem?.1 h
    obtain ⟨hlt, e⟩ := List.getElem?_eq_some_iff.1 hj
    have hs : j < p.size := by rw [← ba_len]; exact hlt
    refine absurd ?_ (hn j hs)
    have : p.data[j]! = 46 := by
      rw [getElem!_pos p.data j (by simpa using hlt)]
      simpa using e
    rw [this]; rfl
  · unfold cutI
    rw [e]
    exact ⟨by simp, by simpa using hi⟩
theorem dot_of {s : ByteArray} (h : 1 < path s) : (46 : UInt8) ∈ s.data.toList := by
  refine Classical.byContradiction fun hm => ?_
  unfold path pathL at h
  split at h
  · have key : ∀ l : List UInt8, (46 : UInt8) ∉ l → (cutDot l).length = 1 := by
      intro l
      induction l with
      | nil => intro _; rfl
      | cons c r ih =>
        intro hn
        rw [List.mem_cons, not_or] at hn
        have := ih hn.2
        simp only [cutDot]
        rw [if_neg (fun q => hn.1 q.symm)]
        cases hr : cutDot r with
        | nil => rw [hr] at this; cases this
        | cons p ps => rw [hr] at this; simpa using this
    have := key _ hm
    omega
  · omega
theorem l_LastIndex {p : ByteArray} (hp : p.size ≤ 200) : Ret Tryz.prog 167 #[.string p, .string ⟨#[46]⟩] w fun v w' => v = I (Lib.lastIndexByte p 46) ∧ w' = w := by
  refine ⟨by kernel_rfl, ?_⟩
  refine (Tryz.strings_LastIndex_one p ⟨#[46]⟩ rfl (by omega) w).mono ?_
  rintro e w' ⟨rfl, rfl⟩
  exact ⟨rfl, rfl⟩
theorem LayW.get {l : List ByteArray} {m : Nat} {Y : Mp Rs} (h : LayW b us l m Y w) (q : ByteArray) : ∃ a c, ((getM Y q).map encR).getD (encR ⟨none, 0, []⟩) = .slice a (layA us l q).length c ∧ Sl eStr (· ≠ b) w a (layA us l q) := by
  unfold layA
  by_cases hq : q ∈ l
  · obtain ⟨r, h1, h2, h3⟩ := h.at' q hq
    rw [if_pos (by simpa [hasB] using hq), h1, ← h2]
    exact ⟨r.a, r.c, rfl, h3⟩
  · rw [if_neg (by simpa [hasB] using hq)]
    cases hg : getM Y q with
    | some r => exact absurd (h.only q r hg) hq
    | none => exact ⟨none, 0, rfl, Sl.nil ..⟩
theorem k_instr (h : RunO b us O w) {n : Nat} {u : Unt} (hu : us[n]? = some u) {i : Ins}
    (ha : (i.op = 14 ∨ i.op = 24 ∨ i.op = 17 ∨ i.op = 18 ∨ i.op = 22 ∨ i.op = 23 ∨ i.op = 25 ∨ i.op = 26) → inP u i.a) (hb : (i.op = 16 ∨ i.op = 12 ∧ ¬ i.a = 3) → inP u i.b)
    (hf : i.op = 17 ∨ i.op = 18 → (46 : UInt8) ∈ (nm u i.a).data.toList ∧ (nm u i.a).size ≤ 200) :
    Ret Tryz.prog 109 #[.pointer (some ⟨b, 0, none⟩), I n, .agg (encIns i).toArray] w fun v w' => v = .agg (encIns (instM us O u i)).toArray ∧ Bl w w' := by
  refine entr (vs := [.pointer (some ⟨b, 0, none⟩), I n, .agg (encIns i).toArray]) [0, 1, 2, 5, 6, 7, 8, 10, 11, 26, 40, 44, 57, 81, 96, 110] tabok Tryz.func109 (by kernel_rfl) ?_
  refine bx (cs := encIns i) fun b5 w1 k1 => ?_
  refine al fun b6 w2 k2 => ?_
  have x2 := Bl.box k2.bl k1.box
  have B2 := k1.bl.trans k2.bl
  have z1 := k1.size
  have y1 := k1.blk
  have y2 := k2.blk
  refine ld (x2.cell rfl) ?_
  by_cases e1 : i.op = 14 ∨ i.op = 24
  · -- class in a
    by_cases q14 : i.op = 14
    · refine brT ?_ (hp := q14)
      refine brT ?_ (hp := q14)
      refine dt 1 fun w3 k3 => ?_
      have B3 := B2.trans k3.bl
      have H3 := h.bl B3
      obtain ⟨a, c, hc, hS⟩ := H3.oc
      have x3 := Bl.box k3.bl x2
      refine ld hc ?_
      refine ld (x3.cell rfl) ?_
      refine clq (k_path H3.lnk hu (ha (by omega))) ?_
      refine clq (l_Index hS c _) ?_
      refine stx x3 (fun w4 k4 x4 => ?_) (ho := by simp [encIns])
      refine lda x4.at ?_
      refine sta (cs' := [I i.op, I (idxB O.oc (nm u i.a)), I i.b]) (k4.box (Bl.box k3.bl k2.box) (by omega)) fun w5 k5 x5 => ?_
      refine rtc (cs := [I i.op, I (idxB O.oc (nm u i.a)), I i.b]) x5.at ⟨?_, Below.trans (Below.trans B3 (k4.below (by omega))) (k5.below (by omega))⟩
      unfold instM; rw [if_pos e1]
    · refine brF ?_ (hp := q14)
      refine brT ?_ (hp := by omega)
      refine dt 1 fun w3 k3 => ?_
      have B3 := B2.trans k3.bl
      have H3 := h.bl B3
      obtain ⟨a, c, hc, hS⟩ := H3.oc
      have x3 := Bl.box k3.bl x2
      refine ld hc ?_
      refine ld (x3.cell rfl) ?_
      refine clq (k_path H3.lnk hu (ha (by omega))) ?_
      refine clq (l_Index hS c _) ?_
      refine stx x3 (fun w4 k4 x4 => ?_) (ho := by simp [encIns])
      refine lda x4.at ?_
      refine sta (cs' := [I i.op, I (idxB O.oc (nm u i.a)), I i.b]) (k4.box (Bl.box k3.bl k2.box) (by omega)) fun w5 k5 x5 => ?_
      refine rtc (cs := [I i.op, I (idxB O.oc (nm u i.a)), I i.b]) x5.at ⟨?_, Below.trans (Below.trans B3 (k4.below (by omega))) (k5.below (by omega))⟩
      unfold instM; rw [if_pos e1]
  refine brF ?_ (hp := by omega)
  refine brF ?_ (hp := by omega)
  by_cases e2 : i.op = 16
  · refine brT ?_ (hp := e2)
    refine dt 1 fun w3 k3 => ?_
    have B3 := B2.trans k3.bl
    have H3 := h.bl B3
    obtain ⟨a, c, hc, hS⟩ := H3.oc
    have x3 := Bl.box k3.bl x2
    refine ld hc ?_
    refine ld (x3.cell rfl) ?_
    refine clq (k_path H3.lnk hu (hb (by omega))) ?_
    refine clq (l_Index hS c _) ?_
    refine stx x3 (fun w4 k4 x4 => ?_) (ho := by simp [encIns])
    refine lda x4.at ?_
    refine sta (cs' := [I i.op, I i.a, I (idxB O.oc (nm u i.b))]) (k4.box (Bl.box k3.bl k2.box) (by omega)) fun w5 k5 x5 => ?_
    refine rtc (cs := [I i.op, I i.a, I (idxB O.oc (nm u i.b))]) x5.at ⟨?_, Below.trans (Below.trans B3 (k4.below (by omega))) (k5.below (by omega))⟩
    unfold instM; rw [if_neg e1, if_pos e2]
  refine brF ?_ (hp := e2)
  by_cases e3 : i.op = 12
  · refine brT ?_ (hp := e3)
    refine ld (x2.cell rfl) ?_
    by_cases h3 : i.a = 3
    · refine brf ?_ (hp := by simp [h3])
      have x4 := x2
      refine lda x4.at ?_
      refine sta (cs' := encIns i) k2.box fun w5 k5 x5 => ?_
      refine rtc (cs := encIns i) x5.at ⟨?_, Below.trans B2 (k5.below (by omega))⟩
      unfold instM; rw [if_neg e1, if_neg e2, if_pos e3, if_pos h3]
    · refine brT ?_ (hp := h3)
      refine dt 1 fun w3 k3 => ?_
      have B3 := B2.trans k3.bl
      have H3 := h.bl B3
      obtain ⟨a, c, hc, hS⟩ := H3.oc
      have x3 := Bl.box k3.bl x2
      refine ld hc ?_
      refine ld (x3.cell rfl) ?_
      refine clq (k_path H3.lnk hu (hb (by omega))) ?_
      refine clq (l_Index hS c _) ?_
      refine stx x3 (fun w4 k4 x4 => ?_) (ho := by simp [encIns])
      refine lda x4.at ?_
      refine sta (cs' := [I i.op, I i.a, I (idxB O.oc (nm u i.b))]) (k4.box (Bl.box k3.bl k2.box) (by omega)) fun w5 k5 x5 => ?_
      refine rtc (cs := [I i.op, I i.a, I (idxB O.oc (nm u i.b))]) x5.at ⟨?_, Below.trans (Below.trans B3 (k4.below (by omega))) (k5.below (by omega))⟩
      unfold instM; rw [if_neg e1, if_neg e2, if_pos e3, if_neg h3]
  refine brF ?_ (hp := e3)
  by_cases e4 : i.op = 17 ∨ i.op = 18
  · -- a field in a
    by_cases q17 : i.op = 17
    · refine brT ?_ (hp := q17)
      refine brT ?_ (hp := q17)
      have hi := ha (by omega)
      obtain ⟨hdot, hsz⟩ := hf (by omega)
      obtain ⟨hcut, hlt⟩ := cut_of hdot
      refine ld (x2.cell rfl) ?_
      refine cl (k_path (h.bl B2).lnk hu hi) ?_
      rintro _ _ ⟨rfl, rfl⟩
      refine cl (l_LastIndex hsz) ?_
      rintro _ _ ⟨rfl, rfl⟩
      rw [hcut]
      refine dt 1 fun w3 k3 => ?_
      have B3 := B2.trans k3.bl
      have H3 := h.bl B3
      obtain ⟨m, Y, hm, hY⟩ := H3.ly
      have x3 := Bl.box k3.bl x2
      refine ld hm ?_
      refine sls 0 (cutI (nm u i.a)) ?_
      refine lk tN hY.is ?_
      obtain ⟨a, c, hg, hS⟩ := hY.get ((nm u i.a).extract 0 (cutI (nm u i.a)))
      rw [hg]
      refine sls (cutI (nm u i.a) + 1) (nm u i.a).size ?_ (h1 := by exact ⟨.i64, congrArg (Value.int .i64) (by rw [wrap_fit (by omega) (by omega)]; omega)⟩)
      refine clq (l_Index hS c _) ?_
      refine stx x3 (fun w4 k4 x4 => ?_) (ho := by simp [encIns])
      refine lda x4.at ?_
      refine sta (cs' := [I i.op, I (fldM us O.oc (nm u i.a)), I i.b]) (k4.box (Bl.box k3.bl k2.box) (by omega)) fun w5 k5 x5 => ?_
      refine rtc (cs := [I i.op, I (fldM us O.oc (nm u i.a)), I i.b]) x5.at ⟨?_, Below.trans (Below.trans B3 (k4.below (by omega))) (k5.below (by omega))⟩
      unfold instM; rw [if_neg e1, if_neg e2, if_neg e3, if_pos e4]
    · refine brF ?_ (hp := q17)
      refine brT ?_ (hp := by omega)
      have hi := ha (by omega)
      obtain ⟨hdot, hsz⟩ := hf (by omega)
      obtain ⟨hcut, hlt⟩ := cut_of hdot
      refine ld (x2.cell rfl) ?_
      refine cl (k_path (h.bl B2).lnk hu hi) ?_
      rintro _ _ ⟨rfl, rfl⟩
      refine cl (l_LastIndex hsz) ?_
      rintro _ _ ⟨rfl, rfl⟩
      rw [hcut]
      refine dt 1 fun w3 k3 => ?_
      have B3 := B2.trans k3.bl
      have H3 := h.bl B3
      obtain ⟨m, Y, hm, hY⟩ := H3.ly
      have x3 := Bl.box k3.bl x2
      refine ld hm ?_
      refine sls 0 (cutI (nm u i.a)) ?_
      refine lk tN hY.is ?_
      obtain ⟨a, c, hg, hS⟩ := hY.get ((nm u i.a).extract 0 (cutI (nm u i.a)))
      rw [hg]
      refine sls (cutI (nm u i.a) + 1) (nm u i.a).size ?_ (h1 := by exact ⟨.i64, congrArg (Value.int .i64) (by rw [wrap_fit (by omega) (by omega)]; omega)⟩)
      refine clq (l_Index hS c _) ?_
      refine stx x3 (fun w4 k4 x4 => ?_) (ho := by simp [encIns])
      refine lda x4.at ?_
      refine sta (cs' := [I i.op, I (fldM us O.oc (nm u i.a)), I i.b]) (k4.box (Bl.box k3.bl k2.box) (by omega)) fun w5 k5 x5 => ?_
      refine rtc (cs := [I i.op, I (fldM us O.oc (nm u i.a)), I i.b]) x5.at ⟨?_, Below.trans (Below.trans B3 (k4.below (by omega))) (k5.below (by omega))⟩
      unfold instM; rw [if_neg e1, if_neg e2, if_neg e3, if_pos e4]
  refine brF ?_ (hp := by omega)
  refine brF ?_ (hp := by omega)
  by_cases e5 : i.op = 22 ∨ i.op = 23
  · -- a static in a
    by_cases q22 : i.op = 22
    · refine brT ?_ (hp := q22)
      refine brT ?_ (hp := q22)
      refine dt 1 fun w3 k3 => ?_
      have B3 := B2.trans k3.bl
      have H3 := h.bl B3
      obtain ⟨a, c, hc, hS⟩ := H3.os
      have x3 := Bl.box k3.bl x2
      refine ld hc ?_
      refine ld (x3.cell rfl) ?_
      refine clq (k_path H3.lnk hu (ha (by omega))) ?_
      refine clq (l_Index hS c _) ?_
      refine stx x3 (fun w4 k4 x4 => ?_) (ho := by simp [encIns])
      refine lda x4.at ?_
      refine sta (cs' := [I i.op, I (idxB O.os (nm u i.a)), I i.b]) (k4.box (Bl.box k3.bl k2.box) (by omega)) fun w5 k5 x5 => ?_
      refine rtc (cs := [I i.op, I (idxB O.os (nm u i.a)), I i.b]) x5.at ⟨?_, Below.trans (Below.trans B3 (k4.below (by omega))) (k5.below (by omega))⟩
      unfold instM; rw [if_neg e1, if_neg e2, if_neg e3, if_neg e4, if_pos e5]
    · refine brF ?_ (hp := q22)
      refine brT ?_ (hp := by omega)
      refine dt 1 fun w3 k3 => ?_
      have B3 := B2.trans k3.bl
      have H3 := h.bl B3
      obtain ⟨a, c, hc, hS⟩ := H3.os
      have x3 := Bl.box k3.bl x2
      refine ld hc ?_
      refine ld (x3.cell rfl) ?_
      refine clq (k_path H3.lnk hu (ha (by omega))) ?_
      refine clq (l_Index hS c _) ?_
      refine stx x3 (fun w4 k4 x4 => ?_) (ho := by simp [encIns])
      refine lda x4.at ?_
      refine sta (cs' := [I i.op, I (idxB O.os (nm u i.a)), I i.b]) (k4.box (Bl.box k3.bl k2.box) (by omega)) fun w5 k5 x5 => ?_
      refine rtc (cs := [I i.op, I (idxB O.os (nm u i.a)), I i.b]) x5.at ⟨?_, Below.trans (Below.trans B3 (k4.below (by omega))) (k5.below (by omega))⟩
      unfold instM; rw [if_neg e1, if_neg e2, if_neg e3, if_neg e4, if_pos e5]
  refine brF ?_ (hp := by omega)
  refine brF ?_ (hp := by omega)
  by_cases e6 : i.op = 25
  · refine brT ?_ (hp := e6)
    refine dt 1 fun w3 k3 => ?_
    have B3 := B2.trans k3.bl
    have H3 := h.bl B3
    obtain ⟨a, c, hc, hS⟩ := H3.om
    have x3 := Bl.box k3.bl x2
    refine ld hc ?_
    refine ld (x3.cell rfl) ?_
    refine clq (k_path H3.lnk hu (ha (by omega))) ?_
    refine clq (l_Index hS c _) ?_
    refine stx x3 (fun w4 k4 x4 => ?_) (ho := by simp [encIns])
    refine lda x4.at ?_
    refine sta (cs' := [I i.op, I (idxB O.om (nm u i.a)), I i.b]) (k4.box (Bl.box k3.bl k2.box) (by omega)) fun w5 k5 x5 => ?_
    refine rtc (cs := [I i.op, I (idxB O.om (nm u i.a)), I i.b]) x5.at ⟨?_, Below.trans (Below.trans B3 (k4.below (by omega))) (k5.below (by omega))⟩
    unfold instM; rw [if_neg e1, if_neg e2, if_neg e3, if_neg e4, if_neg e5, if_pos e6]
  refine brF ?_ (hp := e6)
  by_cases e7 : i.op = 26
  · refine brT ?_ (hp := e7)
    refine dt 1 fun w3 k3 => ?_
    have B3 := B2.trans k3.bl
    have H3 := h.bl B3
    obtain ⟨a, c, hc, hS⟩ := H3.oz
    have x3 := Bl.box k3.bl x2
    refine ld hc ?_
    refine ld (x3.cell rfl) ?_
    refine clq (k_path H3.lnk hu (ha (by omega))) ?_
    refine clq (l_Index hS c _) ?_
    refine stx x3 (fun w4 k4 x4 => ?_) (ho := by simp [encIns])
    refine lda x4.at ?_
    refine sta (cs' := [I i.op, I (idxB O.oz (nm u i.a)), I i.b]) (k4.box (Bl.box k3.bl k2.box) (by omega)) fun w5 k5 x5 => ?_
    refine rtc (cs := [I i.op, I (idxB O.oz (nm u i.a)), I i.b]) x5.at ⟨?_, Below.trans (Below.trans B3 (k4.below (by omega))) (k5.below (by omega))⟩
    unfold instM; rw [if_neg e1, if_neg e2, if_neg e3, if_neg e4, if_neg e5, if_neg e6, if_pos e7]
  refine brF ?_ (hp := e7)
  have x4 := x2
  refine lda x4.at ?_
  refine sta (cs' := encIns i) k2.box fun w5 k5 x5 => ?_
  refine rtc (cs := encIns i) x5.at ⟨?_, Below.trans B2 (k5.below (by omega))⟩
  unfold instM; rw [if_neg e1, if_neg e2, if_neg e3, if_neg e4, if_neg e5, if_neg e6, if_neg e7]
end Go.Proofs.YtkmdfjpafkcleaaGreatDoor

/- Walks: the linker builds its module. -/
namespace Go.Proofs.YtkmdfjpafkcleaaGreatDoor
open Eng Go.RowKit
variable {w w' : World} {b : Nat} {us : List Unt} {O : Ords}
/-- what holds of the orders of a run -/
structure OOk (us : List Unt) (O : Ords) : Prop where
  oc : ∀ p ∈ O.oc, (∃ n k u c, ClsI us (decl us) p n k u c) ∧ Deep us (decl us) (keysM (decl us).classes).length p ∧ p.size ≤ 200 ∧ ¬ p = nost
  os : ∀ p ∈ O.os, p ∈ keysM (decl us).statics
  om : ∀ p ∈ O.om, p ∈ keysM (decl us).calls ++ keysM (decl us).sends
  oz : ∀ s ∈ O.oz, s.size ≤ 200
  zm : ∀ s ∈ O.om, s.size ≤ 200
  kc : (keysM (decl us).classes).length ≤ 50
  lc : O.oc.length ≤ 50
  ls : O.os.length ≤ 50
  lm : O.om.length ≤ 80
  lz : O.oz.length ≤ 80
theorem ftL_len {oc : List ByteArray} (hF7 : ∀ u ∈ us, ∀ c ∈ u.classes, c.fields.length ≤ 7) : ∀ (m : Nat) (p : ByteArray), (ftL us (decl us) oc m p).length ≤ 7 * m
  | 0, _ => Nat.zero_le _
  | m + 1, p => by
    have ih := ftL_len hF7 (oc := oc) m (supL us (decl us) p)
    have h1 : (ownT us (decl us) oc p).length ≤ 7 := by
      unfold ownT
      cases hc : clsOf us (decl us) p with
      | none => exact Nat.zero_le _
      | some x =>
        obtain ⟨u, c⟩ := x
        unfold clsOf clsAt at hc
        simp only [Option.bind_eq_some_iff, Option.map_eq_some_iff, Prod.mk.injEq] at hc
        obtain ⟨d, _, u', hu, c', hc', rfl, rfl⟩ := hc
        simp only [List.length_map]
        exact hF7 u' (List.mem_of_getElem? hu) c' (List.mem_of_getElem? hc')
    unfold ftL
    rw [List.length_append]
    split
    · simp only [List.length_nil]; omega
    · omega
/-- the module's block while classes, statics, methods are put -/
abbrev mdc (a1 : Option Addr) (n1 c1 : Nat) (a2 : Option Addr) (n2 c2 : Nat) (a3 : Option Addr) (n3 c3 : Nat) (z : Nat) : List Value := [.slice a1 n1 c1, .slice a2 n2 c2, .slice a3 n3 c3, I z]
theorem Nc.box {b c : Nat} {w w' : World} (h : Nc b w w') {t : TypeId} {cs : List Value} (hb : Box w c t cs) (hne : c ≠ b) : Box w' c t cs := by unfold Box; rw [h.blk c hb.lt hne]; exact hb
theorem fld_dot {u : Unt} (hC : CkU u) {m : Mth} (hm : m ∈ u.methods) {i : Ins} (hi : i ∈ m.code) (h : i.op = 17 ∨ i.op = 18) : (46 : UInt8) ∈ (nm u i.a).data.toList ∧ (nm u i.a).size ≤ 200 := by
  have hn : named i = (1, 3) := by unfold named; rw [if_pos h]
  have ho : operand i = (i.a, 3) := by unfold operand; rw [hn]; rfl
  have := op_in hC hm hi (by rw [ho]; exact (by decide : (0 : Int) < 3))
  rw [ho] at this
  obtain ⟨h1, h2, h3⟩ := this
  refine ⟨dot_of (by simp only at h3; omega), ?_⟩
  have := (ck_small hC).2 i.a ⟨h1, h2⟩
  omega
theorem staM_at {p : ByteArray} {n k : Nat} {u : Unt} {f : Fld} (hg : getM (decl us).statics p = some (n, k)) (hu : us[n]? = some u) (hf : u.statics[k]? = some f) : staM us O p = kindM O.oc u f.ty := by
  unfold staM
  rw [hg]
  simp [hu, hf]
theorem mthM_at {p : ByteArray} {n k : Nat} {u : Unt} {m : Mth} (h : MthI us (mthD (decl us) p) n k u m) : mthM us O p = ⟨p, if 0 ≤ m.cls then idxB O.oc (nm u m.cls) else -1, m.params.map (kindM O.oc u), m.locals.map (kindM O.oc u), kindM O.oc u m.result, m.code.map (instM us O u)⟩ := by
  unfold mthM mthOf
  rw [h.of]
theorem k_module {c0 s0 m0 : Nat} (h : RunO b us O w) (hC : ∀ u ∈ us, CkU u) (hO : OOk us O) (dok : DOk us c0 s0 m0 (decl us)) (hF7 : ∀ u ∈ us, ∀ c ∈ u.classes, c.fields.length ≤ 7) :
    Ret Tryz.prog 47 #[.pointer (some ⟨b, 0, none⟩)] w fun v w' => ∃ a, v = .agg (modcells (modO us O) a).toArray ∧ MdR (fun i => w.heap.size ≤ i ∧ i < w'.heap.size) w' (modO us O) a ∧ Bl w w' := by
  have hI : ∀ u ∈ us, Ixs u := fun u hu => ixs_of (hC u hu)
  obtain ⟨az, cz, hcz, hSz⟩ := h.oz
  obtain ⟨ac, cc, hcc, hSc⟩ := h.oc
  obtain ⟨as', cs', hcs, hSs⟩ := h.os
  obtain ⟨am, cm, hcm, hSm⟩ := h.om
  have hlt := h.lnk.lt
  have hlc := hO.lc
  have hls := hO.ls
  have hlm := hO.lm
  have hlz := hO.lz
  have hkc := hO.kc
  refine entr (vs := [.pointer (some ⟨b, 0, none⟩)]) [0, 2, 3, 5, 7, 8, 10, 11, 12, 13, 14, 16, 28, 29, 30, 31, 61, 62, 63, 64, 101, 102, 103, 104, 117, 159, 174, 175, 176, 177] tabok Tryz.func47 (by kernel_rfl) ?_
  refine al fun b2 w1 k1 => ?_
  refine ld (k1.bl.cl hcz) ?_
  refine bd ?_
  refine al fun b3 w2 k2 => ?_
  refine sta (cs' := mdc none 0 0 none 0 0 none 0 0 O.oz.length) k2.box fun w3 k3 x3 => ?_
  have z1 := k1.size
  have y1 := k1.blk
  have z2 := k2.size
  have y2 := k2.blk
  have z3 := k3.size
  have B3 : Bl w w3 := k1.bl.trans (k2.wr k3)
  have x2 : Box w3 b2 29 (mdc none 0 0 none 0 0 none 0 0 0) := Bl.box (k2.wr k3) k1.box
  refine ld (B3.cl hcc) ?_
  refine lpk (vals := []) O.oc.length 30 [] [(0, .pointer (some ⟨b, 0, none⟩)), (2, .pointer (some ⟨b2, 0, none⟩)), (3, .pointer (some ⟨b3, 0, none⟩)), (28, .slice ac O.oc.length cc), (29, I O.oc.length)]
    (fun j vals w' => vals = [] ∧ Nc b3 w3 w' ∧ ∃ a1 c1, Box w' b3 29 (mdc a1 ((O.oc.take j).map (clsM us O)).length c1 none 0 0 none 0 0 O.oz.length) ∧ OwC eMC (fun i => w3.heap.size ≤ i) w' w3.heap.size 49 a1 c1 ((O.oc.take j).map (clsM us O)))
    ⟨rfl, .of_bl (Bl.refl _), none, 0, x3, OwC.nil ..⟩ ?_
  rintro j vals w4 hj ⟨rfl, N4, a1, c1, x4, O4⟩ ih
  have B4 : Bl w w4 := Nc.below B3 N4 (by omega) B3.size
  have z4 := N4.size
  by_cases hjl : j < O.oc.length
  · refine brT ?_
    obtain ⟨p, bf, off, cs, hp, rfl, _, hAt, rfl⟩ := at_some (hSc.bl B4) hjl
    obtain ⟨⟨n, k, u, c, hcI⟩, hdp, hps, hp0⟩ := hO.oc p (List.mem_of_getElem? hp)
    refine ix ?_
    refine ld (hAt 0 _ rfl) ?_
    have hna : ∀ g, a1 = some ⟨g, 0, none⟩ → w3.heap.size ≤ g := fun g hg => (O4.lt hg).1
    refine dht 1 (fun i => i < w3.heap.size) [0, 1, 2, 3, 4, 5, 6, 7, 8, 9, 12, 13, 15, 16, 10, 11, 14, 17, 18, 19, 20, 21] fun w5 k5 => ?_
    have B5 := B4.trans k5.bl
    have N5 := N4.bl k5.bl
    have x5 := Bl.box k5.bl x4
    refine ld (x5.cell rfl) ?_ (hm := by show b3 < _; omega)
    refine ld (B5.cl hcc) ?_ (hm := by show b < _; omega)
    refine cl (k_super (h.bl B5).lnk hI hcI) ?_
    rintro _ w6 ⟨rfl, B56⟩
    have B6 := B5.trans B56
    refine cl (l_Index (hSc.bl B6) cc _) ?_
    rintro _ w6x ⟨rfl, q6⟩
    rw [q6]
    refine cl (k_fieldTypes hI hF7 (keysM (decl us).classes).length p w6 (by have := hO.kc; omega) (h.bl B6) hdp) ?_ (hm := fun _ _ r => by obtain ⟨_, _, _, _, _, hB⟩ := r; exact mdW_bl hB)
    rintro _ w7 ⟨a7, c7, rfl, O7, hl7, B67⟩
    have B7 := B6.trans B67
    refine cl (k_row (h.bl B7) hC hdp hps hO.oz hp0) ?_ (hm := fun _ _ r => by obtain ⟨_, _, _, _, hB⟩ := r; exact mdW_bl hB)
    rintro _ w8 ⟨a8, c8, rfl, O8, B78⟩
    refine bd ?_
    refine bs (cs := mccells (clsM us O p) a7 c7 a8 c8) fun b9 w9 k9 => ?_
    have B49 := (k5.bl.trans B56).trans ((B67.trans B78).trans k9.bl)
    have B9 := B4.trans B49
    obtain ⟨xs, e1, e3, hOx, e4⟩ := (O4.bl B49).row
    have z5 : w5.heap.size = w4.heap.size := by rw [k5.heap]
    have z56 := B56.size
    have z67 := B67.size
    have z78 := B78.size
    have z9 := k9.size
    have hl9 : ((O.oc.take j).map (clsM us O)).length ≤ 50 := by rw [List.length_map, List.length_take]; omega
    refine ap hOx (.inr ⟨b9, 0, rfl, k9.box.at⟩) (by omega) (fun a10 c10 w10 hO10 hA10 hf10 => ?_) (hm := apS fun g hg => by have := hna g hg; show ¬ g < _; omega)
    have hrel : eMC.rel (fun i => w3.heap.size ≤ i ∧ a1 ≠ some ⟨i, 0, none⟩ ∧ i < w9.heap.size) w9 (mccells (clsM us O p) a7 c7 a8 c8) (clsM us O p) := by
      refine ⟨a7, c7, a8, c8, rfl, ?_, ?_, Nat.le_trans hps (by decide), O7.capn.1⟩
      · exact owp_sl (enc := encTy) ((O7.bl B78).bl k9.bl) (by show (ftL us (decl us) O.oc _ p).length ≤ _; omega) fun g hg => by
          have q1 := O7.lt hg
          exact ⟨by omega, fun e => by have := (O4.lt e).2; omega, by omega⟩
      · exact owp_sl (enc := encInt) (O8.bl k9.bl) (by rw [List.length_map]; omega) fun g hg => by
          have q1 := O8.lt hg
          exact ⟨by omega, fun e => by have := (O4.lt e).2; omega, by omega⟩
    have hO10' := OwC.push e1 e3 e4 hO10 hA10 hf10 hrel
    have x10 := hA10.box (Bl.box B49 x4) fun e => by have := hna _ e; omega
    refine st x10 fun w11 k11 x11 => ?_
    have e5 : (O.oc.take (j + 1)).map (clsM us O) = (O.oc.take j).map (clsM us O) ++ [clsM us O p] := map_snoc hp
    have N10 : Nc b3 w3 w10 := (N4.bl B49).ap hA10 hna
    exact ih hjl ⟨rfl, N10.wr k11 (.inl rfl), a10, c10, by rw [e5, List.length_append]; exact x11, by rw [e5]; exact hO10'.wr k11 (by omega) fun i hi => by omega⟩
  refine brF ?_
  obtain rfl : j = O.oc.length := by omega
  rw [List.take_length] at x4 O4
  have SC4 : Sl eMC (fun i => w3.heap.size ≤ i ∧ i < w4.heap.size) w4 a1 (O.oc.map (clsM us O)) := O4.sl2 (by rw [List.length_map]; omega)
  have x24 := N4.box x2 (by omega)
  clear ih
  -- the statics
  refine ld (B4.cl hcs) ?_
  refine lpk (vals := []) O.os.length 63 [] [(0, .pointer (some ⟨b, 0, none⟩)), (2, .pointer (some ⟨b2, 0, none⟩)), (3, .pointer (some ⟨b3, 0, none⟩)), (61, .slice as' O.os.length cs'), (62, I O.os.length)]
    (fun j vals w' => vals = [] ∧ Nc b3 w4 w' ∧ ∃ a2 c2, Box w' b3 29 (mdc a1 (O.oc.map (clsM us O)).length c1 a2 ((O.os.take j).map (staM us O)).length c2 none 0 0 O.oz.length) ∧ OwP 2 encTy w' w4.heap.size 51 a2 c2 ((O.os.take j).map (staM us O)))
    ⟨rfl, .of_bl (Bl.refl _), none, 0, x4, Ow.nil ..⟩ ?_
  rintro j vals w5 hj ⟨rfl, N5, a2, c2, x5, O5⟩ ih
  have B5 : Bl w w5 := Nc.below B4 N5 (by omega) B4.size
  have z5 := N5.size
  by_cases hjl : j < O.os.length
  · refine brT ?_
    obtain ⟨p, bf, off, cs, hp, rfl, _, hAt, rfl⟩ := at_some (hSs.bl B5) hjl
    obtain ⟨⟨n, k⟩, hg⟩ := mem_keys (hO.os p (List.mem_of_getElem? hp))
    obtain ⟨u, f, hu, hf⟩ := dok.st p _ hg
    have hum := List.mem_of_getElem? hu
    refine ix ?_
    refine ld (hAt 0 _ rfl) ?_
    obtain ⟨m1, h1, hm1⟩ := (h.bl B5).lnk.st
    refine ld h1 ?_
    refine lk tD hm1 ?_
    rw [hg]
    refine al fun b8 w6 k6 => ?_
    refine sta (vs := [I n, I k]) (cs' := [I n, I k]) k6.box fun w7 k7 x7 => ?_
    have hna : ∀ g, a2 = some ⟨g, 0, none⟩ → w4.heap.size ≤ g ∧ g < w5.heap.size := fun g hg => O5.lt hg
    have z6 := k6.size
    have y6 := k6.blk
    have z7 := k7.size
    refine dht 1 (fun i => i < w4.heap.size ∨ i = b8) (List.range 23) fun w8 k8 => ?_
    have z8 : w8.heap.size = w7.heap.size := by rw [k8.heap]
    have B58 := (k6.wr k7).trans k8.bl
    have B8 := B5.trans B58
    have x8 := Bl.box k8.bl x7
    obtain ⟨a, cu, h0, hS⟩ := h.lnk.us
    obtain ⟨b6, o6, cs6, rfl, _, hAt6, ua, rfl, hU⟩ := hS.el n u hu
    obtain ⟨b7, o7, cs7, e7, _, hAt7, rfl⟩ := hU.sta.el k f hf
    have hn : n < us.length := (List.getElem?_eq_some_iff.1 hu).1
    have hk : k < u.statics.length := (List.getElem?_eq_some_iff.1 hf).1
    have hb6 : b6 < w.heap.size := cell_lt (hAt6 3 _ rfl)
    have hb7 : b7 < w.heap.size := cell_lt (hAt7 0 _ rfl)
    have sB := B3.size
    refine ld ((Bl.box B58 x5).cell rfl) ?_ (hm := by exact .inl (by omega))
    refine ld (x8.cell rfl) ?_ (hm := by exact .inr rfl)
    refine ld (B8.cl h0) ?_ (hm := by exact .inl (by omega))
    refine ld (x8.cell rfl) ?_ (hm := by exact .inr rfl)
    refine ix ?_
    refine ld ((hAt6.bl B8) 3 _ rfl) ?_ (hm := by exact .inl (by omega))
    refine ld (x8.cell rfl) ?_ (hm := by exact .inr rfl)
    rw [e7]
    refine ix ?_
    refine lda ((hAt7.bl B8).sub 1 2) ?_ (hm := by exact .inl (by omega))
    refine cl (k_kind (h.bl B8) hu ((hI u hum).sty f (List.mem_of_getElem? hf))) ?_
    rintro _ w9 ⟨rfl, B89⟩
    refine bs (cs := encTy (kindM O.oc u f.ty)) fun b10 w10 k10 => ?_
    have B510 := (B58.trans B89).trans k10.bl
    have O10 := O5.bl B510
    have z10 := B510.size
    have y10 := k10.blk
    have s9 := B89.size
    have hl : ((O.os.take j).map (staM us O)).length ≤ 50 := by rw [List.length_map, List.length_take]; omega
    have e1 : (O.os.take (j + 1)).map (staM us O) = (O.os.take j).map (staM us O) ++ [kindM O.oc u f.ty] := by rw [map_snoc hp, staM_at hg hu hf]
    refine apl (l1 := [kindM O.oc u f.ty]) O10 (.inr ⟨b10, 0, rfl, k10.box.at⟩) (by omega) (fun a11 c11 w11 hO11 hA11 _ => ?_) (hb := by simp only [List.length_cons, List.length_nil]; omega) (hn := by simp only [List.length_cons, List.length_nil]; omega) (hm := apS fun g hg q => by have := hna g hg; rcases q with q | q <;> omega)
    have x11 := hA11.box (Bl.box B510 x5) fun e => by have := hna _ e; omega
    refine st x11 fun w12 k12 x12 => ?_
    have N11 : Nc b3 w4 w11 := (N5.bl B510).ap hA11 fun g hg => (hna g hg).1
    exact ih hjl ⟨rfl, N11.wr k12 (.inl rfl), a11, c11, by rw [e1]; exact x12, by rw [e1]; exact hO11.wr k12 fun g hg => by have := (hO11.lt hg).1; omega⟩
  refine brF ?_
  obtain rfl : j = O.os.length := by omega
  rw [List.take_length] at x5 O5
  have SC5 := SC4.kp (N5.nb.kp.sub fun i hi => by omega)
  have SS5 : Sl eTy (fun i => w3.heap.size ≤ i ∧ i < w5.heap.size) w5 a2 (O.os.map (staM us O)) := owp_sl O5 (by rw [List.length_map]; omega) fun g hg => by have := O5.lt hg; omega
  have x25 := N5.box x24 (by omega)
  clear ih
  -- the methods
  refine ld (B5.cl hcm) ?_
  refine lpk (vals := []) O.om.length 103 [] [(0, .pointer (some ⟨b, 0, none⟩)), (2, .pointer (some ⟨b2, 0, none⟩)), (3, .pointer (some ⟨b3, 0, none⟩)), (101, .slice am O.om.length cm), (102, I O.om.length)]
    (fun j vals w' => vals = [] ∧ Nc b3 w5 w' ∧ ∃ a3 c3, Box w' b3 29 (mdc a1 (O.oc.map (clsM us O)).length c1 a2 (O.os.map (staM us O)).length c2 a3 ((O.om.take j).map (mthM us O)).length c3 O.oz.length) ∧ OwC eMM (fun i => w5.heap.size ≤ i) w' w5.heap.size 54 a3 c3 ((O.om.take j).map (mthM us O)))
    ⟨rfl, .of_bl (Bl.refl _), none, 0, x5, OwC.nil ..⟩ ?_
  rintro j vals w6 hj ⟨rfl, N6, a3, c3, x6, O6⟩ ih
  have B6 : Bl w w6 := Nc.below B5 N6 (by omega) B5.size
  have z6 := N6.size
  have sB := B3.size
  by_cases hjl : j < O.om.length
  · refine brT ?_
    obtain ⟨p, bf, off, cs, hp, rfl, _, hAt, rfl⟩ := at_some (hSm.bl B6) hjl
    obtain ⟨n, k, u, m, hm⟩ := mthI_of dok (hO.om p (List.mem_of_getElem? hp))
    have hum := List.mem_of_getElem? hm.hu
    have hmm := List.mem_of_getElem? hm.hm
    have hg := hm.g
    unfold mthD at hg
    have hna : ∀ g, a3 = some ⟨g, 0, none⟩ → w5.heap.size ≤ g ∧ g < w6.heap.size := fun g hg => O6.lt hg
    refine ix ?_
    refine ld (hAt 0 _ rfl) ?_
    obtain ⟨m1, h1, hm1⟩ := (h.bl B6).lnk.ca
    refine ld h1 ?_
    refine lko tD hm1 ?_
    rw [getD_enc]
    refine al fun b11 w7 k7 => ?_
    refine sta k7.box fun w8 k8 x8 => ?_
    have B68 := k7.wr k8
    have y7 := k7.blk
    have z7 := k7.size
    have z8 := k8.size
    refine jn [] [(0, .pointer (some ⟨b, 0, none⟩)), (2, .pointer (some ⟨b2, 0, none⟩)), (3, .pointer (some ⟨b3, 0, none⟩)), (101, .slice (some ⟨bf, off, none⟩) O.om.length cm), (102, I O.om.length), (103, I j), (10, .string p), (11, .pointer (some ⟨b11, 0, none⟩))] (fun vals w' => vals = [] ∧ Box w' b11 151 [I n, I k] ∧ Bl w6 w') (fun q jo => ?_) (fun q jo => ?_) ?_
    · have hn : getM (decl us).calls p = none := by
        simp only [hasM, Bool.not_eq_true'] at q
        cases hc : getM (decl us).calls p with
        | none => rfl
        | some d => rw [hc] at q; cases q
      have hg2 : getM (decl us).sends p = some (n, k) := by rw [hn] at hg; exact hg
      obtain ⟨m2, h2, hm2⟩ := (h.bl (B6.trans B68)).lnk.se
      refine ld h2 ?_
      refine lk tD hm2 ?_
      rw [hg2]
      refine sta (vs := [I n, I k]) (cs' := [I n, I k]) x8 fun w9 k9 x9 => ?_
      exact jo ⟨rfl, x9, Below.trans B68 (k9.below (Nat.le_of_eq k7.blk.symm))⟩
    · simp only [hasM, Bool.not_eq_false'] at q
      obtain ⟨d, hd⟩ := Option.isSome_iff_exists.1 q
      have hd2 : d = (n, k) := by rw [hd] at hg; exact Option.some.inj hg
      rw [hd, hd2] at x8
      exact jo ⟨rfl, x8, B68⟩
    clear x8 k8 B68 z8 k7 z7
    rintro _ w8 ⟨rfl, x8, B68⟩
    have z8 := B68.size
    have l8 := x8.lt
    obtain ⟨a, cu, h0, hS⟩ := h.lnk.us
    obtain ⟨b6, o6, cs6, rfl, _, hAt6, ua, rfl, hU⟩ := hS.el n u hm.hu
    obtain ⟨b7, o7, cs7, e7, _, hAt7, p1, d1, p2, d2, p3, d3, rfl, hF1, hF2, hF3⟩ := hU.mth.el k m hm.hm
    have hn : n < us.length := (List.getElem?_eq_some_iff.1 hm.hu).1
    have hk : k < u.methods.length := (List.getElem?_eq_some_iff.1 hm.hm).1
    have hb6 : b6 < w.heap.size := cell_lt (hAt6 4 _ rfl)
    have hb7 : b7 < w.heap.size := cell_lt (hAt7 0 _ rfl)
    have sB6 := B6.size
    have hcl : 0 ≤ m.cls → inP u m.cls := fun q => ((hI u hum).plc.mc m hmm).resolve_left (by omega)
    refine dh (· < w8.heap.size) (List.range 15) fun w9 k9 => ?_
    have B69 := B68.trans k9.bl
    have z9 : w9.heap.size = w8.heap.size := by rw [k9.heap]
    have B9 := B6.trans B69
    have x9 := Bl.box k9.bl x8
    refine ld (B9.cl h0) ?_ (hm := by show b < _; omega)
    refine ld (x9.cell rfl) ?_ (hm := by show b11 < _; omega)
    refine ix ?_
    refine ld ((hAt6.bl B9) 4 _ rfl) ?_ (hm := by show b6 < _; omega)
    refine ld (x9.cell rfl) ?_ (hm := by show b11 < _; omega)
    rw [e7]
    refine ix ?_
    refine lda (hAt7.bl B9) ?_ (hm := by show b7 < _; omega)
    refine al fun b13 w10 k10 => ?_
    have y10 := k10.blk
    have z10 := k10.size
    refine sta k10.box (fun w11 k11 x11 => ?_) (hm := wrS (by show ¬ b13 < _; omega))
    have z11 := k11.size
    have B611 : Bl w6 w11 := B69.trans (k10.wr k11)
    have B11 := B6.trans B611
    have d11 := Bl.box (k10.wr k11) x9
    refine cut [14] [(0, .pointer (some ⟨b, 0, none⟩)), (2, .pointer (some ⟨b2, 0, none⟩)), (3, .pointer (some ⟨b3, 0, none⟩)), (101, .slice (some ⟨bf, off, none⟩) O.om.length cm), (102, I O.om.length), (103, I j), (10, .string p), (11, .pointer (some ⟨b11, 0, none⟩)), (13, .pointer (some ⟨b13, 0, none⟩))]
      (fun vals w' => ∃ b14 a5 c5 a6 c6, vals = [.pointer (some ⟨b14, 0, none⟩)] ∧ w11.heap.size ≤ b14 ∧ Bl w11 w' ∧ Box w' b14 54 (mmcells ⟨p, -1, m.params.map (kindM O.oc u), m.locals.map (kindM O.oc u), kindM O.oc u m.result, []⟩ a5 c5 a6 c6 none 0) ∧
        Sl eTy (fun i => w11.heap.size ≤ i ∧ i < w'.heap.size ∧ i ≠ b14) w' a5 (m.params.map (kindM O.oc u)) ∧ Sl eTy (fun i => w11.heap.size ≤ i ∧ i < w'.heap.size ∧ i ≠ b14) w' a6 (m.locals.map (kindM O.oc u))) (fun jo => ?_) ?_
    · refine dhb (· < w11.heap.size) (.row [0, 1, 2, 3, 4, 5, 7, 8, 9, 10, 11, 13, 14, 15, 16, 17] (.two 6 (.two 12 (.two 18 (.row [19, 20, 21] .done) 20 (.row [18, 19, 21] .done)) 20 (.row [12, 18, 19, 21] .done)) 20 (.row [6, 12, 18, 19, 21] .done))) fun w12 k12 => ?_
      have hIu := hI u hum
      have hty1 : ∀ t ∈ m.params, optP u t.cls := fun t ht => hIu.mty m hmm t (List.mem_append_left _ (List.mem_append_left _ ht))
      have hty2 : ∀ t ∈ m.locals, optP u t.cls := fun t ht => hIu.mty m hmm t (List.mem_append_left _ (List.mem_append_right _ ht))
      have hty3 : optP u m.result.cls := hIu.mty m hmm _ (List.mem_append_right _ (List.mem_singleton.2 rfl))
      have g1 := hF1.big
      have g2 := hF2.big
      have l11 := x11.lt
      have B1_12 := k12.bl
      have s12 : w12.heap.size = w11.heap.size := by rw [k12.heap]
      have d12 := Bl.box k12.bl d11
      have x12 := Bl.box k12.bl x11
      refine ld (d12.cell rfl) ?_ (hm := by show b11 < _; omega)
      refine ld (x12.cell rfl) ?_ (hm := by show b13 < _; omega)
      refine ld (d12.cell rfl) ?_ (hm := by show b11 < _; omega)
      refine ld (x12.cell rfl) ?_ (hm := by show b13 < _; omega)
      refine ld (d12.cell rfl) ?_ (hm := by show b11 < _; omega)
      refine lda (x12.at.sub 4 2) ?_ (hm := by show b13 < _; omega)
      -- ORDERS
      refine bt ?_ ?_
      · refine cl (k_kinds (h.bl (B11.trans B1_12)) hm.hu ((hF1.bl (B11.trans B1_12)).sub fun _ _ => trivial) hty1) ?_ (hm := fun _ _ r => by obtain ⟨_, _, _, _, hB⟩ := r; exact mdW_bl hB)
        rintro _ v13 ⟨a5, c5, rfl, O5_13, q13⟩
        have s13 := q13.size
        have l5 := fun g (hg : a5 = some ⟨g, 0, none⟩) => O5_13.lt hg
        have B1_13 := B1_12.trans q13
        refine bt ?_ ?_
        · refine cl (k_kinds (h.bl (B11.trans B1_13)) hm.hu ((hF2.bl (B11.trans B1_13)).sub fun _ _ => trivial) hty2) ?_ (hm := fun _ _ r => by obtain ⟨_, _, _, _, hB⟩ := r; exact mdW_bl hB)
          rintro _ v14 ⟨a6, c6, rfl, O6_14, q14⟩
          have s14 := q14.size
          have l6 := fun g (hg : a6 = some ⟨g, 0, none⟩) => O6_14.lt hg
          have B1_14 := B1_13.trans q14
          have O5_14 := O5_13.bl q14
          refine bt ?_ ?_
          · refine cl (k_kind (h.bl (B11.trans B1_14)) hm.hu hty3) ?_
            rintro _ v15 ⟨rfl, q15⟩
            have s15 := q15.size
            have B1_15 := B1_14.trans q15
            have O5_15 := O5_14.bl q15
            have O6_15 := O6_14.bl q15
            refine bd ?_
            refine al fun b14 v16 k16 => ?_
            have q16 := k16.bl
            have s16 := k16.size
            have y14 := k16.blk
            have B1_16 := B1_15.trans q16
            have x_16 : Box v16 b14 54 _ := k16.box
            have O5_16 := O5_15.bl q16
            have O6_16 := O6_15.bl q16
            refine sta (cs' := (mmcells ⟨p, -1, m.params.map (kindM O.oc u), m.locals.map (kindM O.oc u), kindM O.oc u m.result, []⟩ a5 c5 a6 c6 none 0)) x_16 (fun wz kz xz => ?_) (hm := wrB (by show ¬ b14 < _; omega))
            have sz := kz.size
            refine jo ⟨b14, a5, c5, a6, c6, rfl, by omega, Below.trans B1_16 (kz.below (by omega)), xz, ?_, ?_⟩
            · exact owp_sl (O5_16.wr kz fun g hg => by have := l5 g hg; omega) (by rw [List.length_map]; omega) fun g hg => by have := l5 g hg; exact ⟨by omega, by omega, by omega⟩
            · exact owp_sl (O6_16.wr kz fun g hg => by have := l6 g hg; omega) (by rw [List.length_map]; omega) fun g hg => by have := l6 g hg; exact ⟨by omega, by omega, by omega⟩
          · refine al fun b14 v15 k15 => ?_
            have q15 := k15.bl
            have s15 := k15.size
            have y14 := k15.blk
            have B1_15 := B1_14.trans q15
            have x_15 : Box v15 b14 54 _ := k15.box
            have O5_15 := O5_14.bl q15
            have O6_15 := O6_14.bl q15
            refine cl (k_kind (h.bl (B11.trans B1_15)) hm.hu hty3) ?_
            rintro _ v16 ⟨rfl, q16⟩
            have s16 := q16.size
            have B1_16 := B1_15.trans q16
            have O5_16 := O5_15.bl q16
            have O6_16 := O6_15.bl q16
            have x_16 := Bl.box q16 x_15
            refine bd ?_
            refine sta (cs' := (mmcells ⟨p, -1, m.params.map (kindM O.oc u), m.locals.map (kindM O.oc u), kindM O.oc u m.result, []⟩ a5 c5 a6 c6 none 0)) x_16 (fun wz kz xz => ?_) (hm := wrB (by show ¬ b14 < _; omega))
            have sz := kz.size
            refine jo ⟨b14, a5, c5, a6, c6, rfl, by omega, Below.trans B1_16 (kz.below (by omega)), xz, ?_, ?_⟩
            · exact owp_sl (O5_16.wr kz fun g hg => by have := l5 g hg; omega) (by rw [List.length_map]; omega) fun g hg => by have := l5 g hg; exact ⟨by omega, by omega, by omega⟩
            · exact owp_sl (O6_16.wr kz fun g hg => by have := l6 g hg; omega) (by rw [List.length_map]; omega) fun g hg => by have := l6 g hg; exact ⟨by omega, by omega, by omega⟩
        · refine al fun b14 v14 k14 => ?_
          have q14 := k14.bl
          have s14 := k14.size
          have y14 := k14.blk
          have B1_14 := B1_13.trans q14
          have x_14 : Box v14 b14 54 _ := k14.box
          have O5_14 := O5_13.bl q14
          refine cl (k_kinds (h.bl (B11.trans B1_14)) hm.hu ((hF2.bl (B11.trans B1_14)).sub fun _ _ => trivial) hty2) ?_ (hm := fun _ _ r => by obtain ⟨_, _, _, _, hB⟩ := r; exact mdW_bl hB)
          rintro _ v15 ⟨a6, c6, rfl, O6_15, q15⟩
          have s15 := q15.size
          have l6 := fun g (hg : a6 = some ⟨g, 0, none⟩) => O6_15.lt hg
          have B1_15 := B1_14.trans q15
          have O5_15 := O5_14.bl q15
          have x_15 := Bl.box q15 x_14
          refine cl (k_kind (h.bl (B11.trans B1_15)) hm.hu hty3) ?_
          rintro _ v16 ⟨rfl, q16⟩
          have s16 := q16.size
          have B1_16 := B1_15.trans q16
          have O5_16 := O5_15.bl q16
          have O6_16 := O6_15.bl q16
          have x_16 := Bl.box q16 x_15
          refine bd ?_
          refine sta (cs' := (mmcells ⟨p, -1, m.params.map (kindM O.oc u), m.locals.map (kindM O.oc u), kindM O.oc u m.result, []⟩ a5 c5 a6 c6 none 0)) x_16 (fun wz kz xz => ?_) (hm := wrB (by show ¬ b14 < _; omega))
          have sz := kz.size
          refine jo ⟨b14, a5, c5, a6, c6, rfl, by omega, Below.trans B1_16 (kz.below (by omega)), xz, ?_, ?_⟩
          · exact owp_sl (O5_16.wr kz fun g hg => by have := l5 g hg; omega) (by rw [List.length_map]; omega) fun g hg => by have := l5 g hg; exact ⟨by omega, by omega, by omega⟩
          · exact owp_sl (O6_16.wr kz fun g hg => by have := l6 g hg; omega) (by rw [List.length_map]; omega) fun g hg => by have := l6 g hg; exact ⟨by omega, by omega, by omega⟩
      · refine al fun b14 v13 k13 => ?_
        have q13 := k13.bl
        have s13 := k13.size
        have y14 := k13.blk
        have B1_13 := B1_12.trans q13
        have x_13 : Box v13 b14 54 _ := k13.box
        refine cl (k_kinds (h.bl (B11.trans B1_13)) hm.hu ((hF1.bl (B11.trans B1_13)).sub fun _ _ => trivial) hty1) ?_ (hm := fun _ _ r => by obtain ⟨_, _, _, _, hB⟩ := r; exact mdW_bl hB)
        rintro _ v14 ⟨a5, c5, rfl, O5_14, q14⟩
        have s14 := q14.size
        have l5 := fun g (hg : a5 = some ⟨g, 0, none⟩) => O5_14.lt hg
        have B1_14 := B1_13.trans q14
        have x_14 := Bl.box q14 x_13
        refine cl (k_kinds (h.bl (B11.trans B1_14)) hm.hu ((hF2.bl (B11.trans B1_14)).sub fun _ _ => trivial) hty2) ?_ (hm := fun _ _ r => by obtain ⟨_, _, _, _, hB⟩ := r; exact mdW_bl hB)
        rintro _ v15 ⟨a6, c6, rfl, O6_15, q15⟩
        have s15 := q15.size
        have l6 := fun g (hg : a6 = some ⟨g, 0, none⟩) => O6_15.lt hg
        have B1_15 := B1_14.trans q15
        have O5_15 := O5_14.bl q15
        have x_15 := Bl.box q15 x_14
        refine cl (k_kind (h.bl (B11.trans B1_15)) hm.hu hty3) ?_
        rintro _ v16 ⟨rfl, q16⟩
        have s16 := q16.size
        have B1_16 := B1_15.trans q16
        have O5_16 := O5_15.bl q16
        have O6_16 := O6_15.bl q16
        have x_16 := Bl.box q16 x_15
        refine bd ?_
        refine sta (cs' := (mmcells ⟨p, -1, m.params.map (kindM O.oc u), m.locals.map (kindM O.oc u), kindM O.oc u m.result, []⟩ a5 c5 a6 c6 none 0)) x_16 (fun wz kz xz => ?_) (hm := wrB (by show ¬ b14 < _; omega))
        have sz := kz.size
        refine jo ⟨b14, a5, c5, a6, c6, rfl, by omega, Below.trans B1_16 (kz.below (by omega)), xz, ?_, ?_⟩
        · exact owp_sl (O5_16.wr kz fun g hg => by have := l5 g hg; omega) (by rw [List.length_map]; omega) fun g hg => by have := l5 g hg; exact ⟨by omega, by omega, by omega⟩
        · exact owp_sl (O6_16.wr kz fun g hg => by have := l6 g hg; omega) (by rw [List.length_map]; omega) fun g hg => by have := l6 g hg; exact ⟨by omega, by omega, by omega⟩
      -- END ORDERS
    rintro _ w12 ⟨b14, a5, c5, a6, c6, rfl, hb14, B1112, x12, S5, S6⟩
    have z12 := B1112.size
    have l12 := x12.lt
    have B612 := B611.trans B1112
    have B12 := B6.trans B612
    have d12 := Bl.box B1112 d11
    have xm12 := Bl.box B1112 x11
    refine ld (xm12.cell rfl) ?_
    refine jn [] [(0, .pointer (some ⟨b, 0, none⟩)), (2, .pointer (some ⟨b2, 0, none⟩)), (3, .pointer (some ⟨b3, 0, none⟩)), (101, .slice (some ⟨bf, off, none⟩) O.om.length cm), (102, I O.om.length), (103, I j), (10, .string p), (11, .pointer (some ⟨b11, 0, none⟩)), (13, .pointer (some ⟨b13, 0, none⟩)), (14, .pointer (some ⟨b14, 0, none⟩))]
      (fun vals w' => vals = [] ∧ Nc b14 w12 w' ∧ Box w' b14 54 (mmcells ⟨p, if 0 ≤ m.cls then idxB O.oc (nm u m.cls) else -1, m.params.map (kindM O.oc u), m.locals.map (kindM O.oc u), kindM O.oc u m.result, []⟩ a5 c5 a6 c6 none 0)) (fun q jo => ?_) (fun q jo => ?_) ?_
    · have q0 : 0 ≤ m.cls := of_decide_eq_true q
      refine dt 1 fun w13 k13 => ?_
      have B13 := B12.trans k13.bl
      refine ld (B13.cl hcc) ?_
      refine ld ((k13.box d12).cell rfl) ?_
      refine ld ((k13.box xm12).cell rfl) ?_
      refine clq (k_path (h.bl B13).lnk hm.hu (hcl q0)) ?_
      refine clq (l_Index (hSc.bl B13) cc _) ?_
      refine st (k13.box x12) fun w14 k14 x14 => ?_
      exact jo ⟨rfl, (Nc.of_bl k13.bl).wr k14 (.inl rfl), by rw [if_pos q0]; exact x14⟩
    · have q0 : ¬ 0 ≤ m.cls := of_decide_eq_false q
      exact jo ⟨rfl, .of_bl (Bl.refl _), by rw [if_neg q0]; exact x12⟩
    rintro _ w13 ⟨rfl, N13, x13⟩
    have z13 := N13.size
    have B13 : Bl w w13 := Nc.below B12 N13 (by omega) B12.size
    have g3 := code_len (hC u hum) hmm
    have xm13 := N13.box xm12 (by omega)
    refine ld (xm13.cell rfl) ?_
    refine lpk (vals := []) m.code.length 176 [] [(0, .pointer (some ⟨b, 0, none⟩)), (2, .pointer (some ⟨b2, 0, none⟩)), (3, .pointer (some ⟨b3, 0, none⟩)), (101, .slice (some ⟨bf, off, none⟩) O.om.length cm), (102, I O.om.length), (103, I j), (10, .string p), (11, .pointer (some ⟨b11, 0, none⟩)), (14, .pointer (some ⟨b14, 0, none⟩)), (174, .slice p3 m.code.length d3), (175, I m.code.length)]
      (fun i vals w' => vals = [] ∧ Nc b14 w13 w' ∧ ∃ a7 c7, Box w' b14 54 [.string p, I (if 0 ≤ m.cls then idxB O.oc (nm u m.cls) else -1), .slice a5 (m.params.map (kindM O.oc u)).length c5, .slice a6 (m.locals.map (kindM O.oc u)).length c6, I (kindM O.oc u m.result).kind, I (kindM O.oc u m.result).cls, .slice a7 ((m.code.take i).map (instM us O u)).length c7] ∧ OwP 3 encIns w' w13.heap.size 120 a7 c7 ((m.code.take i).map (instM us O u)))
      ⟨rfl, .of_bl (Bl.refl _), none, 0, x13, Ow.nil ..⟩ ?_
    rintro i vals w14 hi ⟨rfl, N14, a7, c7, x14, O14⟩ ih2
    have z14 := N14.size
    have B14 : Bl w w14 := Nc.below B13 N14 (by omega) B13.size
    have N1214 := N13.trans N14
    have d14 := N1214.box d12 (by omega)
    by_cases hil : i < m.code.length
    · refine brT ?_
      obtain ⟨ins, bg, og, csg, hin, rfl, _, hAtg, rfl⟩ := at_some (hF3.bl B14) hil
      have him := List.mem_of_getElem? hin
      have hIu := hI u hum
      have l7 := fun g (hg : a7 = some ⟨g, 0, none⟩) => O14.lt hg
      refine ix ?_
      refine lda hAtg ?_
      refine al fun b16 w15 k15 => ?_
      refine sta k15.box fun w16 k16 x16 => ?_
      have y15 := k15.blk
      have z15 := k15.size
      have z16 := k16.size
      have lx14 := x14.lt
      refine dht 1 (fun i => i < w13.heap.size ∨ i = b16) (List.range 10) fun w17 k17 => ?_
      have B1417 := (k15.wr k16).trans k17.bl
      have B17 := B14.trans B1417
      have z17 : w17.heap.size = w16.heap.size := by rw [k17.heap]
      have ld11 := d12.lt
      refine ld ((Bl.box B1417 x14).cell rfl) ?_ (hm := by exact .inl (by omega))
      refine ld ((Bl.box B1417 d14).cell rfl) ?_ (hm := by exact .inl (by omega))
      refine lda (Bl.box k17.bl x16).at ?_ (hm := by exact .inr rfl)
      refine cl (k_instr (h.bl B17) hm.hu (hIu.opa m hmm ins him) (hIu.opb m hmm ins him) (fld_dot (hC u hum) hmm him)) ?_
      rintro _ w18 ⟨rfl, B1718⟩
      refine bs (cs := encIns (instM us O u ins)) fun b19 w19 k19 => ?_
      have B1419 := (B1417.trans B1718).trans k19.bl
      have z18 := B1718.size
      have z19 := k19.size
      have y19 := k19.blk
      have e1 : (m.code.take (i + 1)).map (instM us O u) = (m.code.take i).map (instM us O u) ++ [instM us O u ins] := map_snoc hin
      have hl : ((m.code.take i).map (instM us O u)).length ≤ 120 := by rw [List.length_map, List.length_take]; omega
      refine apl (l1 := [instM us O u ins]) (O14.bl B1419) (.inr ⟨b19, 0, rfl, k19.box.at⟩) (by omega) (fun a20 c20 w20 O20 A20 _ => ?_) (hb := by simp only [List.length_cons, List.length_nil]; omega) (hn := by simp only [List.length_cons, List.length_nil]; omega) (hm := apS fun g hg q => by have := l7 g hg; rcases q with q | q <;> omega)
      have x20 := A20.box (Bl.box B1419 x14) fun e => by have := l7 _ e; omega
      refine st x20 fun w21 k21 x21 => ?_
      have N20 : Nc b14 w13 w20 := (N14.bl B1419).ap A20 fun g hg => (l7 g hg).1
      exact ih2 hil ⟨rfl, N20.wr k21 (.inl rfl), a20, c20, by rw [e1]; exact x21, by rw [e1]; exact O20.wr k21 fun g hg => by have := (O20.lt hg).1; omega⟩
    refine brF ?_
    obtain rfl : i = m.code.length := by omega
    rw [List.take_length] at x14 O14
    clear ih2
    have N614 : Nc b14 w6 w14 := (Nc.of_bl B612).trans N1214
    have x614 := N614.box x6 (by have := x6.lt; omega)
    refine ld (x614.cell rfl) ?_
    refine lda x14.at ?_
    refine bs (cs := mmcells (mthM us O p) a5 c5 a6 c6 a7 c7) (fun b15 w15 k15 => ?_) (hcs := by rw [mthM_at hm]; rfl)
    have y15 := k15.blk
    have z15 := k15.size
    have B614 : Bl w6 w14 := Nc.below B612 N1214 (by omega) B612.size
    have B615 : Bl w6 w15 := B614.trans k15.bl
    obtain ⟨xs, e1, e3, hOx, e4⟩ := (O6.bl B615).row
    have hl9 : ((O.om.take j).map (mthM us O)).length ≤ 80 := by rw [List.length_map, List.length_take]; omega
    refine ap hOx (.inr ⟨b15, 0, rfl, k15.box.at⟩) (by omega) (fun a16 c16 w16 hO16 hA16 hf16 => ?_)
    have hrel : eMM.rel (fun i => w5.heap.size ≤ i ∧ a3 ≠ some ⟨i, 0, none⟩ ∧ i < w15.heap.size) w15 (mmcells (mthM us O p) a5 c5 a6 c6 a7 c7) (mthM us O p) := by
      have hps : p.size ≤ 200 := hO.zm p (List.mem_of_getElem? hp)
      rw [mthM_at hm]
      refine ⟨a5, c5, a6, c6, a7, c7, rfl, ?_, ?_, ?_, Nat.le_trans hps (by decide)⟩
      · exact ((S5.kp (N1214.nb.kp.sub fun i hi => hi.2.2)).bl k15.bl).sub fun i hi => ⟨by omega, fun e => by have := hna _ e; omega, by omega⟩
      · exact ((S6.kp (N1214.nb.kp.sub fun i hi => hi.2.2)).bl k15.bl).sub fun i hi => ⟨by omega, fun e => by have := hna _ e; omega, by omega⟩
      · exact owp_sl (O14.bl k15.bl) (by rw [List.length_map]; omega) fun g hg => by
          have q1 := O14.lt hg
          exact ⟨by omega, fun e => by have := hna _ e; omega, by omega⟩
    have hO16' := OwC.push e1 e3 e4 hO16 hA16 hf16 hrel
    have x16 := hA16.box (Bl.box k15.bl x614) fun e => by have := hna _ e; omega
    refine st x16 fun w17 k17 x17 => ?_
    have e5 : (O.om.take (j + 1)).map (mthM us O) = (O.om.take j).map (mthM us O) ++ [mthM us O p] := map_snoc hp
    have N16 : Nc b3 w5 w16 := (N6.bl B615).ap hA16 fun g hg => (hna g hg).1
    exact ih hjl ⟨rfl, N16.wr k17 (.inl rfl), a16, c16, by rw [e5, List.length_append]; exact x17, by rw [e5]; exact hO16'.wr k17 (by omega) fun i hi => by omega⟩
  refine brF ?_
  obtain rfl : j = O.om.length := by omega
  rw [List.take_length] at x6 O6
  have SC6 := SC5.kp (N6.nb.kp.sub fun i hi => by omega)
  have SS6 := SS5.kp (N6.nb.kp.sub fun i hi => by omega)
  have SM6 : Sl eMM (fun i => w5.heap.size ≤ i ∧ i < w6.heap.size) w6 a3 (O.om.map (mthM us O)) := O6.sl2 (by rw [List.length_map]; omega)
  have x26 := N6.box x25 (by omega)
  refine lda x6.at ?_
  refine sta (cs' := mdc a1 (O.oc.map (clsM us O)).length c1 a2 (O.os.map (staM us O)).length c2 a3 (O.om.map (mthM us O)).length c3 O.oz.length) x26 fun w7 k7 x7 => ?_
  have z7 := k7.size
  refine rtc (cs := mdc a1 (O.oc.map (clsM us O)).length c1 a2 (O.os.map (staM us O)).length c2 a3 (O.om.map (mthM us O)).length c3 O.oz.length) x7.at ⟨⟨a1, c1, a2, c2, a3, c3⟩, rfl, ⟨?_, ?_, ?_⟩, Below.trans B6 (k7.below (by omega))⟩
  · exact (SC6.kp (k7.kp fun i hi => by omega)).sub fun i hi => by omega
  · exact (SS6.kp (k7.kp fun i hi => by omega)).sub fun i hi => by omega
  · exact (SM6.kp (k7.kp fun i hi => by omega)).sub fun i hi => by omega
end Go.Proofs.YtkmdfjpafkcleaaGreatDoor

/- Walks: the document's Copy of modules. -/
namespace Go.Proofs.YtkmdfjpafkcleaaGreatDoor
open Eng Go.RowKit
theorem mone {S : Nat → Prop} {w : World} {cs : List Value} {c : MC} (h : eMC.rel S w cs c) : cs.all Value.oneCell' = true := by
  obtain ⟨_, _, _, _, rfl, _⟩ := h; rfl
theorem Sl.ltM {S : Nat → Prop} {w : World} {a : Option Addr} {l : List MC} (h : Sl eMC S w a l) : Sl eMC (· < w.heap.size) w a l :=
  ⟨h.big, fun i x hx => by
    obtain ⟨b, o, cs, e, _, hat, a1, c1, a2, c2, rfl, h1, h2, h3⟩ := h.el i x hx
    exact ⟨b, o, _, e, cell_lt (hat 0 _ rfl), hat, a1, c1, a2, c2, rfl, Sl.lt (by decide) h1, Sl.lt (by decide) h2, h3⟩⟩
theorem Sl.ltMM {S : Nat → Prop} {w : World} {a : Option Addr} {l : List MM} (h : Sl eMM S w a l) : Sl eMM (· < w.heap.size) w a l :=
  ⟨h.big, fun i x hx => by
    obtain ⟨b, o, cs, e, _, hat, a1, c1, a2, c2, a3, c3, rfl, h1, h2, h3, h4⟩ := h.el i x hx
    exact ⟨b, o, _, e, cell_lt (hat 0 _ rfl), hat, a1, c1, a2, c2, a3, c3, rfl, Sl.lt (by decide) h1, Sl.lt (by decide) h2, Sl.lt (by decide) h3, h4⟩⟩
theorem MdR.lt {S : Nat → Prop} {w : World} {m : Mod} {a : MA} (h : MdR S w m a) : MdR (· < w.heap.size) w m a := ⟨h.cls.ltM, Sl.lt (by decide) h.sta, h.mth.ltMM⟩
set_option maxHeartbeats 2000000 in
theorem r5_Copy (m : Mod) (a : MA) (w : World) (hM : MdR T w m a) : Ret Tryz.prog 17 #[.agg (modcells m a).toArray] w fun v w' => ∃ a', v = .agg (modcells m a').toArray ∧ MdR (fun b => w.heap.size ≤ b ∧ b < w'.heap.size) w' m a' ∧ Bl w w' := by
  have hM0 := hM.lt
  have p1 := hM.cls.big
  have p2 := hM.sta.big
  have p3 := hM.mth.big
  refine entr (vs := [.agg (modcells m a).toArray]) [0, 1, 2, 3, 4, 5, 6, 7, 19, 47] tabok Tryz.func17 (by kernel_rfl) ?_
  refine bx (cs := modcells m a) fun b1 w1 k1 => ?_
  refine al fun b2 w2 k2 => ?_
  have y1 := k1.blk
  have y2 := k2.blk
  have z1 := k1.size
  have z2 := k2.size
  have B2 := k1.bl.trans k2.bl
  have x1 := Bl.box k2.bl k1.box
  have x2 := k2.box
  have l1 := x1.lt
  refine cut [3] [(1, .pointer (some ⟨b1, 0, none⟩)), (2, .pointer (some ⟨b2, 0, none⟩))] (fun vals w' => ∃ b3 a2 c2, vals = [.pointer (some ⟨b3, 0, none⟩)] ∧ Bl w2 w' ∧ w2.heap.size ≤ b3 ∧ Box w' b3 29 [.slice none 0 0, .slice a2 m.statics.length c2, .slice none 0 0, I m.sels] ∧ Sl eTy (fun i => w2.heap.size ≤ i ∧ i < w'.heap.size ∧ i ≠ b3) w' a2 m.statics) (fun jo => ?_) ?_
  · refine dhb (· < w2.heap.size) (.row [0, 1, 3, 4] (.two 2 (.two 5 (.row [6, 7, 8] .done) 7 (.row [5, 6, 8] .done)) 7 (.row [2, 5, 6, 8] .done))) fun w3 h3 => ?_
    have B3 := h3.bl
    have e3 : w3.heap.size = w2.heap.size := by rw [h3.heap]
    refine ld ((h3.box x1).cell rfl) ?_ (hm := l1)
    refine ld ((h3.box x1).cell rfl) ?_ (hm := l1)
    refine bt ?_ ?_
    · refine bs (cs := []) fun b4 w4 k4 => ?_
      have y4 := k4.blk
      have z4 := k4.size
      have C4 : Bl w2 w4 := (h3.bl).trans k4.bl
      have P4 : OwP 2 encTy w4 b4 51 (some ⟨b4, 0, none⟩) 0 ([] : List Ty) := Ow.made (n := 0) k4 rfl (by omega)
      refine bt ?_ ?_
      · refine apl (l0 := []) P4 (src_of ((hM.bl B2).bl C4).sta) (by omega) (fun a6 c6 w6 O6 A6 P6f => ?_) (hm := apB fun g hg => by
          have h7 : b4 = g := by simpa using hg
          show ¬ g < _
          omega)
        have z6 := A6.size
        have C6 : Bl w2 w6 := Below.trans (C4) (A6.below (by omega) fun g hg => by
          have h7 : b4 = g := by simpa using hg
          omega)
        have P6 : OwP 2 encTy w6 b4 51 a6 c6 m.statics := O6
        refine bd (cs := [.slice none 0 0, .slice a6 m.statics.length c6, .slice none 0 0, I m.sels]) ?_
        refine al fun b5 w5 k5 => ?_
        have y5 := k5.blk
        have z5 := k5.size
        have C5 : Bl w2 w5 := (C6).trans k5.bl
        have P5 := P6.bl k5.bl
        refine sta (cs' := [.slice none 0 0, .slice a6 m.statics.length c6, .slice none 0 0, I m.sels]) k5.box (fun w7 k7 x7 => ?_) (hm := wrB (by show ¬ b5 < _; omega))
        have z7 := k7.size
        refine jo ⟨b5, a6, c6, rfl, Below.trans (C5) (k7.below (by omega)), by omega, x7, ?_⟩
        exact owp_sl ((P5).wr k7 fun g hg => by have := P6.lt hg; omega) p2 fun g hg => by have := P6.lt hg; have := P6f g hg; exact ⟨by omega, by omega, by omega⟩
      · refine al fun b5 w5 k5 => ?_
        have y5 := k5.blk
        have z5 := k5.size
        have C5 : Bl w2 w5 := C4.trans k5.bl
        have P5 := P4.bl k5.bl
        refine apl (l0 := []) P5 (src_of ((hM.bl B2).bl C5).sta) (by omega) (fun a6 c6 w6 O6 A6 P6f => ?_) (hm := apB fun g hg => by
          have h7 : b4 = g := by simpa using hg
          show ¬ g < _
          omega)
        have z6 := A6.size
        have C6 : Bl w2 w6 := Below.trans C5 (A6.below (by omega) fun g hg => by
          have h7 : b4 = g := by simpa using hg
          omega)
        have P6 : OwP 2 encTy w6 b4 51 a6 c6 m.statics := O6
        have g6 := A6.box k5.box (fun e => by first | (simp at e; done) | (simp at e; omega))
        refine bd (cs := [.slice none 0 0, .slice a6 m.statics.length c6, .slice none 0 0, I m.sels]) ?_
        refine sta (cs' := [.slice none 0 0, .slice a6 m.statics.length c6, .slice none 0 0, I m.sels]) g6 (fun w7 k7 x7 => ?_) (hm := wrB (by show ¬ b5 < _; omega))
        have z7 := k7.size
        have nb : ∀ g, a6 = some ⟨g, 0, none⟩ → g ≠ b5 := fun g hg => by
          rcases P6f g hg with q | q
          · have h7 : b4 = g := by simpa using q
            omega
          · omega
        refine jo ⟨b5, a6, c6, rfl, Below.trans C6 (k7.below (by omega)), by omega, x7, ?_⟩
        exact owp_sl (P6.wr k7 nb) p2 fun g hg => by have := P6.lt hg; exact ⟨by omega, by omega, nb g hg⟩
    · refine al fun b5 w5 k5 => ?_
      have y5 := k5.blk
      have z5 := k5.size
      have C5 : Bl w2 w5 := B3.trans k5.bl
      refine bs (cs := []) fun b4 w4 k4 => ?_
      have y4 := k4.blk
      have z4 := k4.size
      have C4 : Bl w2 w4 := C5.trans k4.bl
      have P4 : OwP 2 encTy w4 b4 51 (some ⟨b4, 0, none⟩) 0 ([] : List Ty) := Ow.made (n := 0) k4 rfl (by omega)
      have g5 := Bl.box k4.bl k5.box
      refine apl (l0 := []) P4 (src_of ((hM.bl B2).bl C4).sta) (by omega) (fun a6 c6 w6 O6 A6 P6f => ?_) (hm := apB fun g hg => by
        have h7 : b4 = g := by simpa using hg
        show ¬ g < _
        omega)
      have z6 := A6.size
      have C6 : Bl w2 w6 := Below.trans C4 (A6.below (by omega) fun g hg => by
        have h7 : b4 = g := by simpa using hg
        omega)
      have P6 : OwP 2 encTy w6 b4 51 a6 c6 m.statics := O6
      have g6 := A6.box g5 (fun e => by first | (simp at e; done) | (simp at e; omega))
      refine bd (cs := [.slice none 0 0, .slice a6 m.statics.length c6, .slice none 0 0, I m.sels]) ?_
      refine sta (cs' := [.slice none 0 0, .slice a6 m.statics.length c6, .slice none 0 0, I m.sels]) g6 (fun w7 k7 x7 => ?_) (hm := wrB (by show ¬ b5 < _; omega))
      have z7 := k7.size
      have nb : ∀ g, a6 = some ⟨g, 0, none⟩ → g ≠ b5 := fun g hg => by
        rcases P6f g hg with q | q
        · have h7 : b4 = g := by simpa using q
          omega
        · omega
      refine jo ⟨b5, a6, c6, rfl, Below.trans C6 (k7.below (by omega)), by omega, x7, ?_⟩
      exact owp_sl (P6.wr k7 nb) p2 fun g hg => by have := P6.lt hg; exact ⟨by omega, by omega, nb g hg⟩
  rintro vals w3 ⟨b3, a2, c2, rfl, B23, hb3, x3, S3⟩
  have B3 := B2.trans B23
  have z3 := B23.size
  have x13 := Bl.box B23 x1
  have x23 := Bl.box B23 x2
  have l3 := x3.lt
  have M3 : MdR (· < w.heap.size) w3 m a := hM0.kp (B3.kp _)
  refine lpk m.classes.length 4 [] [(1, .pointer (some ⟨b1, 0, none⟩)), (2, .pointer (some ⟨b2, 0, none⟩)), (3, .pointer (some ⟨b3, 0, none⟩))] (fun k vals w' => vals = [] ∧ Nc b3 w3 w' ∧ ∃ ac cc, OwC eMC (fun i => w3.heap.size ≤ i) w' w3.heap.size 49 ac cc (m.classes.take k) ∧ Box w' b3 29 [.slice ac (m.classes.take k).length cc, .slice a2 m.statics.length c2, .slice none 0 0, I m.sels]) ⟨rfl, Nc.of_bl (Bl.refl _), none, 0, OwC.nil .., x3⟩ ?_
  rintro k vals w9 hk ⟨rfl, N9, ac, cc, O9, x9⟩ ih
  have z9 := N9.size
  have x19 := N9.box x13 (by omega)
  have hac : ∀ g, ac = some ⟨g, 0, none⟩ → w3.heap.size ≤ g ∧ g < w9.heap.size := fun g hg => O9.lt hg
  have M9 : MdR (· < w.heap.size) w9 m a := M3.kp (N9.nb.kp.sub fun i hi => by omega)
  refine ld (x19.cell rfl) ?_
  by_cases hlt : k < m.classes.length
  · refine brT ?_
    obtain ⟨c, bs2, o2, cs, hc, e2, _, hAt, af, cf, at', ct, rfl, hf, ht, hnm, _⟩ := at_some M9.cls hlt
    have pf := hf.big
    have pt := ht.big
    refine ld (x19.cell rfl) ?_
    rw [e2]
    refine ix ?_
    refine lda hAt ?_
    refine al fun b5 w10 h10 => ?_
    have y10 := h10.blk
    have z10 := h10.size
    refine sta (cs' := mccells c af cf at' ct) h10.box fun w11 k11 x11 => ?_
    have z11 := k11.size
    have B911 : Bl w9 w11 := h10.wr k11
    have N11 : Nc b3 w3 w11 := N9.bl B911
    refine bs (cs := []) fun b21 w21 k21 => ?_
    have y21 := k21.blk
    have z21 := k21.size
    refine ld ((Bl.box k21.bl x11).cell rfl) ?_
    have P21 : OwP 2 encTy w21 b21 51 (some ⟨b21, 0, none⟩) 0 ([] : List Ty) := Ow.made (n := 0) k21 rfl (by omega)
    refine apl (l0 := []) P21 (src_of ((hf.bl B911).bl k21.bl)) (by omega) fun a22 c22 w22 O22 A22 _ => ?_
    have B22 : Bl w11 w22 := Below.trans k21.bl (A22.below (by omega) fun g hg => by
      have h7 : b21 = g := by simpa using hg
      omega)
    replace O22 : OwP 2 encTy w22 b21 51 a22 c22 c.fields := O22
    refine st (cs' := mccells c a22 c22 at' ct) (Bl.box B22 x11) fun w23 k23 x23 => ?_
    have z22 := B22.size
    have z23 := k23.size
    have E1 : Bl w9 w23 := Below.trans (B911.trans B22) (k23.below (by omega))
    have G1 : OwP 2 encTy w23 b21 51 a22 c22 c.fields := O22.wr k23 fun g hg => by have := (O22.lt hg).1; omega
    refine bs (cs := []) fun b24 w24 k24 => ?_
    have y24 := k24.blk
    have z24 := k24.size
    refine ld ((Bl.box k24.bl x23).cell rfl) ?_
    have P24 : OwP 1 encInt w24 b24 3 (some ⟨b24, 0, none⟩) 0 ([] : List Int) := Ow.made (n := 0) k24 rfl (by omega)
    refine apl (l0 := []) P24 (src_of ((ht.bl E1).bl k24.bl)) (by omega) fun a25 c25 w25 O25 A25 _ => ?_
    have B25 : Bl w23 w25 := Below.trans k24.bl (A25.below (by omega) fun g hg => by
      have h7 : b24 = g := by simpa using hg
      omega)
    replace O25 : OwP 1 encInt w25 b24 3 a25 c25 c.table := O25
    refine st (cs' := mccells c a22 c22 a25 c25) (Bl.box B25 x23) fun w26 k26 x26 => ?_
    have z25 := B25.size
    have z26 := k26.size
    have E2 : Bl w9 w26 := Below.trans (E1.trans B25) (k26.below (by omega))
    have G2 : OwP 2 encTy w26 b21 51 a22 c22 c.fields := (G1.bl B25).wr k26 fun g hg => by have := (G1.lt hg).1; omega
    have G3 : OwP 1 encInt w26 b24 3 a25 c25 c.table := O25.wr k26 fun g hg => by have := (O25.lt hg).1; omega
    refine ld ((Bl.box E2 x9).cell rfl) ?_
    refine lda x26.at ?_
    refine bs (cs := mccells c a22 c22 a25 c25) fun b40 w40 k40 => ?_
    have z40 := k40.size
    have E3 : Bl w9 w40 := E2.trans k40.bl
    obtain ⟨xs, e1, e3, hOx, e4⟩ := (O9.bl E3).row
    have hl9 : (m.classes.take k).length ≤ 4194304 := by rw [List.length_take]; omega
    refine ap hOx (.inr ⟨b40, 0, rfl, k40.box.at⟩) (by omega) (fun a41 c41 w41 O41 A41 F41 => ?_)
    have hrel : eMC.rel (fun i => w3.heap.size ≤ i ∧ ac ≠ some ⟨i, 0, none⟩ ∧ i < w40.heap.size) w40 (mccells c a22 c22 a25 c25) c := by
      refine ⟨a22, c22, a25, c25, rfl, ?_, ?_, hnm, G2.capn.1⟩
      · exact owp_sl (G2.bl k40.bl) pf fun g hg => by
          have := G2.lt hg
          exact ⟨by omega, fun e => by have := hac _ e; omega, by omega⟩
      · exact owp_sl (G3.bl k40.bl) pt fun g hg => by
          have := G3.lt hg
          exact ⟨by omega, fun e => by have := hac _ e; omega, by omega⟩
    have O41' := OwC.push e1 e3 e4 O41 A41 F41 hrel
    have N41 : Nc b3 w3 w41 := (N9.bl E3).ap A41 fun g hg => (hac g hg).1
    refine st (A41.box (Bl.box E3 x9) fun e => by have := hac _ e; omega) fun w42 k42 x42 => ?_
    have e5 : (m.classes.take k).length + 1 = (m.classes.take (k + 1)).length := by rw [take_succ_some hc]; simp
    rw [← take_succ_some hc] at O41'
    refine ih hlt ⟨rfl, N41.wr k42 (.inl rfl), a41, c41, O41'.wr k42 (by omega) (fun i hi => by omega), ?_⟩
    rw [← e5]; exact x42
  refine brF ?_
  obtain rfl : k = m.classes.length := by omega
  clear ih hlt
  rw [List.take_length] at O9 x9
  have hS9 : Sl eMC (fun i => w3.heap.size ≤ i ∧ i < w9.heap.size) w9 ac m.classes := O9.sl2 p1
  have hac : ∀ g, ac = some ⟨g, 0, none⟩ → w3.heap.size ≤ g ∧ g < w9.heap.size := fun g hg => O9.lt hg
  have x29 := N9.box x23 (by omega)
  refine lpk (vals := []) m.methods.length 6 [] [(1, .pointer (some ⟨b1, 0, none⟩)), (2, .pointer (some ⟨b2, 0, none⟩)), (3, .pointer (some ⟨b3, 0, none⟩))] (fun k vals w' => vals = [] ∧ Nc b3 w9 w' ∧ ∃ am cm, OwC eMM (fun i => w9.heap.size ≤ i) w' w9.heap.size 54 am cm (m.methods.take k) ∧ Box w' b3 29 [.slice ac m.classes.length cc, .slice a2 m.statics.length c2, .slice am (m.methods.take k).length cm, I m.sels]) ⟨rfl, Nc.of_bl (Bl.refl _), none, 0, OwC.nil .., x9⟩ ?_
  clear O9 hk
  rintro k vals w50 hk ⟨rfl, N50, am, cm, O50, x50⟩ ih
  have z50 := N50.size
  have x150 := N50.box x19 (by omega)
  have ham : ∀ g, am = some ⟨g, 0, none⟩ → w9.heap.size ≤ g ∧ g < w50.heap.size := fun g hg => O50.lt hg
  have M50 : MdR (· < w.heap.size) w50 m a := M9.kp (N50.nb.kp.sub fun i hi => by omega)
  refine ld (x150.cell rfl) ?_
  by_cases hlt : k < m.methods.length
  · refine brT ?_
    obtain ⟨c, bs2, o2, cs, hc, e2, _, hAt, ap', cp, al', cl', ai, ci, rfl, hp, hl, hi', hnm⟩ := at_some M50.mth hlt
    have pp := hp.big
    have pl := hl.big
    have pi := hi'.big
    refine ld (x150.cell rfl) ?_
    rw [e2]
    refine ix ?_
    refine lda hAt ?_
    refine al fun b7 w51 h51 => ?_
    have y51 := h51.blk
    have z51 := h51.size
    refine sta (cs' := mmcells c ap' cp al' cl' ai ci) h51.box fun w52 k52 x52 => ?_
    have z52 := k52.size
    have D0 : Bl w50 w52 := h51.wr k52
    refine bs (cs := []) fun b27 w27 k27 => ?_
    have y27 := k27.blk
    have z27 := k27.size
    refine ld ((Bl.box k27.bl x52).cell rfl) ?_
    have P27 : OwP 2 encTy w27 b27 51 (some ⟨b27, 0, none⟩) 0 ([] : List Ty) := Ow.made (n := 0) k27 rfl (by omega)
    refine apl (l0 := []) P27 (src_of ((hp.bl D0).bl k27.bl)) (by omega) fun a28 c28 w28 O28 A28 _ => ?_
    have B28 : Bl w52 w28 := Below.trans k27.bl (A28.below (by omega) fun g hg => by
      have h7 : b27 = g := by simpa using hg
      omega)
    replace O28 : OwP 2 encTy w28 b27 51 a28 c28 c.params := O28
    refine st (cs' := mmcells c a28 c28 al' cl' ai ci) (Bl.box B28 x52) fun w29 k29 x29 => ?_
    have z28 := B28.size
    have z29 := k29.size
    have D1 : Bl w50 w29 := Below.trans (D0.trans B28) (k29.below (by omega))
    have G1 : OwP 2 encTy w29 b27 51 a28 c28 c.params := O28.wr k29 fun g hg => by have := (O28.lt hg).1; omega
    refine bs (cs := []) fun b30 w30 k30 => ?_
    have y30 := k30.blk
    have z30 := k30.size
    refine ld ((Bl.box k30.bl x29).cell rfl) ?_
    have P30 : OwP 2 encTy w30 b30 51 (some ⟨b30, 0, none⟩) 0 ([] : List Ty) := Ow.made (n := 0) k30 rfl (by omega)
    refine apl (l0 := []) P30 (src_of ((hl.bl D1).bl k30.bl)) (by omega) fun a31 c31 w31 O31 A31 _ => ?_
    have B31 : Bl w29 w31 := Below.trans k30.bl (A31.below (by omega) fun g hg => by
      have h7 : b30 = g := by simpa using hg
      omega)
    replace O31 : OwP 2 encTy w31 b30 51 a31 c31 c.locals := O31
    refine st (cs' := mmcells c a28 c28 a31 c31 ai ci) (Bl.box B31 x29) fun w32 k32 x32 => ?_
    have z31 := B31.size
    have z32 := k32.size
    have D2 : Bl w50 w32 := Below.trans (D1.trans B31) (k32.below (by omega))
    have H1 : OwP 2 encTy w32 b27 51 a28 c28 c.params := (G1.bl B31).wr k32 fun g hg => by have := (G1.lt hg).1; omega
    have H2 : OwP 2 encTy w32 b30 51 a31 c31 c.locals := O31.wr k32 fun g hg => by have := (O31.lt hg).1; omega
    refine bs (cs := []) fun b33 w33 k33 => ?_
    have y33 := k33.blk
    have z33 := k33.size
    refine ld ((Bl.box k33.bl x32).cell rfl) ?_
    have P33 : OwP 3 encIns w33 b33 120 (some ⟨b33, 0, none⟩) 0 ([] : List Ins) := Ow.made (n := 0) k33 rfl (by omega)
    refine apl (l0 := []) P33 (src_of ((hi'.bl D2).bl k33.bl)) (by omega) fun a34 c34 w34 O34 A34 _ => ?_
    have B34 : Bl w32 w34 := Below.trans k33.bl (A34.below (by omega) fun g hg => by
      have h7 : b33 = g := by simpa using hg
      omega)
    replace O34 : OwP 3 encIns w34 b33 120 a34 c34 c.code := O34
    refine st (cs' := mmcells c a28 c28 a31 c31 a34 c34) (Bl.box B34 x32) fun w35 k35 x35 => ?_
    have z34 := B34.size
    have z35 := k35.size
    have D3 : Bl w50 w35 := Below.trans (D2.trans B34) (k35.below (by omega))
    have J1 : OwP 2 encTy w35 b27 51 a28 c28 c.params := (H1.bl B34).wr k35 fun g hg => by have := (H1.lt hg).1; omega
    have J2 : OwP 2 encTy w35 b30 51 a31 c31 c.locals := (H2.bl B34).wr k35 fun g hg => by have := (H2.lt hg).1; omega
    have J3 : OwP 3 encIns w35 b33 120 a34 c34 c.code := O34.wr k35 fun g hg => by have := (O34.lt hg).1; omega
    refine ld ((Bl.box D3 x50).cell rfl) ?_
    refine lda x35.at ?_
    refine bs (cs := mmcells c a28 c28 a31 c31 a34 c34) fun b60 w60 k60 => ?_
    have z60 := k60.size
    have D4 : Bl w50 w60 := D3.trans k60.bl
    obtain ⟨xs, e1, e3, hOx, e4⟩ := (O50.bl D4).row
    have hl9 : (m.methods.take k).length ≤ 4194304 := by rw [List.length_take]; omega
    refine ap hOx (.inr ⟨b60, 0, rfl, k60.box.at⟩) (by omega) (fun a61 c61 w61 O61 A61 F61 => ?_)
    have hrel : eMM.rel (fun i => w9.heap.size ≤ i ∧ am ≠ some ⟨i, 0, none⟩ ∧ i < w60.heap.size) w60 (mmcells c a28 c28 a31 c31 a34 c34) c := by
      refine ⟨a28, c28, a31, c31, a34, c34, rfl, ?_, ?_, ?_, hnm⟩
      · exact owp_sl (J1.bl k60.bl) pp fun g hg => by
          have := J1.lt hg
          exact ⟨by omega, fun e => by have := ham _ e; omega, by omega⟩
      · exact owp_sl (J2.bl k60.bl) pl fun g hg => by
          have := J2.lt hg
          exact ⟨by omega, fun e => by have := ham _ e; omega, by omega⟩
      · exact owp_sl (J3.bl k60.bl) pi fun g hg => by
          have := J3.lt hg
          exact ⟨by omega, fun e => by have := ham _ e; omega, by omega⟩
    have O61' := OwC.push e1 e3 e4 O61 A61 F61 hrel
    have N61 : Nc b3 w9 w61 := (N50.bl D4).ap A61 fun g hg => (ham g hg).1
    refine st (A61.box (Bl.box D4 x50) fun e => by have := ham _ e; omega) fun w62 k62 x62 => ?_
    have e5 : (m.methods.take k).length + 1 = (m.methods.take (k + 1)).length := by rw [take_succ_some hc]; simp
    rw [← take_succ_some hc] at O61'
    refine ih hlt ⟨rfl, N61.wr k62 (.inl rfl), a61, c61, O61'.wr k62 (by omega) (fun i hi => by omega), ?_⟩
    rw [← e5]; exact x62
  refine brF ?_
  obtain rfl : k = m.methods.length := by omega
  clear ih hlt
  rw [List.take_length] at O50 x50
  have hS50 : Sl eMM (fun i => w9.heap.size ≤ i ∧ i < w50.heap.size) w50 am m.methods := O50.sl2 p3
  have x250 := N50.box x29 (by omega)
  refine lda x50.at ?_
  refine sta (cs' := modcells m ⟨ac, cc, a2, c2, am, cm⟩) x250 fun w70 k70 x70 => ?_
  have z70 := k70.size
  refine rtc (cs := modcells m ⟨ac, cc, a2, c2, am, cm⟩) x70.at ⟨⟨ac, cc, a2, c2, am, cm⟩, rfl, ⟨?_, ?_, ?_⟩, Below.trans (Nc.below (Nc.below B3 N9 (by omega) (by omega)) N50 (by omega) (by omega)) (k70.below (by omega))⟩
  · exact ((hS9.kp (N50.nb.kp.sub fun i hi => by omega)).kp (k70.kp fun i hi => by omega)).sub fun i hi => by omega
  · exact (((S3.kp (N9.nb.kp.sub fun i hi => by omega)).kp (N50.nb.kp.sub fun i hi => by omega)).kp (k70.kp fun i hi => by omega)).sub fun i hi => by omega
  · exact (hS50.kp (k70.kp fun i hi => by omega)).sub fun i hi => by omega
end Go.Proofs.YtkmdfjpafkcleaaGreatDoor

/- Walks: the law's weight of modules. -/
namespace Go.Proofs.YtkmdfjpafkcleaaGreatDoor
open Eng Go.RowKit
theorem cond_lt {k n : Nat} {b : Bool} (h : (if decide ((k : Int) < n) = true then b else false) = true) : k < n := by
  by_cases q : (k : Int) < n
  · omega
  · rw [decide_eq_false q] at h; cases h
theorem l_heavyM (m : Mod) (a : MA) (w : World) (hM : MdR T w m a) : Ret Tryz.prog 16 #[.agg (modcells m a).toArray] w fun v w' => ∃ b, v = .bool b ∧ Bl w w' := by
  have q1 := hM.cls.big
  have q2 := hM.mth.big
  refine entr (vs := [.agg (modcells m a).toArray]) [0, 1, 2, 3, 4, 5, 25, 53] tabok Tryz.func16 (by kernel_rfl) ?_
  refine bx (cs := modcells m a) fun b1 w1 k1 => ?_
  have x1 := k1.box
  refine ld (x1.cell rfl) ?_
  refine ld (x1.cell rfl) ?_
  refine ld (x1.cell rfl) ?_
  refine lpk m.classes.length 4 [3] [(1, .pointer (some ⟨b1, 0, none⟩))] (fun k vals w' => (∃ n, vals = [I n]) ∧ Bl w1 w') ⟨⟨_, rfl⟩, Bl.refl _⟩ ?_
  rintro k vals w2 hk ⟨⟨n, rfl⟩, B2⟩ ih
  have x2 := Bl.box B2 x1
  refine ld (x2.cell rfl) ?_
  refine br (fun h => ?_) (fun h => ?_)
  · have hlt : k < m.classes.length := by
      rcases Nat.lt_or_ge k m.classes.length with q | q
      · exact q
      · rw [decide_eq_false (show ¬ ((k : Int) < m.classes.length) by omega)] at h
        simp at h
    obtain ⟨c, b, o, cs, hc, e2, _, hAt, a3, c3, a4, c4, rfl, _⟩ := at_some (hM.bl (k1.bl.trans B2)).cls hlt
    refine dh T (List.range 18) fun w3 h3 => ?_
    have x3 := h3.box x2
    have hA := hAt.bl h3.bl
    refine ld (x3.cell rfl) ?_ (hm := trivial)
    rw [e2]
    refine ix ?_
    refine ld (hA 2 _ rfl) ?_ (hm := trivial)
    refine ld (x3.cell rfl) ?_ (hm := trivial)
    rw [e2]
    refine ix ?_
    refine ld (hA 3 _ rfl) ?_ (hm := trivial)
    exact ih hlt ⟨⟨_, rfl⟩, B2.trans h3.bl⟩
  clear ih h
  refine lpk m.methods.length 5 [3] [(1, .pointer (some ⟨b1, 0, none⟩))] (fun k vals w' => (∃ n, vals = [I n]) ∧ Bl w1 w') ⟨⟨_, rfl⟩, B2⟩ ?_
  clear x2 B2
  rintro k vals w2 hk ⟨⟨n, rfl⟩, B2⟩ ih
  have x2 := Bl.box B2 x1
  refine ld (x2.cell rfl) ?_
  refine br (fun h => ?_) (fun h => ?_)
  · have hlt : k < m.methods.length := by
      rcases Nat.lt_or_ge k m.methods.length with q | q
      · exact q
      · rw [decide_eq_false (show ¬ ((k : Int) < m.methods.length) by omega)] at h
        simp at h
    obtain ⟨c, b, o, cs, hc, e2, _, hAt, a3, c3, a4, c4, a5, c5, rfl, _⟩ := at_some (hM.bl (k1.bl.trans B2)).mth hlt
    refine dh T (List.range 26) fun w3 h3 => ?_
    have x3 := h3.box x2
    have hA := hAt.bl h3.bl
    refine ld (x3.cell rfl) ?_ (hm := trivial)
    rw [e2]
    refine ix ?_
    refine ld (hA 6 _ rfl) ?_ (hm := trivial)
    refine ld (x3.cell rfl) ?_ (hm := trivial)
    rw [e2]
    refine ix ?_
    refine ld (hA 2 _ rfl) ?_ (hm := trivial)
    refine ld (x3.cell rfl) ?_ (hm := trivial)
    rw [e2]
    refine ix ?_
    refine ld (hA 3 _ rfl) ?_ (hm := trivial)
    exact ih hlt ⟨⟨_, rfl⟩, B2.trans h3.bl⟩
  exact rt1 ⟨_, rfl, k1.bl.trans B2⟩
end Go.Proofs.YtkmdfjpafkcleaaGreatDoor

/- Walks: link.Link. -/
namespace Go.Proofs.YtkmdfjpafkcleaaGreatDoor
open Eng Go.RowKit
variable {w w' : World} {b : Nat} {us : List Unt} {O : Ords}
theorem cls_ne (us : List Unt) : ∀ p ∈ (decl us).classes, 0 < p.1.size := by
  have put : ∀ {D : Dcl} {p : ByteArray} {v : Nat × Nat}, (∀ q ∈ D.classes, 0 < q.1.size) → 0 < p.size → ∀ q ∈ putM D.classes p v, 0 < q.1.size := fun h hp q hq => by
    rcases putM_in hq with rfl | hq
    · exact hp
    · exact h q hq
  refine foldI_ind (f := dUnt) (l := us) (fun _ D => ∀ p ∈ D.classes, 0 < p.1.size) (fun _ h => by cases h) fun n u D _ h => ?_
  have h1 := foldI_ind (f := dCls u n) (l := u.classes) (fun _ D => ∀ p ∈ D.classes, 0 < p.1.size) h fun k x D _ h => by
    unfold dCls
    obtain ⟨f, hf⟩ := dfld_fold u (dots u.name (nm u x.name)) x.fields { D with classes := putM D.classes (dots u.name (nm u x.name)) (n, k) }
    rw [hf]
    exact put h (by rw [dots_sz]; omega)
  have h2 := foldI_ind (f := dSta u n) (l := u.statics) (fun _ D => ∀ p ∈ D.classes, 0 < p.1.size) h1 fun k x D _ h => h
  exact foldI_ind (f := dMth u n) (l := u.methods) (fun _ D => ∀ p ∈ D.classes, 0 < p.1.size) h2 fun k x D _ h => by
    unfold dMth
    split <;> exact h
theorem keys_in {α : Type} {m : Mp α} {k : ByteArray} (h : k ∈ keysM m) : ∃ v, (k, v) ∈ m := by
  obtain ⟨v, hv⟩ := mem_keys h
  exact ⟨v, getM_in hv⟩
/-- what holds of units that link accepts -/
structure RunK (us : List Unt) : Prop where
  ck : ∀ u ∈ us, CkU u
  n5 : us.length ≤ 5
  du : dup (us.map fun u : Unt => u.name) = false
  df : definedL us (decl us) = true
  oc : ordC us = some (ordsL us).oc
  om : ordM us = some (ordsL us).om
  bg : bigD (decl us) = false
  ly : ((ordsL us).oc.any fun p => decide (7 < (lay us p).length)) = false
  dl : ((ordsL us).oc.any fun p => dup (lay us p)) = false
  un : unlikeL us (decl us) = false
theorem runK_of (h : runE us = 0) : RunK us := by
  unfold runE at h
  split at h
  · cases h
  rename_i h5
  split at h
  · rename_i h1; exact absurd h h1
  rename_i h1
  split at h
  · cases h
  rename_i h2
  split at h
  · cases h
  rename_i h3
  split at h
  · cases h
  rename_i oc hoc
  split at h
  · cases h
  rename_i h4
  split at h
  · cases h
  rename_i h6
  split at h
  · cases h
  rename_i h7
  split at h
  · cases h
  rename_i h8
  split at h
  · cases h
  rename_i om hom
  have e1 : (ordsL us).oc = oc := by unfold ordsL; rw [hoc]; rfl
  have e2 : (ordsL us).om = om := by unfold ordsL; rw [hom]; rfl
  refine ⟨fun u hu => (ckU_iff u).1 (chk_all (Classical.not_not.1 h1) u hu), by omega, ?_, ?_, by rw [e1]; exact hoc, by rw [e2]; exact hom, ?_, ?_, ?_, ?_⟩
  · simpa using h2
  · simpa using h3
  · simpa using h4
  · rw [e1]; simpa using h6
  · rw [e1]; simpa using h7
  · simpa using h8
theorem RunK.f7 (h : RunK us) : ∀ u ∈ us, ∀ c ∈ u.classes, c.fields.length ≤ 7 := fun u hu => (lim_of (h.ck u hu).lim).flds
theorem RunK.ook (h : RunK us) : OOk us (ordsL us) := by
  have dok := dok_decl h.ck
  have n5 := h.n5
  have hpc := orderL_perm (show orderL (neeC us (decl us)) (keysM (decl us).classes) = some (ordsL us).oc from h.oc)
  have hpm := orderL_perm (show orderL (calL us (decl us)) (keysM (decl us).calls ++ keysM (decl us).sends) = some (ordsL us).om from h.om)
  have kl : ∀ {α : Type} (m : Mp α), (keysM m).length = m.length := fun m => by unfold keysM; rw [List.length_map]
  have lc := dok.lc
  have ls := dok.ls
  have lm := dok.lm
  have ln := dok.ln
  have hkl : (keysM (decl us).classes).length = (ordsL us).oc.length := hpc.length_eq.symm
  refine ⟨fun p hp => ?_, fun p hp => ?_, fun p hp => hpm.mem_iff.1 hp, fun p hp => ?_, fun p hp => ?_, by rw [kl]; omega, by rw [hpc.length_eq, kl]; omega, ?_, by rw [hpm.length_eq, List.length_append, kl, kl]; omega, ?_⟩
  · have hk := hpc.mem_iff.1 hp
    obtain ⟨v, hv⟩ := keys_in hk
    obtain ⟨i, hi⟩ := List.mem_iff_getElem?.1 hp
    have hil : i < (ordsL us).oc.length := (List.getElem?_eq_some_iff.1 hi).1
    refine ⟨clsI_of dok hk, deep_le (deep_of (fun q hq => clsI_of dok (hpc.mem_iff.1 hq)) (orderL_placed h.oc) i p hi) (by omega), dok.zc _ hv, fun e => ?_⟩
    have := cls_ne us _ hv
    simp only [e] at this
    exact absurd this (by decide)
  · exact (sortL_perm' _).mem_iff.1 hp
  · have hk := (sortL_perm' _).mem_iff.1 hp
    obtain ⟨v, hv⟩ := keys_in hk
    exact dok.zn _ hv
  · rcases List.mem_append.1 (hpm.mem_iff.1 hp) with q | q
    · obtain ⟨v, hv⟩ := keys_in q; exact dok.za _ hv
    · obtain ⟨v, hv⟩ := keys_in q; exact dok.ze _ hv
  · show (sortL _).length ≤ _
    rw [(sortL_perm' _).length_eq, kl]; omega
  · show (sortL _).length ≤ _
    rw [(sortL_perm' _).length_eq, kl]; omega
theorem k_Link {au : Option Addr} {cu : Nat} (hS : Sl eUnt (· < w.heap.size) w au us) (hG : Gl w) :
    Ret Tryz.prog 14 #[.slice au us.length cu] w fun v w' => ∃ a, v = .tuple #[.agg (modcells (modL us) a).toArray, I (runE us)] ∧ MdR (fun i => w.heap.size ≤ i ∧ i < w'.heap.size) w' (modL us) a ∧ Bl w w' := by
  refine entr (vs := [.slice au us.length cu]) [0, 2, 3, 4, 5, 12] tabok Tryz.func14 (by kernel_rfl) ?_
  refine al fun b2 w1 k1 => ?_
  refine bd ?_
  refine bx (cs := lcells (.slice au us.length cu) (.map none) (.map none) (.map none) (.map none) (.map none) (.map none) nilS nilS nilS nilS (.map none)) fun b8 w2 k2 => ?_
  have y1 := k1.blk
  have z1 := k1.size
  have y2 := k2.blk
  have z2 := k2.size
  have B2 := k1.bl.trans k2.bl
  have x2 := Bl.box k2.bl k1.box
  refine cl (k_run k2.box ((hS.bl B2).sub fun i hi => by omega) (hG.bl B2)) ?_
  rintro _ w3 ⟨rfl, N3, hR⟩
  have z3 := N3.size
  have B3 : Bl w w3 := Nc.below B2 N3 (by omega) B2.size
  have x3 := N3.box x2 (by omega)
  by_cases h0 : runE us = 0
  · refine brf ?_ (hp := by simp [h0])
    have K := runK_of h0
    refine cl (k_module (hR h0).o K.ck K.ook (dok_decl K.ck) K.f7) ?_
    rintro _ w4 ⟨a, rfl, M4, B34⟩
    have e : modL us = modO us (ordsL us) := by unfold modL; rw [if_pos h0]
    rw [e, h0]
    have z4 := B34.size
    refine sta (cs' := modcells (modO us (ordsL us)) a) (Bl.box B34 x3) fun w5 k5 x5 => ?_
    have z5 := k5.size
    refine rtc2 (cs := modcells (modO us (ordsL us)) a) x5.at ⟨a, rfl, (M4.kp (k5.kp fun i hi => by omega)).sub fun i hi => by omega, Below.trans (B3.trans B34) (k5.below (by omega))⟩
  · refine brT ?_ (hp := h0)
    have e : modL us = mod0 := by unfold modL; rw [if_neg h0]
    rw [e]
    refine bd ?_
    refine sta (cs' := modcells mod0 ⟨none, 0, none, 0, none, 0⟩) x3 fun w5 k5 x5 => ?_
    refine rtc2 (cs := modcells mod0 ⟨none, 0, none, 0, none, 0⟩) x5.at ⟨⟨none, 0, none, 0, none, 0⟩, rfl, ⟨Sl.nil .., Sl.nil .., Sl.nil ..⟩, Below.trans B3 (k5.below (by omega))⟩
end Go.Proofs.YtkmdfjpafkcleaaGreatDoor

/- Walks: the law's sanity test, its weight of units. -/
namespace Go.Proofs.YtkmdfjpafkcleaaGreatDoor
open Eng Go.RowKit
def una : Unt := ⟨⟨#[97]⟩, [⟨#[112]⟩, ⟨#[120]⟩], [⟨0, -1, [⟨1, ⟨1, -1⟩⟩]⟩], [], []⟩
def unb : Unt := ⟨⟨#[98]⟩, [⟨#[113]⟩, ⟨#[97, 46, 112]⟩], [⟨0, 1, []⟩], [], []⟩
theorem un_keys : keysM (decl [unb, una]).classes = [⟨#[98, 46, 113]⟩, ⟨#[97, 46, 112]⟩] := by kernel_rfl
theorem un_sort : sortL [(⟨#[98, 46, 113]⟩ : ByteArray), ⟨#[97, 46, 112]⟩] = [⟨#[97, 46, 112]⟩, ⟨#[98, 46, 113]⟩] := by
  have e : ([[98, 46, 113], [97, 46, 112]] : List (List UInt8)).mergeSort (fun x y => decide (x ≤ y)) = [[97, 46, 112], [98, 46, 113]] := by
    simp [List.mergeSort, List.MergeSort.Internal.splitInTwo, List.merge]
    decide
  show (([[98, 46, 113], [97, 46, 112]] : List (List UInt8)).mergeSort (fun x y => decide (x ≤ y))).map ofL = _
  rw [e]
  kernel_rfl
theorem un_oc : ordC [unb, una] = some [⟨#[97, 46, 112]⟩, ⟨#[98, 46, 113]⟩] := by
  show placeL _ (keysM (decl [unb, una]).classes).length (sortL (keysM (decl [unb, una]).classes)) [] = _
  rw [un_keys, un_sort]
  kernel_rfl
theorem un_run : runE [unb, una] = 0 := by
  unfold runE
  rw [un_oc]
  kernel_rfl
theorem un_cls : (modL [unb, una]).classes = [⟨⟨#[97, 46, 112]⟩, -1, [⟨1, 0⟩], []⟩, ⟨⟨#[98, 46, 113]⟩, 0, [⟨1, 0⟩], []⟩] := by
  unfold modL
  rw [if_pos un_run]
  unfold modO ordsL
  rw [un_oc]
  kernel_rfl
/-- a row just laid, whose elements are written out -/
theorem sl_new {α : Type} {E : El α} {S : Nat → Prop} {w : World} {b : Nat} {t : TypeId} {cs : List Value} {css : List (List Value)} {l : List α} (hb : Box w b t cs) (hc : cs = css.flatten) (hS : S b) (hl : css.length = l.length) (hn : l.length ≤ 4194304)
    (h : ∀ (i : Nat) (c : List Value) (x : α), css[i]? = some c → l[i]? = some x → E.rel S w c x) : Sl E S w (some ⟨b, 0, none⟩) l := by
  subst hc
  have hsz : ∀ c ∈ css, c.length = E.sz := fun c hc => by
    obtain ⟨i, hi⟩ := List.mem_iff_getElem?.1 hc
    obtain ⟨x, hx⟩ := some_of_lt (l := l) (k := i) (by have := (List.getElem?_eq_some_iff.1 hi).1; omega)
    exact E.len (h i c x hi hx)
  refine ⟨hn, fun i x hx => ?_⟩
  obtain ⟨c, hc⟩ := some_of_lt (l := css) (k := i) (by have := (List.getElem?_eq_some_iff.1 hx).1; omega)
  refine ⟨b, 0, c, rfl, hS, fun j v hj => ?_, h i c x hc hx⟩
  have hj' : j < E.sz := by rw [← hsz c (List.mem_of_getElem? hc)]; exact (List.getElem?_eq_some_iff.1 hj).1
  have := hb.at (i * E.sz + j) v (by rw [flatten_get hsz hc j hj']; exact hj)
  rw [Nat.zero_add] at this ⊢
  exact this
theorem l_sane (w : World) (hG : Gl w) : Ret Tryz.prog 13 #[] w fun v w' => v = .bool true ∧ Bl w w' := by
  refine entr (vs := []) [0, 1, 2, 3, 4] tabok Tryz.func13 (by kernel_rfl) ?_
  refine bs (cs := [.string ⟨#[112]⟩, .string ⟨#[120]⟩]) fun b1 w1 k1 => ?_
  refine bd ?_
  refine bd ?_
  refine bs (cs := encFld ⟨1, ⟨1, -1⟩⟩) fun b2 w2 k2 => ?_
  refine bd ?_
  refine bs (cs := ccells ⟨0, -1, [⟨1, ⟨1, -1⟩⟩]⟩ (some ⟨b2, 0, none⟩) 1) fun b3 w3 k3 => ?_
  refine bd ?_
  refine al fun b4 w4 k4 => ?_
  refine sta (cs' := ucells una ⟨some ⟨b1, 0, none⟩, 2, some ⟨b3, 0, none⟩, 1, none, 0, none, 0⟩) k4.box fun w5 k5 x5 => ?_
  have B5 := ((k1.bl.trans k2.bl).trans k3.bl).trans (k4.wr k5)
  have B15 := (k2.bl.trans k3.bl).trans (k4.wr k5)
  have B25 := k3.bl.trans (k4.wr k5)
  refine bs (cs := [.string ⟨#[113]⟩, .string ⟨#[97, 46, 112]⟩]) fun b6 w6 k6 => ?_
  refine bd ?_
  refine bs (cs := ccells ⟨0, 1, []⟩ none 0) fun b7 w7 k7 => ?_
  refine bd ?_
  refine al fun b8 w8 k8 => ?_
  refine sta (cs' := ucells unb ⟨some ⟨b6, 0, none⟩, 2, some ⟨b7, 0, none⟩, 1, none, 0, none, 0⟩) k8.box fun w9 k9 x9 => ?_
  have B59 := (k6.bl.trans k7.bl).trans (k8.wr k9)
  refine lda x9.at ?_
  refine lda (Bl.box B59 x5).at ?_
  refine bs (cs := ucells unb ⟨some ⟨b6, 0, none⟩, 2, some ⟨b7, 0, none⟩, 1, none, 0, none, 0⟩ ++ ucells una ⟨some ⟨b1, 0, none⟩, 2, some ⟨b3, 0, none⟩, 1, none, 0, none, 0⟩) fun b10 w10 k10 => ?_
  have B10 := (B5.trans B59).trans k10.bl
  have l10 := k10.box.lt
  have e1 := (Bl.box ((B15.trans B59).trans k10.bl) k1.box)
  have e2 := (Bl.box ((B25.trans B59).trans k10.bl) k2.box)
  have e3 := (Bl.box (((k4.wr k5).trans B59).trans k10.bl) k3.box)
  have e6 := (Bl.box ((k7.bl.trans (k8.wr k9)).trans k10.bl) k6.box)
  have e7 := (Bl.box ((k8.wr k9).trans k10.bl) k7.box)
  have hS : Sl eUnt (· < w10.heap.size) w10 (some ⟨b10, 0, none⟩) [unb, una] := by
    refine sl_new (css := [ucells unb ⟨some ⟨b6, 0, none⟩, 2, some ⟨b7, 0, none⟩, 1, none, 0, none, 0⟩, ucells una ⟨some ⟨b1, 0, none⟩, 2, some ⟨b3, 0, none⟩, 1, none, 0, none, 0⟩]) k10.box rfl l10 rfl (by decide) fun i c x hc hx => ?_
    match i, hc, hx with
    | 0, hc, hx =>
      obtain rfl := Option.some.inj hc
      obtain rfl := Option.some.inj hx
      refine ⟨_, rfl, by decide, by decide, ?_, ?_, Sl.nil .., Sl.nil ..⟩
      · exact sl_new (css := [[.string ⟨#[113]⟩], [.string ⟨#[97, 46, 112]⟩]]) e6 rfl e6.lt rfl (by decide) fun i c x hc hx => by
          match i, hc, hx with
          | 0, hc, hx => obtain rfl := Option.some.inj hc; obtain rfl := Option.some.inj hx; rfl
          | 1, hc, hx => obtain rfl := Option.some.inj hc; obtain rfl := Option.some.inj hx; rfl
      · exact sl_new (css := [ccells ⟨0, 1, []⟩ none 0]) e7 rfl e7.lt rfl (by decide) fun i c x hc hx => by
          match i, hc, hx with
          | 0, hc, hx => obtain rfl := Option.some.inj hc; obtain rfl := Option.some.inj hx; exact ⟨_, _, rfl, Sl.nil ..⟩
    | 1, hc, hx =>
      obtain rfl := Option.some.inj hc
      obtain rfl := Option.some.inj hx
      refine ⟨_, rfl, by decide, by decide, ?_, ?_, Sl.nil .., Sl.nil ..⟩
      · exact sl_new (css := [[.string ⟨#[112]⟩], [.string ⟨#[120]⟩]]) e1 rfl e1.lt rfl (by decide) fun i c x hc hx => by
          match i, hc, hx with
          | 0, hc, hx => obtain rfl := Option.some.inj hc; obtain rfl := Option.some.inj hx; rfl
          | 1, hc, hx => obtain rfl := Option.some.inj hc; obtain rfl := Option.some.inj hx; rfl
      · exact sl_new (css := [ccells ⟨0, -1, [⟨1, ⟨1, -1⟩⟩]⟩ (some ⟨b2, 0, none⟩) 1]) e3 rfl e3.lt rfl (by decide) fun i c x hc hx => by
          match i, hc, hx with
          | 0, hc, hx =>
            obtain rfl := Option.some.inj hc
            obtain rfl := Option.some.inj hx
            refine ⟨_, _, rfl, ?_⟩
            exact sl_new (css := [encFld ⟨1, ⟨1, -1⟩⟩]) e2 rfl e2.lt rfl (by decide) fun i c x hc hx => by
              match i, hc, hx with
              | 0, hc, hx => obtain rfl := Option.some.inj hc; obtain rfl := Option.some.inj hx; rfl
  refine cl (k_Link (us := [unb, una]) (cu := 2) hS (hG.bl B10)) ?_ (hm := fun _ _ r => by obtain ⟨_, _, _, hB⟩ := r; exact mdW_bl hB)
  rintro _ w11 ⟨a, rfl, M, B11⟩
  rw [un_run]
  have hcs := M.cls
  have hcl := un_cls
  obtain ⟨md, hmd⟩ : ∃ md, modL [unb, una] = md := ⟨_, rfl⟩
  rw [hmd] at hcs hcl ⊢
  rw [hcl] at hcs
  have ecells : modcells md a = [.slice a.a1 2 a.c1, .slice a.a2 md.statics.length a.c2, .slice a.a3 md.methods.length a.c3, I md.sels] := by unfold modcells; rw [hcl]; rfl
  rw [ecells]
  refine al fun b12 w12 k12 => ?_
  refine sta (cs' := [.slice a.a1 2 a.c1, .slice a.a2 md.statics.length a.c2, .slice a.a3 md.methods.length a.c3, I md.sels]) k12.box fun w13 k13 x13 => ?_
  obtain ⟨g0, o0, cs0, ea, _, hA0, a1, c1, a2, c2, rfl, f0, _, _⟩ := hcs.el 0 _ rfl
  obtain ⟨g1, o1, cs1, ea', _, hA1, a3, c3, a4, c4, rfl, f1, _, _⟩ := hcs.el 1 _ rfl
  have B13 := k12.wr k13
  rw [ea] at ea'
  obtain ⟨rfl, rfl⟩ : g0 = g1 ∧ o0 = o1 := by simpa using ea'
  rw [ea] at x13
  have q0 := hA0.bl B13
  have q1 := hA1.bl B13
  refine ldg (fun _ => x13.cell rfl) ?_
  refine ldg (fun _ => x13.cell rfl) ?_
  refine spt (.pointer none) ?_
  refine ix (j := 0) ?_ (hb := by decide)
  refine ldg (fun _ => q0 0 _ rfl) ?_
  refine ldg (fun _ => x13.cell rfl) ?_
  refine spt (.pointer none) ?_
  refine ix (j := 1) ?_ (hb := by decide)
  refine ldg (fun _ => q1 0 _ rfl) ?_
  refine ldg (fun _ => x13.cell rfl) ?_
  refine spt (.pointer none) ?_
  refine ix (j := 1) ?_ (hb := by decide)
  refine ldg (fun _ => q1 1 _ rfl) ?_
  refine ldg (fun _ => x13.cell rfl) ?_
  refine spt (.pointer none) ?_
  refine ix (j := 1) ?_ (hb := by decide)
  refine ldg (fun _ => q1 2 _ rfl) ?_
  exact rt1 ⟨rfl, (B10.trans B11).trans B13⟩
end Go.Proofs.YtkmdfjpafkcleaaGreatDoor

/- Walks: the law LinkChecks. -/
namespace Go.Proofs.YtkmdfjpafkcleaaGreatDoor
open Eng Go.RowKit
theorem l_LinkChecks (m : Mod) (a : MA) (w : World) (hM : MdR T w m a) (hG : Gl w) : Ret Tryz.prog 4 #[.agg (modcells m a).toArray] w fun v w' => v = .bool true ∧ Bl w w' := by
  refine entr (vs := [.agg (modcells m a).toArray]) [0, 1, 2, 3, 5] tabok Tryz.func4 (by kernel_rfl) ?_
  refine bx (cs := modcells m a) fun b1 w1 k1 => ?_
  refine lda k1.box.at ?_
  refine cl (l_heavyM m a w1 (hM.bl k1.bl)) ?_ (hm := fun _ _ r => by obtain ⟨_, _, hB⟩ := r; exact mdW_bl hB)
  rintro _ w2 ⟨hv, rfl, B12⟩
  have B02 := k1.bl.trans B12
  have x2 := Bl.box B12 k1.box
  cases hv with
  | true =>
    refine brt ?_
    refine cl (l_sane w2 (hG.bl B02)) ?_
    rintro _ w3 ⟨rfl, h3⟩
    exact rt1 ⟨rfl, B02.trans h3⟩
  | false =>
  refine brf ?_
  refine lda x2.at ?_
  refine cl (r5_Copy m a w2 (hM.bl B02)) ?_ (hm := fun _ _ r => by obtain ⟨_, _, _, hB⟩ := r; exact mdW_bl hB)
  rintro _ w3 ⟨a3, rfl, M3, B23⟩
  refine al fun b3 w4 k4 => ?_
  refine sta (cs' := modcells m a3) k4.box fun w5 k5 x5 => ?_
  have B35 := k4.wr k5
  have B05 := (B02.trans B23).trans B35
  have y5 := Bl.box (B23.trans B35) x2
  have M5 : MdR T w5 m a3 := (M3.bl B35).sub fun _ _ => trivial
  refine dh T [0, 2, 1, 3, 4, 5, 6, 7, 8, 9, 10, 11, 12, 13] fun w6 h6 => ?_
  have B06 := B05.trans h6.bl
  have y6 := Bl.box h6.bl y5
  have x6 := Bl.box h6.bl x5
  have M6 := M5.bl h6.bl
  refine lda x6.at ?_ (hm := trivial)
  refine lda y6.at ?_ (hm := trivial)
  refine cl (k_Check m a3 w6 M6) ?_
  rintro _ w7 ⟨rfl, B67⟩
  refine cl (r5_Check m a w7 (hM.bl (B06.trans B67))) ?_
  rintro _ w8 ⟨rfl, B78⟩
  have B68 := B67.trans B78
  refine spt (.agg (modcells m a).toArray) ?_
  refine lda (Bl.box B68 y6).at ?_ (hm := trivial)
  refine spt (.agg (modcells m a).toArray) ?_
  refine lda (Bl.box B68 x6).at ?_ (hm := trivial)
  refine spt (.bool true) ?_
  refine cl (r_Same_eq m a a3 w8 (hM.bl (B06.trans B68)) (M6.bl B68)) ?_
  rintro _ w9 ⟨rfl, B89⟩
  refine spt (.bool true) ?_
  refine cl (l_sane w9 (hG.bl ((B06.trans B68).trans B89))) ?_
  rintro _ w10 ⟨rfl, B910⟩
  exact rt1 ⟨by first | rfl | simp, ((B06.trans B68).trans B89).trans B910⟩
end Go.Proofs.YtkmdfjpafkcleaaGreatDoor
