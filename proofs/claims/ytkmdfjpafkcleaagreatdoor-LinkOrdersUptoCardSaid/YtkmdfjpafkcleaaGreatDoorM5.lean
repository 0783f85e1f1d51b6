import Derived.Test.YtkmdfjpafkcleaaGreatDoorM4
import Derived.Lib.LastIndexByte
import Derived.Test.YtkmdfjpafkcleaaGreatDoorM3
import Derived.Laws.StructEq
/- Walks: the linker resolves instructions. -/
namespace Go.Proofs.YtkmdfjpafkcleaaGreatDoor
open Eng Go.RowKit
variable {w w' : World} {b : Nat} {us : List Unt} {O : Ords}
theorem cut_of {p : ByteArray} (h : (46 : UInt8) ∈ p.data.toList) : Lib.lastIndexByte p 46 = (cutI p : Nat) ∧ cutI p < p.size := by
  rcases Lib.lastIndexByte_spec p 46 with ⟨_, hn⟩ | ⟨i, hi, e, _, _⟩
  · obtain ⟨j, hj⟩ := List.mem_iff_getElem?.1 h
    obtain ⟨hlt, e⟩ := List.getElem?_eq_some_iff.1 hj
    have hs : j < p.size := by rw [← ba_len]; exact hlt
    refine absurd ?_ (hn j hs)
    have : p.data[j]! = 46 := by
      rw [getElem!_pos p.data j (by simpa using hlt)]
      simpa using e
    rw [this]; rfl
  · unfold cutI
    rw [e]
    exact ⟨by simp, by simpa using hi⟩
theorem dot_of {s : ByteArray} (h : 1 < path s) : (46 : UInt8) ∈ s.data.toList := by
  refine Classical.byContradiction fun hm => ?_
  unfold path pathL at h
  split at h
  · have key : ∀ l : List UInt8, (46 : UInt8) ∉ l → (cutDot l).length = 1 := by
      intro l
      induction l with
      | nil => intro _; rfl
      | cons c r ih =>
        intro hn
        rw [List.mem_cons, not_or] at hn
        have := ih hn.2
        simp only [cutDot]
        rw [if_neg (fun q => hn.1 q.symm)]
        cases hr : cutDot r with
        | nil => rw [hr] at this; cases this
        | cons p ps => rw [hr] at this; simpa using this
    have := key _ hm
    omega
  · omega
theorem l_LastIndex {p : ByteArray} (hp : p.size ≤ 200) : Ret Tryz.prog 167 #[.string p, .string ⟨#[46]⟩] w fun v w' => v = I (Lib.lastIndexByte p 46) ∧ w' = w := by
  refine ⟨by kernel_rfl, ?_⟩
  refine (Tryz.strings_LastIndex_one p ⟨#[46]⟩ rfl (by omega) w).mono ?_
  rintro e w' ⟨rfl, rfl⟩
  exact ⟨rfl, rfl⟩
theorem LayW.get {l : List ByteArray} {m : Nat} {Y : Mp Rs} (h : LayW b us l m Y w) (q : ByteArray) : ∃ a c, ((getM Y q).map encR).getD (encR ⟨none, 0, []⟩) = .slice a (layA us l q).length c ∧ Sl eStr (· ≠ b) w a (layA us l q) := by
  unfold layA
  by_cases hq : q ∈ l
  · obtain ⟨r, h1, h2, h3⟩ := h.at' q hq
    rw [if_pos (by simpa [hasB] using hq), h1, ← h2]
    exact ⟨r.a, r.c, rfl, h3⟩
  · rw [if_neg (by simpa [hasB] using hq)]
    cases hg : getM Y q with
    | some r => exact absurd (h.only q r hg) hq
    | none => exact ⟨none, 0, rfl, Sl.nil ..⟩
theorem k_instr (h : RunO b us O w) {n : Nat} {u : Unt} (hu : us[n]? = some u) {i : Ins}
    (ha : (i.op = 14 ∨ i.op = 24 ∨ i.op = 17 ∨ i.op = 18 ∨ i.op = 22 ∨ i.op = 23 ∨ i.op = 25 ∨ i.op = 26) → inP u i.a) (hb : (i.op = 16 ∨ i.op = 12 ∧ ¬ i.a = 3) → inP u i.b)
    (hf : i.op = 17 ∨ i.op = 18 → (46 : UInt8) ∈ (nm u i.a).data.toList ∧ (nm u i.a).size ≤ 200) :
    Ret Tryz.prog 109 #[.pointer (some ⟨b, 0, none⟩), I n, .agg (encIns i).toArray] w fun v w' => v = .agg (encIns (instM us O u i)).toArray ∧ Bl w w' := by
  refine entr (vs := [.pointer (some ⟨b, 0, none⟩), I n, .agg (encIns i).toArray]) [0, 1, 2, 5, 6, 7, 8, 10, 11, 26, 40, 44, 57, 81, 96, 110] tabok Tryz.func109 (by kernel_rfl) ?_
  refine bx (cs := encIns i) fun b5 w1 k1 => ?_
  refine al fun b6 w2 k2 => ?_
  have x2 := Bl.box k2.bl k1.box
  have B2 := k1.bl.trans k2.bl
  have z1 := k1.size
  have y1 := k1.blk
  have y2 := k2.blk
  refine ld (x2.cell rfl) ?_
  by_cases e1 : i.op = 14 ∨ i.op = 24
  · -- class in a
    by_cases q14 : i.op = 14
    · refine brT ?_ (hp := q14)
      refine brT ?_ (hp := q14)
      refine dt 1 fun w3 k3 => ?_
      have B3 := B2.trans k3.bl
      have H3 := h.bl B3
      obtain ⟨a, c, hc, hS⟩ := H3.oc
      have x3 := Bl.box k3.bl x2
      refine ld hc ?_
      refine ld (x3.cell rfl) ?_
      refine clq (k_path H3.lnk hu (ha (by omega))) ?_
      refine clq (l_Index hS c _) ?_
      refine stx x3 (fun w4 k4 x4 => ?_) (ho := by simp [encIns])
      refine lda x4.at ?_
      refine sta (cs' := [I i.op, I (idxB O.oc (nm u i.a)), I i.b]) (k4.box (Bl.box k3.bl k2.box) (by omega)) fun w5 k5 x5 => ?_
      refine rtc (cs := [I i.op, I (idxB O.oc (nm u i.a)), I i.b]) x5.at ⟨?_, Below.trans (Below.trans B3 (k4.below (by omega))) (k5.below (by omega))⟩
      unfold instM; rw [if_pos e1]
    · refine brF ?_ (hp := q14)
      refine brT ?_ (hp := by omega)
      refine dt 1 fun w3 k3 => ?_
      have B3 := B2.trans k3.bl
      have H3 := h.bl B3
      obtain ⟨a, c, hc, hS⟩ := H3.oc
      have x3 := Bl.box k3.bl x2
      refine ld hc ?_
      refine ld (x3.cell rfl) ?_
      refine clq (k_path H3.lnk hu (ha (by omega))) ?_
      refine clq (l_Index hS c _) ?_
      refine stx x3 (fun w4 k4 x4 => ?_) (ho := by simp [encIns])
      refine lda x4.at ?_
      refine sta (cs' := [I i.op, I (idxB O.oc (nm u i.a)), I i.b]) (k4.box (Bl.box k3.bl k2.box) (by omega)) fun w5 k5 x5 => ?_
      refine rtc (cs := [I i.op, I (idxB O.oc (nm u i.a)), I i.b]) x5.at ⟨?_, Below.trans (Below.trans B3 (k4.below (by omega))) (k5.below (by omega))⟩
      unfold instM; rw [if_pos e1]
  refine brF ?_ (hp := by omega)
  refine brF ?_ (hp := by omega)
  by_cases e2 : i.op = 16
  · refine brT ?_ (hp := e2)
    refine dt 1 fun w3 k3 => ?_
    have B3 := B2.trans k3.bl
    have H3 := h.bl B3
    obtain ⟨a, c, hc, hS⟩ := H3.oc
    have x3 := Bl.box k3.bl x2
    refine ld hc ?_
    refine ld (x3.cell rfl) ?_
    refine clq (k_path H3.lnk hu (hb (by omega))) ?_
    refine clq (l_Index hS c _) ?_
    refine stx x3 (fun w4 k4 x4 => ?_) (ho := by simp [encIns])
    refine lda x4.at ?_
    refine sta (cs' := [I i.op, I i.a, I (idxB O.oc (nm u i.b))]) (k4.box (Bl.box k3.bl k2.box) (by omega)) fun w5 k5 x5 => ?_
    refine rtc (cs := [I i.op, I i.a, I (idxB O.oc (nm u i.b))]) x5.at ⟨?_, Below.trans (Below.trans B3 (k4.below (by omega))) (k5.below (by omega))⟩
    unfold instM; rw [if_neg e1, if_pos e2]
  refine brF ?_ (hp := e2)
  by_cases e3 : i.op = 12
  · refine brT ?_ (hp := e3)
    refine ld (x2.cell rfl) ?_
    by_cases h3 : i.a = 3
    · refine brf ?_ (hp := by simp [h3])
      have x4 := x2
      refine lda x4.at ?_
      refine sta (cs' := encIns i) k2.box fun w5 k5 x5 => ?_
      refine rtc (cs := encIns i) x5.at ⟨?_, Below.trans B2 (k5.below (by omega))⟩
      unfold instM; rw [if_neg e1, if_neg e2, if_pos e3, if_pos h3]
    · refine brT ?_ (hp := h3)
      refine dt 1 fun w3 k3 => ?_
      have B3 := B2.trans k3.bl
      have H3 := h.bl B3
      obtain ⟨a, c, hc, hS⟩ := H3.oc
      have x3 := Bl.box k3.bl x2
      refine ld hc ?_
      refine ld (x3.cell rfl) ?_
      refine clq (k_path H3.lnk hu (hb (by omega))) ?_
      refine clq (l_Index hS c _) ?_
      refine stx x3 (fun w4 k4 x4 => ?_) (ho := by simp [encIns])
      refine lda x4.at ?_
      refine sta (cs' := [I i.op, I i.a, I (idxB O.oc (nm u i.b))]) (k4.box (Bl.box k3.bl k2.box) (by omega)) fun w5 k5 x5 => ?_
      refine rtc (cs := [I i.op, I i.a, I (idxB O.oc (nm u i.b))]) x5.at ⟨?_, Below.trans (Below.trans B3 (k4.below (by omega))) (k5.below (by omega))⟩
      unfold instM; rw [if_neg e1, if_neg e2, if_pos e3, if_neg h3]
  refine brF ?_ (hp := e3)
  by_cases e4 : i.op = 17 ∨ i.op = 18
  · -- a field in a
    by_cases q17 : i.op = 17
    · refine brT ?_ (hp := q17)
      refine brT ?_ (hp := q17)
      have hi := ha (by omega)
      obtain ⟨hdot, hsz⟩ := hf (by omega)
      obtain ⟨hcut, hlt⟩ := cut_of hdot
      refine ld (x2.cell rfl) ?_
      refine cl (k_path (h.bl B2).lnk hu hi) ?_
      rintro _ _ ⟨rfl, rfl⟩
      refine cl (l_LastIndex hsz) ?_
      rintro _ _ ⟨rfl, rfl⟩
      rw [hcut]
      refine dt 1 fun w3 k3 => ?_
      have B3 := B2.trans k3.bl
      have H3 := h.bl B3
      obtain ⟨m, Y, hm, hY⟩ := H3.ly
      have x3 := Bl.box k3.bl x2
      refine ld hm ?_
      refine sls 0 (cutI (nm u i.a)) ?_
      refine lk tN hY.is ?_
      obtain ⟨a, c, hg, hS⟩ := hY.get ((nm u i.a).extract 0 (cutI (nm u i.a)))
      rw [hg]
      refine sls (cutI (nm u i.a) + 1) (nm u i.a).size ?_ (h1 := by exact ⟨.i64, congrArg (Value.int .i64) (by rw [wrap_fit (by omega) (by omega)]; omega)⟩)
      refine clq (l_Index hS c _) ?_
      refine stx x3 (fun w4 k4 x4 => ?_) (ho := by simp [encIns])
      refine lda x4.at ?_
      refine sta (cs' := [I i.op, I (fldM us O.oc (nm u i.a)), I i.b]) (k4.box (Bl.box k3.bl k2.box) (by omega)) fun w5 k5 x5 => ?_
      refine rtc (cs := [I i.op, I (fldM us O.oc (nm u i.a)), I i.b]) x5.at ⟨?_, Below.trans (Below.trans B3 (k4.below (by omega))) (k5.below (by omega))⟩
      unfold instM; rw [if_neg e1, if_neg e2, if_neg e3, if_pos e4]
    · refine brF ?_ (hp := q17)
      refine brT ?_ (hp := by omega)
      have hi := ha (by omega)
      obtain ⟨hdot, hsz⟩ := hf (by omega)
      obtain ⟨hcut, hlt⟩ := cut_of hdot
      refine ld (x2.cell rfl) ?_
      refine cl (k_path (h.bl B2).lnk hu hi) ?_
      rintro _ _ ⟨rfl, rfl⟩
      refine cl (l_LastIndex hsz) ?_
      rintro _ _ ⟨rfl, rfl⟩
      rw [hcut]
      refine dt 1 fun w3 k3 => ?_
      have B3 := B2.trans k3.bl
      have H3 := h.bl B3
      obtain ⟨m, Y, hm, hY⟩ := H3.ly
      have x3 := Bl.box k3.bl x2
      refine ld hm ?_
      refine sls 0 (cutI (nm u i.a)) ?_
      refine lk tN hY.is ?_
      obtain ⟨a, c, hg, hS⟩ := hY.get ((nm u i.a).extract 0 (cutI (nm u i.a)))
      rw [hg]
      refine sls (cutI (nm u i.a) + 1) (nm u i.a).size ?_ (h1 := by exact ⟨.i64, congrArg (Value.int .i64) (by rw [wrap_fit (by omega) (by omega)]; omega)⟩)
      refine clq (l_Index hS c _) ?_
      refine stx x3 (fun w4 k4 x4 => ?_) (ho := by simp [encIns])
      refine lda x4.at ?_
      refine sta (cs' := [I i.op, I (fldM us O.oc (nm u i.a)), I i.b]) (k4.box (Bl.box k3.bl k2.box) (by omega)) fun w5 k5 x5 => ?_
      refine rtc (cs := [I i.op, I (fldM us O.oc (nm u i.a)), I i.b]) x5.at ⟨?_, Below.trans (Below.trans B3 (k4.below (by omega))) (k5.below (by omega))⟩
      unfold instM; rw [if_neg e1, if_neg e2, if_neg e3, if_pos e4]
  refine brF ?_ (hp := by omega)
  refine brF ?_ (hp := by omega)
  by_cases e5 : i.op = 22 ∨ i.op = 23
  · -- a static in a
    by_cases q22 : i.op = 22
    · refine brT ?_ (hp := q22)
      refine brT ?_ (hp := q22)
      refine dt 1 fun w3 k3 => ?_
      have B3 := B2.trans k3.bl
      have H3 := h.bl B3
      obtain ⟨a, c, hc, hS⟩ := H3.os
      have x3 := Bl.box k3.bl x2
      refine ld hc ?_
      refine ld (x3.cell rfl) ?_
      refine clq (k_path H3.lnk hu (ha (by omega))) ?_
      refine clq (l_Index hS c _) ?_
      refine stx x3 (fun w4 k4 x4 => ?_) (ho := by simp [encIns])
      refine lda x4.at ?_
      refine sta (cs' := [I i.op, I (idxB O.os (nm u i.a)), I i.b]) (k4.box (Bl.box k3.bl k2.box) (by omega)) fun w5 k5 x5 => ?_
      refine rtc (cs := [I i.op, I (idxB O.os (nm u i.a)), I i.b]) x5.at ⟨?_, Below.trans (Below.trans B3 (k4.below (by omega))) (k5.below (by omega))⟩
      unfold instM; rw [if_neg e1, if_neg e2, if_neg e3, if_neg e4, if_pos e5]
    · refine brF ?_ (hp := q22)
      refine brT ?_ (hp := by omega)
      refine dt 1 fun w3 k3 => ?_
      have B3 := B2.trans k3.bl
      have H3 := h.bl B3
      obtain ⟨a, c, hc, hS⟩ := H3.os
      have x3 := Bl.box k3.bl x2
      refine ld hc ?_
      refine ld (x3.cell rfl) ?_
      refine clq (k_path H3.lnk hu (ha (by omega))) ?_
      refine clq (l_Index hS c _) ?_
      refine stx x3 (fun w4 k4 x4 => ?_) (ho := by simp [encIns])
      refine lda x4.at ?_
      refine sta (cs' := [I i.op, I (idxB O.os (nm u i.a)), I i.b]) (k4.box (Bl.box k3.bl k2.box) (by omega)) fun w5 k5 x5 => ?_
      refine rtc (cs := [I i.op, I (idxB O.os (nm u i.a)), I i.b]) x5.at ⟨?_, Below.trans (Below.trans B3 (k4.below (by omega))) (k5.below (by omega))⟩
      unfold instM; rw [if_neg e1, if_neg e2, if_neg e3, if_neg e4, if_pos e5]
  refine brF ?_ (hp := by omega)
  refine brF ?_ (hp := by omega)
  by_cases e6 : i.op = 25
  · refine brT ?_ (hp := e6)
    refine dt 1 fun w3 k3 => ?_
    have B3 := B2.trans k3.bl
    have H3 := h.bl B3
    obtain ⟨a, c, hc, hS⟩ := H3.om
    have x3 := Bl.box k3.bl x2
    refine ld hc ?_
    refine ld (x3.cell rfl) ?_
    refine clq (k_path H3.lnk hu (ha (by omega))) ?_
    refine clq (l_Index hS c _) ?_
    refine stx x3 (fun w4 k4 x4 => ?_) (ho := by simp [encIns])
    refine lda x4.at ?_
    refine sta (cs' := [I i.op, I (idxB O.om (nm u i.a)), I i.b]) (k4.box (Bl.box k3.bl k2.box) (by omega)) fun w5 k5 x5 => ?_
    refine rtc (cs := [I i.op, I (idxB O.om (nm u i.a)), I i.b]) x5.at ⟨?_, Below.trans (Below.trans B3 (k4.below (by omega))) (k5.below (by omega))⟩
    unfold instM; rw [if_neg e1, if_neg e2, if_neg e3, if_neg e4, if_neg e5, if_pos e6]
  refine brF ?_ (hp := e6)
  by_cases e7 : i.op = 26
  · refine brT ?_ (hp := e7)
    refine dt 1 fun w3 k3 => ?_
    have B3 := B2.trans k3.bl
    have H3 := h.bl B3
    obtain ⟨a, c, hc, hS⟩ := H3.oz
    have x3 := Bl.box k3.bl x2
    refine ld hc ?_
    refine ld (x3.cell rfl) ?_
    refine clq (k_path H3.lnk hu (ha (by omega))) ?_
    refine clq (l_Index hS c _) ?_
    refine stx x3 (fun w4 k4 x4 => ?_) (ho := by simp [encIns])
    refine lda x4.at ?_
    refine sta (cs' := [I i.op, I (idxB O.oz (nm u i.a)), I i.b]) (k4.box (Bl.box k3.bl k2.box) (by omega)) fun w5 k5 x5 => ?_
    refine rtc (cs := [I i.op, I (idxB O.oz (nm u i.a)), I i.b]) x5.at ⟨?_, Below.trans (Below.trans B3 (k4.below (by omega))) (k5.below (by omega))⟩
    unfold instM; rw [if_neg e1, if_neg e2, if_neg e3, if_neg e4, if_neg e5, if_neg e6, if_pos e7]
  refine brF ?_ (hp := e7)
  have x4 := x2
  refine lda x4.at ?_
  refine sta (cs' := encIns i) k2.box fun w5 k5 x5 => ?_
  refine rtc (cs := encIns i) x5.at ⟨?_, Below.trans B2 (k5.below (by omega))⟩
  unfold instM; rw [if_neg e1, if_neg e2, if_neg e3, if_neg e4, if_neg e5, if_neg e6, if_neg e7]
end Go.Proofs.YtkmdfjpafkcleaaGreatDoor

/- Walks: the linker builds its module. -/
namespace Go.Proofs.YtkmdfjpafkcleaaGreatDoor
open Eng Go.RowKit
variable {w w' : World} {b : Nat} {us : List Unt} {O : Ords}
/-- what holds of the orders of a run -/
structure OOk (us : List Unt) (O : Ords) : Prop where
  oc : ∀ p ∈ O.oc, (∃ n k u c, ClsI us (decl us) p n k u c) ∧ Deep us (decl us) (keysM (decl us).classes).length p ∧ p.size ≤ 200 ∧ ¬ p = nost
  os : ∀ p ∈ O.os, p ∈ keysM (decl us).statics
  om : ∀ p ∈ O.om, p ∈ keysM (decl us).calls ++ keysM (decl us).sends
  oz : ∀ s ∈ O.oz, s.size ≤ 200
  zm : ∀ s ∈ O.om, s.size ≤ 200
  kc : (keysM (decl us).classes).length ≤ 50
  lc : O.oc.length ≤ 50
  ls : O.os.length ≤ 50
  lm : O.om.length ≤ 80
  lz : O.oz.length ≤ 80
theorem ftL_len {oc : List ByteArray} (hF7 : ∀ u ∈ us, ∀ c ∈ u.classes, c.fields.length ≤ 7) : ∀ (m : Nat) (p : ByteArray), (ftL us (decl us) oc m p).length ≤ 7 * m
  | 0, _ => Nat.zero_le _
  | m + 1, p => by
    have ih := ftL_len hF7 (oc := oc) m (supL us (decl us) p)
    have h1 : (ownT us (decl us) oc p).length ≤ 7 := by
      unfold ownT
      cases hc : clsOf us (decl us) p with
      | none => exact Nat.zero_le _
      | some x =>
        obtain ⟨u, c⟩ := x
        unfold clsOf clsAt at hc
        simp only [Option.bind_eq_some_iff, Option.map_eq_some_iff, Prod.mk.injEq] at hc
        obtain ⟨d, _, u', hu, c', hc', rfl, rfl⟩ := hc
        simp only [List.length_map]
        exact hF7 u' (List.mem_of_getElem? hu) c' (List.mem_of_getElem? hc')
    unfold ftL
    rw [List.length_append]
    split
    · simp only [List.length_nil]; omega
    · omega
/-- the module's block while classes, statics, methods are put -/
abbrev mdc (a1 : Option Addr) (n1 c1 : Nat) (a2 : Option Addr) (n2 c2 : Nat) (a3 : Option Addr) (n3 c3 : Nat) (z : Nat) : List Value := [.slice a1 n1 c1, .slice a2 n2 c2, .slice a3 n3 c3, I z]
theorem Nc.box {b c : Nat} {w w' : World} (h : Nc b w w') {t : TypeId} {cs : List Value} (hb : Box w c t cs) (hne : c ≠ b) : Box w' c t cs := by unfold Box; rw [h.blk c hb.lt hne]; exact hb
theorem fld_dot {u : Unt} (hC : CkU u) {m : Mth} (hm : m ∈ u.methods) {i : Ins} (hi : i ∈ m.code) (h : i.op = 17 ∨ i.op = 18) : (46 : UInt8) ∈ (nm u i.a).data.toList ∧ (nm u i.a).size ≤ 200 := by
  have hn : named i = (1, 3) := by unfold named; rw [if_pos h]
  have ho : operand i = (i.a, 3) := by unfold operand; rw [hn]; rfl
  have := op_in hC hm hi (by rw [ho]; exact (by decide : (0 : Int) < 3))
  rw [ho] at this
  obtain ⟨h1, h2, h3⟩ := this
  refine ⟨dot_of (by simp only at h3; omega), ?_⟩
  have := (ck_small hC).2 i.a ⟨h1, h2⟩
  omega
theorem staM_at {p : ByteArray} {n k : Nat} {u : Unt} {f : Fld} (hg : getM (decl us).statics p = some (n, k)) (hu : us[n]? = some u) (hf : u.statics[k]? = some f) : staM us O p = kindM O.oc u f.ty := by
  unfold staM
  rw [hg]
  simp [hu, hf]
theorem mthM_at {p : ByteArray} {n k : Nat} {u : Unt} {m : Mth} (h : MthI us (mthD (decl us) p) n k u m) : mthM us O p = ⟨p, if 0 ≤ m.cls then idxB O.oc (nm u m.cls) else -1, m.params.map (kindM O.oc u), m.locals.map (kindM O.oc u), kindM O.oc u m.result, m.code.map (instM us O u)⟩ := by
  unfold mthM mthOf
  rw [h.of]
theorem k_module {c0 s0 m0 : Nat} (h : RunO b us O w) (hC : ∀ u ∈ us, CkU u) (hO : OOk us O) (dok : DOk us c0 s0 m0 (decl us)) (hF7 : ∀ u ∈ us, ∀ c ∈ u.classes, c.fields.length ≤ 7) :
    Ret Tryz.prog 47 #[.pointer (some ⟨b, 0, none⟩)] w fun v w' => ∃ a, v = .agg (modcells (modO us O) a).toArray ∧ MdR (fun i => w.heap.size ≤ i ∧ i < w'.heap.size) w' (modO us O) a ∧ Bl w w' := by
  have hI : ∀ u ∈ us, Ixs u := fun u hu => ixs_of (hC u hu)
  obtain ⟨az, cz, hcz, hSz⟩ := h.oz
  obtain ⟨ac, cc, hcc, hSc⟩ := h.oc
  obtain ⟨as', cs', hcs, hSs⟩ := h.os
  obtain ⟨am, cm, hcm, hSm⟩ := h.om
  have hlt := h.lnk.lt
  have hlc := hO.lc
  have hls := hO.ls
  have hlm := hO.lm
  have hlz := hO.lz
  have hkc := hO.kc
  refine entr (vs := [.pointer (some ⟨b, 0, none⟩)]) [0, 2, 3, 5, 7, 8, 10, 11, 12, 13, 14, 16, 28, 29, 30, 31, 61, 62, 63, 64, 101, 102, 103, 104, 117, 159, 174, 175, 176, 177] tabok Tryz.func47 (by kernel_rfl) ?_
  refine al fun b2 w1 k1 => ?_
  refine ld (k1.bl.cl hcz) ?_
  refine bd ?_
  refine al fun b3 w2 k2 => ?_
  refine sta (cs' := mdc none 0 0 none 0 0 none 0 0 O.oz.length) k2.box fun w3 k3 x3 => ?_
  have z1 := k1.size
  have y1 := k1.blk
  have z2 := k2.size
  have y2 := k2.blk
  have z3 := k3.size
  have B3 : Bl w w3 := k1.bl.trans (k2.wr k3)
  have x2 : Box w3 b2 29 (mdc none 0 0 none 0 0 none 0 0 0) := Bl.box (k2.wr k3) k1.box
  refine ld (B3.cl hcc) ?_
  refine lpk (vals := []) O.oc.length 30 [] [(0, .pointer (some ⟨b, 0, none⟩)), (2, .pointer (some ⟨b2, 0, none⟩)), (3, .pointer (some ⟨b3, 0, none⟩)), (28, .slice ac O.oc.length cc), (29, I O.oc.length)]
    (fun j vals w' => vals = [] ∧ Nc b3 w3 w' ∧ ∃ a1 c1, Box w' b3 29 (mdc a1 ((O.oc.take j).map (clsM us O)).length c1 none 0 0 none 0 0 O.oz.length) ∧ OwC eMC (fun i => w3.heap.size ≤ i) w' w3.heap.size 49 a1 c1 ((O.oc.take j).map (clsM us O)))
    ⟨rfl, .of_bl (Bl.refl _), none, 0, x3, OwC.nil ..⟩ ?_
  rintro j vals w4 hj ⟨rfl, N4, a1, c1, x4, O4⟩ ih
  have B4 : Bl w w4 := Nc.below B3 N4 (by omega) B3.size
  have z4 := N4.size
  by_cases hjl : j < O.oc.length
  · refine brT ?_
    obtain ⟨p, bf, off, cs, hp, rfl, _, hAt, rfl⟩ := at_some (hSc.bl B4) hjl
    obtain ⟨⟨n, k, u, c, hcI⟩, hdp, hps, hp0⟩ := hO.oc p (List.mem_of_getElem? hp)
    refine ix ?_
    refine ld (hAt 0 _ rfl) ?_
    have hna : ∀ g, a1 = some ⟨g, 0, none⟩ → w3.heap.size ≤ g := fun g hg => (O4.lt hg).1
    refine dht 1 (fun i => i < w3.heap.size) [0, 1, 2, 3, 4, 5, 6, 7, 8, 9, 12, 13, 15, 16, 10, 11, 14, 17, 18, 19, 20, 21] fun w5 k5 => ?_
    have B5 := B4.trans k5.bl
    have N5 := N4.bl k5.bl
    have x5 := Bl.box k5.bl x4
    refine ld (x5.cell rfl) ?_ (hm := by show b3 < _; omega)
    refine ld (B5.cl hcc) ?_ (hm := by show b < _; omega)
    refine cl (k_super (h.bl B5).lnk hI hcI) ?_
    rintro _ w6 ⟨rfl, B56⟩
    have B6 := B5.trans B56
    refine cl (l_Index (hSc.bl B6) cc _) ?_
    rintro _ w6x ⟨rfl, q6⟩
    rw [q6]
    refine cl (k_fieldTypes hI hF7 (keysM (decl us).classes).length p w6 (by have := hO.kc; omega) (h.bl B6) hdp) ?_ (hm := fun _ _ r => by obtain ⟨_, _, _, _, _, hB⟩ := r; exact mdW_bl hB)
    rintro _ w7 ⟨a7, c7, rfl, O7, hl7, B67⟩
    have B7 := B6.trans B67
    refine cl (k_row (h.bl B7) hC hdp hps hO.oz hp0) ?_ (hm := fun _ _ r => by obtain ⟨_, _, _, _, hB⟩ := r; exact mdW_bl hB)
    rintro _ w8 ⟨a8, c8, rfl, O8, B78⟩
    refine bd ?_
    refine bs (cs := mccells (clsM us O p) a7 c7 a8 c8) fun b9 w9 k9 => ?_
    have B49 := (k5.bl.trans B56).trans ((B67.trans B78).trans k9.bl)
    have B9 := B4.trans B49
    obtain ⟨xs, e1, e3, hOx, e4⟩ := (O4.bl B49).row
    have z5 : w5.heap.size = w4.heap.size := by rw [k5.heap]
    have z56 := B56.size
    have z67 := B67.size
    have z78 := B78.size
    have z9 := k9.size
    have hl9 : ((O.oc.take j).map (clsM us O)).length ≤ 50 := by rw [List.length_map, List.length_take]; omega
    refine ap hOx (.inr ⟨b9, 0, rfl, k9.box.at⟩) (by omega) (fun a10 c10 w10 hO10 hA10 hf10 => ?_) (hm := apS fun g hg => by have := hna g hg; show ¬ g < _; omega)
    have hrel : eMC.rel (fun i => w3.heap.size ≤ i ∧ a1 ≠ some ⟨i, 0, none⟩ ∧ i < w9.heap.size) w9 (mccells (clsM us O p) a7 c7 a8 c8) (clsM us O p) := by
      refine ⟨a7, c7, a8, c8, rfl, ?_, ?_, Nat.le_trans hps (by decide)⟩
      · exact owp_sl (enc := encTy) ((O7.bl B78).bl k9.bl) (by show (ftL us (decl us) O.oc _ p).length ≤ _; omega) fun g hg => by
          have q1 := O7.lt hg
          exact ⟨by omega, fun e => by have := (O4.lt e).2; omega, by omega⟩
      · exact owp_sl (enc := encInt) (O8.bl k9.bl) (by rw [List.length_map]; omega) fun g hg => by
          have q1 := O8.lt hg
          exact ⟨by omega, fun e => by have := (O4.lt e).2; omega, by omega⟩
    have hO10' := OwC.push e1 e3 e4 hO10 hA10 hf10 hrel
    have x10 := hA10.box (Bl.box B49 x4) fun e => by have := hna _ e; omega
    refine st x10 fun w11 k11 x11 => ?_
    have e5 : (O.oc.take (j + 1)).map (clsM us O) = (O.oc.take j).map (clsM us O) ++ [clsM us O p] := map_snoc hp
    have N10 : Nc b3 w3 w10 := (N4.bl B49).ap hA10 hna
    exact ih hjl ⟨rfl, N10.wr k11 (.inl rfl), a10, c10, by rw [e5, List.length_append]; exact x11, by rw [e5]; exact hO10'.wr k11 (by omega) fun i hi => by omega⟩
  refine brF ?_
  obtain rfl : j = O.oc.length := by omega
  rw [List.take_length] at x4 O4
  have SC4 : Sl eMC (fun i => w3.heap.size ≤ i ∧ i < w4.heap.size) w4 a1 (O.oc.map (clsM us O)) := O4.sl2 (by rw [List.length_map]; omega)
  have x24 := N4.box x2 (by omega)
  clear ih
  -- the statics
  refine ld (B4.cl hcs) ?_
  refine lpk (vals := []) O.os.length 63 [] [(0, .pointer (some ⟨b, 0, none⟩)), (2, .pointer (some ⟨b2, 0, none⟩)), (3, .pointer (some ⟨b3, 0, none⟩)), (61, .slice as' O.os.length cs'), (62, I O.os.length)]
    (fun j vals w' => vals = [] ∧ Nc b3 w4 w' ∧ ∃ a2 c2, Box w' b3 29 (mdc a1 (O.oc.map (clsM us O)).length c1 a2 ((O.os.take j).map (staM us O)).length c2 none 0 0 O.oz.length) ∧ OwP 2 encTy w' w4.heap.size 51 a2 c2 ((O.os.take j).map (staM us O)))
    ⟨rfl, .of_bl (Bl.refl _), none, 0, x4, Ow.nil ..⟩ ?_
  rintro j vals w5 hj ⟨rfl, N5, a2, c2, x5, O5⟩ ih
  have B5 : Bl w w5 := Nc.below B4 N5 (by omega) B4.size
  have z5 := N5.size
  by_cases hjl : j < O.os.length
  · refine brT ?_
    obtain ⟨p, bf, off, cs, hp, rfl, _, hAt, rfl⟩ := at_some (hSs.bl B5) hjl
    obtain ⟨⟨n, k⟩, hg⟩ := mem_keys (hO.os p (List.mem_of_getElem? hp))
    obtain ⟨u, f, hu, hf⟩ := dok.st p _ hg
    have hum := List.mem_of_getElem? hu
    refine ix ?_
    refine ld (hAt 0 _ rfl) ?_
    obtain ⟨m1, h1, hm1⟩ := (h.bl B5).lnk.st
    refine ld h1 ?_
    refine lk tD hm1 ?_
    rw [hg]
    refine al fun b8 w6 k6 => ?_
    refine sta (vs := [I n, I k]) (cs' := [I n, I k]) k6.box fun w7 k7 x7 => ?_
    have hna : ∀ g, a2 = some ⟨g, 0, none⟩ → w4.heap.size ≤ g ∧ g < w5.heap.size := fun g hg => O5.lt hg
    have z6 := k6.size
    have y6 := k6.blk
    have z7 := k7.size
    refine dht 1 (fun i => i < w4.heap.size ∨ i = b8) (List.range 23) fun w8 k8 => ?_
    have z8 : w8.heap.size = w7.heap.size := by rw [k8.heap]
    have B58 := (k6.wr k7).trans k8.bl
    have B8 := B5.trans B58
    have x8 := Bl.box k8.bl x7
    obtain ⟨a, cu, h0, hS⟩ := h.lnk.us
    obtain ⟨b6, o6, cs6, rfl, _, hAt6, ua, rfl, hU⟩ := hS.el n u hu
    obtain ⟨b7, o7, cs7, e7, _, hAt7, rfl⟩ := hU.sta.el k f hf
    have hn : n < us.length := (List.getElem?_eq_some_iff.1 hu).1
    have hk : k < u.statics.length := (List.getElem?_eq_some_iff.1 hf).1
    have hb6 : b6 < w.heap.size := cell_lt (hAt6 3 _ rfl)
    have hb7 : b7 < w.heap.size := cell_lt (hAt7 0 _ rfl)
    have sB := B3.size
    refine ld ((Bl.box B58 x5).cell rfl) ?_ (hm := by exact .inl (by omega))
    refine ld (x8.cell rfl) ?_ (hm := by exact .inr rfl)
    refine ld (B8.cl h0) ?_ (hm := by exact .inl (by omega))
    refine ld (x8.cell rfl) ?_ (hm := by exact .inr rfl)
    refine ix ?_
    refine ld ((hAt6.bl B8) 3 _ rfl) ?_ (hm := by exact .inl (by omega))
    refine ld (x8.cell rfl) ?_ (hm := by exact .inr rfl)
    rw [e7]
    refine ix ?_
    refine lda ((hAt7.bl B8).sub 1 2) ?_ (hm := by exact .inl (by omega))
    refine cl (k_kind (h.bl B8) hu ((hI u hum).sty f (List.mem_of_getElem? hf))) ?_
    rintro _ w9 ⟨rfl, B89⟩
    refine bs (cs := encTy (kindM O.oc u f.ty)) fun b10 w10 k10 => ?_
    have B510 := (B58.trans B89).trans k10.bl
    have O10 := O5.bl B510
    have z10 := B510.size
    have y10 := k10.blk
    have s9 := B89.size
    have hl : ((O.os.take j).map (staM us O)).length ≤ 50 := by rw [List.length_map, List.length_take]; omega
    have e1 : (O.os.take (j + 1)).map (staM us O) = (O.os.take j).map (staM us O) ++ [kindM O.oc u f.ty] := by rw [map_snoc hp, staM_at hg hu hf]
    refine apl (l1 := [kindM O.oc u f.ty]) O10 (.inr ⟨b10, 0, rfl, k10.box.at⟩) (by omega) (fun a11 c11 w11 hO11 hA11 _ => ?_) (hb := by simp only [List.length_cons, List.length_nil]; omega) (hn := by simp only [List.length_cons, List.length_nil]; omega) (hm := apS fun g hg q => by have := hna g hg; rcases q with q | q <;> omega)
    have x11 := hA11.box (Bl.box B510 x5) fun e => by have := hna _ e; omega
    refine st x11 fun w12 k12 x12 => ?_
    have N11 : Nc b3 w4 w11 := (N5.bl B510).ap hA11 fun g hg => (hna g hg).1
    exact ih hjl ⟨rfl, N11.wr k12 (.inl rfl), a11, c11, by rw [e1]; exact x12, by rw [e1]; exact hO11.wr k12 fun g hg => by have := (hO11.lt hg).1; omega⟩
  refine brF ?_
  obtain rfl : j = O.os.length := by omega
  rw [List.take_length] at x5 O5
  have SC5 := SC4.kp (N5.nb.kp.sub fun i hi => by omega)
  have SS5 : Sl eTy (fun i => w3.heap.size ≤ i ∧ i < w5.heap.size) w5 a2 (O.os.map (staM us O)) := owp_sl O5 (by rw [List.length_map]; omega) fun g hg => by have := O5.lt hg; omega
  have x25 := N5.box x24 (by omega)
  clear ih
  -- the methods
  refine ld (B5.cl hcm) ?_
  refine lpk (vals := []) O.om.length 103 [] [(0, .pointer (some ⟨b, 0, none⟩)), (2, .pointer (some ⟨b2, 0, none⟩)), (3, .pointer (some ⟨b3, 0, none⟩)), (101, .slice am O.om.length cm), (102, I O.om.length)]
    (fun j vals w' => vals = [] ∧ Nc b3 w5 w' ∧ ∃ a3 c3, Box w' b3 29 (mdc a1 (O.oc.map (clsM us O)).length c1 a2 (O.os.map (staM us O)).length c2 a3 ((O.om.take j).map (mthM us O)).length c3 O.oz.length) ∧ OwC eMM (fun i => w5.heap.size ≤ i) w' w5.heap.size 54 a3 c3 ((O.om.take j).map (mthM us O)))
    ⟨rfl, .of_bl (Bl.refl _), none, 0, x5, OwC.nil ..⟩ ?_
  rintro j vals w6 hj ⟨rfl, N6, a3, c3, x6, O6⟩ ih
  have B6 : Bl w w6 := Nc.below B5 N6 (by omega) B5.size
  have z6 := N6.size
  have sB := B3.size
  by_cases hjl : j < O.om.length
  · refine brT ?_
    obtain ⟨p, bf, off, cs, hp, rfl, _, hAt, rfl⟩ := at_some (hSm.bl B6) hjl
    obtain ⟨n, k, u, m, hm⟩ := mthI_of dok (hO.om p (List.mem_of_getElem? hp))
    have hum := List.mem_of_getElem? hm.hu
    have hmm := List.mem_of_getElem? hm.hm
    have hg := hm.g
    unfold mthD at hg
    have hna : ∀ g, a3 = some ⟨g, 0, none⟩ → w5.heap.size ≤ g ∧ g < w6.heap.size := fun g hg => O6.lt hg
    refine ix ?_
    refine ld (hAt 0 _ rfl) ?_
    obtain ⟨m1, h1, hm1⟩ := (h.bl B6).lnk.ca
    refine ld h1 ?_
    refine lko tD hm1 ?_
    rw [getD_enc]
    refine al fun b11 w7 k7 => ?_
    refine sta k7.box fun w8 k8 x8 => ?_
    have B68 := k7.wr k8
    have y7 := k7.blk
    have z7 := k7.size
    have z8 := k8.size
    refine jn [] [(0, .pointer (some ⟨b, 0, none⟩)), (2, .pointer (some ⟨b2, 0, none⟩)), (3, .pointer (some ⟨b3, 0, none⟩)), (101, .slice (some ⟨bf, off, none⟩) O.om.length cm), (102, I O.om.length), (103, I j), (10, .string p), (11, .pointer (some ⟨b11, 0, none⟩))] (fun vals w' => vals = [] ∧ Box w' b11 151 [I n, I k] ∧ Bl w6 w') (fun q jo => ?_) (fun q jo => ?_) ?_
    · have hn : getM (decl us).calls p = none := by
        simp only [hasM, Bool.not_eq_true'] at q
        cases hc : getM (decl us).calls p with
        | none => rfl
        | some d => rw [hc] at q; cases q
      have hg2 : getM (decl us).sends p = some (n, k) := by rw [hn] at hg; exact hg
      obtain ⟨m2, h2, hm2⟩ := (h.bl (B6.trans B68)).lnk.se
      refine ld h2 ?_
      refine lk tD hm2 ?_
      rw [hg2]
      refine sta (vs := [I n, I k]) (cs' := [I n, I k]) x8 fun w9 k9 x9 => ?_
      exact jo ⟨rfl, x9, Below.trans B68 (k9.below (Nat.le_of_eq k7.blk.symm))⟩
    · simp only [hasM, Bool.not_eq_false'] at q
      obtain ⟨d, hd⟩ := Option.isSome_iff_exists.1 q
      have hd2 : d = (n, k) := by rw [hd] at hg; exact Option.some.inj hg
      rw [hd, hd2] at x8
      exact jo ⟨rfl, x8, B68⟩
    clear x8 k8 B68 z8 k7 z7
    rintro _ w8 ⟨rfl, x8, B68⟩
    have z8 := B68.size
    have l8 := x8.lt
    obtain ⟨a, cu, h0, hS⟩ := h.lnk.us
    obtain ⟨b6, o6, cs6, rfl, _, hAt6, ua, rfl, hU⟩ := hS.el n u hm.hu
    obtain ⟨b7, o7, cs7, e7, _, hAt7, p1, d1, p2, d2, p3, d3, rfl, hF1, hF2, hF3⟩ := hU.mth.el k m hm.hm
    have hn : n < us.length := (List.getElem?_eq_some_iff.1 hm.hu).1
    have hk : k < u.methods.length := (List.getElem?_eq_some_iff.1 hm.hm).1
    have hb6 : b6 < w.heap.size := cell_lt (hAt6 4 _ rfl)
    have hb7 : b7 < w.heap.size := cell_lt (hAt7 0 _ rfl)
    have sB6 := B6.size
    have hcl : 0 ≤ m.cls → inP u m.cls := fun q => ((hI u hum).plc.mc m hmm).resolve_left (by omega)
    refine dh (· < w8.heap.size) (List.range 15) fun w9 k9 => ?_
    have B69 := B68.trans k9.bl
    have z9 : w9.heap.size = w8.heap.size := by rw [k9.heap]
    have B9 := B6.trans B69
    have x9 := Bl.box k9.bl x8
    refine ld (B9.cl h0) ?_ (hm := by show b < _; omega)
    refine ld (x9.cell rfl) ?_ (hm := by show b11 < _; omega)
    refine ix ?_
    refine ld ((hAt6.bl B9) 4 _ rfl) ?_ (hm := by show b6 < _; omega)
    refine ld (x9.cell rfl) ?_ (hm := by show b11 < _; omega)
    rw [e7]
    refine ix ?_
    refine lda (hAt7.bl B9) ?_ (hm := by show b7 < _; omega)
    refine al fun b13 w10 k10 => ?_
    have y10 := k10.blk
    have z10 := k10.size
    refine sta k10.box (fun w11 k11 x11 => ?_) (hm := wrS (by show ¬ b13 < _; omega))
    have z11 := k11.size
    have B611 : Bl w6 w11 := B69.trans (k10.wr k11)
    have B11 := B6.trans B611
    have d11 := Bl.box (k10.wr k11) x9
    refine cut [14] [(0, .pointer (some ⟨b, 0, none⟩)), (2, .pointer (some ⟨b2, 0, none⟩)), (3, .pointer (some ⟨b3, 0, none⟩)), (101, .slice (some ⟨bf, off, none⟩) O.om.length cm), (102, I O.om.length), (103, I j), (10, .string p), (11, .pointer (some ⟨b11, 0, none⟩)), (13, .pointer (some ⟨b13, 0, none⟩))]
      (fun vals w' => ∃ b14 a5 c5 a6 c6, vals = [.pointer (some ⟨b14, 0, none⟩)] ∧ w11.heap.size ≤ b14 ∧ Bl w11 w' ∧ Box w' b14 54 (mmcells ⟨p, -1, m.params.map (kindM O.oc u), m.locals.map (kindM O.oc u), kindM O.oc u m.result, []⟩ a5 c5 a6 c6 none 0) ∧
        Sl eTy (fun i => w11.heap.size ≤ i ∧ i < w'.heap.size ∧ i ≠ b14) w' a5 (m.params.map (kindM O.oc u)) ∧ Sl eTy (fun i => w11.heap.size ≤ i ∧ i < w'.heap.size ∧ i ≠ b14) w' a6 (m.locals.map (kindM O.oc u))) (fun jo => ?_) ?_
    · refine dhb (· < w11.heap.size) (.row [0, 1, 2, 3, 4, 5, 7, 8, 9, 10, 11, 13, 14, 15, 16, 17] (.two 6 (.two 12 (.two 18 (.row [19, 20, 21] .done) 20 (.row [18, 19, 21] .done)) 20 (.row [12, 18, 19, 21] .done)) 20 (.row [6, 12, 18, 19, 21] .done))) fun w12 k12 => ?_
      have hIu := hI u hum
      have hty1 : ∀ t ∈ m.params, optP u t.cls := fun t ht => hIu.mty m hmm t (List.mem_append_left _ (List.mem_append_left _ ht))
      have hty2 : ∀ t ∈ m.locals, optP u t.cls := fun t ht => hIu.mty m hmm t (List.mem_append_left _ (List.mem_append_right _ ht))
      have hty3 : optP u m.result.cls := hIu.mty m hmm _ (List.mem_append_right _ (List.mem_singleton.2 rfl))
      have g1 := hF1.big
      have g2 := hF2.big
      have l11 := x11.lt
      have B1_12 := k12.bl
      have s12 : w12.heap.size = w11.heap.size := by rw [k12.heap]
      have d12 := Bl.box k12.bl d11
      have x12 := Bl.box k12.bl x11
      refine ld (d12.cell rfl) ?_ (hm := by show b11 < _; omega)
      refine ld (x12.cell rfl) ?_ (hm := by show b13 < _; omega)
      refine ld (d12.cell rfl) ?_ (hm := by show b11 < _; omega)
      refine ld (x12.cell rfl) ?_ (hm := by show b13 < _; omega)
      refine ld (d12.cell rfl) ?_ (hm := by show b11 < _; omega)
      refine lda (x12.at.sub 4 2) ?_ (hm := by show b13 < _; omega)
      -- ORDERS
      refine bt ?_ ?_
      · refine cl (k_kinds (h.bl (B11.trans B1_12)) hm.hu ((hF1.bl (B11.trans B1_12)).sub fun _ _ => trivial) hty1) ?_ (hm := fun _ _ r => by obtain ⟨_, _, _, _, hB⟩ := r; exact mdW_bl hB)
        rintro _ v13 ⟨a5, c5, rfl, O5_13, q13⟩
        have s13 := q13.size
        have l5 := fun g (hg : a5 = some ⟨g, 0, none⟩) => O5_13.lt hg
        have B1_13 := B1_12.trans q13
        refine bt ?_ ?_
        · refine cl (k_kinds (h.bl (B11.trans B1_13)) hm.hu ((hF2.bl (B11.trans B1_13)).sub fun _ _ => trivial) hty2) ?_ (hm := fun _ _ r => by obtain ⟨_, _, _, _, hB⟩ := r; exact mdW_bl hB)
          rintro _ v14 ⟨a6, c6, rfl, O6_14, q14⟩
          have s14 := q14.size
          have l6 := fun g (hg : a6 = some ⟨g, 0, none⟩) => O6_14.lt hg
          have B1_14 := B1_13.trans q14
          have O5_14 := O5_13.bl q14
          refine bt ?_ ?_
          · refine cl (k_kind (h.bl (B11.trans B1_14)) hm.hu hty3) ?_
            rintro _ v15 ⟨rfl, q15⟩
            have s15 := q15.size
            have B1_15 := B1_14.trans q15
            have O5_15 := O5_14.bl q15
            have O6_15 := O6_14.bl q15
            refine bd ?_
            refine al fun b14 v16 k16 => ?_
            have q16 := k16.bl
            have s16 := k16.size
            have y14 := k16.blk
            have B1_16 := B1_15.trans q16
            have x_16 : Box v16 b14 54 _ := k16.box
            have O5_16 := O5_15.bl q16
            have O6_16 := O6_15.bl q16
            refine sta (cs' := (mmcells ⟨p, -1, m.params.map (kindM O.oc u), m.locals.map (kindM O.oc u), kindM O.oc u m.result, []⟩ a5 c5 a6 c6 none 0)) x_16 (fun wz kz xz => ?_) (hm := wrB (by show ¬ b14 < _; omega))
            have sz := kz.size
            refine jo ⟨b14, a5, c5, a6, c6, rfl, by omega, Below.trans B1_16 (kz.below (by omega)), xz, ?_, ?_⟩
            · exact owp_sl (O5_16.wr kz fun g hg => by have := l5 g hg; omega) (by rw [List.length_map]; omega) fun g hg => by have := l5 g hg; exact ⟨by omega, by omega, by omega⟩
            · exact owp_sl (O6_16.wr kz fun g hg => by have := l6 g hg; omega) (by rw [List.length_map]; omega) fun g hg => by have := l6 g hg; exact ⟨by omega, by omega, by omega⟩
          · refine al fun b14 v15 k15 => ?_
            have q15 := k15.bl
            have s15 := k15.size
            have y14 := k15.blk
            have B1_15 := B1_14.trans q15
            have x_15 : Box v15 b14 54 _ := k15.box
            have O5_15 := O5_14.bl q15
            have O6_15 := O6_14.bl q15
            refine cl (k_kind (h.bl (B11.trans B1_15)) hm.hu hty3) ?_
            rintro _ v16 ⟨rfl, q16⟩
            have s16 := q16.size
            have B1_16 := B1_15.trans q16
            have O5_16 := O5_15.bl q16
            have O6_16 := O6_15.bl q16
            have x_16 := Bl.box q16 x_15
            refine bd ?_
            refine sta (cs' := (mmcells ⟨p, -1, m.params.map (kindM O.oc u), m.locals.map (kindM O.oc u), kindM O.oc u m.result, []⟩ a5 c5 a6 c6 none 0)) x_16 (fun wz kz xz => ?_) (hm := wrB (by show ¬ b14 < _; omega))
            have sz := kz.size
            refine jo ⟨b14, a5, c5, a6, c6, rfl, by omega, Below.trans B1_16 (kz.below (by omega)), xz, ?_, ?_⟩
            · exact owp_sl (O5_16.wr kz fun g hg => by have := l5 g hg; omega) (by rw [List.length_map]; omega) fun g hg => by have := l5 g hg; exact ⟨by omega, by omega, by omega⟩
            · exact owp_sl (O6_16.wr kz fun g hg => by have := l6 g hg; omega) (by rw [List.length_map]; omega) fun g hg => by have := l6 g hg; exact ⟨by omega, by omega, by omega⟩
        · refine al fun b14 v14 k14 => ?_
          have q14 := k14.bl
          have s14 := k14.size
          have y14 := k14.blk
          have B1_14 := B1_13.trans q14
          have x_14 : Box v14 b14 54 _ := k14.box
          have O5_14 := O5_13.bl q14
          refine cl (k_kinds (h.bl (B11.trans B1_14)) hm.hu ((hF2.bl (B11.trans B1_14)).sub fun _ _ => trivial) hty2) ?_ (hm := fun _ _ r => by obtain ⟨_, _, _, _, hB⟩ := r; exact mdW_bl hB)
          rintro _ v15 ⟨a6, c6, rfl, O6_15, q15⟩
          have s15 := q15.size
          have l6 := fun g (hg : a6 = some ⟨g, 0, none⟩) => O6_15.lt hg
          have B1_15 := B1_14.trans q15
          have O5_15 := O5_14.bl q15
          have x_15 := Bl.box q15 x_14
          refine cl (k_kind (h.bl (B11.trans B1_15)) hm.hu hty3) ?_
          rintro _ v16 ⟨rfl, q16⟩
          have s16 := q16.size
          have B1_16 := B1_15.trans q16
          have O5_16 := O5_15.bl q16
          have O6_16 := O6_15.bl q16
          have x_16 := Bl.box q16 x_15
          refine bd ?_
          refine sta (cs' := (mmcells ⟨p, -1, m.params.map (kindM O.oc u), m.locals.map (kindM O.oc u), kindM O.oc u m.result, []⟩ a5 c5 a6 c6 none 0)) x_16 (fun wz kz xz => ?_) (hm := wrB (by show ¬ b14 < _; omega))
          have sz := kz.size
          refine jo ⟨b14, a5, c5, a6, c6, rfl, by omega, Below.trans B1_16 (kz.below (by omega)), xz, ?_, ?_⟩
          · exact owp_sl (O5_16.wr kz fun g hg => by have := l5 g hg; omega) (by rw [List.length_map]; omega) fun g hg => by have := l5 g hg; exact ⟨by omega, by omega, by omega⟩
          · exact owp_sl (O6_16.wr kz fun g hg => by have := l6 g hg; omega) (by rw [List.length_map]; omega) fun g hg => by have := l6 g hg; exact ⟨by omega, by omega, by omega⟩
      · refine al fun b14 v13 k13 => ?_
        have q13 := k13.bl
        have s13 := k13.size
        have y14 := k13.blk
        have B1_13 := B1_12.trans q13
        have x_13 : Box v13 b14 54 _ := k13.box
        refine cl (k_kinds (h.bl (B11.trans B1_13)) hm.hu ((hF1.bl (B11.trans B1_13)).sub fun _ _ => trivial) hty1) ?_ (hm := fun _ _ r => by obtain ⟨_, _, _, _, hB⟩ := r; exact mdW_bl hB)
        rintro _ v14 ⟨a5, c5, rfl, O5_14, q14⟩
        have s14 := q14.size
        have l5 := fun g (hg : a5 = some ⟨g, 0, none⟩) => O5_14.lt hg
        have B1_14 := B1_13.trans q14
        have x_14 := Bl.box q14 x_13
        refine cl (k_kinds (h.bl (B11.trans B1_14)) hm.hu ((hF2.bl (B11.trans B1_14)).sub fun _ _ => trivial) hty2) ?_ (hm := fun _ _ r => by obtain ⟨_, _, _, _, hB⟩ := r; exact mdW_bl hB)
        rintro _ v15 ⟨a6, c6, rfl, O6_15, q15⟩
        have s15 := q15.size
        have l6 := fun g (hg : a6 = some ⟨g, 0, none⟩) => O6_15.lt hg
        have B1_15 := B1_14.trans q15
        have O5_15 := O5_14.bl q15
        have x_15 := Bl.box q15 x_14
        refine cl (k_kind (h.bl (B11.trans B1_15)) hm.hu hty3) ?_
        rintro _ v16 ⟨rfl, q16⟩
        have s16 := q16.size
        have B1_16 := B1_15.trans q16
        have O5_16 := O5_15.bl q16
        have O6_16 := O6_15.bl q16
        have x_16 := Bl.box q16 x_15
        refine bd ?_
        refine sta (cs' := (mmcells ⟨p, -1, m.params.map (kindM O.oc u), m.locals.map (kindM O.oc u), kindM O.oc u m.result, []⟩ a5 c5 a6 c6 none 0)) x_16 (fun wz kz xz => ?_) (hm := wrB (by show ¬ b14 < _; omega))
        have sz := kz.size
        refine jo ⟨b14, a5, c5, a6, c6, rfl, by omega, Below.trans B1_16 (kz.below (by omega)), xz, ?_, ?_⟩
        · exact owp_sl (O5_16.wr kz fun g hg => by have := l5 g hg; omega) (by rw [List.length_map]; omega) fun g hg => by have := l5 g hg; exact ⟨by omega, by omega, by omega⟩
        · exact owp_sl (O6_16.wr kz fun g hg => by have := l6 g hg; omega) (by rw [List.length_map]; omega) fun g hg => by have := l6 g hg; exact ⟨by omega, by omega, by omega⟩
      -- END ORDERS
    rintro _ w12 ⟨b14, a5, c5, a6, c6, rfl, hb14, B1112, x12, S5, S6⟩
    have z12 := B1112.size
    have l12 := x12.lt
    have B612 := B611.trans B1112
    have B12 := B6.trans B612
    have d12 := Bl.box B1112 d11
    have xm12 := Bl.box B1112 x11
    refine ld (xm12.cell rfl) ?_
    refine jn [] [(0, .pointer (some ⟨b, 0, none⟩)), (2, .pointer (some ⟨b2, 0, none⟩)), (3, .pointer (some ⟨b3, 0, none⟩)), (101, .slice (some ⟨bf, off, none⟩) O.om.length cm), (102, I O.om.length), (103, I j), (10, .string p), (11, .pointer (some ⟨b11, 0, none⟩)), (13, .pointer (some ⟨b13, 0, none⟩)), (14, .pointer (some ⟨b14, 0, none⟩))]
      (fun vals w' => vals = [] ∧ Nc b14 w12 w' ∧ Box w' b14 54 (mmcells ⟨p, if 0 ≤ m.cls then idxB O.oc (nm u m.cls) else -1, m.params.map (kindM O.oc u), m.locals.map (kindM O.oc u), kindM O.oc u m.result, []⟩ a5 c5 a6 c6 none 0)) (fun q jo => ?_) (fun q jo => ?_) ?_
    · have q0 : 0 ≤ m.cls := of_decide_eq_true q
      refine dt 1 fun w13 k13 => ?_
      have B13 := B12.trans k13.bl
      refine ld (B13.cl hcc) ?_
      refine ld ((k13.box d12).cell rfl) ?_
      refine ld ((k13.box xm12).cell rfl) ?_
      refine clq (k_path (h.bl B13).lnk hm.hu (hcl q0)) ?_
      refine clq (l_Index (hSc.bl B13) cc _) ?_
      refine st (k13.box x12) fun w14 k14 x14 => ?_
      exact jo ⟨rfl, (Nc.of_bl k13.bl).wr k14 (.inl rfl), by rw [if_pos q0]; exact x14⟩
    · have q0 : ¬ 0 ≤ m.cls := of_decide_eq_false q
      exact jo ⟨rfl, .of_bl (Bl.refl _), by rw [if_neg q0]; exact x12⟩
    rintro _ w13 ⟨rfl, N13, x13⟩
    have z13 := N13.size
    have B13 : Bl w w13 := Nc.below B12 N13 (by omega) B12.size
    have g3 := code_len (hC u hum) hmm
    have xm13 := N13.box xm12 (by omega)
    refine ld (xm13.cell rfl) ?_
    refine lpk (vals := []) m.code.length 176 [] [(0, .pointer (some ⟨b, 0, none⟩)), (2, .pointer (some ⟨b2, 0, none⟩)), (3, .pointer (some ⟨b3, 0, none⟩)), (101, .slice (some ⟨bf, off, none⟩) O.om.length cm), (102, I O.om.length), (103, I j), (10, .string p), (11, .pointer (some ⟨b11, 0, none⟩)), (14, .pointer (some ⟨b14, 0, none⟩)), (174, .slice p3 m.code.length d3), (175, I m.code.length)]
      (fun i vals w' => vals = [] ∧ Nc b14 w13 w' ∧ ∃ a7 c7, Box w' b14 54 [.string p, I (if 0 ≤ m.cls then idxB O.oc (nm u m.cls) else -1), .slice a5 (m.params.map (kindM O.oc u)).length c5, .slice a6 (m.locals.map (kindM O.oc u)).length c6, I (kindM O.oc u m.result).kind, I (kindM O.oc u m.result).cls, .slice a7 ((m.code.take i).map (instM us O u)).length c7] ∧ OwP 3 encIns w' w13.heap.size 120 a7 c7 ((m.code.take i).map (instM us O u)))
      ⟨rfl, .of_bl (Bl.refl _), none, 0, x13, Ow.nil ..⟩ ?_
    rintro i vals w14 hi ⟨rfl, N14, a7, c7, x14, O14⟩ ih2
    have z14 := N14.size
    have B14 : Bl w w14 := Nc.below B13 N14 (by omega) B13.size
    have N1214 := N13.trans N14
    have d14 := N1214.box d12 (by omega)
    by_cases hil : i < m.code.length
    · refine brT ?_
      obtain ⟨ins, bg, og, csg, hin, rfl, _, hAtg, rfl⟩ := at_some (hF3.bl B14) hil
      have him := List.mem_of_getElem? hin
      have hIu := hI u hum
      have l7 := fun g (hg : a7 = some ⟨g, 0, none⟩) => O14.lt hg
      refine ix ?_
      refine lda hAtg ?_
      refine al fun b16 w15 k15 => ?_
      refine sta k15.box fun w16 k16 x16 => ?_
      have y15 := k15.blk
      have z15 := k15.size
      have z16 := k16.size
      have lx14 := x14.lt
      refine dht 1 (fun i => i < w13.heap.size ∨ i = b16) (List.range 10) fun w17 k17 => ?_
      have B1417 := (k15.wr k16).trans k17.bl
      have B17 := B14.trans B1417
      have z17 : w17.heap.size = w16.heap.size := by rw [k17.heap]
      have ld11 := d12.lt
      refine ld ((Bl.box B1417 x14).cell rfl) ?_ (hm := by exact .inl (by omega))
      refine ld ((Bl.box B1417 d14).cell rfl) ?_ (hm := by exact .inl (by omega))
      refine lda (Bl.box k17.bl x16).at ?_ (hm := by exact .inr rfl)
      refine cl (k_instr (h.bl B17) hm.hu (hIu.opa m hmm ins him) (hIu.opb m hmm ins him) (fld_dot (hC u hum) hmm him)) ?_
      rintro _ w18 ⟨rfl, B1718⟩
      refine bs (cs := encIns (instM us O u ins)) fun b19 w19 k19 => ?_
      have B1419 := (B1417.trans B1718).trans k19.bl
      have z18 := B1718.size
      have z19 := k19.size
      have y19 := k19.blk
      have e1 : (m.code.take (i + 1)).map (instM us O u) = (m.code.take i).map (instM us O u) ++ [instM us O u ins] := map_snoc hin
      have hl : ((m.code.take i).map (instM us O u)).length ≤ 120 := by rw [List.length_map, List.length_take]; omega
      refine apl (l1 := [instM us O u ins]) (O14.bl B1419) (.inr ⟨b19, 0, rfl, k19.box.at⟩) (by omega) (fun a20 c20 w20 O20 A20 _ => ?_) (hb := by simp only [List.length_cons, List.length_nil]; omega) (hn := by simp only [List.length_cons, List.length_nil]; omega) (hm := apS fun g hg q => by have := l7 g hg; rcases q with q | q <;> omega)
      have x20 := A20.box (Bl.box B1419 x14) fun e => by have := l7 _ e; omega
      refine st x20 fun w21 k21 x21 => ?_
      have N20 : Nc b14 w13 w20 := (N14.bl B1419).ap A20 fun g hg => (l7 g hg).1
      exact ih2 hil ⟨rfl, N20.wr k21 (.inl rfl), a20, c20, by rw [e1]; exact x21, by rw [e1]; exact O20.wr k21 fun g hg => by have := (O20.lt hg).1; omega⟩
    refine brF ?_
    obtain rfl : i = m.code.length := by omega
    rw [List.take_length] at x14 O14
    clear ih2
    have N614 : Nc b14 w6 w14 := (Nc.of_bl B612).trans N1214
    have x614 := N614.box x6 (by have := x6.lt; omega)
    refine ld (x614.cell rfl) ?_
    refine lda x14.at ?_
    refine bs (cs := mmcells (mthM us O p) a5 c5 a6 c6 a7 c7) (fun b15 w15 k15 => ?_) (hcs := by rw [mthM_at hm]; rfl)
    have y15 := k15.blk
    have z15 := k15.size
    have B614 : Bl w6 w14 := Nc.below B612 N1214 (by omega) B612.size
    have B615 : Bl w6 w15 := B614.trans k15.bl
    obtain ⟨xs, e1, e3, hOx, e4⟩ := (O6.bl B615).row
    have hl9 : ((O.om.take j).map (mthM us O)).length ≤ 80 := by rw [List.length_map, List.length_take]; omega
    refine ap hOx (.inr ⟨b15, 0, rfl, k15.box.at⟩) (by omega) (fun a16 c16 w16 hO16 hA16 hf16 => ?_)
    have hrel : eMM.rel (fun i => w5.heap.size ≤ i ∧ a3 ≠ some ⟨i, 0, none⟩ ∧ i < w15.heap.size) w15 (mmcells (mthM us O p) a5 c5 a6 c6 a7 c7) (mthM us O p) := by
      have hps : p.size ≤ 200 := hO.zm p (List.mem_of_getElem? hp)
      rw [mthM_at hm]
      refine ⟨a5, c5, a6, c6, a7, c7, rfl, ?_, ?_, ?_, Nat.le_trans hps (by decide)⟩
      · exact ((S5.kp (N1214.nb.kp.sub fun i hi => hi.2.2)).bl k15.bl).sub fun i hi => ⟨by omega, fun e => by have := hna _ e; omega, by omega⟩
      · exact ((S6.kp (N1214.nb.kp.sub fun i hi => hi.2.2)).bl k15.bl).sub fun i hi => ⟨by omega, fun e => by have := hna _ e; omega, by omega⟩
      · exact owp_sl (O14.bl k15.bl) (by rw [List.length_map]; omega) fun g hg => by
          have q1 := O14.lt hg
          exact ⟨by omega, fun e => by have := hna _ e; omega, by omega⟩
    have hO16' := OwC.push e1 e3 e4 hO16 hA16 hf16 hrel
    have x16 := hA16.box (Bl.box k15.bl x614) fun e => by have := hna _ e; omega
    refine st x16 fun w17 k17 x17 => ?_
    have e5 : (O.om.take (j + 1)).map (mthM us O) = (O.om.take j).map (mthM us O) ++ [mthM us O p] := map_snoc hp
    have N16 : Nc b3 w5 w16 := (N6.bl B615).ap hA16 fun g hg => (hna g hg).1
    exact ih hjl ⟨rfl, N16.wr k17 (.inl rfl), a16, c16, by rw [e5, List.length_append]; exact x17, by rw [e5]; exact hO16'.wr k17 (by omega) fun i hi => by omega⟩
  refine brF ?_
  obtain rfl : j = O.om.length := by omega
  rw [List.take_length] at x6 O6
  have SC6 := SC5.kp (N6.nb.kp.sub fun i hi => by omega)
  have SS6 := SS5.kp (N6.nb.kp.sub fun i hi => by omega)
  have SM6 : Sl eMM (fun i => w5.heap.size ≤ i ∧ i < w6.heap.size) w6 a3 (O.om.map (mthM us O)) := O6.sl2 (by rw [List.length_map]; omega)
  have x26 := N6.box x25 (by omega)
  refine lda x6.at ?_
  refine sta (cs' := mdc a1 (O.oc.map (clsM us O)).length c1 a2 (O.os.map (staM us O)).length c2 a3 (O.om.map (mthM us O)).length c3 O.oz.length) x26 fun w7 k7 x7 => ?_
  have z7 := k7.size
  refine rtc (cs := mdc a1 (O.oc.map (clsM us O)).length c1 a2 (O.os.map (staM us O)).length c2 a3 (O.om.map (mthM us O)).length c3 O.oz.length) x7.at ⟨⟨a1, c1, a2, c2, a3, c3⟩, rfl, ⟨?_, ?_, ?_⟩, Below.trans B6 (k7.below (by omega))⟩
  · exact (SC6.kp (k7.kp fun i hi => by omega)).sub fun i hi => by omega
  · exact (SS6.kp (k7.kp fun i hi => by omega)).sub fun i hi => by omega
  · exact (SM6.kp (k7.kp fun i hi => by omega)).sub fun i hi => by omega
end Go.Proofs.YtkmdfjpafkcleaaGreatDoor

/- Walks: link.Link. -/
namespace Go.Proofs.YtkmdfjpafkcleaaGreatDoor
open Eng Go.RowKit
variable {w w' : World} {b : Nat} {us : List Unt} {O : Ords}
theorem cls_ne (us : List Unt) : ∀ p ∈ (decl us).classes, 0 < p.1.size := by
  have put : ∀ {D : Dcl} {p : ByteArray} {v : Nat × Nat}, (∀ q ∈ D.classes, 0 < q.1.size) → 0 < p.size → ∀ q ∈ putM D.classes p v, 0 < q.1.size := fun h hp q hq => by
    rcases putM_in hq with rfl | hq
    · exact hp
    · exact h q hq
  refine foldI_ind (f := dUnt) (l := us) (fun _ D => ∀ p ∈ D.classes, 0 < p.1.size) (fun _ h => by cases h) fun n u D _ h => ?_
  have h1 := foldI_ind (f := dCls u n) (l := u.classes) (fun _ D => ∀ p ∈ D.classes, 0 < p.1.size) h fun k x D _ h => by
    unfold dCls
    obtain ⟨f, hf⟩ := dfld_fold u (dots u.name (nm u x.name)) x.fields { D with classes := putM D.classes (dots u.name (nm u x.name)) (n, k) }
    rw [hf]
    exact put h (by rw [dots_sz]; omega)
  have h2 := foldI_ind (f := dSta u n) (l := u.statics) (fun _ D => ∀ p ∈ D.classes, 0 < p.1.size) h1 fun k x D _ h => h
  exact foldI_ind (f := dMth u n) (l := u.methods) (fun _ D => ∀ p ∈ D.classes, 0 < p.1.size) h2 fun k x D _ h => by
    unfold dMth
    split <;> exact h
theorem keys_in {α : Type} {m : Mp α} {k : ByteArray} (h : k ∈ keysM m) : ∃ v, (k, v) ∈ m := by
  obtain ⟨v, hv⟩ := mem_keys h
  exact ⟨v, getM_in hv⟩
/-- what holds of units that link accepts -/
structure RunK (us : List Unt) : Prop where
  ck : ∀ u ∈ us, CkU u
  n5 : us.length ≤ 5
  du : dup (us.map fun u : Unt => u.name) = false
  df : definedL us (decl us) = true
  oc : ordC us = some (ordsL us).oc
  om : ordM us = some (ordsL us).om
  bg : bigD (decl us) = false
  ly : ((ordsL us).oc.any fun p => decide (7 < (lay us p).length)) = false
  dl : ((ordsL us).oc.any fun p => dup (lay us p)) = false
  un : unlikeL us (decl us) = false
theorem runK_of (h : runE us = 0) : RunK us := by
  unfold runE at h
  split at h
  · cases h
  rename_i h5
  split at h
  · rename_i h1; exact absurd h h1
  rename_i h1
  split at h
  · cases h
  rename_i h2
  split at h
  · cases h
  rename_i h3
  split at h
  · cases h
  rename_i oc hoc
  split at h
  · cases h
  rename_i h4
  split at h
  · cases h
  rename_i h6
  split at h
  · cases h
  rename_i h7
  split at h
  · cases h
  rename_i h8
  split at h
  · cases h
  rename_i om hom
  have e1 : (ordsL us).oc = oc := by unfold ordsL; rw [hoc]; rfl
  have e2 : (ordsL us).om = om := by unfold ordsL; rw [hom]; rfl
  refine ⟨fun u hu => (ckU_iff u).1 (chk_all (Classical.not_not.1 h1) u hu), by omega, ?_, ?_, by rw [e1]; exact hoc, by rw [e2]; exact hom, ?_, ?_, ?_, ?_⟩
  · simpa using h2
  · simpa using h3
  · simpa using h4
  · rw [e1]; simpa using h6
  · rw [e1]; simpa using h7
  · simpa using h8
theorem RunK.f7 (h : RunK us) : ∀ u ∈ us, ∀ c ∈ u.classes, c.fields.length ≤ 7 := fun u hu => (lim_of (h.ck u hu).lim).flds
theorem RunK.ook (h : RunK us) : OOk us (ordsL us) := by
  have dok := dok_decl h.ck
  have n5 := h.n5
  have hpc := orderL_perm (show orderL (neeC us (decl us)) (keysM (decl us).classes) = some (ordsL us).oc from h.oc)
  have hpm := orderL_perm (show orderL (calL us (decl us)) (keysM (decl us).calls ++ keysM (decl us).sends) = some (ordsL us).om from h.om)
  have kl : ∀ {α : Type} (m : Mp α), (keysM m).length = m.length := fun m => by unfold keysM; rw [List.length_map]
  have lc := dok.lc
  have ls := dok.ls
  have lm := dok.lm
  have ln := dok.ln
  have hkl : (keysM (decl us).classes).length = (ordsL us).oc.length := hpc.length_eq.symm
  refine ⟨fun p hp => ?_, fun p hp => ?_, fun p hp => hpm.mem_iff.1 hp, fun p hp => ?_, fun p hp => ?_, by rw [kl]; omega, by rw [hpc.length_eq, kl]; omega, ?_, by rw [hpm.length_eq, List.length_append, kl, kl]; omega, ?_⟩
  · have hk := hpc.mem_iff.1 hp
    obtain ⟨v, hv⟩ := keys_in hk
    obtain ⟨i, hi⟩ := List.mem_iff_getElem?.1 hp
    have hil : i < (ordsL us).oc.length := (List.getElem?_eq_some_iff.1 hi).1
    refine ⟨clsI_of dok hk, deep_le (deep_of (fun q hq => clsI_of dok (hpc.mem_iff.1 hq)) (orderL_placed h.oc) i p hi) (by omega), dok.zc _ hv, fun e => ?_⟩
    have := cls_ne us _ hv
    simp only [e] at this
    exact absurd this (by decide)
  · exact (sortL_perm' _).mem_iff.1 hp
  · have hk := (sortL_perm' _).mem_iff.1 hp
    obtain ⟨v, hv⟩ := keys_in hk
    exact dok.zn _ hv
  · rcases List.mem_append.1 (hpm.mem_iff.1 hp) with q | q
    · obtain ⟨v, hv⟩ := keys_in q; exact dok.za _ hv
    · obtain ⟨v, hv⟩ := keys_in q; exact dok.ze _ hv
  · show (sortL _).length ≤ _
    rw [(sortL_perm' _).length_eq, kl]; omega
  · show (sortL _).length ≤ _
    rw [(sortL_perm' _).length_eq, kl]; omega
theorem k_Link {au : Option Addr} {cu : Nat} (hS : Sl eUnt (· < w.heap.size) w au us) (hG : Gl w) :
    Ret Tryz.prog 14 #[.slice au us.length cu] w fun v w' => ∃ a, v = .tuple #[.agg (modcells (modL us) a).toArray, I (runE us)] ∧ MdR (fun i => w.heap.size ≤ i ∧ i < w'.heap.size) w' (modL us) a ∧ Bl w w' := by
  refine entr (vs := [.slice au us.length cu]) [0, 2, 3, 4, 5, 12] tabok Tryz.func14 (by kernel_rfl) ?_
  refine al fun b2 w1 k1 => ?_
  refine bd ?_
  refine bx (cs := lcells (.slice au us.length cu) (.map none) (.map none) (.map none) (.map none) (.map none) (.map none) nilS nilS nilS nilS (.map none)) fun b8 w2 k2 => ?_
  have y1 := k1.blk
  have z1 := k1.size
  have y2 := k2.blk
  have z2 := k2.size
  have B2 := k1.bl.trans k2.bl
  have x2 := Bl.box k2.bl k1.box
  refine cl (k_run k2.box ((hS.bl B2).sub fun i hi => by omega) (hG.bl B2)) ?_
  rintro _ w3 ⟨rfl, N3, hR⟩
  have z3 := N3.size
  have B3 : Bl w w3 := Nc.below B2 N3 (by omega) B2.size
  have x3 := N3.box x2 (by omega)
  by_cases h0 : runE us = 0
  · refine brf ?_ (hp := by simp [h0])
    have K := runK_of h0
    refine cl (k_module (hR h0).o K.ck K.ook (dok_decl K.ck) K.f7) ?_
    rintro _ w4 ⟨a, rfl, M4, B34⟩
    have e : modL us = modO us (ordsL us) := by unfold modL; rw [if_pos h0]
    rw [e, h0]
    have z4 := B34.size
    refine sta (cs' := modcells (modO us (ordsL us)) a) (Bl.box B34 x3) fun w5 k5 x5 => ?_
    have z5 := k5.size
    refine rtc2 (cs := modcells (modO us (ordsL us)) a) x5.at ⟨a, rfl, (M4.kp (k5.kp fun i hi => by omega)).sub fun i hi => by omega, Below.trans (B3.trans B34) (k5.below (by omega))⟩
  · refine brT ?_ (hp := h0)
    have e : modL us = mod0 := by unfold modL; rw [if_neg h0]
    rw [e]
    refine bd ?_
    refine sta (cs' := modcells mod0 ⟨none, 0, none, 0, none, 0⟩) x3 fun w5 k5 x5 => ?_
    refine rtc2 (cs := modcells mod0 ⟨none, 0, none, 0, none, 0⟩) x5.at ⟨⟨none, 0, none, 0, none, 0⟩, rfl, ⟨Sl.nil .., Sl.nil .., Sl.nil ..⟩, Below.trans B3 (k5.below (by omega))⟩
end Go.Proofs.YtkmdfjpafkcleaaGreatDoor

/- The order of units does not matter to what link declares. No program stands here. -/
namespace Go.Proofs.YtkmdfjpafkcleaaGreatDoor
open Eng Go.RowKit
/-- several pairs put into a map -/
def putAll {α : Type} (m : Mp α) (l : List (ByteArray × α)) : Mp α := l.foldl (fun m p => putM m p.1 p.2) m
theorem putAll_in {α : Type} : ∀ {l : List (ByteArray × α)} {m : Mp α} {p : ByteArray} {v : α}, getM (putAll m l) p = some v → (p, v) ∈ l ∨ getM m p = some v
  | [], _, _, _, h => .inr h
  | (k, x) :: l, m, p, v, h => by
    rcases putAll_in (l := l) (m := putM m k x) h with q | q
    · exact .inl (List.mem_cons_of_mem _ q)
    · rw [putM_get] at q
      split at q
      · rename_i e; subst e; obtain rfl := Option.some.inj q; exact .inl (List.mem_cons_self ..)
      · exact .inr q
theorem putAll_has {α : Type} : ∀ {l : List (ByteArray × α)} {m : Mp α} {p : ByteArray}, hasM (putAll m l) p = true ↔ hasM m p = true ∨ ∃ v, (p, v) ∈ l
  | [], m, p => by
    constructor
    · exact .inl
    · rintro (h | ⟨v, h⟩)
      · exact h
      · cases h
  | (k, x) :: l, m, p => by
    rw [show putAll m ((k, x) :: l) = putAll (putM m k x) l from rfl, putAll_has (l := l)]
    constructor
    · rintro (h | ⟨v, h⟩)
      · unfold hasM at h
        rw [putM_get] at h
        split at h
        · rename_i e; subst e; exact .inr ⟨x, List.mem_cons_self ..⟩
        · exact .inl h
      · exact .inr ⟨v, List.mem_cons_of_mem _ h⟩
    · rintro (h | ⟨v, h⟩)
      · exact .inl (hasM_put h)
      · rcases List.mem_cons.1 h with e | h
        · obtain ⟨rfl, rfl⟩ := Prod.mk.inj e; exact .inl hasM_self
        · exact .inr ⟨v, h⟩
theorem hasM_iff {α : Type} {m : Mp α} {p : ByteArray} : hasM m p = true ↔ p ∈ keysM m := by
  refine ⟨hasM_keys, fun h => ?_⟩
  obtain ⟨v, hv⟩ := mem_keys h
  unfold hasM; rw [hv]; rfl
theorem put_nodup {α : Type} {k : ByteArray} {v : α} : ∀ {m : Mp α}, (keysM m).Nodup → (keysM (putM m k v)).Nodup
  | [], _ => by simp [putM, keysM]
  | (k0, v0) :: m, h => by
    simp only [keysM, List.map_cons, List.nodup_cons] at h
    unfold putM
    split
    · rename_i e; subst e
      simp only [keysM, List.map_cons, List.nodup_cons]; exact h
    · rename_i e
      simp only [keysM, List.map_cons, List.nodup_cons]
      refine ⟨fun q => ?_, put_nodup h.2⟩
      have := hasM_iff.2 q
      unfold hasM at this
      rw [putM_get, if_neg fun e2 => e e2.symm] at this
      exact h.1 (hasM_iff.1 this)
theorem putAll_nodup {α : Type} : ∀ {l : List (ByteArray × α)} {m : Mp α}, (keysM m).Nodup → (keysM (putAll m l)).Nodup
  | [], _, h => h
  | _ :: l, _, h => putAll_nodup (l := l) (put_nodup h)
theorem keys_ext {α β : Type} {m : Mp α} {m' : Mp β} (h : (keysM m).Nodup) (h' : (keysM m').Nodup) (e : ∀ p, hasM m p = true ↔ hasM m' p = true) : (keysM m).Perm (keysM m') :=
  (List.perm_ext_iff_of_nodup h h').2 fun p => by rw [← hasM_iff, e p, hasM_iff]
theorem keys_len {α β : Type} {m : Mp α} {m' : Mp β} (h : (keysM m).Perm (keysM m')) : m.length = m'.length := by
  have := h.length_eq
  simpa [keysM] using this
theorem in_get {α : Type} : ∀ {m : Mp α} {q : ByteArray × α}, (keysM m).Nodup → q ∈ m → getM m q.1 = some q.2
  | [], _, _, h => by cases h
  | (k0, v0) :: m, q, h, hq => by
    simp only [keysM, List.map_cons, List.nodup_cons] at h
    simp only [getM]
    rcases List.mem_cons.1 hq with rfl | hq
    · rw [if_pos rfl]
    · rw [if_neg fun e => h.1 (List.mem_map.2 ⟨q, hq, e.symm⟩)]
      exact in_get h.2 hq
/-- the elements of a list with their places, each turned to a list -/
def idxF {α β : Type} (l : List α) (e : α → Nat → List β) : List β := l.zipIdx.flatMap fun q => e q.1 q.2
theorem mem_idxF {α β : Type} {l : List α} {e : α → Nat → List β} {y : β} : y ∈ idxF l e ↔ ∃ x k, l[k]? = some x ∧ y ∈ e x k := by
  unfold idxF
  rw [List.mem_flatMap]
  constructor
  · rintro ⟨⟨x, k⟩, h, hy⟩
    exact ⟨x, k, List.mem_zipIdx_iff_getElem?.1 h, hy⟩
  · rintro ⟨x, k, h, hy⟩
    exact ⟨(x, k), List.mem_zipIdx_iff_getElem?.2 h, hy⟩
theorem foldI_proj {α β γ : Type} {f : β → α → Nat → β} {h : γ → α → Nat → γ} (g : β → γ) (H : ∀ b x k, g (f b x k) = h (g b) x k) (l : List α) (b : β) : g (foldI f l b) = foldI h l (g b) := by
  unfold foldI
  generalize l.zipIdx = z
  induction z generalizing b with
  | nil => rfl
  | cons p z ih => rw [List.foldl_cons, List.foldl_cons, ih, H]
theorem foldI_keep {α β γ : Type} {f : β → α → Nat → β} (g : β → γ) (H : ∀ b x k, g (f b x k) = g b) (l : List α) (b : β) : g (foldI f l b) = g b := by
  unfold foldI
  generalize l.zipIdx = z
  induction z generalizing b with
  | nil => rfl
  | cons p z ih => rw [List.foldl_cons, ih, H]
theorem foldI_all {α β : Type} {f : Mp β → α → Nat → Mp β} {e : α → Nat → List (ByteArray × β)} (H : ∀ m x k, f m x k = putAll m (e x k)) (l : List α) (m : Mp β) : foldI f l m = putAll m (idxF l e) := by
  unfold foldI putAll idxF
  rw [List.foldl_flatMap]
  congr 1
  funext m p
  exact H m p.1 p.2
abbrev cpath (u : Unt) (c : Cls) : ByteArray := dots u.name (nm u c.name)
abbrev fpath (u : Unt) (c : Cls) (f : Fld) : ByteArray := dots (cpath u c) (nm u f.name)
abbrev gpath (u : Unt) (s : Fld) : ByteArray := dots u.name (nm u s.name)
abbrev apath (u : Unt) (m : Mth) : ByteArray := dots u.name (nm u m.name)
abbrev epath (u : Unt) (m : Mth) : ByteArray := dots (nm u m.cls) (nm u m.name)
def clsE (us : List Unt) : List (ByteArray × (Nat × Nat)) := idxF us fun u n => idxF u.classes fun c k => [(cpath u c, (n, k))]
def fldE (us : List Unt) : List (ByteArray × Bool) := idxF us fun u _ => idxF u.classes fun c _ => c.fields.map fun f => (fpath u c f, true)
def staE (us : List Unt) : List (ByteArray × (Nat × Nat)) := idxF us fun u n => idxF u.statics fun s k => [(gpath u s, (n, k))]
def calE (us : List Unt) : List (ByteArray × (Nat × Nat)) := idxF us fun u n => idxF u.methods fun m k => if m.cls < 0 then [(apath u m, (n, k))] else []
def sndE (us : List Unt) : List (ByteArray × (Nat × Nat)) := idxF us fun u n => idxF u.methods fun m k => if m.cls < 0 then [] else [(epath u m, (n, k))]
theorem dcls_cls (u : Unt) (n : Nat) (D : Dcl) (c : Cls) (k : Nat) : (dCls u n D c k).classes = putM D.classes (cpath u c) (n, k) := by
  unfold dCls
  obtain ⟨f, hf⟩ := dfld_fold u (cpath u c) c.fields { D with classes := putM D.classes (cpath u c) (n, k) }
  rw [hf]
theorem dfld_flds (u : Unt) (p : ByteArray) : ∀ (l : List Fld) (D : Dcl), (l.foldl (dFld u p) D).fields = putAll D.fields (l.map fun f => (dots p (nm u f.name), true))
  | [], _ => rfl
  | f :: l, D => by rw [List.foldl_cons, dfld_flds u p l]; rfl
theorem dcls_fld (u : Unt) (n : Nat) (D : Dcl) (c : Cls) (k : Nat) : (dCls u n D c k).fields = putAll D.fields (c.fields.map fun f => (fpath u c f, true)) := by
  unfold dCls
  rw [dfld_flds]
theorem dcls_rest (u : Unt) (n : Nat) (D : Dcl) (c : Cls) (k : Nat) : (dCls u n D c k).statics = D.statics ∧ (dCls u n D c k).calls = D.calls ∧ (dCls u n D c k).sends = D.sends ∧ (dCls u n D c k).named = D.named := by
  unfold dCls
  obtain ⟨f, hf⟩ := dfld_fold u (cpath u c) c.fields { D with classes := putM D.classes (cpath u c) (n, k) }
  rw [hf]; exact ⟨rfl, rfl, rfl, rfl⟩
theorem dmth_rest (u : Unt) (n : Nat) (D : Dcl) (m : Mth) (k : Nat) : (dMth u n D m k).classes = D.classes ∧ (dMth u n D m k).statics = D.statics ∧ (dMth u n D m k).fields = D.fields := by
  unfold dMth
  split <;> exact ⟨rfl, rfl, rfl⟩
theorem dmth_cal (u : Unt) (n : Nat) (D : Dcl) (m : Mth) (k : Nat) : (dMth u n D m k).calls = putAll D.calls (if m.cls < 0 then [(apath u m, (n, k))] else []) := by
  unfold dMth
  split <;> rfl
theorem dmth_snd (u : Unt) (n : Nat) (D : Dcl) (m : Mth) (k : Nat) : (dMth u n D m k).sends = putAll D.sends (if m.cls < 0 then [] else [(epath u m, (n, k))]) := by
  unfold dMth
  split <;> rfl
theorem decl_cls (us : List Unt) : (decl us).classes = putAll [] (clsE us) := by
  unfold decl clsE
  refine (foldI_proj (h := fun m u n => putAll m (idxF u.classes fun c k => [(cpath u c, (n, k))])) Dcl.classes (fun D u n => ?_) us dcl0).trans (foldI_all (fun _ _ _ => rfl) us [])
  unfold dUnt
  rw [foldI_keep Dcl.classes fun D m k => (dmth_rest u n D m k).1, foldI_keep (f := dSta u n) Dcl.classes fun _ _ _ => rfl]
  exact (foldI_proj (h := fun m c k => putAll m [(cpath u c, (n, k))]) Dcl.classes (fun D c k => dcls_cls u n D c k) u.classes D).trans (foldI_all (fun _ _ _ => rfl) u.classes _)
theorem decl_fld (us : List Unt) : (decl us).fields = putAll [] (fldE us) := by
  unfold decl fldE
  refine (foldI_proj (h := fun m u n => putAll m (idxF u.classes fun c _ => c.fields.map fun f => (fpath u c f, true))) Dcl.fields (fun D u n => ?_) us dcl0).trans (foldI_all (fun _ _ _ => rfl) us [])
  unfold dUnt
  rw [foldI_keep Dcl.fields fun D m k => (dmth_rest u n D m k).2.2, foldI_keep (f := dSta u n) Dcl.fields fun _ _ _ => rfl]
  exact (foldI_proj (h := fun m c _ => putAll m (c.fields.map fun f => (fpath u c f, true))) Dcl.fields (fun D c k => dcls_fld u n D c k) u.classes D).trans (foldI_all (fun _ _ _ => rfl) u.classes _)
theorem decl_sta (us : List Unt) : (decl us).statics = putAll [] (staE us) := by
  unfold decl staE
  refine (foldI_proj (h := fun m u n => putAll m (idxF u.statics fun c k => [(gpath u c, (n, k))])) Dcl.statics (fun D u n => ?_) us dcl0).trans (foldI_all (fun _ _ _ => rfl) us [])
  unfold dUnt
  rw [foldI_keep Dcl.statics fun D m k => (dmth_rest u n D m k).2.1]
  refine (foldI_proj (h := fun m c k => putAll m [(gpath u c, (n, k))]) Dcl.statics (fun D c k => rfl) u.statics _).trans ?_
  rw [foldI_keep Dcl.statics fun D c k => (dcls_rest u n D c k).1]
  exact foldI_all (fun _ _ _ => rfl) u.statics _
theorem decl_cal (us : List Unt) : (decl us).calls = putAll [] (calE us) := by
  unfold decl calE
  refine (foldI_proj (h := fun m u n => putAll m (idxF u.methods fun c k => if c.cls < 0 then [(apath u c, (n, k))] else [])) Dcl.calls (fun D u n => ?_) us dcl0).trans (foldI_all (fun _ _ _ => rfl) us [])
  unfold dUnt
  refine (foldI_proj (h := fun m c k => putAll m (if c.cls < 0 then [(apath u c, (n, k))] else [])) Dcl.calls (fun D c k => dmth_cal u n D c k) u.methods _).trans ?_
  rw [foldI_keep (f := dSta u n) Dcl.calls fun _ _ _ => rfl, foldI_keep Dcl.calls fun D c k => (dcls_rest u n D c k).2.1]
  exact foldI_all (fun _ _ _ => rfl) u.methods _
theorem decl_snd (us : List Unt) : (decl us).sends = putAll [] (sndE us) := by
  unfold decl sndE
  refine (foldI_proj (h := fun m u n => putAll m (idxF u.methods fun c k => if c.cls < 0 then [] else [(epath u c, (n, k))])) Dcl.sends (fun D u n => ?_) us dcl0).trans (foldI_all (fun _ _ _ => rfl) us [])
  unfold dUnt
  refine (foldI_proj (h := fun m c k => putAll m (if c.cls < 0 then [] else [(epath u c, (n, k))])) Dcl.sends (fun D c k => dmth_snd u n D c k) u.methods _).trans ?_
  rw [foldI_keep (f := dSta u n) Dcl.sends fun _ _ _ => rfl, foldI_keep Dcl.sends fun D c k => (dcls_rest u n D c k).2.2.1]
  exact foldI_all (fun _ _ _ => rfl) u.methods _
/-- texts put behind one another, by names -/
def addAll (m : Mp (List ByteArray)) (l : List (ByteArray × ByteArray)) : Mp (List ByteArray) := l.foldl (fun m p => putM m p.1 ((getM m p.1).getD [] ++ [p.2])) m
theorem addAll_get : ∀ {l : List (ByteArray × ByteArray)} {m : Mp (List ByteArray)} {z : ByteArray}, (getM (addAll m l) z).getD [] = (getM m z).getD [] ++ (l.filter fun p => decide (p.1 = z)).map (·.2)
  | [], m, z => by simp [addAll]
  | (k, x) :: l, m, z => by
    rw [show addAll m ((k, x) :: l) = addAll (putM m k ((getM m k).getD [] ++ [x])) l from rfl, addAll_get (l := l), putM_get]
    by_cases e : k = z
    · subst e
      rw [if_pos rfl, List.filter_cons_of_pos (by simp)]; simp
    · rw [if_neg e, List.filter_cons_of_neg (by simpa using e)]
theorem addAll_has : ∀ {l : List (ByteArray × ByteArray)} {m : Mp (List ByteArray)} {z : ByteArray}, hasM (addAll m l) z = true ↔ hasM m z = true ∨ ∃ v, (z, v) ∈ l
  | [], m, z => by
    constructor
    · exact .inl
    · rintro (h | ⟨v, h⟩)
      · exact h
      · cases h
  | (k, x) :: l, m, z => by
    rw [show addAll m ((k, x) :: l) = addAll (putM m k ((getM m k).getD [] ++ [x])) l from rfl, addAll_has (l := l)]
    constructor
    · rintro (h | ⟨v, h⟩)
      · unfold hasM at h
        rw [putM_get] at h
        split at h
        · rename_i e; subst e; exact .inr ⟨x, List.mem_cons_self ..⟩
        · exact .inl h
      · exact .inr ⟨v, List.mem_cons_of_mem _ h⟩
    · rintro (h | ⟨v, h⟩)
      · exact .inl (hasM_put h)
      · rcases List.mem_cons.1 h with e | h
        · obtain ⟨rfl, rfl⟩ := Prod.mk.inj e; exact .inl hasM_self
        · exact .inr ⟨v, h⟩
theorem addAll_nodup : ∀ {l : List (ByteArray × ByteArray)} {m : Mp (List ByteArray)}, (keysM m).Nodup → (keysM (addAll m l)).Nodup
  | [], _, h => h
  | _ :: l, _, h => addAll_nodup (l := l) (put_nodup h)
def nmdE (us : List Unt) : List (ByteArray × ByteArray) := us.flatMap fun u => u.methods.flatMap fun m => if m.cls < 0 then [] else [(nm u m.name, epath u m)]
theorem decl_nmd (us : List Unt) : (decl us).named = addAll [] (nmdE us) := by
  unfold decl nmdE
  have fz : ∀ {α β : Type} (f : β → α → β) (l : List α) (b : β), foldI (fun b x _ => f b x) l b = l.foldl f b := fun f l b => by
    unfold foldI
    have : l.zipIdx.map (·.1) = l := List.zipIdx_map_fst 0 l
    conv => rhs; rw [← this, List.foldl_map]
  refine (foldI_proj (h := fun m u _ => addAll m (u.methods.flatMap fun c => if c.cls < 0 then [] else [(nm u c.name, epath u c)])) Dcl.named (fun D u n => ?_) us dcl0).trans ?_
  · unfold dUnt
    refine (foldI_proj (h := fun m c _ => addAll m (if c.cls < 0 then [] else [(nm u c.name, epath u c)])) Dcl.named (fun D c k => ?_) u.methods _).trans ?_
    · unfold dMth
      split <;> rfl
    rw [foldI_keep (f := dSta u n) Dcl.named fun _ _ _ => rfl, foldI_keep Dcl.named fun D c k => (dcls_rest u n D c k).2.2.2, fz]
    unfold addAll
    rw [List.foldl_flatMap]
  rw [fz]
  show us.foldl _ [] = _
  unfold addAll
  rw [List.foldl_flatMap]
end Go.Proofs.YtkmdfjpafkcleaaGreatDoor

/- What is found by a path in units, whatever their order. No program stands here. -/
namespace Go.Proofs.YtkmdfjpafkcleaaGreatDoor
open Eng Go.RowKit
def InC (us : List Unt) (x : Unt × Cls) : Prop := x.1 ∈ us ∧ x.2 ∈ x.1.classes
def InS (us : List Unt) (x : Unt × Fld) : Prop := x.1 ∈ us ∧ x.2 ∈ x.1.statics
def InA (us : List Unt) (x : Unt × Mth) : Prop := x.1 ∈ us ∧ x.2 ∈ x.1.methods ∧ x.2.cls < 0
def InE (us : List Unt) (x : Unt × Mth) : Prop := x.1 ∈ us ∧ x.2 ∈ x.1.methods ∧ ¬ x.2.cls < 0
def staAt (us : List Unt) (d : Nat × Nat) : Option (Unt × Fld) := (us[d.1]?).bind fun u => (u.statics[d.2]?).map fun f => (u, f)
section
variable {γ : Type} {E : List (ByteArray × (Nat × Nat))} {at' : Nat × Nat → Option γ} {key : γ → ByteArray} {In : γ → Prop}
theorem gen_has (hs : ∀ p d, (p, d) ∈ E → ∃ x, at' d = some x ∧ p = key x ∧ In x) (hc : ∀ x, In x → ∃ d, (key x, d) ∈ E) {p : ByteArray} : hasM (putAll [] E) p = true ↔ ∃ x, In x ∧ p = key x := by
  rw [putAll_has]
  constructor
  · rintro (h | ⟨v, h⟩)
    · cases h
    · obtain ⟨x, _, h2, h3⟩ := hs p v h
      exact ⟨x, h3, h2⟩
  · rintro ⟨x, h, rfl⟩
    exact .inr (hc x h)
theorem gen_iff (hs : ∀ p d, (p, d) ∈ E → ∃ x, at' d = some x ∧ p = key x ∧ In x) (hc : ∀ x, In x → ∃ d, (key x, d) ∈ E) (hu : ∀ x y, In x → In y → key x = key y → x = y) {p : ByteArray} {x : γ} :
    (getM (putAll [] E) p).bind at' = some x ↔ In x ∧ p = key x := by
  constructor
  · intro h
    obtain ⟨d, hd, hx⟩ := Option.bind_eq_some_iff.1 h
    rcases putAll_in hd with q | q
    · obtain ⟨y, h1, h2, h3⟩ := hs p d q
      rw [hx] at h1; obtain rfl := Option.some.inj h1; exact ⟨h3, h2⟩
    · cases q
  · rintro ⟨h1, rfl⟩
    obtain ⟨d, hd⟩ := hc x h1
    have := (putAll_has (m := [])).2 (.inr ⟨d, hd⟩)
    unfold hasM at this
    obtain ⟨e, he⟩ := Option.isSome_iff_exists.1 this
    rw [he]
    rcases putAll_in he with q | q
    · obtain ⟨y, g1, g2, g3⟩ := hs _ _ q
      rw [Option.bind_some, g1, hu x y h1 g3 g2]
    · cases q
end
variable {us : List Unt}
theorem clsE_s (p : ByteArray) (d : Nat × Nat) (h : (p, d) ∈ clsE us) : ∃ x, clsAt us d = some x ∧ p = cpath x.1 x.2 ∧ InC us x := by
  obtain ⟨u, n, hu, h⟩ := mem_idxF.1 h
  obtain ⟨c, k, hc, h⟩ := mem_idxF.1 h
  obtain ⟨rfl, rfl⟩ := Prod.mk.inj (List.mem_singleton.1 h)
  exact ⟨(u, c), by unfold clsAt; simp [hu, hc], rfl, List.mem_of_getElem? hu, List.mem_of_getElem? hc⟩
theorem clsE_c (x : Unt × Cls) (h : InC us x) : ∃ d, (cpath x.1 x.2, d) ∈ clsE us := by
  obtain ⟨n, hn⟩ := List.mem_iff_getElem?.1 h.1
  obtain ⟨k, hk⟩ := List.mem_iff_getElem?.1 h.2
  exact ⟨(n, k), mem_idxF.2 ⟨_, n, hn, mem_idxF.2 ⟨_, k, hk, List.mem_singleton.2 rfl⟩⟩⟩
theorem staE_s (p : ByteArray) (d : Nat × Nat) (h : (p, d) ∈ staE us) : ∃ x, staAt us d = some x ∧ p = gpath x.1 x.2 ∧ InS us x := by
  obtain ⟨u, n, hu, h⟩ := mem_idxF.1 h
  obtain ⟨c, k, hc, h⟩ := mem_idxF.1 h
  obtain ⟨rfl, rfl⟩ := Prod.mk.inj (List.mem_singleton.1 h)
  exact ⟨(u, c), by unfold staAt; simp [hu, hc], rfl, List.mem_of_getElem? hu, List.mem_of_getElem? hc⟩
theorem staE_c (x : Unt × Fld) (h : InS us x) : ∃ d, (gpath x.1 x.2, d) ∈ staE us := by
  obtain ⟨n, hn⟩ := List.mem_iff_getElem?.1 h.1
  obtain ⟨k, hk⟩ := List.mem_iff_getElem?.1 h.2
  exact ⟨(n, k), mem_idxF.2 ⟨_, n, hn, mem_idxF.2 ⟨_, k, hk, List.mem_singleton.2 rfl⟩⟩⟩
theorem calE_s (p : ByteArray) (d : Nat × Nat) (h : (p, d) ∈ calE us) : ∃ x, mthAt us d = some x ∧ p = apath x.1 x.2 ∧ InA us x := by
  obtain ⟨u, n, hu, h⟩ := mem_idxF.1 h
  obtain ⟨c, k, hc, h⟩ := mem_idxF.1 h
  split at h
  · rename_i h0
    obtain ⟨rfl, rfl⟩ := Prod.mk.inj (List.mem_singleton.1 h)
    exact ⟨(u, c), by unfold mthAt; simp [hu, hc], rfl, List.mem_of_getElem? hu, List.mem_of_getElem? hc, h0⟩
  · cases h
theorem calE_c (x : Unt × Mth) (h : InA us x) : ∃ d, (apath x.1 x.2, d) ∈ calE us := by
  obtain ⟨n, hn⟩ := List.mem_iff_getElem?.1 h.1
  obtain ⟨k, hk⟩ := List.mem_iff_getElem?.1 h.2.1
  exact ⟨(n, k), mem_idxF.2 ⟨_, n, hn, mem_idxF.2 ⟨_, k, hk, by rw [if_pos h.2.2]; exact List.mem_singleton.2 rfl⟩⟩⟩
theorem sndE_s (p : ByteArray) (d : Nat × Nat) (h : (p, d) ∈ sndE us) : ∃ x, mthAt us d = some x ∧ p = epath x.1 x.2 ∧ InE us x := by
  obtain ⟨u, n, hu, h⟩ := mem_idxF.1 h
  obtain ⟨c, k, hc, h⟩ := mem_idxF.1 h
  split at h
  · cases h
  · rename_i h0
    obtain ⟨rfl, rfl⟩ := Prod.mk.inj (List.mem_singleton.1 h)
    exact ⟨(u, c), by unfold mthAt; simp [hu, hc], rfl, List.mem_of_getElem? hu, List.mem_of_getElem? hc, h0⟩
theorem sndE_c (x : Unt × Mth) (h : InE us x) : ∃ d, (epath x.1 x.2, d) ∈ sndE us := by
  obtain ⟨n, hn⟩ := List.mem_iff_getElem?.1 h.1
  obtain ⟨k, hk⟩ := List.mem_iff_getElem?.1 h.2.1
  exact ⟨(n, k), mem_idxF.2 ⟨_, n, hn, mem_idxF.2 ⟨_, k, hk, by rw [if_neg h.2.2]; exact List.mem_singleton.2 rfl⟩⟩⟩
theorem has_cls (p : ByteArray) : hasM (decl us).classes p = true ↔ ∃ x, InC us x ∧ p = cpath x.1 x.2 := by rw [decl_cls]; exact gen_has clsE_s clsE_c
theorem has_sta (p : ByteArray) : hasM (decl us).statics p = true ↔ ∃ x, InS us x ∧ p = gpath x.1 x.2 := by rw [decl_sta]; exact gen_has staE_s staE_c
theorem has_cal (p : ByteArray) : hasM (decl us).calls p = true ↔ ∃ x, InA us x ∧ p = apath x.1 x.2 := by rw [decl_cal]; exact gen_has calE_s calE_c
theorem has_snd (p : ByteArray) : hasM (decl us).sends p = true ↔ ∃ x, InE us x ∧ p = epath x.1 x.2 := by rw [decl_snd]; exact gen_has sndE_s sndE_c
theorem mem_nmd {z p : ByteArray} : (z, p) ∈ nmdE us ↔ ∃ x, InE us x ∧ z = nm x.1 x.2.name ∧ p = epath x.1 x.2 := by
  unfold nmdE
  simp only [List.mem_flatMap]
  constructor
  · rintro ⟨u, hu, m, hm, h⟩
    split at h
    · cases h
    · rename_i h0
      obtain ⟨rfl, rfl⟩ := Prod.mk.inj (List.mem_singleton.1 h)
      exact ⟨(u, m), ⟨hu, hm, h0⟩, rfl, rfl⟩
  · rintro ⟨⟨u, m⟩, ⟨hu, hm, h0⟩, rfl, rfl⟩
    exact ⟨u, hu, m, hm, by rw [if_neg h0]; exact List.mem_singleton.2 rfl⟩
theorem has_nmd (z : ByteArray) : hasM (decl us).named z = true ↔ ∃ x, InE us x ∧ z = nm x.1 x.2.name := by
  rw [decl_nmd, addAll_has]
  constructor
  · rintro (h | ⟨v, h⟩)
    · cases h
    · obtain ⟨x, h1, h2, _⟩ := mem_nmd.1 h
      exact ⟨x, h1, h2⟩
  · rintro ⟨x, h1, h2⟩
    exact .inr ⟨_, mem_nmd.2 ⟨x, h1, h2, rfl⟩⟩
theorem get_nmd (z : ByteArray) : (getM (decl us).named z).getD [] = ((nmdE us).filter fun p => decide (p.1 = z)).map (·.2) := by
  rw [decl_nmd, addAll_get]; rfl
theorem get_fld (p : ByteArray) : (getM (decl us).fields p).getD false = true ↔ ∃ u ∈ us, ∃ c ∈ u.classes, ∃ f ∈ c.fields, p = fpath u c f := by
  have key : ∀ p v, (p, v) ∈ fldE us → v = true ∧ ∃ u ∈ us, ∃ c ∈ u.classes, ∃ f ∈ c.fields, p = fpath u c f := fun p v h => by
    obtain ⟨u, n, hu, h⟩ := mem_idxF.1 h
    obtain ⟨c, k, hc, h⟩ := mem_idxF.1 h
    obtain ⟨f, hf, h⟩ := List.mem_map.1 h
    obtain ⟨rfl, rfl⟩ := Prod.mk.inj h
    exact ⟨rfl, u, List.mem_of_getElem? hu, c, List.mem_of_getElem? hc, f, hf, rfl⟩
  rw [decl_fld]
  constructor
  · intro h
    cases hg : getM (putAll [] (fldE us)) p with
    | none => rw [hg] at h; cases h
    | some v =>
      rcases putAll_in hg with q | q
      · exact (key p v q).2
      · cases q
  · rintro ⟨u, hu, c, hc, f, hf, rfl⟩
    obtain ⟨n, hn⟩ := List.mem_iff_getElem?.1 hu
    obtain ⟨k, hk⟩ := List.mem_iff_getElem?.1 hc
    have hm : (fpath u c f, true) ∈ fldE us := mem_idxF.2 ⟨u, n, hn, mem_idxF.2 ⟨c, k, hk, List.mem_map.2 ⟨f, hf, rfl⟩⟩⟩
    have : hasM (putAll [] (fldE us)) (fpath u c f) = true := (putAll_has (m := [])).2 (.inr ⟨true, hm⟩)
    unfold hasM at this
    obtain ⟨v, hv⟩ := Option.isSome_iff_exists.1 this
    rcases putAll_in hv with q | q
    · rw [hv, (key _ _ q).1]; rfl
    · cases q
theorem nodup_of_dup {l : List ByteArray} (h : dup l = false) : l.Nodup := by
  rw [← Bool.not_eq_true, dup_nodup, Classical.not_not] at h
  rw [List.nodup_iff_pairwise_ne] at h ⊢
  rw [List.pairwise_map] at h
  exact h.imp fun hne e => hne (by rw [e])
theorem dup_of_nodup {l : List ByteArray} (h : l.Nodup) : dup l = false := by
  rw [← Bool.not_eq_true, dup_nodup, Classical.not_not]
  rw [List.nodup_iff_pairwise_ne] at h ⊢
  rw [List.pairwise_map]
  exact h.imp fun hne e => hne (ba_ext e)
theorem plain_of_simple {s : ByteArray} (h : simple s = true) : (46 : UInt8) ∉ s.data.toList := fun h46 => by
  unfold simple simpleL at h
  simp only [Bool.and_eq_true] at h
  have := List.all_eq_true.1 h.2 _ h46
  revert this; decide
/-- units whose names are distinct, each of them sound -/
structure Good (us : List Unt) : Prop where
  ck : ∀ u ∈ us, CkU u
  du : (us.map fun u : Unt => u.name).Nodup
theorem nm_plain {u : Unt} (hC : CkU u) {i : Int} (h : (⟨i, 1, false⟩ : Rf) ∈ refs u) : (46 : UInt8) ∉ (nm u i).data.toList := path_one (name_in hC h).2.2
theorem c_plain {u : Unt} (hC : CkU u) {c : Cls} (hc : c ∈ u.classes) : (46 : UInt8) ∉ (nm u c.name).data.toList := nm_plain hC (List.mem_append_left _ (List.mem_append_left _ (List.mem_flatMap.2 ⟨c, hc, by simp [cref]⟩)))
theorem s_plain {u : Unt} (hC : CkU u) {f : Fld} (hf : f ∈ u.statics) : (46 : UInt8) ∉ (nm u f.name).data.toList := nm_plain hC (List.mem_append_left _ (List.mem_append_right _ (List.mem_flatMap.2 ⟨f, hf, by simp [fref]⟩)))
theorem m_plain {u : Unt} (hC : CkU u) {m : Mth} (hm : m ∈ u.methods) : (46 : UInt8) ∉ (nm u m.name).data.toList := nm_plain hC (List.mem_append_right _ (List.mem_flatMap.2 ⟨m, hm, by simp [mref]⟩))
theorem heads_nodup {u : Unt} (hC : CkU u) : (u.classes.map fun c => nm u c.name).Nodup ∧ (u.statics.map fun f => nm u f.name).Nodup ∧ ((u.methods.filter fun m => decide (m.cls = -1)).map fun m => nm u m.name).Nodup ∧ (fulls u).Nodup := by
  have hd := hC.db
  simp only [doubled, Bool.or_eq_false_iff] at hd
  obtain ⟨⟨⟨_, _⟩, d3⟩, d4⟩ := hd
  have d3 := nodup_of_dup d3
  unfold heads at d3
  rw [List.nodup_append] at d3
  have d5 := d3.1
  rw [List.nodup_append] at d5
  exact ⟨d5.1, d5.2.1, d3.2.1, nodup_of_dup d4⟩
theorem Good.unit (h : Good us) {u v : Unt} (hu : u ∈ us) (hv : v ∈ us) (e : u.name = v.name) : u = v := nodup_inj h.du hu hv e
theorem cls_uni (h : Good us) (x y : Unt × Cls) (hx : InC us x) (hy : InC us y) (e : cpath x.1 x.2 = cpath y.1 y.2) : x = y := by
  obtain ⟨u, c⟩ := x
  obtain ⟨v, d⟩ := y
  obtain ⟨e1, e2⟩ := dots_inj (c_plain (h.ck u hx.1) hx.2) (c_plain (h.ck v hy.1) hy.2) e
  obtain rfl : u = v := h.unit hx.1 hy.1 e1
  exact congrArg (Prod.mk u) (nodup_inj (heads_nodup (h.ck u hx.1)).1 hx.2 hy.2 e2)
theorem sta_uni (h : Good us) (x y : Unt × Fld) (hx : InS us x) (hy : InS us y) (e : gpath x.1 x.2 = gpath y.1 y.2) : x = y := by
  obtain ⟨u, c⟩ := x
  obtain ⟨v, d⟩ := y
  obtain ⟨e1, e2⟩ := dots_inj (s_plain (h.ck u hx.1) hx.2) (s_plain (h.ck v hy.1) hy.2) e
  obtain rfl : u = v := h.unit hx.1 hy.1 e1
  exact congrArg (Prod.mk u) (nodup_inj (heads_nodup (h.ck u hx.1)).2.1 hx.2 hy.2 e2)
theorem mcls_neg {u : Unt} (hC : CkU u) {m : Mth} (hm : m ∈ u.methods) : m.cls < 0 ↔ m.cls = -1 := by
  rcases (ixs_of hC).plc.mc m hm with h | h
  · omega
  · have := h.1; omega
theorem cal_uni (h : Good us) (x y : Unt × Mth) (hx : InA us x) (hy : InA us y) (e : apath x.1 x.2 = apath y.1 y.2) : x = y := by
  obtain ⟨u, c⟩ := x
  obtain ⟨v, d⟩ := y
  have hC := h.ck u hx.1
  obtain ⟨e1, e2⟩ := dots_inj (m_plain hC hx.2.1) (m_plain (h.ck v hy.1) hy.2.1) e
  obtain rfl : u = v := h.unit hx.1 hy.1 e1
  exact congrArg (Prod.mk u) (nodup_inj (heads_nodup hC).2.2.1 (List.mem_filter.2 ⟨hx.2.1, decide_eq_true ((mcls_neg hC hx.2.1).1 hx.2.2)⟩) (List.mem_filter.2 ⟨hy.2.1, decide_eq_true ((mcls_neg hC hy.2.1).1 hy.2.2)⟩) e2)
theorem pre_uni {a b s : List UInt8} (ha : (46 : UInt8) ∉ a) (hb : (46 : UInt8) ∉ b) (h1 : (a ++ [46]) <+: s) (h2 : (b ++ [46]) <+: s) : a = b := by
  obtain ⟨x, hx⟩ := h1
  obtain ⟨y, hy⟩ := h2
  have e : a ++ 46 :: x = b ++ 46 :: y := by simpa using hx.trans hy.symm
  clear hx hy
  induction a generalizing b with
  | nil =>
    cases b with
    | nil => rfl
    | cons c b =>
      simp only [List.nil_append, List.cons_append, List.cons.injEq] at e
      exact absurd (by rw [e.1]; exact List.mem_cons_self ..) hb
  | cons d a ih =>
    cases b with
    | nil =>
      simp only [List.nil_append, List.cons_append, List.cons.injEq] at e
      exact absurd (by rw [← e.1]; exact List.mem_cons_self ..) ha
    | cons c b =>
      simp only [List.cons_append, List.cons.injEq] at e
      rw [e.1, ih (fun q => ha (List.mem_cons_of_mem _ q)) (fun q => hb (List.mem_cons_of_mem _ q)) e.2]
/-- a method that is sent names a class of its own unit -/
def PreE (us : List Unt) : Prop := ∀ x, InE us x → preL x.1.name (nm x.1 x.2.cls) = true
theorem preE_of (h : definedL us (decl us) = true) : PreE us := fun x hx => by
  unfold definedL at h
  have h1 := List.all_eq_true.1 h _ hx.1
  unfold defU at h1
  simp only [Bool.and_eq_true] at h1
  have h2 := List.all_eq_true.1 h1.2.2 _ hx.2.1
  unfold defM at h2
  simp only [Bool.and_eq_true, Bool.or_eq_true, decide_eq_true_eq] at h2
  exact (h2.1.resolve_left hx.2.2).2
theorem snd_uni (h : Good us) (hP : PreE us) (x y : Unt × Mth) (hx : InE us x) (hy : InE us y) (e : epath x.1 x.2 = epath y.1 y.2) : x = y := by
  have p1 := hP x hx
  have p2 := hP y hy
  obtain ⟨u, c⟩ := x
  obtain ⟨v, d⟩ := y
  have hC := h.ck u hx.1
  have hD := h.ck v hy.1
  obtain ⟨e1, e2⟩ := dots_inj (m_plain hC hx.2.1) (m_plain hD hy.2.1) e
  have en : u.name = v.name := by
    unfold preL at p1 p2
    simp only at p1 p2 e1
    rw [← e1] at p2
    exact ba_ext (pre_uni (plain_of_simple hC.nm) (plain_of_simple hD.nm) (List.isPrefixOf_iff_prefix.1 p1) (List.isPrefixOf_iff_prefix.1 p2))
  obtain rfl : u = v := h.unit hx.1 hy.1 en
  exact congrArg (Prod.mk u) (nodup_inj (heads_nodup hC).2.2.2 (List.mem_filter.2 ⟨hx.2.1, by simpa using fun q => hx.2.2 ((mcls_neg hC hx.2.1).2 q)⟩) (List.mem_filter.2 ⟨hy.2.1, by simpa using fun q => hy.2.2 ((mcls_neg hC hy.2.1).2 q)⟩) e)
/-- the static of a path, the method that is called with it, the method that is sent with it -/
def staOf (us : List Unt) (p : ByteArray) : Option (Unt × Fld) := (getM (decl us).statics p).bind (staAt us)
def calOf (us : List Unt) (p : ByteArray) : Option (Unt × Mth) := (getM (decl us).calls p).bind (mthAt us)
def sndOf (us : List Unt) (p : ByteArray) : Option (Unt × Mth) := (getM (decl us).sends p).bind (mthAt us)
theorem cls_iff (h : Good us) {p : ByteArray} {x : Unt × Cls} : clsOf us (decl us) p = some x ↔ InC us x ∧ p = cpath x.1 x.2 := by unfold clsOf; rw [decl_cls]; exact gen_iff clsE_s clsE_c (cls_uni h)
theorem sta_iff (h : Good us) {p : ByteArray} {x : Unt × Fld} : staOf us p = some x ↔ InS us x ∧ p = gpath x.1 x.2 := by unfold staOf; rw [decl_sta]; exact gen_iff staE_s staE_c (sta_uni h)
theorem cal_iff (h : Good us) {p : ByteArray} {x : Unt × Mth} : calOf us p = some x ↔ InA us x ∧ p = apath x.1 x.2 := by unfold calOf; rw [decl_cal]; exact gen_iff calE_s calE_c (cal_uni h)
theorem snd_iff (h : Good us) (hP : PreE us) {p : ByteArray} {x : Unt × Mth} : sndOf us p = some x ↔ InE us x ∧ p = epath x.1 x.2 := by unfold sndOf; rw [decl_snd]; exact gen_iff sndE_s sndE_c (snd_uni h hP)
theorem mthOf_or (p : ByteArray) : mthOf us (decl us) p = (calOf us p).or (sndOf us p) := by
  unfold mthOf mthD calOf sndOf
  cases hg : getM (decl us).calls p with
  | none => rfl
  | some d =>
    rw [decl_cal] at hg
    rcases putAll_in hg with q | q
    · obtain ⟨x, hx, _⟩ := calE_s _ _ q
      simp only [Option.bind_some, hx, Option.or]
    · cases q
end Go.Proofs.YtkmdfjpafkcleaaGreatDoor

/- Units in another order make the same module, or none. No program stands here. -/
namespace Go.Proofs.YtkmdfjpafkcleaaGreatDoor
open Eng Go.RowKit
variable {us us' : List Unt}
theorem inC_perm (h : us.Perm us') {x : Unt × Cls} : InC us x ↔ InC us' x := by unfold InC; rw [h.mem_iff]
theorem inS_perm (h : us.Perm us') {x : Unt × Fld} : InS us x ↔ InS us' x := by unfold InS; rw [h.mem_iff]
theorem inA_perm (h : us.Perm us') {x : Unt × Mth} : InA us x ↔ InA us' x := by unfold InA; rw [h.mem_iff]
theorem inE_perm (h : us.Perm us') {x : Unt × Mth} : InE us x ↔ InE us' x := by unfold InE; rw [h.mem_iff]
theorem hasC_perm (h : us.Perm us') (p : ByteArray) : hasM (decl us).classes p = hasM (decl us').classes p := Bool.eq_iff_iff.2 (by rw [has_cls, has_cls]; exact exists_congr fun x => by rw [inC_perm h])
theorem hasS_perm (h : us.Perm us') (p : ByteArray) : hasM (decl us).statics p = hasM (decl us').statics p := Bool.eq_iff_iff.2 (by rw [has_sta, has_sta]; exact exists_congr fun x => by rw [inS_perm h])
theorem hasA_perm (h : us.Perm us') (p : ByteArray) : hasM (decl us).calls p = hasM (decl us').calls p := Bool.eq_iff_iff.2 (by rw [has_cal, has_cal]; exact exists_congr fun x => by rw [inA_perm h])
theorem hasE_perm (h : us.Perm us') (p : ByteArray) : hasM (decl us).sends p = hasM (decl us').sends p := Bool.eq_iff_iff.2 (by rw [has_snd, has_snd]; exact exists_congr fun x => by rw [inE_perm h])
theorem hasN_perm (h : us.Perm us') (p : ByteArray) : hasM (decl us).named p = hasM (decl us').named p := Bool.eq_iff_iff.2 (by rw [has_nmd, has_nmd]; exact exists_congr fun x => by rw [inE_perm h])
theorem fld_perm (h : us.Perm us') (p : ByteArray) : (getM (decl us).fields p).getD false = (getM (decl us').fields p).getD false := Bool.eq_iff_iff.2 (by rw [get_fld, get_fld]; exact exists_congr fun u => by rw [h.mem_iff])
theorem nmd_perm (h : us.Perm us') (z : ByteArray) : ((getM (decl us).named z).getD []).Perm ((getM (decl us').named z).getD []) := by
  rw [get_nmd, get_nmd]
  exact ((List.Perm.flatMap_right _ h).filter _).map _
theorem all_perm {α : Type} {l l' : List α} (h : l.Perm l') (p : α → Bool) : l.all p = l'.all p := Bool.eq_iff_iff.2 (by
  rw [List.all_eq_true, List.all_eq_true]
  exact ⟨fun q x hx => q x (h.mem_iff.2 hx), fun q x hx => q x (h.mem_iff.1 hx)⟩)
theorem isType_perm (h : us.Perm us') : isTypeL (decl us) = isTypeL (decl us') := by
  funext u t
  unfold isTypeL
  rw [hasC_perm h]
theorem oper_perm (h : us.Perm us') : operL (decl us) = operL (decl us') := by
  funext u i
  simp only [operL, hasC_perm h, hasS_perm h, hasA_perm h, hasN_perm h, fld_perm h]
theorem defC_perm (h : us.Perm us') : defC (decl us) = defC (decl us') := by
  funext u c
  simp only [defC, hasC_perm h, isType_perm h]
theorem defM_perm (h : us.Perm us') : defM (decl us) = defM (decl us') := by
  funext u c
  simp only [defM, hasC_perm h, isType_perm h, oper_perm h]
theorem defU_perm (h : us.Perm us') : defU (decl us) = defU (decl us') := by
  funext u
  simp only [defU, defC_perm h, isType_perm h, defM_perm h]
theorem defined_perm (h : us.Perm us') : definedL us (decl us) = definedL us' (decl us') := by
  unfold definedL
  rw [defU_perm h]; exact all_perm h _
theorem Good.perm (hG : Good us) (h : us.Perm us') : Good us' := ⟨fun u hu => hG.ck u (h.mem_iff.2 hu), (h.map _).nodup hG.du⟩
theorem PreE.perm (hP : PreE us) (h : us.Perm us') : PreE us' := fun x hx => hP x ((inE_perm h).2 hx)
section
variable (h : us.Perm us') (hG : Good us) (hP : PreE us)
include h hG
theorem clsOf_perm : clsOf us (decl us) = clsOf us' (decl us') := funext fun p => Option.ext fun x => by rw [cls_iff hG, cls_iff (hG.perm h), inC_perm h]
theorem staOf_perm : staOf us = staOf us' := funext fun p => Option.ext fun x => by rw [sta_iff hG, sta_iff (hG.perm h), inS_perm h]
theorem calOf_perm : calOf us = calOf us' := funext fun p => Option.ext fun x => by rw [cal_iff hG, cal_iff (hG.perm h), inA_perm h]
theorem sup_perm : supL us (decl us) = supL us' (decl us') := by
  funext p
  unfold supL; rw [clsOf_perm h hG]
theorem own_perm : ownL us (decl us) = ownL us' (decl us') := by
  funext p
  unfold ownL; rw [clsOf_perm h hG]
theorem ownT_perm (oc : List ByteArray) : ownT us (decl us) oc = ownT us' (decl us') oc := by
  funext p
  unfold ownT; rw [clsOf_perm h hG]
theorem layL_perm (n : Nat) : layL us (decl us) n = layL us' (decl us') n := by
  induction n with
  | zero => rfl
  | succ n ih => funext p; simp only [layL, sup_perm h hG, own_perm h hG, ih]
theorem ftL_perm (oc : List ByteArray) (n : Nat) : ftL us (decl us) oc n = ftL us' (decl us') oc n := by
  induction n with
  | zero => rfl
  | succ n ih => funext p; simp only [ftL, sup_perm h hG, ownT_perm h hG, ih]
theorem near_perm (om : List ByteArray) (n : Nat) : nearM us (decl us) om n = nearM us' (decl us') om n := by
  induction n with
  | zero => rfl
  | succ n ih => funext p s; simp only [nearM, sup_perm h hG, ih]
theorem nee_perm : neeC us (decl us) = neeC us' (decl us') := by
  funext p
  unfold neeC; rw [sup_perm h hG]
include hP
theorem sndOf_perm : sndOf us = sndOf us' := funext fun p => Option.ext fun x => by rw [snd_iff hG hP, snd_iff (hG.perm h) (hP.perm h), inE_perm h]
theorem mthOf_perm : mthOf us (decl us) = mthOf us' (decl us') := funext fun p => by rw [mthOf_or, mthOf_or, calOf_perm h hG, sndOf_perm h hG hP]
theorem sigD_perm : sigD us (decl us) = sigD us' (decl us') := by
  funext p
  show (match sndOf us p with | some (u, m) => sigL u m | none => nost) = match sndOf us' p with | some (u, m) => sigL u m | none => nost
  rw [sndOf_perm h hG hP]
end
theorem keysC_nodup (us : List Unt) : (keysM (decl us).classes).Nodup := by rw [decl_cls]; exact putAll_nodup List.nodup_nil
theorem keysS_nodup (us : List Unt) : (keysM (decl us).statics).Nodup := by rw [decl_sta]; exact putAll_nodup List.nodup_nil
theorem keysA_nodup (us : List Unt) : (keysM (decl us).calls).Nodup := by rw [decl_cal]; exact putAll_nodup List.nodup_nil
theorem keysE_nodup (us : List Unt) : (keysM (decl us).sends).Nodup := by rw [decl_snd]; exact putAll_nodup List.nodup_nil
theorem keysN_nodup (us : List Unt) : (keysM (decl us).named).Nodup := by rw [decl_nmd]; exact addAll_nodup List.nodup_nil
theorem keysC_perm (h : us.Perm us') : (keysM (decl us).classes).Perm (keysM (decl us').classes) := keys_ext (keysC_nodup us) (keysC_nodup us') fun p => by rw [hasC_perm h]
theorem keysS_perm (h : us.Perm us') : (keysM (decl us).statics).Perm (keysM (decl us').statics) := keys_ext (keysS_nodup us) (keysS_nodup us') fun p => by rw [hasS_perm h]
theorem keysA_perm (h : us.Perm us') : (keysM (decl us).calls).Perm (keysM (decl us').calls) := keys_ext (keysA_nodup us) (keysA_nodup us') fun p => by rw [hasA_perm h]
theorem keysE_perm (h : us.Perm us') : (keysM (decl us).sends).Perm (keysM (decl us').sends) := keys_ext (keysE_nodup us) (keysE_nodup us') fun p => by rw [hasE_perm h]
theorem keysN_perm (h : us.Perm us') : (keysM (decl us).named).Perm (keysM (decl us').named) := keys_ext (keysN_nodup us) (keysN_nodup us') fun p => by rw [hasN_perm h]
theorem lay_perm (h : us.Perm us') (hG : Good us) : lay us = lay us' := by
  funext p
  unfold lay
  rw [layL_perm h hG, (keysC_perm h).length_eq]
theorem flat_perm {α β : Type} {f g : α → List β} : ∀ {l : List α}, (∀ x ∈ l, (f x).Perm (g x)) → (l.flatMap f).Perm (l.flatMap g)
  | [], _ => .refl _
  | x :: l, h => by
    rw [List.flatMap_cons, List.flatMap_cons]
    exact (h x (List.mem_cons_self ..)).append (flat_perm fun y hy => h y (List.mem_cons_of_mem _ hy))
theorem calL_perm (h : us.Perm us') (hG : Good us) (hP : PreE us) (p : ByteArray) : (calL us (decl us) p).Perm (calL us' (decl us') p) := by
  unfold calL
  rw [mthOf_perm h hG hP]
  cases mthOf us' (decl us') p with
  | none => exact .refl _
  | some x =>
    refine flat_perm fun i _ => ?_
    unfold calI
    split
    · exact .refl _
    · split
      · exact nmd_perm h _
      · exact .refl _
theorem placeL_congr {f g : ByteArray → List ByteArray} (h : ∀ x, (f x).Perm (g x)) : ∀ (n : Nat) (left out : List ByteArray), placeL f n left out = placeL g n left out
  | 0, _, _ => rfl
  | n + 1, left, out => by
    have e : (fun x => (f x).all fun y => hasB out y) = fun x => (g x).all fun y => hasB out y := funext fun x => all_perm (h x) _
    simp only [placeL, e]
    cases left.findIdx? fun x => (g x).all fun y => hasB out y with
    | none => rfl
    | some k => exact placeL_congr h n _ _
theorem ordC_perm (h : us.Perm us') (hG : Good us) : ordC us = ordC us' := by
  unfold ordC
  rw [nee_perm h hG]
  exact orderL_names ((keysC_perm h).map _)
theorem ordM_perm (h : us.Perm us') (hG : Good us) (hP : PreE us) : ordM us = ordM us' := by
  unfold ordM
  rw [orderL_names (((keysA_perm h).append (keysE_perm h)).map _)]
  exact placeL_congr (calL_perm h hG hP) _ _ _
theorem big_perm (h : us.Perm us') : bigD (decl us) = bigD (decl us') := by
  unfold bigD
  rw [keys_len (keysC_perm h), keys_len (keysS_perm h), keys_len (keysA_perm h), keys_len (keysE_perm h)]
theorem sortL_eq {a b : List ByteArray} (h : a.Perm b) : sortL a = sortL b := sortL_perm (h.map _)
theorem ords_perm (h : us.Perm us') (hG : Good us) (hP : PreE us) : ordsL us = ordsL us' := by
  unfold ordsL
  rw [ordC_perm h hG, ordM_perm h hG hP, sortL_eq (keysS_perm h), sortL_eq (keysN_perm h)]
theorem unlike_iff (us : List Unt) : unlikeL us (decl us) = false ↔ ∀ z, ∀ p ∈ (getM (decl us).named z).getD [], ∀ q ∈ (getM (decl us).named z).getD [], sigD us (decl us) p = sigD us (decl us) q := by
  unfold unlikeL
  rw [List.any_eq_false]
  constructor
  · intro h z
    cases hg : getM (decl us).named z with
    | none => intro p hp; cases hp
    | some l =>
      have h1 := h _ (getM_in hg)
      rw [Bool.not_eq_true, List.any_eq_false] at h1
      have key : ∀ p ∈ l, sigD us (decl us) p = sigD us (decl us) (l.getD 0 nost) := fun p hp => by
        have := h1 p hp
        simpa using this
      exact fun p hp q hq => (key p hp).trans (key q hq).symm
  · intro h q hq
    rw [Bool.not_eq_true, List.any_eq_false]
    intro p hp
    have h1 := h q.1
    rw [in_get (keysN_nodup us) hq] at h1
    have hm : q.2.getD 0 nost ∈ q.2 := by
      cases hl : q.2 with
      | nil => rw [hl] at hp; cases hp
      | cons x l => exact List.mem_cons_self ..
    rw [h1 p hp _ hm]; simp
theorem unlike_perm (h : us.Perm us') (hG : Good us) (hP : PreE us) (h0 : unlikeL us (decl us) = false) : unlikeL us' (decl us') = false := by
  rw [unlike_iff] at h0 ⊢
  rw [← sigD_perm h hG hP]
  exact fun z p hp q hq => h0 z p ((nmd_perm h z).mem_iff.2 hp) q ((nmd_perm h z).mem_iff.2 hq)
theorem runK_run (h : RunK us) : runE us = 0 := by
  unfold runE
  rw [if_neg (by have := h.n5; omega), if_neg (by rw [chk_zero fun u hu => (ckU_iff u).2 (h.ck u hu)]; decide), if_neg (by rw [h.du]; decide), if_neg (by rw [h.df]; decide), h.oc]
  simp only
  rw [if_neg (by rw [h.bg]; decide), if_neg (by rw [h.ly]; decide), if_neg (by rw [h.dl]; decide), if_neg (by rw [h.un]; decide), h.om]
theorem RunK.good (h : RunK us) : Good us := ⟨h.ck, nodup_of_dup h.du⟩
theorem RunK.perm (K : RunK us) (h : us.Perm us') : RunK us' := by
  have hG := K.good
  have hP := preE_of K.df
  have eO := ords_perm h hG hP
  have eL := lay_perm h hG
  refine ⟨fun u hu => K.ck u (h.mem_iff.2 hu), by rw [← h.length_eq]; exact K.n5, dup_of_nodup ((h.map _).nodup hG.du), by rw [← defined_perm h]; exact K.df, by rw [← ordC_perm h hG, ← eO]; exact K.oc, by rw [← ordM_perm h hG hP, ← eO]; exact K.om,
    by rw [← big_perm h]; exact K.bg, by rw [← eO, ← eL]; exact K.ly, by rw [← eO, ← eL]; exact K.dl, unlike_perm h hG hP K.un⟩
theorem fldM_perm (h : us.Perm us') (hG : Good us) (oc : List ByteArray) (p : ByteArray) : fldM us oc p = fldM us' oc p := by
  unfold fldM layA
  rw [lay_perm h hG]
theorem inst_perm (h : us.Perm us') (hG : Good us) (O : Ords) : instM us O = instM us' O := by
  funext u i
  simp only [instM, fldM_perm h hG]
theorem modO_perm (h : us.Perm us') (hG : Good us) (hP : PreE us) (O : Ords) : modO us O = modO us' O := by
  have e1 : clsM us O = clsM us' O := by
    funext p
    unfold clsM
    rw [sup_perm h hG, ftL_perm h hG, near_perm h hG, (keysC_perm h).length_eq]
  have e2 : staM us O = staM us' O := by
    funext p
    show (match staOf us p with | some (u, f) => kindM O.oc u f.ty | none => ⟨0, 0⟩) = match staOf us' p with | some (u, f) => kindM O.oc u f.ty | none => ⟨0, 0⟩
    rw [staOf_perm h hG]
  have e3 : mthM us O = mthM us' O := by
    funext p
    unfold mthM
    rw [mthOf_perm h hG hP, inst_perm h hG]
  unfold modO
  rw [e1, e2, e3]
/-- the same module, whatever the order -/
theorem link_perm (h : us.Perm us') (h0 : runE us = 0) : runE us' = 0 ∧ modL us' = modL us := by
  have K := runK_of h0
  have h1 := runK_run (K.perm h)
  refine ⟨h1, ?_⟩
  unfold modL
  rw [if_pos h0, if_pos h1, ← ords_perm h K.good (preE_of K.df), ← modO_perm h K.good (preE_of K.df)]
end Go.Proofs.YtkmdfjpafkcleaaGreatDoor

/- Walks: the law's sanity test, its weight of units. -/
namespace Go.Proofs.YtkmdfjpafkcleaaGreatDoor
open Eng Go.RowKit
def una : Unt := ⟨⟨#[97]⟩, [⟨#[112]⟩, ⟨#[120]⟩], [⟨0, -1, [⟨1, ⟨1, -1⟩⟩]⟩], [], []⟩
def unb : Unt := ⟨⟨#[98]⟩, [⟨#[113]⟩, ⟨#[97, 46, 112]⟩], [⟨0, 1, []⟩], [], []⟩
theorem un_keys : keysM (decl [unb, una]).classes = [⟨#[98, 46, 113]⟩, ⟨#[97, 46, 112]⟩] := by kernel_rfl
theorem un_sort : sortL [(⟨#[98, 46, 113]⟩ : ByteArray), ⟨#[97, 46, 112]⟩] = [⟨#[97, 46, 112]⟩, ⟨#[98, 46, 113]⟩] := by
  have e : ([[98, 46, 113], [97, 46, 112]] : List (List UInt8)).mergeSort (fun x y => decide (x ≤ y)) = [[97, 46, 112], [98, 46, 113]] := by
    simp [List.mergeSort, List.MergeSort.Internal.splitInTwo, List.merge]
    decide
  show (([[98, 46, 113], [97, 46, 112]] : List (List UInt8)).mergeSort (fun x y => decide (x ≤ y))).map ofL = _
  rw [e]
  kernel_rfl
theorem un_oc : ordC [unb, una] = some [⟨#[97, 46, 112]⟩, ⟨#[98, 46, 113]⟩] := by
  show placeL _ (keysM (decl [unb, una]).classes).length (sortL (keysM (decl [unb, una]).classes)) [] = _
  rw [un_keys, un_sort]
  kernel_rfl
theorem un_run : runE [unb, una] = 0 := by
  unfold runE
  rw [un_oc]
  kernel_rfl
theorem un_cls : (modL [unb, una]).classes = [⟨⟨#[97, 46, 112]⟩, -1, [⟨1, 0⟩], []⟩, ⟨⟨#[98, 46, 113]⟩, 0, [⟨1, 0⟩], []⟩] := by
  unfold modL
  rw [if_pos un_run]
  unfold modO ordsL
  rw [un_oc]
  kernel_rfl
/-- a row just laid, whose elements are written out -/
theorem sl_new {α : Type} {E : El α} {S : Nat → Prop} {w : World} {b : Nat} {t : TypeId} {cs : List Value} {css : List (List Value)} {l : List α} (hb : Box w b t cs) (hc : cs = css.flatten) (hS : S b) (hl : css.length = l.length) (hn : l.length ≤ 4194304)
    (h : ∀ (i : Nat) (c : List Value) (x : α), css[i]? = some c → l[i]? = some x → E.rel S w c x) : Sl E S w (some ⟨b, 0, none⟩) l := by
  subst hc
  have hsz : ∀ c ∈ css, c.length = E.sz := fun c hc => by
    obtain ⟨i, hi⟩ := List.mem_iff_getElem?.1 hc
    obtain ⟨x, hx⟩ := some_of_lt (l := l) (k := i) (by have := (List.getElem?_eq_some_iff.1 hi).1; omega)
    exact E.len (h i c x hi hx)
  refine ⟨hn, fun i x hx => ?_⟩
  obtain ⟨c, hc⟩ := some_of_lt (l := css) (k := i) (by have := (List.getElem?_eq_some_iff.1 hx).1; omega)
  refine ⟨b, 0, c, rfl, hS, fun j v hj => ?_, h i c x hc hx⟩
  have hj' : j < E.sz := by rw [← hsz c (List.mem_of_getElem? hc)]; exact (List.getElem?_eq_some_iff.1 hj).1
  have := hb.at (i * E.sz + j) v (by rw [flatten_get hsz hc j hj']; exact hj)
  rw [Nat.zero_add] at this ⊢
  exact this
theorem l_sane (w : World) (hG : Gl w) : Ret Tryz.prog 13 #[] w fun v w' => v = .bool true ∧ Bl w w' := by
  refine entr (vs := []) [0, 1, 2, 3, 4] tabok Tryz.func13 (by kernel_rfl) ?_
  refine bs (cs := [.string ⟨#[112]⟩, .string ⟨#[120]⟩]) fun b1 w1 k1 => ?_
  refine bd ?_
  refine bd ?_
  refine bs (cs := encFld ⟨1, ⟨1, -1⟩⟩) fun b2 w2 k2 => ?_
  refine bd ?_
  refine bs (cs := ccells ⟨0, -1, [⟨1, ⟨1, -1⟩⟩]⟩ (some ⟨b2, 0, none⟩) 1) fun b3 w3 k3 => ?_
  refine bd ?_
  refine al fun b4 w4 k4 => ?_
  refine sta (cs' := ucells una ⟨some ⟨b1, 0, none⟩, 2, some ⟨b3, 0, none⟩, 1, none, 0, none, 0⟩) k4.box fun w5 k5 x5 => ?_
  have B5 := ((k1.bl.trans k2.bl).trans k3.bl).trans (k4.wr k5)
  have B15 := (k2.bl.trans k3.bl).trans (k4.wr k5)
  have B25 := k3.bl.trans (k4.wr k5)
  refine bs (cs := [.string ⟨#[113]⟩, .string ⟨#[97, 46, 112]⟩]) fun b6 w6 k6 => ?_
  refine bd ?_
  refine bs (cs := ccells ⟨0, 1, []⟩ none 0) fun b7 w7 k7 => ?_
  refine bd ?_
  refine al fun b8 w8 k8 => ?_
  refine sta (cs' := ucells unb ⟨some ⟨b6, 0, none⟩, 2, some ⟨b7, 0, none⟩, 1, none, 0, none, 0⟩) k8.box fun w9 k9 x9 => ?_
  have B59 := (k6.bl.trans k7.bl).trans (k8.wr k9)
  refine lda x9.at ?_
  refine lda (Bl.box B59 x5).at ?_
  refine bs (cs := ucells unb ⟨some ⟨b6, 0, none⟩, 2, some ⟨b7, 0, none⟩, 1, none, 0, none, 0⟩ ++ ucells una ⟨some ⟨b1, 0, none⟩, 2, some ⟨b3, 0, none⟩, 1, none, 0, none, 0⟩) fun b10 w10 k10 => ?_
  have B10 := (B5.trans B59).trans k10.bl
  have l10 := k10.box.lt
  have e1 := (Bl.box ((B15.trans B59).trans k10.bl) k1.box)
  have e2 := (Bl.box ((B25.trans B59).trans k10.bl) k2.box)
  have e3 := (Bl.box (((k4.wr k5).trans B59).trans k10.bl) k3.box)
  have e6 := (Bl.box ((k7.bl.trans (k8.wr k9)).trans k10.bl) k6.box)
  have e7 := (Bl.box ((k8.wr k9).trans k10.bl) k7.box)
  have hS : Sl eUnt (· < w10.heap.size) w10 (some ⟨b10, 0, none⟩) [unb, una] := by
    refine sl_new (css := [ucells unb ⟨some ⟨b6, 0, none⟩, 2, some ⟨b7, 0, none⟩, 1, none, 0, none, 0⟩, ucells una ⟨some ⟨b1, 0, none⟩, 2, some ⟨b3, 0, none⟩, 1, none, 0, none, 0⟩]) k10.box rfl l10 rfl (by decide) fun i c x hc hx => ?_
    match i, hc, hx with
    | 0, hc, hx =>
      obtain rfl := Option.some.inj hc
      obtain rfl := Option.some.inj hx
      refine ⟨_, rfl, by decide, by decide, ?_, ?_, Sl.nil .., Sl.nil ..⟩
      · exact sl_new (css := [[.string ⟨#[113]⟩], [.string ⟨#[97, 46, 112]⟩]]) e6 rfl e6.lt rfl (by decide) fun i c x hc hx => by
          match i, hc, hx with
          | 0, hc, hx => obtain rfl := Option.some.inj hc; obtain rfl := Option.some.inj hx; rfl
          | 1, hc, hx => obtain rfl := Option.some.inj hc; obtain rfl := Option.some.inj hx; rfl
      · exact sl_new (css := [ccells ⟨0, 1, []⟩ none 0]) e7 rfl e7.lt rfl (by decide) fun i c x hc hx => by
          match i, hc, hx with
          | 0, hc, hx => obtain rfl := Option.some.inj hc; obtain rfl := Option.some.inj hx; exact ⟨_, _, rfl, Sl.nil ..⟩
    | 1, hc, hx =>
      obtain rfl := Option.some.inj hc
      obtain rfl := Option.some.inj hx
      refine ⟨_, rfl, by decide, by decide, ?_, ?_, Sl.nil .., Sl.nil ..⟩
      · exact sl_new (css := [[.string ⟨#[112]⟩], [.string ⟨#[120]⟩]]) e1 rfl e1.lt rfl (by decide) fun i c x hc hx => by
          match i, hc, hx with
          | 0, hc, hx => obtain rfl := Option.some.inj hc; obtain rfl := Option.some.inj hx; rfl
          | 1, hc, hx => obtain rfl := Option.some.inj hc; obtain rfl := Option.some.inj hx; rfl
      · exact sl_new (css := [ccells ⟨0, -1, [⟨1, ⟨1, -1⟩⟩]⟩ (some ⟨b2, 0, none⟩) 1]) e3 rfl e3.lt rfl (by decide) fun i c x hc hx => by
          match i, hc, hx with
          | 0, hc, hx =>
            obtain rfl := Option.some.inj hc
            obtain rfl := Option.some.inj hx
            refine ⟨_, _, rfl, ?_⟩
            exact sl_new (css := [encFld ⟨1, ⟨1, -1⟩⟩]) e2 rfl e2.lt rfl (by decide) fun i c x hc hx => by
              match i, hc, hx with
              | 0, hc, hx => obtain rfl := Option.some.inj hc; obtain rfl := Option.some.inj hx; rfl
  refine cl (k_Link (us := [unb, una]) (cu := 2) hS (hG.bl B10)) ?_ (hm := fun _ _ r => by obtain ⟨_, _, _, hB⟩ := r; exact mdW_bl hB)
  rintro _ w11 ⟨a, rfl, M, B11⟩
  rw [un_run]
  have hcs := M.cls
  have hcl := un_cls
  obtain ⟨md, hmd⟩ : ∃ md, modL [unb, una] = md := ⟨_, rfl⟩
  rw [hmd] at hcs hcl ⊢
  rw [hcl] at hcs
  have ecells : modcells md a = [.slice a.a1 2 a.c1, .slice a.a2 md.statics.length a.c2, .slice a.a3 md.methods.length a.c3, I md.sels] := by unfold modcells; rw [hcl]; rfl
  rw [ecells]
  refine al fun b12 w12 k12 => ?_
  refine sta (cs' := [.slice a.a1 2 a.c1, .slice a.a2 md.statics.length a.c2, .slice a.a3 md.methods.length a.c3, I md.sels]) k12.box fun w13 k13 x13 => ?_
  obtain ⟨g0, o0, cs0, ea, _, hA0, a1, c1, a2, c2, rfl, f0, _, _⟩ := hcs.el 0 _ rfl
  obtain ⟨g1, o1, cs1, ea', _, hA1, a3, c3, a4, c4, rfl, f1, _, _⟩ := hcs.el 1 _ rfl
  have B13 := k12.wr k13
  rw [ea] at ea'
  obtain ⟨rfl, rfl⟩ : g0 = g1 ∧ o0 = o1 := by simpa using ea'
  rw [ea] at x13
  have q0 := hA0.bl B13
  have q1 := hA1.bl B13
  refine ldg (fun _ => x13.cell rfl) ?_
  refine ldg (fun _ => x13.cell rfl) ?_
  refine spt (.pointer none) ?_
  refine ix (j := 0) ?_ (hb := by decide)
  refine ldg (fun _ => q0 0 _ rfl) ?_
  refine ldg (fun _ => x13.cell rfl) ?_
  refine spt (.pointer none) ?_
  refine ix (j := 1) ?_ (hb := by decide)
  refine ldg (fun _ => q1 0 _ rfl) ?_
  refine ldg (fun _ => x13.cell rfl) ?_
  refine spt (.pointer none) ?_
  refine ix (j := 1) ?_ (hb := by decide)
  refine ldg (fun _ => q1 1 _ rfl) ?_
  refine ldg (fun _ => x13.cell rfl) ?_
  refine spt (.pointer none) ?_
  refine ix (j := 1) ?_ (hb := by decide)
  refine ldg (fun _ => q1 2 _ rfl) ?_
  exact rt1 ⟨rfl, (B10.trans B11).trans B13⟩
end Go.Proofs.YtkmdfjpafkcleaaGreatDoor

/- Rows whose elements point to rows: parts of them, and a row put behind another. No program stands here. -/
namespace Go.Proofs.YtkmdfjpafkcleaaGreatDoor
open Eng Go.RowKit
theorem Sl.take {α : Type} {E : El α} {S : Nat → Prop} {w : World} {a : Option Addr} {l : List α} (h : Sl E S w a l) (k : Nat) : Sl E S w a (l.take k) :=
  ⟨Nat.le_trans (List.length_take_le' ..) h.big, fun i x hx => by
    rw [List.getElem?_take] at hx
    split at hx
    · exact h.el i x hx
    · cases hx⟩
theorem Sl.drop {α : Type} {E : El α} {S : Nat → Prop} {w : World} {a : Option Addr} {l : List α} (h : Sl E S w a l) (k : Nat) : Sl E S w (a.map (·.add (k * E.sz))) (l.drop k) :=
  ⟨by have := h.big; rw [List.length_drop]; omega, fun i x hx => by
    rw [List.getElem?_drop] at hx
    obtain ⟨b, o, cs, rfl, hs, hat, hr⟩ := h.el (k + i) x hx
    refine ⟨b, o + k * E.sz, cs, by simp [Addr.add], hs, ?_, hr⟩
    rw [Nat.add_mul] at hat
    rw [Nat.add_assoc]; exact hat⟩
/-- the cells of a row of elements -/
theorem cells_of {α : Type} {E : El α} (hsz : 0 < E.sz) {S : Nat → Prop} {w : World} {b : Nat} : ∀ {l : List α} {o : Nat}, (∀ (i : Nat) x, l[i]? = some x → ∃ cs, At w b (o + i * E.sz) cs ∧ E.rel S w cs x) →
    ∃ xs : List (List Value), xs.length = l.length ∧ (∀ c ∈ xs, c.length = E.sz) ∧ At w b o xs.flatten ∧ ∀ (i : Nat) (cs : List Value) (x : α), xs[i]? = some cs → l[i]? = some x → E.rel S w cs x
  | [], o, _ => ⟨[], rfl, (fun _ h => (by cases h)), (fun j v hj => (by simp at hj)), (fun i cs x h => (by simp at h))⟩
  | x :: l, o, h => by
    obtain ⟨cs, hat, hr⟩ := h 0 x rfl
    rw [Nat.zero_mul, Nat.add_zero] at hat
    have hlen := E.len hr
    obtain ⟨xs, h1, h2, h3, h4⟩ := cells_of hsz (l := l) (o := o + E.sz) fun i y hy => by
      obtain ⟨cs', g1, g2⟩ := h (i + 1) y (by simpa using hy)
      exact ⟨cs', by rw [Nat.succ_mul, Nat.add_comm (i * E.sz), ← Nat.add_assoc] at g1; exact g1, g2⟩
    refine ⟨cs :: xs, by simp [h1], fun c hc => ?_, fun j v hj => ?_, fun i c y hc hy => ?_⟩
    · rcases List.mem_cons.1 hc with rfl | hc
      · exact hlen
      · exact h2 c hc
    · rw [List.flatten_cons] at hj
      rcases Nat.lt_or_ge j cs.length with q | q
      · rw [List.getElem?_append_left q] at hj; exact hat j v hj
      · rw [List.getElem?_append_right q] at hj
        have := h3 _ v hj
        rw [show o + E.sz + (j - cs.length) = o + j by omega] at this
        exact this
    · cases i with
      | zero => simp at hc hy; subst hc hy; exact hr
      | succ i => exact h4 i c y (by simpa using hc) (by simpa using hy)
theorem src_rel {α : Type} {E : El α} (hsz : 0 < E.sz) {S : Nat → Prop} {w : World} {a : Option Addr} {l : List α} (h : Sl E S w a l) :
    ∃ xs : List (List Value), xs.length = l.length ∧ (∀ c ∈ xs, c.length = E.sz) ∧ Eng.Src w a l.length xs.flatten ∧ ∀ (i : Nat) (cs : List Value) (x : α), xs[i]? = some cs → l[i]? = some x → E.rel S w cs x := by
  cases hl : l with
  | nil => exact ⟨[], rfl, (fun _ h => (by cases h)), .inl ⟨rfl, rfl⟩, (fun i cs x h => (by simp at h))⟩
  | cons x l' =>
    rw [← hl]
    obtain ⟨b, o, cs, rfl, _, hat, hr⟩ := h.el 0 x (by rw [hl]; rfl)
    obtain ⟨xs, h1, h2, h3, h4⟩ := cells_of hsz (S := S) (w := w) (b := b) (o := o) (l := l) fun i y hy => by
      obtain ⟨b', o', cs', e, _, g1, g2⟩ := h.el i y hy
      simp only [Option.some.injEq, Addr.mk.injEq, and_true] at e
      obtain ⟨rfl, rfl⟩ := e
      exact ⟨cs', g1, g2⟩
    exact ⟨xs, h1, h2, .inr ⟨b, o, rfl, h3⟩, h4⟩
theorem OwC.app {α : Type} {E : El α} {R : Nat → Prop} {w w' : World} {base e cap' : Nat} {a a' : Option Addr} {l l1 : List α} {xs ys : List (List Value)} (h1 : xs.length = l.length) (h2 : ∀ c ∈ xs, c.length = E.sz)
    (h4 : ∀ (i : Nat) (cs : List Value) (x : α), xs[i]? = some cs → l[i]? = some x → E.rel (fun b => R b ∧ a ≠ some ⟨b, 0, none⟩ ∧ b < w.heap.size) w cs x)
    (g1 : ys.length = l1.length) (g2 : ∀ c ∈ ys, c.length = E.sz)
    (g4 : ∀ (i : Nat) (cs : List Value) (x : α), ys[i]? = some cs → l1[i]? = some x → E.rel (fun b => R b ∧ a ≠ some ⟨b, 0, none⟩ ∧ b < w.heap.size) w cs x)
    (hO : Ow w' base e E.sz a' (l.length + l1.length) cap' (xs.flatten ++ ys.flatten)) (hA : Ap w a w') (hf : ∀ g, a' = some ⟨g, 0, none⟩ → a = some ⟨g, 0, none⟩ ∨ w.heap.size ≤ g) : OwC E R w' base e a' cap' (l ++ l1) := by
  have hsub : ∀ b, (R b ∧ a ≠ some ⟨b, 0, none⟩ ∧ b < w.heap.size) → (R b ∧ a' ≠ some ⟨b, 0, none⟩ ∧ b < w'.heap.size) := fun b ⟨q1, q2, q3⟩ => by
    refine ⟨q1, fun e => ?_, Nat.lt_of_lt_of_le q3 hA.size⟩
    rcases hf b e with h | h
    · exact q2 h
    · omega
  have hkp : Kp (fun b => R b ∧ a ≠ some ⟨b, 0, none⟩ ∧ b < w.heap.size) w w' := hA.kp.sub fun i hi => hi.2.1
  refine ⟨xs ++ ys, by simp [h1, g1], fun c hc => ?_, by rw [List.length_append, List.flatten_append]; exact hO, fun i c y hi hl => ?_⟩
  · rcases List.mem_append.1 hc with hc | hc
    · exact h2 c hc
    · exact g2 c hc
  · rcases Nat.lt_or_ge i l.length with hlt | hge
    · rw [List.getElem?_append_left (by omega)] at hi
      rw [List.getElem?_append_left hlt] at hl
      exact E.sub hsub (E.kp hkp (h4 i c y hi hl))
    · rw [List.getElem?_append_right (by omega), h1] at hi
      rw [List.getElem?_append_right hge] at hl
      exact E.sub hsub (E.kp hkp (g4 _ c y hi hl))
theorem OwC.sl3 {α : Type} {E : El α} {R : Nat → Prop} {w : World} {base e cap : Nat} {a : Option Addr} {l : List α} (h : OwC E R w base e a cap l) (hl : l.length ≤ 4194304) : Sl E (· < w.heap.size) w a l := by
  obtain ⟨xs, h1, h2, h3, h4⟩ := h.row
  refine ⟨hl, fun i x hx => ?_⟩
  have hi : i < l.length := (List.getElem?_eq_some_iff.1 hx).1
  obtain ⟨cs, hc⟩ := some_of_lt (l := xs) (k := i) (by omega)
  have hcl := h2 cs (List.mem_of_getElem? hc)
  rcases h3.shape with ⟨_, h0, _⟩ | ⟨g, cur, rfl, _⟩
  · omega
  · refine ⟨g, 0, cs, rfl, (h3.lt rfl).2, fun j v hj => ?_, E.sub (fun b hb => hb.2.2) (h4 i cs x hc hx)⟩
    have hj' : j < E.sz := by rw [← hcl]; exact (List.getElem?_eq_some_iff.1 hj).1
    have := h3.at rfl (i * E.sz + j) v (by rw [flatten_get h2 hc j hj']; exact hj)
    rw [Nat.zero_add] at this
    rw [Nat.zero_add]; exact this
/-- a row put behind a row of the call's own -/
theorem Eng.apc {C : Cx} {s : St} {w : World} {md : Option Md} {ops : Array Oper} {T T' : TypeId} {x y : Operand} {d : Nat} {ty : TypeId} {pos : String} {af : Array Edge} {g : Option (Nat × Bool)} {rest : List Oper} {k : List Item} {l : Env} {c : CEnv} {e esz by' sz : Nat} {ag : Bool} {zr : List Value}
    {α : Type} {E : El α} {R : Nat → Prop} {base : Nat} {a : Option Addr} {cap : Nat} {l0 : List α} {ay : Option Addr} {cy : Nat} {l1 : List α} (hO : OwC E R w base e a cap l0) (hsrc : Sl E (fun b => R b ∧ b < base) w ay l1) (hbase : base ≤ w.heap.size) (hE : E.sz = esz) (hone : ∀ {S w cs x}, E.rel S w cs x → cs.all Value.oneCell' = true)
    (h : ∀ a' cap' w', OwC E R w' base e a' cap' (l0 ++ l1) → Ap w a w' → (∀ g, a' = some ⟨g, 0, none⟩ → a = some ⟨g, 0, none⟩ ∨ w.heap.size ≤ g) → Wk C (.reg md ops rest k ((d, .slice a' (l0 ++ l1).length cap') :: l) c) w')
    (hs : adv C.tab C.n C.ks 400 s = .opn md ops ⟨some d, .call ⟨.builtin .append, #[x, y], #[T, T']⟩, ty, pos, af, g⟩ rest k l c [] := by rfl) (ht : C.tab.at T = some ⟨.slice e esz by', sz, ag, zr⟩ := by rfl)
    (hx : evc l c [] x = some (.slice a l0.length cap) := by rfl) (hy : evc l c [] y = some (.slice ay l1.length cy) := by rfl) (hTT : T' = T := by rfl) (hsz : Nat.blt 0 esz = true := by rfl)
    (hb : (l0.length + l1.length) * by' ≤ 140737488355328 := by first | omega | (simp only [List.length_nil, List.length_append, List.length_cons, List.length_map]; omega)) (hn : l0.length + l1.length ≤ 1152921504606846976 := by first | omega | (simp only [List.length_nil, List.length_append, List.length_cons, List.length_map]; omega)) (hf : fresh d l c [] = true := by rfl) (hm : ∀ w', Ap w a w' → mdW md w w' := by intros; exact True.intro) (hnt : notT md = true := by rfl) : Wk C s w := by
  subst hE
  obtain ⟨xs, h1, h2, h3, h4⟩ := hO.row
  obtain ⟨ys, g1, g2, g3, g4⟩ := src_rel (by simpa using hsz) hsrc
  have hlt : ∀ g, a = some ⟨g, 0, none⟩ → base ≤ g := fun g hg => (h3.lt hg).1
  refine ap h3 g3 hbase (fun a' cap' w' hO' hA hfr => ?_) hs ht hx hy hTT hsz (by rw [flatten_len g2, g1]) ?_ hb hn hf hm hnt
  · have := h a' cap' w' (OwC.app h1 h2 h4 g1 g2 (fun i cs x hi hl => E.sub (fun b hb => ⟨hb.1, fun e => by have := hlt b e; omega, by omega⟩) (g4 i cs x hi hl)) hO' hA hfr) hA hfr
    rw [List.length_append] at this; exact this
  · rw [List.all_eq_true]
    intro v hv
    obtain ⟨c, hc, hv⟩ := List.mem_flatten.1 hv
    obtain ⟨i, hi⟩ := List.mem_iff_getElem?.1 hc
    obtain ⟨x, hx⟩ := some_of_lt (l := l1) (k := i) (by have := (List.getElem?_eq_some_iff.1 hi).1; omega)
    exact List.all_eq_true.1 (hone (g4 i c x hi hx)) v hv
end Go.Proofs.YtkmdfjpafkcleaaGreatDoor

/- Walks: the law's weight of units. -/
namespace Go.Proofs.YtkmdfjpafkcleaaGreatDoor
open Eng Go.RowKit
theorem l_great (us : List Unt) (au : Option Addr) (cu : Nat) (w : World) (hS : Sl eUnt T w au us) : Ret Tryz.prog 12 #[.slice au us.length cu] w fun v w' => ∃ b, v = .bool b ∧ Bl w w' := by
  refine entr (vs := [.slice au us.length cu]) [0, 2, 3, 4, 5, 6, 7, 8, 16, 54, 74, 94] tabok Tryz.func12 (by kernel_rfl) ?_
  have hbig := hS.big
  refine lpk us.length 4 [3] [(0, .slice au us.length cu)] (fun k vals w' => (∃ n, vals = [I n]) ∧ Bl w w') ⟨⟨_, rfl⟩, Bl.refl _⟩ ?_
  rintro k vals w1 hk ⟨⟨n, rfl⟩, B1⟩ ih
  refine br (fun h => ?_) (fun h => ?_)
  rotate_left
  · exact rt1 ⟨_, rfl, B1⟩
  have hlt : k < us.length := by
    rcases Nat.lt_or_ge k us.length with q | q
    · exact q
    · rw [decide_eq_false (show ¬ ((k : Int) < us.length) by omega)] at h
      simp at h
  clear h
  obtain ⟨u, b, o, cs, hu, rfl, _, hAt, ua, rfl, hU⟩ := at_some (hS.bl B1) hlt
  refine ix ?_
  refine lda hAt ?_
  refine al fun b5 w2 h2 => ?_
  refine sta (cs' := ucells u ua) h2.box fun w3 k3 x3 => ?_
  have B13 := h2.wr k3
  have B3 := B1.trans B13
  have hU3 := hU.bl B13
  have q1 := hU.pool.big
  have q2 := hU.cls.big
  have q3 := hU.mth.big
  refine ld (x3.cell rfl) ?_
  refine iop (quo_run (b := 16) (by decide)) ?_
  refine ld (x3.cell rfl) ?_
  refine ld (x3.cell rfl) ?_
  refine ld (x3.cell rfl) ?_
  refine ld (x3.cell rfl) ?_
  refine lpk u.pool.length 6 [3] [(0, .slice (some ⟨b, o, none⟩) us.length cu), (4, I k), (5, .pointer (some ⟨b5, 0, none⟩))] (fun j vals w' => (∃ n, vals = [I n]) ∧ w3 = w') ⟨⟨_, rfl⟩, rfl⟩ ?_
  rintro j vals _ hj ⟨⟨n1, rfl⟩, rfl⟩ ih1
  refine ld (x3.cell rfl) ?_
  refine br (fun h => ?_) (fun h => ?_)
  · have hlj : j < u.pool.length := by
      rcases Nat.lt_or_ge j u.pool.length with q | q
      · exact q
      · rw [decide_eq_false (show ¬ ((j : Int) < u.pool.length) by omega)] at h
        simp at h
    obtain ⟨s, b2, o2, cs2, hs, e2, _, hA2, rfl⟩ := at_some hU3.pool hlj
    refine ld (x3.cell rfl) ?_
    rw [e2]
    refine ix ?_
    refine ld (hA2 0 _ rfl) ?_
    refine iop (quo_run (b := 32) (by decide)) ?_
    exact ih1 hlj ⟨⟨_, rfl⟩, rfl⟩
  clear ih1 h
  refine lpk u.classes.length 7 [3] [(0, .slice (some ⟨b, o, none⟩) us.length cu), (4, I k), (5, .pointer (some ⟨b5, 0, none⟩))] (fun j vals w' => (∃ n, vals = [I n]) ∧ w3 = w') ⟨⟨_, rfl⟩, rfl⟩ ?_
  rintro j vals _ hj ⟨⟨n1, rfl⟩, rfl⟩ ih1
  refine ld (x3.cell rfl) ?_
  refine br (fun h => ?_) (fun h => ?_)
  · have hlj : j < u.classes.length := by
      rcases Nat.lt_or_ge j u.classes.length with q | q
      · exact q
      · rw [decide_eq_false (show ¬ ((j : Int) < u.classes.length) by omega)] at h
        simp at h
    obtain ⟨c, b2, o2, cs2, hs, e2, _, hA2, af, cf, rfl, hF⟩ := at_some hU3.cls hlj
    refine ld (x3.cell rfl) ?_
    rw [e2]
    refine ix ?_
    refine ld (hA2 2 _ rfl) ?_
    exact ih1 hlj ⟨⟨_, rfl⟩, rfl⟩
  clear ih1 h
  refine lpk u.methods.length 8 [3] [(0, .slice (some ⟨b, o, none⟩) us.length cu), (4, I k), (5, .pointer (some ⟨b5, 0, none⟩))] (fun j vals w' => (∃ n, vals = [I n]) ∧ Bl w3 w') ⟨⟨_, rfl⟩, Bl.refl _⟩ ?_
  rintro j vals w4 hj ⟨⟨n1, rfl⟩, B34⟩ ih1
  have x4 := Bl.box B34 x3
  refine ld (x4.cell rfl) ?_
  refine br (fun h => ?_) (fun h => ?_)
  · have hlj : j < u.methods.length := by
      rcases Nat.lt_or_ge j u.methods.length with q | q
      · exact q
      · rw [decide_eq_false (show ¬ ((j : Int) < u.methods.length) by omega)] at h
        simp at h
    obtain ⟨m, b2, o2, cs2, hs, e2, _, hA2, a1, c1, a2, c2, a3, c3, rfl, h1, h2, h3⟩ := at_some (hU3.bl B34).mth hlj
    refine dh T (List.range 26) fun w8 h8 => ?_
    have hx9 := h8.box x4
    have hAt8 := hA2.bl h8.bl
    refine ld (hx9.cell rfl) ?_ (hm := trivial)
    rw [e2]
    refine ix ?_
    refine ld (hAt8 2 _ rfl) ?_ (hm := trivial)
    refine ld (hx9.cell rfl) ?_ (hm := trivial)
    rw [e2]
    refine ix ?_
    refine ld (hAt8 3 _ rfl) ?_ (hm := trivial)
    refine ld (hx9.cell rfl) ?_ (hm := trivial)
    rw [e2]
    refine ix ?_
    refine ld (hAt8 6 _ rfl) ?_ (hm := trivial)
    exact ih1 hlj ⟨⟨_, rfl⟩, B34.trans h8.bl⟩
  exact ih hlt ⟨⟨_, rfl⟩, B3.trans B34⟩
end Go.Proofs.YtkmdfjpafkcleaaGreatDoor

/- Walks: the document's comparison of modules. -/
namespace Go.Proofs.YtkmdfjpafkcleaaGreatDoor
open Eng Go.RowKit
theorem part_cell {P : Program} {w : World} {t : TypeId} {tk : TK} {sz : Nat} {zr : List Value} {xs : Array Value} {off : Nat} {v : Value} (h : tiOk P t ⟨tk, sz, false, zr⟩ = true) (hv : xs[off]? = some v) : (part t xs off).run P w = .ok v w := by
  unfold part
  rw [run_bind_ok (ti_agg h w).1]
  simp only [hv]; rfl
theorem part_agg {P : Program} {w : World} {t : TypeId} {tk : TK} {sz : Nat} {zr : List Value} {xs : Array Value} {off : Nat} (h : tiOk P t ⟨tk, sz, true, zr⟩ = true) : (part t xs off).run P w = .ok (.agg (xs.extract off (off + sz))) w := by
  unfold part
  rw [run_bind_ok (ti_agg h w).1]
  simp only [if_true]
  rw [run_bind_ok (ti_agg h w).2]; rfl
/-- fields of these types at these places -/
def shp : List Field → List (Nat × Nat) → Bool
  | [], [] => true
  | f :: fs, (t, o) :: ts => decide (f.name ≠ "_") && decide (f.type = t) && decide (f.offset = o) && shp fs ts
  | _, _ => false
theorem eqf_gen {P : Program} {w : World} {d : Nat} {t o : Nat} {ts : List (Nat × Nat)} {fs : List Field} {xs ys : Array Value} {vx vy : Value} {r : Bool} (h : shp fs ((t, o) :: ts) = true)
    (hx : (part t xs o).run P w = .ok vx w) (hy : (part t ys o).run P w = .ok vy w) (he : (Op.equalIn d t vx vy).run P w = .ok r w) : ∃ fs', shp fs' ts = true ∧ (Op.eqFields d xs ys fs).run P w = if r = true then (Op.eqFields d xs ys fs').run P w else .ok false w := by
  cases fs with
  | nil => simp [shp] at h
  | cons f fs =>
    simp only [shp, Bool.and_eq_true, decide_eq_true_eq] at h
    obtain ⟨⟨⟨h1, rfl⟩, rfl⟩, h4⟩ := h
    refine ⟨fs, h4, ?_⟩
    rw [Op.eqFields, if_pos h1, run_bind_ok hx, run_bind_ok hy, run_bind_ok he]
    cases r <;> rfl
theorem eqf_nil {P : Program} {w : World} {d : Nat} {fs : List Field} {xs ys : Array Value} (h : shp fs [] = true) : (Op.eqFields d xs ys fs).run P w = .ok true w := by
  cases fs with
  | nil => rfl
  | cons f fs => simp [shp] at h
theorem ti_i : tiOk Tryz.prog 3 ⟨.other, 1, false, [.int .i64 0]⟩ = true := tab_at tabok rfl
theorem eq_i {w : World} {d : Nat} (a b : Int) : (Op.equalIn (d + 1) 3 (I a) (I b)).run Tryz.prog w = .ok (a == b) w := run_equalIn_int w d _ .i64 .i64 _ _ (by kernel_rfl)
theorem eq_ty {w : World} {d : Nat} (x y : Ty) : (Op.equalIn (d + 2) 51 (.agg (encTy x).toArray) (.agg (encTy y).toArray)).run Tryz.prog w = .ok (decide (x = y)) w := by
  rw [run_equalIn_struct w (d + 1) _ _ _ (by kernel_rfl) (by kernel_rfl)]
  obtain ⟨f1, h1, e1⟩ := eqf_gen (P := Tryz.prog) (w := w) (d := d + 1) (ts := [(3, 1)]) (xs := (encTy x).toArray) (ys := (encTy y).toArray) (show shp (Tryz.prog.fieldsOf 51).toList [(3, 0), (3, 1)] = true by kernel_rfl) (part_cell ti_i rfl) (part_cell ti_i rfl) (eq_i x.kind y.kind)
  obtain ⟨f2, h2, e2⟩ := eqf_gen (P := Tryz.prog) (w := w) (d := d + 1) (xs := (encTy x).toArray) (ys := (encTy y).toArray) h1 (part_cell ti_i rfl) (part_cell ti_i rfl) (eq_i x.cls y.cls)
  rw [e1, e2, eqf_nil h2]
  obtain ⟨a, b⟩ := x
  obtain ⟨c, e⟩ := y
  by_cases p : a = c <;> by_cases q : b = e <;> simp [p, q]
theorem eq_ins {w : World} {d : Nat} (x y : Ins) : (Op.equalIn (d + 2) 120 (.agg (encIns x).toArray) (.agg (encIns y).toArray)).run Tryz.prog w = .ok (decide (x = y)) w := by
  rw [run_equalIn_struct w (d + 1) _ _ _ (by kernel_rfl) (by kernel_rfl)]
  obtain ⟨f1, h1, e1⟩ := eqf_gen (P := Tryz.prog) (w := w) (d := d + 1) (ts := [(3, 1), (3, 2)]) (xs := (encIns x).toArray) (ys := (encIns y).toArray) (show shp (Tryz.prog.fieldsOf 120).toList [(3, 0), (3, 1), (3, 2)] = true by kernel_rfl) (part_cell ti_i rfl) (part_cell ti_i rfl) (eq_i x.op y.op)
  obtain ⟨f2, h2, e2⟩ := eqf_gen (P := Tryz.prog) (w := w) (d := d + 1) (xs := (encIns x).toArray) (ys := (encIns y).toArray) h1 (part_cell ti_i rfl) (part_cell ti_i rfl) (eq_i x.a y.a)
  obtain ⟨f3, h3, e3⟩ := eqf_gen (P := Tryz.prog) (w := w) (d := d + 1) (xs := (encIns x).toArray) (ys := (encIns y).toArray) h2 (part_cell ti_i rfl) (part_cell ti_i rfl) (eq_i x.b y.b)
  rw [e1, e2, e3, eqf_nil h3]
  obtain ⟨a, b, c⟩ := x
  obtain ⟨a', b', c'⟩ := y
  by_cases p : a = a' <;> by_cases q : b = b' <;> by_cases r : c = c' <;> simp [p, q, r]
/-- != on two values of a struct -/
theorem Eng.neA {C : Cx} {s : St} {w : World} {md : Option Md} {ops : Array Oper} {T T' : TypeId} {x y : Operand} {d : Nat} {ty : TypeId} {pos : String} {af : Array Edge} {g : Option (Nat × Bool)} {rest : List Oper} {k : List Item} {l : Env} {c : CEnv} {a b : List Value} {r : Bool}
    (he : ∀ w', (Op.equalIn 10000 T (.agg a.toArray) (.agg b.toArray)).run C.P w' = .ok r w') (h : Wk C (.reg md ops rest k ((d, .bool (!r)) :: l) c) w)
    (hs : adv C.tab C.n C.ks 400 s = .opn md ops ⟨some d, .binOp .neq T x y T', ty, pos, af, g⟩ rest k l c [] := by rfl) (hx : evc l c [] x = some (.agg a.toArray) := by rfl) (hy : evc l c [] y = some (.agg b.toArray) := by rfl) (hg : C.P.eqGuardType C.P.depth T = false := by kernel_rfl) (hf : fresh d l c [] = true := by rfl) : Wk C s w :=
  rd (p := []) (fun _ _ hA hp w' _ => by
    simp only [execOp, evc_ok hA.k hA.kc.c hp hx, evc_ok hA.k hA.kc.c hp hy]
    have hb : (binOp .neq T (.agg a.toArray) (.agg b.toArray)).run C.P w' = .ok (.bool (!r)) w' := by rw [run_neq_struct, he]; rfl
    exact run_bind_ok (run_bind_ok (run_eqGuard_agg _ _ _ _ _ _ _ hg) |>.trans hb) |>.trans rfl) h hs rfl hf (okR_no rfl)
/-- == on two values of a struct -/
theorem Eng.eqA {C : Cx} {s : St} {w : World} {md : Option Md} {ops : Array Oper} {T T' : TypeId} {x y : Operand} {d : Nat} {ty : TypeId} {pos : String} {af : Array Edge} {g : Option (Nat × Bool)} {rest : List Oper} {k : List Item} {l : Env} {c : CEnv} {a b : List Value} {r : Bool}
    (he : ∀ w', (Op.equalIn 10000 T (.agg a.toArray) (.agg b.toArray)).run C.P w' = .ok r w') (h : Wk C (.reg md ops rest k ((d, .bool r) :: l) c) w)
    (hs : adv C.tab C.n C.ks 400 s = .opn md ops ⟨some d, .binOp .eql T x y T', ty, pos, af, g⟩ rest k l c [] := by rfl) (hx : evc l c [] x = some (.agg a.toArray) := by rfl) (hy : evc l c [] y = some (.agg b.toArray) := by rfl) (hg : C.P.eqGuardType C.P.depth T = false := by kernel_rfl) (hf : fresh d l c [] = true := by rfl) : Wk C s w :=
  rd (p := []) (fun _ _ hA hp w' _ => by
    simp only [execOp, evc_ok hA.k hA.kc.c hp hx, evc_ok hA.k hA.kc.c hp hy]
    have hb : (binOp .eql T (.agg a.toArray) (.agg b.toArray)).run C.P w' = .ok (.bool r) w' := by rw [run_eql_struct, he]; rfl
    exact run_bind_ok (run_bind_ok (run_eqGuard_agg _ _ _ _ _ _ _ hg) |>.trans hb) |>.trans rfl) h hs rfl hf (okR_no rfl)
theorem same_no {α : Type} [DecidableEq α] {l m : List α} {k : Nat} {x y : α} (hx : l[k]? = some x) (hy : m[k]? = some y) (h : x ≠ y) : decide (l = m) = false := by
  rw [decide_eq_false_iff_not]
  rintro rfl
  rw [hx] at hy
  exact h (Option.some.inj hy)
theorem same_len {α : Type} [DecidableEq α] {l m : List α} (h : (l.length : Int) ≠ m.length) : decide (l = m) = false := by
  rw [decide_eq_false_iff_not]
  rintro rfl
  exact h rfl
theorem same_go {α : Type} {l m : List α} {k : Nat} {x y : α} (hx : l[k]? = some x) (hy : m[k]? = some y) (h : x = y) (hk : l.take k = m.take k) : l.take (k + 1) = m.take (k + 1) := by
  rw [take_succ_some hx, take_succ_some hy, hk, h]
theorem same_end {α : Type} [DecidableEq α] {l m : List α} {k : Nat} (hl : (l.length : Int) = m.length) (h : l.take k = m.take k) (hk : k = l.length) : decide (l = m) = true := by
  subst hk
  rw [List.take_length, List.take_of_length_le (by omega)] at h
  exact decide_eq_true h
theorem r_SameTypes (l m : List Ty) (a1 a2 : Option Addr) (c1 c2 : Nat) (w : World) (h1 : Sl eTy T w a1 l) (h2 : Sl eTy T w a2 m) : Ret Tryz.prog 40 #[.slice a1 l.length c1, .slice a2 m.length c2] w fun v w' => v = .bool (decide (l = m)) ∧ Bl w w' := by
  refine entr (vs := [.slice a1 l.length c1, .slice a2 m.length c2]) [0, 1, 4, 5, 10, 14, 25] tabok Tryz.func40 (by kernel_rfl) ?_
  have hb1 := h1.big
  have hb2 := h2.big
  refine br (fun h => ?_) (fun h => ?_)
  · exact rt1 ⟨vb (same_len (of_decide_eq_true h)).symm, Bl.refl _⟩
  have hl := Classical.not_not.1 (of_decide_eq_false h)
  refine lpk l.length 5 [] [(0, .slice a1 l.length c1), (1, .slice a2 m.length c2)] (fun k vals w' => vals = [] ∧ l.take k = m.take k ∧ Bl w w') ⟨rfl, rfl, Bl.refl _⟩ ?_
  rintro k vals w2 hk ⟨rfl, ha, hB⟩ ih
  by_cases hlt : k < l.length
  · refine brT ?_
    obtain ⟨x, b, o, cs, hx, rfl, _, hAt, rfl⟩ := at_some (h1.bl hB) hlt
    obtain ⟨y, b', o', cs', hy, rfl, _, hAt', rfl⟩ := at_some (h2.bl hB) (i := k) (by omega)
    refine dh T (List.range 9) fun w8 h8 => ?_
    have hC := hAt.bl h8.bl
    have hC' := hAt'.bl h8.bl
    refine ix ?_
    refine lda hC ?_ (hm := trivial)
    refine ix ?_
    refine lda hC' ?_ (hm := trivial)
    refine neA (fun w => eq_ty x y) ?_
    refine br (fun h => ?_) (fun h => ?_)
    · exact rt1 ⟨vb (same_no hx hy (fun e => by rw [decide_eq_true e] at h; cases h)).symm, hB.trans h8.bl⟩
    · exact ih hlt ⟨rfl, same_go hx hy (Classical.byContradiction fun e => by rw [decide_eq_false e] at h; cases h) ha, hB.trans h8.bl⟩
  refine brF ?_
  exact rt1 ⟨vb (same_end hl ha (by omega)).symm, hB⟩
theorem r_SameCode (l m : List Ins) (a1 a2 : Option Addr) (c1 c2 : Nat) (w : World) (h1 : Sl eIns T w a1 l) (h2 : Sl eIns T w a2 m) : Ret Tryz.prog 110 #[.slice a1 l.length c1, .slice a2 m.length c2] w fun v w' => v = .bool (decide (l = m)) ∧ Bl w w' := by
  refine entr (vs := [.slice a1 l.length c1, .slice a2 m.length c2]) [0, 1, 4, 5, 10, 14, 25] tabok Tryz.func110 (by kernel_rfl) ?_
  have hb1 := h1.big
  have hb2 := h2.big
  refine br (fun h => ?_) (fun h => ?_)
  · exact rt1 ⟨vb (same_len (of_decide_eq_true h)).symm, Bl.refl _⟩
  have hl := Classical.not_not.1 (of_decide_eq_false h)
  refine lpk l.length 5 [] [(0, .slice a1 l.length c1), (1, .slice a2 m.length c2)] (fun k vals w' => vals = [] ∧ l.take k = m.take k ∧ Bl w w') ⟨rfl, rfl, Bl.refl _⟩ ?_
  rintro k vals w2 hk ⟨rfl, ha, hB⟩ ih
  by_cases hlt : k < l.length
  · refine brT ?_
    obtain ⟨x, b, o, cs, hx, rfl, _, hAt, rfl⟩ := at_some (h1.bl hB) hlt
    obtain ⟨y, b', o', cs', hy, rfl, _, hAt', rfl⟩ := at_some (h2.bl hB) (i := k) (by omega)
    refine dh T (List.range 9) fun w8 h8 => ?_
    have hC := hAt.bl h8.bl
    have hC' := hAt'.bl h8.bl
    refine ix ?_
    refine lda hC ?_ (hm := trivial)
    refine ix ?_
    refine lda hC' ?_ (hm := trivial)
    refine neA (fun w => eq_ins x y) ?_
    refine br (fun h => ?_) (fun h => ?_)
    · exact rt1 ⟨vb (same_no hx hy (fun e => by rw [decide_eq_true e] at h; cases h)).symm, hB.trans h8.bl⟩
    · exact ih hlt ⟨rfl, same_go hx hy (Classical.byContradiction fun e => by rw [decide_eq_false e] at h; cases h) ha, hB.trans h8.bl⟩
  refine brF ?_
  exact rt1 ⟨vb (same_end hl ha (by omega)).symm, hB⟩
theorem r_Ints (l m : List Int) (a1 a2 : Option Addr) (c1 c2 : Nat) (w : World) (h1 : Sl eInt T w a1 l) (h2 : Sl eInt T w a2 m) : Ret Tryz.prog 28 #[.slice a1 l.length c1, .slice a2 m.length c2] w fun v w' => v = .bool (decide (l = m)) ∧ Bl w w' := by
  refine entr (vs := [.slice a1 l.length c1, .slice a2 m.length c2]) [0, 1, 4, 5, 10, 14, 25] tabok Tryz.func28 (by kernel_rfl) ?_
  have hb1 := h1.big
  have hb2 := h2.big
  refine br (fun h => ?_) (fun h => ?_)
  · exact rt1 ⟨vb (same_len (of_decide_eq_true h)).symm, Bl.refl _⟩
  have hl := Classical.not_not.1 (of_decide_eq_false h)
  refine lpk l.length 5 [] [(0, .slice a1 l.length c1), (1, .slice a2 m.length c2)] (fun k vals w' => vals = [] ∧ l.take k = m.take k ∧ Bl w w') ⟨rfl, rfl, Bl.refl _⟩ ?_
  rintro k vals w2 hk ⟨rfl, ha, hB⟩ ih
  by_cases hlt : k < l.length
  · refine brT ?_
    obtain ⟨x, b, o, cs, hx, rfl, _, hAt, rfl⟩ := at_some (h1.bl hB) hlt
    obtain ⟨y, b', o', cs', hy, rfl, _, hAt', rfl⟩ := at_some (h2.bl hB) (i := k) (by omega)
    refine dh T (List.range 9) fun w8 h8 => ?_
    have hC := hAt.bl h8.bl
    have hC' := hAt'.bl h8.bl
    refine ix ?_
    refine ld (hC 0 _ rfl) ?_ (hm := trivial)
    refine ix ?_
    refine ld (hC' 0 _ rfl) ?_ (hm := trivial)
    refine br (fun h => ?_) (fun h => ?_)
    · exact rt1 ⟨vb (same_no hx hy (of_decide_eq_true h)).symm, hB.trans h8.bl⟩
    · exact ih hlt ⟨rfl, same_go hx hy (Classical.not_not.1 (of_decide_eq_false h)) ha, hB.trans h8.bl⟩
  refine brF ?_
  exact rt1 ⟨vb (same_end hl ha (by omega)).symm, hB⟩
theorem r_sameClass (c : MC) (a1 a2 b1 b2 : Option Addr) (c1 c2 d1 d2 : Nat) (w : World) (h1 : Sl eTy T w a1 c.fields) (h2 : Sl eInt T w a2 c.table) (g1 : Sl eTy T w b1 c.fields) (g2 : Sl eInt T w b2 c.table) :
    Ret Tryz.prog 48 #[.agg (mccells c a1 c1 a2 c2).toArray, .agg (mccells c b1 d1 b2 d2).toArray] w fun v w' => v = .bool true ∧ Bl w w' := by
  refine entr (vs := [.agg (mccells c a1 c1 a2 c2).toArray, .agg (mccells c b1 d1 b2 d2).toArray]) [0, 1, 2, 3, 4] tabok Tryz.func48 (by kernel_rfl) ?_
  refine bx (cs := mccells c a1 c1 a2 c2) fun p1 w1 k1 => ?_
  refine bx (cs := mccells c b1 d1 b2 d2) fun p2 w2 k2 => ?_
  have B2 := k1.bl.trans k2.bl
  have x1 := Bl.box k2.bl k1.box
  have x2 := k2.box
  refine ld (x1.cell rfl) ?_
  refine ld (x2.cell rfl) ?_
  refine ldg (fun _ => x1.cell rfl) ?_
  refine ldg (fun _ => x2.cell rfl) ?_
  refine ldg (fun _ => x1.cell rfl) ?_
  refine ldg (fun _ => x2.cell rfl) ?_
  refine spt (.bool true) ?_
  refine cl (r_SameTypes c.fields c.fields a1 b1 c1 d1 w2 (h1.bl B2) (g1.bl B2)) ?_
  rintro _ w3 ⟨rfl, B23⟩
  rw [decide_eq_true (rfl : c.fields = c.fields)]
  have B3 := B2.trans B23
  refine ldg (fun _ => (Bl.box B23 x1).cell rfl) ?_
  refine ldg (fun _ => (Bl.box B23 x2).cell rfl) ?_
  refine spt (.bool true) ?_
  refine cl (r_Ints c.table c.table a2 b2 c2 d2 w3 (h2.bl B3) (g2.bl B3)) ?_
  rintro _ w4 ⟨rfl, B34⟩
  rw [decide_eq_true (rfl : c.table = c.table)]
  exact rt1 ⟨rfl, B3.trans B34⟩
theorem r_sameMethod (m : MM) (a1 a2 a3 b1 b2 b3 : Option Addr) (c1 c2 c3 d1 d2 d3 : Nat) (w : World) (h1 : Sl eTy T w a1 m.params) (h2 : Sl eTy T w a2 m.locals) (h3 : Sl eIns T w a3 m.code) (g1 : Sl eTy T w b1 m.params) (g2 : Sl eTy T w b2 m.locals) (g3 : Sl eIns T w b3 m.code) :
    Ret Tryz.prog 49 #[.agg (mmcells m a1 c1 a2 c2 a3 c3).toArray, .agg (mmcells m b1 d1 b2 d2 b3 d3).toArray] w fun v w' => v = .bool true ∧ Bl w w' := by
  refine entr (vs := [.agg (mmcells m a1 c1 a2 c2 a3 c3).toArray, .agg (mmcells m b1 d1 b2 d2 b3 d3).toArray]) [0, 1, 2, 3, 4] tabok Tryz.func49 (by kernel_rfl) ?_
  refine bx (cs := mmcells m a1 c1 a2 c2 a3 c3) fun p1 w1 k1 => ?_
  refine bx (cs := mmcells m b1 d1 b2 d2 b3 d3) fun p2 w2 k2 => ?_
  have B2 := k1.bl.trans k2.bl
  have x1 := Bl.box k2.bl k1.box
  have x2 := k2.box
  refine ld (x1.cell rfl) ?_
  refine ld (x2.cell rfl) ?_
  refine ldg (fun _ => x1.cell rfl) ?_
  refine ldg (fun _ => x2.cell rfl) ?_
  refine ldg (fun _ => x1.cell rfl) ?_
  refine ldg (fun _ => x2.cell rfl) ?_
  refine spt (.bool true) ?_
  refine cl (r_SameTypes m.params m.params a1 b1 c1 d1 w2 (h1.bl B2) (g1.bl B2)) ?_
  rintro _ w3 ⟨rfl, B23⟩
  rw [decide_eq_true (rfl : m.params = m.params)]
  have B3 := B2.trans B23
  have x13 := Bl.box B23 x1
  have x23 := Bl.box B23 x2
  refine ldg (fun _ => x13.cell rfl) ?_
  refine ldg (fun _ => x23.cell rfl) ?_
  refine spt (.bool true) ?_
  refine cl (r_SameTypes m.locals m.locals a2 b2 c2 d2 w3 (h2.bl B3) (g2.bl B3)) ?_
  rintro _ w4 ⟨rfl, B34⟩
  rw [decide_eq_true (rfl : m.locals = m.locals)]
  have B4 := B3.trans B34
  have x14 := Bl.box B34 x13
  have x24 := Bl.box B34 x23
  refine spt (.bool true) ?_
  refine lda (At.left (cs := encTy m.result) x14.at.tail.tail.tail.tail) ?_
  refine spt (.bool true) ?_
  refine lda (At.left (cs := encTy m.result) x24.at.tail.tail.tail.tail) ?_
  refine spt (.bool true) ?_
  refine eqA (fun w => eq_ty m.result m.result) ?_
  rw [decide_eq_true (rfl : m.result = m.result)]
  refine ldg (fun _ => x14.cell rfl) ?_
  refine ldg (fun _ => x24.cell rfl) ?_
  refine spt (.bool true) ?_
  refine cl (r_SameCode m.code m.code a3 b3 c3 d3 w4 (h3.bl B4) (g3.bl B4)) ?_
  rintro _ w5 ⟨rfl, B45⟩
  rw [decide_eq_true (rfl : m.code = m.code)]
  exact rt1 ⟨rfl, B4.trans B45⟩
/-- a module is the same as itself, wherever both lie -/
theorem r_Same_eq (m : Mod) (a b : MA) (w : World) (hA : MdR T w m a) (hB : MdR T w m b) : Ret Tryz.prog 15 #[.agg (modcells m a).toArray, .agg (modcells m b).toArray] w fun v w' => v = .bool true ∧ Bl w w' := by
  have q1 := hA.cls.big
  have q2 := hA.mth.big
  refine entr (vs := [.agg (modcells m a).toArray, .agg (modcells m b).toArray]) [0, 1, 2, 3, 4, 5, 6, 37, 42, 56, 61, 75] tabok Tryz.func15 (by kernel_rfl) ?_
  refine bx (cs := modcells m a) fun p1 w1 k1 => ?_
  refine bx (cs := modcells m b) fun p2 w2 k2 => ?_
  have B2 := k1.bl.trans k2.bl
  have x1 := Bl.box k2.bl k1.box
  have x2 := k2.box
  refine ld (x1.cell rfl) ?_
  refine ld (x2.cell rfl) ?_
  refine ldg (fun _ => x1.cell rfl) ?_
  refine ldg (fun _ => x2.cell rfl) ?_
  refine ldg (fun _ => x1.cell rfl) ?_
  refine ldg (fun _ => x2.cell rfl) ?_
  refine ldg (fun _ => x1.cell rfl) ?_
  refine ldg (fun _ => x2.cell rfl) ?_
  refine spt (.bool true) ?_
  refine cl (r_SameTypes m.statics m.statics a.a2 b.a2 a.c2 b.c2 w2 (hA.bl B2).sta (hB.bl B2).sta) ?_
  rintro _ w3 ⟨rfl, B23⟩
  rw [decide_eq_true (rfl : m.statics = m.statics)]
  have B3 := B2.trans B23
  replace x1 := Bl.box B23 x1
  replace x2 := Bl.box B23 x2
  refine brf ?_
  refine lpk (vals := []) m.classes.length 5 [] [(2, .pointer (some ⟨p1, 0, none⟩)), (3, .pointer (some ⟨p2, 0, none⟩))] (fun k vals w' => vals = [] ∧ Bl w3 w') ⟨rfl, Bl.refl _⟩ ?_
  rintro k vals w4 hk ⟨rfl, B34⟩ ih
  have B4 := B3.trans B34
  have y1 := Bl.box B34 x1
  have y2 := Bl.box B34 x2
  refine ld (y1.cell rfl) ?_
  by_cases hlt : k < m.classes.length
  · refine brT ?_
    obtain ⟨c, bs, o, cs, hc, e2, _, hAt, e1, r1, e3, r3, rfl, f1, f2, _⟩ := at_some (hA.bl B4).cls hlt
    obtain ⟨c', bs', o', cs', hc', e2', _, hAt', e1', r1', e3', r3', rfl, f1', f2', _⟩ := at_some (hB.bl B4).cls hlt
    obtain rfl : c = c' := by rw [hc] at hc'; exact Option.some.inj hc'
    refine dh T (List.range 12) fun w5 k5 => ?_
    have B5 := B4.trans k5.bl
    have B35 := B34.trans k5.bl
    refine ld ((k5.box y1).cell rfl) ?_ (hm := trivial)
    rw [e2]
    refine ix ?_
    refine lda (hAt.bl k5.bl) ?_ (hm := trivial)
    refine ld ((k5.box y2).cell rfl) ?_ (hm := trivial)
    rw [e2']
    refine ix ?_
    refine lda (hAt'.bl k5.bl) ?_ (hm := trivial)
    refine cl (r_sameClass c e1 e3 e1' e3' r1 r3 r1' r3' w5 (f1.bl k5.bl) (f2.bl k5.bl) (f1'.bl k5.bl) (f2'.bl k5.bl)) ?_
    rintro _ w6 ⟨rfl, B56⟩
    refine brf ?_
    exact ih hlt ⟨rfl, B35.trans B56⟩
  refine brF ?_
  clear ih y1 y2
  refine lpk (vals := []) m.methods.length 6 [] [(2, .pointer (some ⟨p1, 0, none⟩)), (3, .pointer (some ⟨p2, 0, none⟩))] (fun k vals w' => vals = [] ∧ Bl w3 w') ⟨rfl, B34⟩ ?_
  clear B34 B4
  rintro k vals w4 hk ⟨rfl, B34⟩ ih
  have B4 := B3.trans B34
  have y1 := Bl.box B34 x1
  have y2 := Bl.box B34 x2
  refine ld (y1.cell rfl) ?_
  by_cases hlt : k < m.methods.length
  · refine brT ?_
    obtain ⟨c, bs, o, cs, hc, e2, _, hAt, e1, r1, e3, r3, e4, r4, rfl, f1, f2, f3, _⟩ := at_some (hA.bl B4).mth hlt
    obtain ⟨c', bs', o', cs', hc', e2', _, hAt', e1', r1', e3', r3', e4', r4', rfl, f1', f2', f3', _⟩ := at_some (hB.bl B4).mth hlt
    obtain rfl : c = c' := by rw [hc] at hc'; exact Option.some.inj hc'
    refine dh T (List.range 12) fun w5 k5 => ?_
    have B35 := B34.trans k5.bl
    refine ld ((k5.box y1).cell rfl) ?_ (hm := trivial)
    rw [e2]
    refine ix ?_
    refine lda (hAt.bl k5.bl) ?_ (hm := trivial)
    refine ld ((k5.box y2).cell rfl) ?_ (hm := trivial)
    rw [e2']
    refine ix ?_
    refine lda (hAt'.bl k5.bl) ?_ (hm := trivial)
    refine cl (r_sameMethod c e1 e3 e4 e1' e3' e4' r1 r3 r4 r1' r3' r4' w5 (f1.bl k5.bl) (f2.bl k5.bl) (f3.bl k5.bl) (f1'.bl k5.bl) (f2'.bl k5.bl) (f3'.bl k5.bl)) ?_
    rintro _ w6 ⟨rfl, B56⟩
    refine brf ?_
    exact ih hlt ⟨rfl, B35.trans B56⟩
  refine brF ?_
  exact rt1 ⟨rfl, B4⟩
end Go.Proofs.YtkmdfjpafkcleaaGreatDoor

/- Walks: the law LinkOrders. -/
namespace Go.Proofs.YtkmdfjpafkcleaaGreatDoor
open Eng Go.RowKit
theorem wrap_id {n : Int} (h0 : 0 ≤ n) (h1 : n < 9223372036854775808) : IntKind.wrap .i64 n = n := by
  have e : n % 18446744073709551616 = n := Int.emod_eq_of_lt h0 (by omega)
  show (if (true && decide (n % 18446744073709551616 ≥ 9223372036854775808)) = true then n % 18446744073709551616 - 18446744073709551616 else n % 18446744073709551616) = n
  rw [if_neg (by rw [Bool.true_and, decide_eq_true_eq, e]; omega), e]
theorem and_run (a : Int) : ∃ r : Nat, r < 1073741824 ∧ ∀ {T : TypeId} (P : Program) (w : World), (binOp .and T (.int .i64 a) (.int .i64 1073741823)).run P w = .ok (I r) w := by
  refine ⟨(BitVec.ofInt 64 a &&& BitVec.ofInt 64 1073741823).toNat, ?_, fun {T} P w => ?_⟩
  · rw [BitVec.toNat_and]
    exact Nat.lt_of_le_of_lt Nat.and_le_right (by decide)
  · have h : (BitVec.ofInt 64 a &&& BitVec.ofInt 64 1073741823).toNat ≤ 1073741823 := by
      rw [BitVec.toNat_and]
      exact Nat.le_trans Nat.and_le_right (by decide)
    have e : IntKind.wrap .i64 ((BitVec.ofInt 64 a &&& BitVec.ofInt 64 1073741823).toNat : Int) = ((BitVec.ofInt 64 a &&& BitVec.ofInt 64 1073741823).toNat : Int) := by
      generalize (BitVec.ofInt 64 a &&& BitVec.ofInt 64 1073741823).toNat = n at h
      exact wrap_id (by omega) (by omega)
    simp only [binOp]
    show (Op.intBits .and .i64 a 1073741823).run P w = _
    show Result.ok (Value.int .i64 (IntKind.wrap .i64 ((BitVec.ofInt 64 a &&& BitVec.ofInt 64 1073741823).toNat : Int))) w = _
    rw [e]
theorem Sl.ltU {S : Nat → Prop} {w : World} {a : Option Addr} {l : List Unt} (h : Sl eUnt S w a l) : Sl eUnt (· < w.heap.size) w a l :=
  ⟨h.big, fun i x hx => by
    obtain ⟨b, o, cs, e, _, hat, ua, rfl, hU⟩ := h.el i x hx
    exact ⟨b, o, _, e, cell_lt (hat 0 _ rfl), hat, ua, rfl, hU.lt⟩⟩
theorem uone {S : Nat → Prop} {w : World} {cs : List Value} {u : Unt} (h : eUnt.rel S w cs u) : cs.all Value.oneCell' = true := by
  obtain ⟨ua, rfl, _⟩ := h; rfl
theorem round_perm (us : List Unt) (k : Nat) : us.Perm (us.drop k ++ us.take k) := by
  conv => lhs; rw [← List.take_append_drop k us]
  exact List.perm_append_comm
set_option maxHeartbeats 1000000 in
theorem l_Orders (us : List Unt) (au : Option Addr) (cu : Nat) (by' : Int) (w : World) (hS : Sl eUnt T w au us) (hc : us.length ≤ cu) (hG : Gl w) :
    Ret Tryz.prog 3 #[.slice au us.length cu, I by'] w fun v w' => v = .bool true ∧ Bl w w' := by
  have hbig := hS.big
  refine entr (vs := [.slice au us.length cu, I by']) [0, 1, 4, 5, 6, 7, 8, 9, 10, 11, 12, 13, 14, 21, 46, 67] tabok Tryz.func3 (by kernel_rfl) ?_
  refine cl (l_great us au cu w hS) ?_
  rintro _ w1 ⟨g, rfl, B1⟩
  refine br (fun h => ?_) (fun h => ?_)
  · refine cl (l_sane w1 (hG.bl B1)) ?_
    rintro _ w2 ⟨rfl, B2⟩
    exact rt1 ⟨rfl, B1.trans B2⟩
  have hlen : 0 < us.length := by
    rcases Nat.eq_zero_or_pos us.length with q | q
    · rw [q] at h; cases g <;> cases h
    · exact q
  clear h
  refine cl (k_Link (us := us) (cu := cu) (hS.bl B1).ltU (hG.bl B1)) ?_ (hm := fun _ _ r => by obtain ⟨_, _, _, hB⟩ := r; exact mdW_bl hB)
  rintro _ w2 ⟨a2, rfl, M2, B12⟩
  refine al fun b5 w3 k3 => ?_
  refine sta (cs' := modcells (modL us) a2) k3.box fun w4 k4 x4 => ?_
  have B24 := k3.wr k4
  have B4 := (B1.trans B12).trans B24
  have N4 : MdR T w4 (modL us) a2 := (M2.bl B24).sub fun _ _ => trivial
  obtain ⟨r, hr, hR⟩ := and_run by'
  refine iop hR ?_
  refine iop (rem_run (b := us.length) (by omega)) ?_
  rw [show (r : Int).tmod (us.length : Int) = ((r % us.length : Nat) : Int) from rfl]
  obtain ⟨k, hk, ek⟩ : ∃ k, k < us.length ∧ r % us.length = k := ⟨_, Nat.mod_lt _ hlen, rfl⟩
  rw [ek]
  refine dh (fun _ => False) [1, 2, 5, 6, 3, 7, 0, 4, 8, 9] fun w5 h5 => ?_
  have B5 := B4.trans h5.bl
  have S5 := (hS.bl B5).ltU
  have E5 : eUnt.sz = 5 := rfl
  refine sl k us.length ?_
  rw [if_neg (show ¬ cu = k by omega)]
  refine sl 0 k ?_
  refine bs (cs := []) fun b6 w6 k6 => ?_
  have y6 := k6.blk
  have z6 := k6.size
  have O6 : OwC eUnt (· < w5.heap.size) w6 b6 38 (some ⟨b6, 0, none⟩) 0 ([] : List Unt) :=
    ⟨[], rfl, (fun _ h => (by cases h)), Ow.made (n := 0) k6 rfl (by omega), (fun i cs x h => (by simp at h))⟩
  have D6 : Sl eUnt (fun b => b < w5.heap.size ∧ b < b6) w6 (au.map (·.add (k * 5))) (us.drop k) := ((S5.drop k).bl k6.bl).sub fun i hi => ⟨hi, by omega⟩
  have e1 : (us.drop k).length = us.length - k := List.length_drop
  rw [← e1]
  refine apc (l0 := []) O6 D6 (by omega) rfl uone (fun a7 c7 w7 O7 A7 F7 => ?_) (hm := apS fun g hg q => q)
  have T7 : Sl eUnt (fun b => b < w5.heap.size ∧ b < b6) w7 (if cu = 0 then au else au.map (·.add (0 * 5))) (us.take k) := by
    have : (if cu = 0 then au else au.map (·.add (0 * 5))) = au := by
      rw [if_neg (by omega)]
      cases au with
      | none => rfl
      | some a => simp [Addr.add]
    rw [this]
    exact (((S5.take k).bl k6.bl).sub fun i hi => ⟨hi, by omega⟩).kp (A7.kp.sub fun i hi e => by
      have := hi.1
      have h7 : b6 = i := by simp at e
      omega)
  have e2 : (us.take k).length = k - 0 := by rw [List.length_take]; omega
  rw [← e2]
  refine apc (l0 := [] ++ us.drop k) O7 T7 (by have := A7.size; omega) rfl uone (fun a8 c8 w8 O8 A8 F8 => ?_) (hm := apS fun g hg q => q)
  rw [show [] ++ us.drop k = us.drop k from rfl] at O8
  have L8 : Sl eUnt (· < w8.heap.size) w8 a8 (us.drop k ++ us.take k) := O8.sl3 (by rw [List.length_append, List.length_drop, List.length_take]; omega)
  have B57 : Bl w5 w7 := Below.trans k6.bl (A7.below (by omega) fun g hg => by
    have h7 : b6 = g := by simpa using hg
    omega)
  have B58 : Bl w5 w8 := Below.trans B57 (A8.below B57.size fun g hg => by
    rcases F7 g hg with q | q
    · have h7 : b6 = g := by simpa using q
      omega
    · omega)
  have B48 := h5.bl.trans B58
  have B8 := B4.trans B48
  have x8 := Bl.box B48 x4
  have N8 := N4.bl B48
  refine lp (vals := [.slice none 0 0, .int .i64 (IntKind.wrap .i64 ((us.length : Int) - 1))]) [9, 10] [(0, .slice au us.length cu), (5, .pointer (some ⟨b5, 0, none⟩)), (6, I (runE us)), (8, .slice a8 (us.drop k ++ us.take k).length c8)] (fun m vals w' => ∃ a c, m ≤ us.length ∧ vals = [.slice a (us.drop m).reverse.length c, I ((m : Int) - 1)] ∧ Bl w8 w' ∧ OwC eUnt (· < w8.heap.size) w' w8.heap.size 38 a c (us.drop m).reverse) ⟨rfl, rfl, rfl, rfl, trivial⟩ (m := us.length) ⟨none, 0, Nat.le_refl _, by rw [List.drop_length, wrap_fit (by omega) (by omega)]; rfl, Bl.refl _, by rw [List.drop_length]; exact OwC.nil ..⟩ ?_
  rintro m vals w9 ⟨a9, c9, hm, rfl, B89, O9⟩ ih
  have z9 := B89.size
  rcases Nat.eq_zero_or_pos m with h0 | h0
  rotate_left
  · obtain ⟨m, rfl⟩ : ∃ m', m = m' + 1 := ⟨m - 1, by omega⟩
    rw [show (((m + 1 : Nat) : Int) - 1) = (m : Int) by omega]
    refine brT ?_
    obtain ⟨u, b, o, cs, hu, rfl, hb, hAt, ua, rfl, hU⟩ := at_some ((hS.bl B8).ltU.bl B89) (i := m) (by omega)
    refine ix ?_
    refine lda hAt ?_
    refine bs (cs := ucells u ua) fun b10 w10 k10 => ?_
    have y10 := k10.blk
    have z10 := k10.size
    obtain ⟨xs, e1, e3, hOx, e4⟩ := (O9.bl k10.bl).row
    have hl9 : (us.drop (m + 1)).reverse.length ≤ 4194304 := by rw [List.length_reverse, List.length_drop]; omega
    refine ap hOx (.inr ⟨b10, 0, rfl, k10.box.at⟩) (by omega) (fun a11 c11 w11 hO11 hA11 hf11 => ?_)
    have hrel : eUnt.rel (fun i => i < w8.heap.size ∧ a9 ≠ some ⟨i, 0, none⟩ ∧ i < w10.heap.size) w10 (ucells u ua) u :=
      ⟨ua, rfl, (hU.bl k10.bl).sub fun i hi => ⟨hi, fun e => by have := (O9.lt e).1; omega, by omega⟩⟩
    have hO11' := OwC.push e1 e3 e4 hO11 hA11 hf11 hrel
    have e5 : (us.drop m).reverse = (us.drop (m + 1)).reverse ++ [u] := by
      obtain ⟨hml, rfl⟩ := List.getElem?_eq_some_iff.1 hu
      rw [List.drop_eq_getElem_cons hml, List.reverse_cons]
    refine again (ih m _ _ _ (by omega) ⟨rfl, rfl, rfl, rfl, trivial⟩ rfl ⟨a11, c11, by omega, ?_, ?_, by rw [e5]; exact hO11'⟩)
    · rw [wrap_fit (by omega) (by omega), e5, List.length_append]; rfl
    · exact Below.trans (B89.trans k10.bl) (hA11.below (by omega) fun g hg => (O9.lt hg).1)
  · subst h0
    rw [show (((0 : Nat) : Int) - 1) = -1 by rfl, List.drop_zero] at *
    refine brF ?_
    clear ih
    have B9 := B8.trans B89
    have B9s := O9.sl3 (by rw [List.length_reverse]; omega)
    refine cl (k_Link (us := us.drop k ++ us.take k) (cu := c8) ((L8.bl B89).sub fun i hi => by omega) (hG.bl B9)) ?_ (hm := fun _ _ r => by obtain ⟨_, _, _, hB⟩ := r; exact mdW_bl hB)
    rintro _ w10 ⟨a10, rfl, M10, B910⟩
    refine al fun b11 w11 k11 => ?_
    refine sta (cs' := modcells (modL (us.drop k ++ us.take k)) a10) k11.box fun w12 k12 x12 => ?_
    have B1012 := k11.wr k12
    have B912 := B910.trans B1012
    have B12' := B9.trans B912
    refine cl (k_Link (us := us.reverse) (cu := c9) ((B9s.bl B912).sub fun i hi => by have := B912.size; omega) (hG.bl B12')) ?_ (hm := fun _ _ r => by obtain ⟨_, _, _, hB⟩ := r; exact mdW_bl hB)
    rintro _ w13 ⟨a13, rfl, M13, B1213⟩
    refine al fun b14 w14 k14 => ?_
    refine sta (cs' := modcells (modL us.reverse) a13) k14.box fun w15 k15 x15 => ?_
    have B1315 := k14.wr k15
    have B1215 := B1213.trans B1315
    have B15 := B12'.trans B1215
    have p1 := round_perm us k
    have p2 : us.Perm us.reverse := (List.reverse_perm us).symm
    by_cases he : runE us = 0
    · obtain ⟨f0, em⟩ := link_perm p1 he
      obtain ⟨g0, en⟩ := link_perm p2 he
      refine brF ?_ (hp := by exact fun h => h he)
      rw [em] at M10 x12
      rw [en] at M13 x15
      have y5 := Bl.box (B89.trans (B912.trans B1215)) x8
      have y12 := Bl.box B1215 x12
      have V5 := N8.bl (B89.trans (B912.trans B1215))
      have V12 : MdR T w15 (modL us) a10 := ((M10.bl B1012).bl B1215).sub fun _ _ => trivial
      have V15 : MdR T w15 (modL us) a13 := (M13.bl B1315).sub fun _ _ => trivial
      rw [f0, g0]
      refine spt (.bool false) ?_
      refine lda y5.at ?_
      refine spt (.bool false) ?_
      refine lda y12.at ?_
      refine spt (.bool false) ?_
      refine cl (r_Same_eq (modL us) a2 a10 w15 V5 V12) ?_
      rintro _ w16 ⟨rfl, B16⟩
      refine spt (.bool false) ?_
      refine lda (Bl.box B16 y5).at ?_
      refine spt (.bool false) ?_
      refine lda (Bl.box B16 x15).at ?_
      refine spt (.bool false) ?_
      refine cl (r_Same_eq (modL us) a2 a13 w16 (V5.bl B16) (V15.bl B16)) ?_
      rintro _ w17 ⟨rfl, B17⟩
      refine spt (.bool false) ?_
      refine cl (l_sane w17 (hG.bl ((B15.trans B16).trans B17))) ?_
      rintro _ w18 ⟨rfl, B18⟩
      exact rt1 ⟨by first | rfl | simp [f0, g0], ((B15.trans B16).trans B17).trans B18⟩
    · have f0 : ¬ runE (us.drop k ++ us.take k) = 0 := fun h => he (link_perm p1.symm h).1
      have g0 : ¬ runE us.reverse = 0 := fun h => he (link_perm p2.symm h).1
      refine brT ?_ (hp := by exact he)
      refine spt (.bool false) ?_ (hb := by simp [f0, g0])
      refine cl (l_sane w15 (hG.bl B15)) ?_
      rintro _ w16 ⟨rfl, B16⟩
      exact rt1 ⟨by first | rfl | simp [f0, g0], B15.trans B16⟩
end Go.Proofs.YtkmdfjpafkcleaaGreatDoor
