import Derived.Test.YtkmdfjpafkcleaaGreatDoorM5
import Derived.Lib.LastIndexByte
import Derived.Test.YtkmdfjpafkcleaaGreatDoorM3
/- Walks: the linker resolves fields, tables, instructions. -/
namespace Go.Proofs.YtkmdfjpafkcleaaGreatDoor
open Eng Go.RowKit
variable {w w' : World} {b : Nat} {us : List Unt} {O : Ords}
theorem ClsI.ownT {us : List Unt} {D : Dcl} {p : ByteArray} {n k : Nat} {u : Unt} {c : Cls} {oc : List ByteArray} (h : ClsI us D p n k u c) : ownT us D oc p = c.fields.map fun f => kindM oc u f.ty := by
  unfold Go.Proofs.YtkmdfjpafkcleaaGreatDoor.ownT; rw [h.of]
theorem k_fieldTypes (hI : ∀ u ∈ us, Ixs u) (hF7 : ∀ u ∈ us, ∀ c ∈ u.classes, c.fields.length ≤ 7) : ∀ (m : Nat) (p : ByteArray) (w : World), m ≤ 1000 → RunO b us O w → Deep us (decl us) m p →
    Ret Tryz.prog 104 #[.pointer (some ⟨b, 0, none⟩), .string p] w fun v w' => ∃ a c, v = .slice a (ftL us (decl us) O.oc m p).length c ∧ OwP 2 encTy w' w.heap.size 51 a c (ftL us (decl us) O.oc m p) ∧ (ftL us (decl us) O.oc m p).length ≤ 7 * m ∧ Bl w w'
  | 0, _, _, _, _, h => h.elim
  | m + 1, p, w, hm, hL, ⟨⟨n, k, u, c, hc⟩, hd⟩ => by
    have hum := List.mem_of_getElem? hc.hu
    have hcm := List.mem_of_getElem? hc.hc
    have hf7 := hF7 u hum c hcm
    refine entr (vs := [.pointer (some ⟨b, 0, none⟩), .string p]) [0, 1, 4, 5, 6, 7, 9, 14, 37, 38, 39, 40] tabok Tryz.func104 (by kernel_rfl) ?_
    refine cl (k_super hL.lnk hI hc) ?_
    rintro _ w1 ⟨rfl, B1⟩
    have hlay : ftL us (decl us) O.oc (m + 1) p = (if supL us (decl us) p = nost then [] else ftL us (decl us) O.oc m (supL us (decl us) p)) ++ c.fields.map fun f => kindM O.oc u f.ty := by
      rw [← hc.ownT]; rfl
    refine jn [5] [(0, .pointer (some ⟨b, 0, none⟩)), (1, .string p)] (fun vals w2 => ∃ up a c, vals = [.slice a up.length c] ∧ OwP 2 encTy w2 w.heap.size 51 a c up ∧ up = (if supL us (decl us) p = nost then [] else ftL us (decl us) O.oc m (supL us (decl us) p)) ∧ up.length ≤ 7 * m ∧ Bl w w2) (fun h jo => ?_) (fun h jo => ?_) ?_
    · have hs : ¬ supL us (decl us) p = nost := of_decide_eq_true h
      refine cl (k_fieldTypes hI hF7 m _ w1 (by omega) (hL.bl B1) (hd.resolve_left hs)) ?_
      rintro _ w2 ⟨a, cc, rfl, hO, hlen, B2⟩
      exact jo ⟨_, a, cc, rfl, hO.base B1.size, by rw [if_neg hs], hlen, B1.trans B2⟩
    · have hs : supL us (decl us) p = nost := Classical.byContradiction fun q => of_decide_eq_false h q
      exact jo ⟨[], none, 0, rfl, Ow.nil .., by rw [if_pos hs], by simp, B1⟩
    rintro _ w2 ⟨up, a0, c0, rfl, hO2, hup, hlen, B2⟩
    rw [← hup] at hlay
    obtain ⟨m1, h1, hm1⟩ := (hL.bl B2).lnk.cl
    refine ld h1 ?_
    refine lk tD hm1 ?_
    rw [hc.g]
    refine al fun b3 w3 k3 => ?_
    refine sta (vs := [I n, I k]) (cs' := [I n, I k]) k3.box fun w4 k4 x4 => ?_
    have B4 := B2.trans (k3.wr k4)
    refine ds fun w5 k5 => ?_
    have B5 := B4.trans k5.bl
    have x5 := k5.box x4
    obtain ⟨a, cc, h0, hS⟩ := hL.lnk.us
    obtain ⟨b6, o6, cs6, rfl, _, hAt, ua, rfl, hU⟩ := hS.el n u hc.hu
    obtain ⟨b7, o7, cs7, e7, _, hAt7, af, cf, rfl, hF⟩ := hU.cls.el k c hc.hc
    have hn : n < us.length := (List.getElem?_eq_some_iff.1 hc.hu).1
    have hk : k < u.classes.length := (List.getElem?_eq_some_iff.1 hc.hc).1
    refine ld (B5.cl h0) ?_
    refine ld (x5.cell rfl) ?_
    refine ix ?_
    refine ld ((hAt.bl B5) 2 _ rfl) ?_
    refine ld (x5.cell rfl) ?_
    rw [e7]
    refine ix ?_
    refine ld ((hAt7.bl B5) 2 _ rfl) ?_
    have hO5 := hO2.bl ((k3.wr k4).trans k5.bl)
    refine lpk (vals := [.slice a0 up.length c0]) c.fields.length 39 [5] [(0, .pointer (some ⟨b, 0, none⟩)), (7, .pointer (some ⟨b3, 0, none⟩)), (37, .slice af c.fields.length cf), (38, I c.fields.length)]
      (fun j vals w' => ∃ a9 c9, vals = [.slice a9 (up ++ (c.fields.take j).map fun f => kindM O.oc u f.ty).length c9] ∧ OwP 2 encTy w' w.heap.size 51 a9 c9 (up ++ (c.fields.take j).map fun f => kindM O.oc u f.ty) ∧ Bl w w' ∧ Box w' b3 151 [I n, I k]) ⟨a0, c0, by simp, by simpa using hO5, B5, x5⟩ ?_
    rintro j vals w6 hj ⟨a9, c9, rfl, hO6, B6, x6⟩ ih
    by_cases hlt : j < c.fields.length
    · refine brT ?_
      obtain ⟨f, bf, off, csf, hf, rfl, _, hAtf, rfl⟩ := at_some (hF.bl B6) hlt
      refine ix ?_
      refine lda hAtf ?_
      refine al fun b8 w8 k8 => ?_
      refine sta k8.box fun w9 k9 x9 => ?_
      have B69 := k8.wr k9
      have x69 := Bl.box B69 x6
      refine ld (x69.cell rfl) ?_
      refine lda (x9.at.sub 1 2) ?_
      refine cl (k_kind (hL.bl (B6.trans B69)) hc.hu ((hI u hum).fty c hcm f (List.mem_of_getElem? hf))) ?_
      rintro _ w9' ⟨rfl, B9'⟩
      have B69 := B69.trans B9'
      have x69 := Bl.box B9' x69
      refine bs (cs := encTy (kindM O.oc u f.ty)) fun b10 w10 k10 => ?_
      have B10 := (B6.trans B69).trans k10.bl
      have O10 := (hO6.bl B69).bl k10.bl
      have hl : (up ++ (c.fields.take j).map fun f => kindM O.oc u f.ty).length ≤ 7 * m + 7 := by rw [List.length_append, List.length_map, List.length_take]; omega
      have e1 : up ++ (c.fields.take (j + 1)).map (fun f => kindM O.oc u f.ty) = (up ++ (c.fields.take j).map fun f => kindM O.oc u f.ty) ++ [kindM O.oc u f.ty] := by rw [map_snoc hf, List.append_assoc]
      refine apl (l1 := [kindM O.oc u f.ty]) O10 (.inr ⟨b10, 0, rfl, k10.box.at⟩) B10.size (fun a11 c11 w11 hO11 hA11 _ => ?_) (hb := by simp only [List.length_cons, List.length_nil]; omega) (hn := by simp only [List.length_cons, List.length_nil]; omega)
      have x10 := Bl.box k10.bl x69
      exact ih hlt ⟨a11, c11, by rw [e1], by rw [e1]; exact hO11, Eng.Ow.below O10 hA11 B10 B10.size, hA11.box x10 (O10.nbox x10 (by decide))⟩
    · refine brF ?_
      obtain rfl : j = c.fields.length := by omega
      rw [List.take_length, ← hlay] at hO6 ⊢
      exact rt1 ⟨a9, c9, rfl, hO6, by rw [hlay, List.length_append, List.length_map]; omega, B6⟩
theorem near_len {D : Dcl} {om : List ByteArray} {f : Nat} {c s : ByteArray} (h : ¬ c = nost) : nearM us D om (f + 1) c s = if 0 ≤ idxB om (dots c s) then idxB om (dots c s) else nearM us D om f (supL us D c) s := by
  simp only [nearM]
  rw [if_neg h]
theorem k_row (h : RunO b us O w) (hC : ∀ u ∈ us, CkU u) {K : Nat} {p : ByteArray} (hd : Deep us (decl us) K p) (hp : p.size ≤ 200) (hz : ∀ s ∈ O.oz, s.size ≤ 200) (_hp0 : ¬ p = nost) :
    Ret Tryz.prog 105 #[.pointer (some ⟨b, 0, none⟩), .string p] w fun v w' => ∃ a c, v = .slice a (O.oz.map fun s => nearM us (decl us) O.om (K + 1) p s).length c ∧ OwP 1 encInt w' w.heap.size 3 a c (O.oz.map fun s => nearM us (decl us) O.om (K + 1) p s) ∧ Bl w w' := by
  have hI : ∀ u ∈ us, Ixs u := fun u hu => ixs_of (hC u hu)
  obtain ⟨az, cz, hcz, hSz⟩ := h.oz
  have hbig := hSz.big
  refine entr (vs := [.pointer (some ⟨b, 0, none⟩), .string p]) [0, 1, 4, 5, 7, 8, 9, 14, 15, 16, 17, 26] tabok Tryz.func105 (by kernel_rfl) ?_
  refine ld hcz ?_
  refine lpk (vals := [nilS]) O.oz.length 16 [5] [(0, .pointer (some ⟨b, 0, none⟩)), (1, .string p), (14, .slice az O.oz.length cz), (15, I O.oz.length)]
    (fun j vals w' => ∃ a' c', vals = [.slice a' ((O.oz.take j).map fun s => nearM us (decl us) O.om (K + 1) p s).length c'] ∧ OwP 1 encInt w' w.heap.size 3 a' c' ((O.oz.take j).map fun s => nearM us (decl us) O.om (K + 1) p s) ∧ Bl w w') ⟨none, 0, rfl, Ow.nil .., Bl.refl _⟩ ?_
  rintro j vals w1 hj ⟨a', c', rfl, O1, B1⟩ ih
  by_cases hlt : j < O.oz.length
  · refine brT ?_
    obtain ⟨s, bf, off, cs, hs, rfl, _, hAt, rfl⟩ := at_some (hSz.bl B1) hlt
    have hsz := hz s (List.mem_of_getElem? hs)
    refine ix ?_
    refine ld (hAt 0 _ rfl) ?_
    refine lp [8, 9] [(0, .pointer (some ⟨b, 0, none⟩)), (1, .string p), (14, .slice (some ⟨bf, off, none⟩) O.oz.length cz), (15, I O.oz.length), (16, I j), (5, .slice a' ((O.oz.take j).map fun s => nearM us (decl us) O.om (K + 1) p s).length c'), (7, .string s)]
      (fun m vals w' => ∃ (c : ByteArray) (at' : Int), vals = [I at', .string c] ∧ (c = nost ∨ Deep us (decl us) m c) ∧ c.size ≤ 200 ∧ (at' = -1 ∨ 0 ≤ at') ∧ (if 0 ≤ at' then at' else nearM us (decl us) O.om (m + 1) c s) = nearM us (decl us) O.om (K + 1) p s ∧ Bl w1 w')
      ⟨rfl, rfl, rfl, rfl, rfl, rfl, rfl, trivial⟩ ⟨p, -1, rfl, .inr hd, hp, .inl rfl, rfl, Bl.refl _⟩ ?_
    rintro m vals w2 ⟨c, at', rfl, hdc, hcs, hat, heq, B12⟩ ih2
    have B2 := B1.trans B12
    by_cases hgo : ¬ c = nost ∧ at' < 0
    · obtain ⟨hc0, ha0⟩ := hgo
      refine brt ?_ (hp := by simp [hc0, ha0])
      have hdm := hdc.resolve_left hc0
      obtain ⟨m', rfl⟩ : ∃ m', m = m' + 1 := by
        cases m with
        | zero => exact hdm.elim
        | succ m' => exact ⟨m', rfl⟩
      obtain ⟨⟨n, k, u, x, hcI⟩, hd2⟩ := hdm
      have H2 := h.bl B2
      obtain ⟨am, cm, hcm, hSm⟩ := H2.om
      refine ld hcm ?_
      refine cat ?_ (hab := by show _ + 1 ≤ _; omega)
      refine cat ?_ (hab := by rw [ByteArray.size_append]; show _ + 1 + _ ≤ _; omega)
      refine cl (l_Index hSm cm _) ?_
      rintro _ _ ⟨rfl, rfl⟩
      refine cl (k_super H2.lnk hI hcI) ?_
      rintro _ w4 ⟨rfl, B24⟩
      have hss : (supL us (decl us) c).size ≤ 200 := by
        rw [hcI.sup]
        split
        · rename_i q
          have hum := List.mem_of_getElem? hcI.hu
          exact Nat.le_trans ((ck_small (hC u hum)).2 _ (((hI u hum).sup x (List.mem_of_getElem? hcI.hc)).inP (by omega))) (by omega)
        · exact Nat.zero_le _
      refine again (ih2 _ _ _ _ (Nat.lt_succ_self m') ⟨rfl, rfl, rfl, rfl, rfl, rfl, rfl, trivial⟩ rfl ⟨supL us (decl us) c, idxB O.om (dots c s), rfl, hd2, hss, idxB_ge .., ?_, B12.trans B24⟩)
      rw [if_neg (by omega), near_len hc0] at heq
      exact heq
    · refine brf ?_ (hp := by
        by_cases hc0 : c = nost
        · simp [hc0]
        · have : ¬ at' < 0 := fun q => hgo ⟨hc0, q⟩
          simp only [hc0, not_false_eq_true, decide_true, Bool.true_and]
          exact decide_eq_false this)
      have hval : at' = nearM us (decl us) O.om (K + 1) p s := by
        rw [← heq]
        by_cases h0 : 0 ≤ at'
        · rw [if_pos h0]
        · rw [if_neg h0]
          have hc0 : c = nost := Classical.byContradiction fun q => hgo ⟨q, by omega⟩
          simp only [nearM]
          rw [if_pos hc0]
          exact hat.resolve_right h0
      refine bs fun b5 w5 k5 => ?_
      have B15 := B12.trans k5.bl
      have B5 := B1.trans B15
      have O5 := O1.bl B15
      have hl : ((O.oz.take j).map fun s => nearM us (decl us) O.om (K + 1) p s).length ≤ 4194304 := by rw [List.length_map, List.length_take]; omega
      have e1 : (O.oz.take (j + 1)).map (fun s => nearM us (decl us) O.om (K + 1) p s) = (O.oz.take j).map (fun s => nearM us (decl us) O.om (K + 1) p s) ++ [at'] := by rw [map_snoc hs, hval]
      refine apl (enc := encInt) (l1 := [at']) O5 (.inr ⟨b5, 0, rfl, k5.box.at⟩) B5.size (fun a6 c6 w6 O6 A6 _ => ?_) (hb := by simp only [List.length_cons, List.length_nil]; omega) (hn := by simp only [List.length_cons, List.length_nil]; omega)
      exact ih hlt ⟨a6, c6, by rw [e1], by rw [e1]; exact O6, Eng.Ow.below O5 A6 B5 B5.size⟩
  · refine brF ?_
    obtain rfl : j = O.oz.length := by omega
    rw [List.take_length] at O1 ⊢
    exact rt1 ⟨a', c', rfl, O1, B1⟩
end Go.Proofs.YtkmdfjpafkcleaaGreatDoor

/- Walks: the linker resolves instructions. -/
namespace Go.Proofs.YtkmdfjpafkcleaaGreatDoor
open Eng Go.RowKit
variable {w w' : World} {b : Nat} {us : List Unt} {O : Ords}
theorem cut_of {p : ByteArray} (h : (46 : UInt8) ∈ p.data.toList) : Lib.lastIndexByte p 46 = (cutI p : Nat) ∧ cutI p < p.size := by
  rcases Lib.lastIndexByte_spec p 46 with ⟨_, hn⟩ | ⟨i, hi, e, _, _⟩
  · obtain ⟨j, hj⟩ := List.mem_iff_getElem?.1 h
    obtain ⟨hlt, e⟩ := List.getElem?_eq_some_iff.1 hj
    have hs : j < p.size := by rw [← ba_len]; exact hlt
    refine absurd ?_ (hn j hs)
    have : p.data[j]! = 46 := by
      rw [getElem!_pos p.data j (by simpa using hlt)]
      simpa using e
    rw [this]; rfl
  · unfold cutI
    rw [e]
    exact ⟨by simp, by simpa using hi⟩
theorem dot_of {s : ByteArray} (h : 1 < path s) : (46 : UInt8) ∈ s.data.toList := by
  refine Classical.byContradiction fun hm => ?_
  unfold path pathL at h
  split at h
  · have key : ∀ l : List UInt8, (46 : UInt8) ∉ l → (cutDot l).length = 1 := by
      intro l
      induction l with
      | nil => intro _; rfl
      | cons c r ih =>
        intro hn
        rw [List.mem_cons, not_or] at hn
        have := ih hn.2
        simp only [cutDot]
        rw [if_neg (fun q => hn.1 q.symm)]
        cases hr : cutDot r with
        | nil => rw [hr] at this; cases this
        | cons p ps => rw [hr] at this; simpa using this
    have := key _ hm
    omega
  · omega
theorem l_LastIndex {p : ByteArray} (hp : p.size ≤ 200) : Ret Tryz.prog 167 #[.string p, .string ⟨#[46]⟩] w fun v w' => v = I (Lib.lastIndexByte p 46) ∧ w' = w := by
  refine ⟨by kernel_rfl, ?_⟩
  refine (Tryz.strings_LastIndex_one p ⟨#[46]⟩ rfl (by omega) w).mono ?_
  rintro e w' ⟨rfl, rfl⟩
  exact ⟨rfl, rfl⟩
theorem LayW.get {l : List ByteArray} {m : Nat} {Y : Mp Rs} (h : LayW b us l m Y w) (q : ByteArray) : ∃ a c, ((getM Y q).map encR).getD (encR ⟨none, 0, []⟩) = .slice a (layA us l q).length c ∧ Sl eStr (· ≠ b) w a (layA us l q) := by
  unfold layA
  by_cases hq : q ∈ l
  · obtain ⟨r, h1, h2, h3⟩ := h.at' q hq
    rw [if_pos (by simpa [hasB] using hq), h1, ← h2]
    exact ⟨r.a, r.c, rfl, h3⟩
  · rw [if_neg (by simpa [hasB] using hq)]
    cases hg : getM Y q with
    | some r => exact absurd (h.only q r hg) hq
    | none => exact ⟨none, 0, rfl, Sl.nil ..⟩
theorem k_instr (h : RunO b us O w) {n : Nat} {u : Unt} (hu : us[n]? = some u) {i : Ins}
    (ha : (i.op = 14 ∨ i.op = 24 ∨ i.op = 17 ∨ i.op = 18 ∨ i.op = 22 ∨ i.op = 23 ∨ i.op = 25 ∨ i.op = 26) → inP u i.a) (hb : (i.op = 16 ∨ i.op = 12 ∧ ¬ i.a = 3) → inP u i.b)
    (hf : i.op = 17 ∨ i.op = 18 → (46 : UInt8) ∈ (nm u i.a).data.toList ∧ (nm u i.a).size ≤ 200) :
    Ret Tryz.prog 109 #[.pointer (some ⟨b, 0, none⟩), I n, .agg (encIns i).toArray] w fun v w' => v = .agg (encIns (instM us O u i)).toArray ∧ Bl w w' := by
  refine entr (vs := [.pointer (some ⟨b, 0, none⟩), I n, .agg (encIns i).toArray]) [0, 1, 2, 5, 6, 7, 8, 10, 11, 26, 40, 44, 57, 81, 96, 110] tabok Tryz.func109 (by kernel_rfl) ?_
  refine bx (cs := encIns i) fun b5 w1 k1 => ?_
  refine al fun b6 w2 k2 => ?_
  have x2 := Bl.box k2.bl k1.box
  have B2 := k1.bl.trans k2.bl
  have z1 := k1.size
  have y1 := k1.blk
  have y2 := k2.blk
  refine ld (x2.cell rfl) ?_
  by_cases e1 : i.op = 14 ∨ i.op = 24
  · -- class in a
    by_cases q14 : i.op = 14
    · refine brT ?_ (hp := q14)
      refine brT ?_ (hp := q14)
      refine dt 1 fun w3 k3 => ?_
      have B3 := B2.trans k3.bl
      have H3 := h.bl B3
      obtain ⟨a, c, hc, hS⟩ := H3.oc
      have x3 := Bl.box k3.bl x2
      refine ld hc ?_
      refine ld (x3.cell rfl) ?_
      refine clq (k_path H3.lnk hu (ha (by omega))) ?_
      refine clq (l_Index hS c _) ?_
      refine stx x3 (fun w4 k4 x4 => ?_) (ho := by simp [encIns])
      refine lda x4.at ?_
      refine sta (cs' := [I i.op, I (idxB O.oc (nm u i.a)), I i.b]) (k4.box (Bl.box k3.bl k2.box) (by omega)) fun w5 k5 x5 => ?_
      refine rtc (cs := [I i.op, I (idxB O.oc (nm u i.a)), I i.b]) x5.at ⟨?_, Below.trans (Below.trans B3 (k4.below (by omega))) (k5.below (by omega))⟩
      unfold instM; rw [if_pos e1]
    · refine brF ?_ (hp := q14)
      refine brT ?_ (hp := by omega)
      refine dt 1 fun w3 k3 => ?_
      have B3 := B2.trans k3.bl
      have H3 := h.bl B3
      obtain ⟨a, c, hc, hS⟩ := H3.oc
      have x3 := Bl.box k3.bl x2
      refine ld hc ?_
      refine ld (x3.cell rfl) ?_
      refine clq (k_path H3.lnk hu (ha (by omega))) ?_
      refine clq (l_Index hS c _) ?_
      refine stx x3 (fun w4 k4 x4 => ?_) (ho := by simp [encIns])
      refine lda x4.at ?_
      refine sta (cs' := [I i.op, I (idxB O.oc (nm u i.a)), I i.b]) (k4.box (Bl.box k3.bl k2.box) (by omega)) fun w5 k5 x5 => ?_
      refine rtc (cs := [I i.op, I (idxB O.oc (nm u i.a)), I i.b]) x5.at ⟨?_, Below.trans (Below.trans B3 (k4.below (by omega))) (k5.below (by omega))⟩
      unfold instM; rw [if_pos e1]
  refine brF ?_ (hp := by omega)
  refine brF ?_ (hp := by omega)
  by_cases e2 : i.op = 16
  · refine brT ?_ (hp := e2)
    refine dt 1 fun w3 k3 => ?_
    have B3 := B2.trans k3.bl
    have H3 := h.bl B3
    obtain ⟨a, c, hc, hS⟩ := H3.oc
    have x3 := Bl.box k3.bl x2
    refine ld hc ?_
    refine ld (x3.cell rfl) ?_
    refine clq (k_path H3.lnk hu (hb (by omega))) ?_
    refine clq (l_Index hS c _) ?_
    refine stx x3 (fun w4 k4 x4 => ?_) (ho := by simp [encIns])
    refine lda x4.at ?_
    refine sta (cs' := [I i.op, I i.a, I (idxB O.oc (nm u i.b))]) (k4.box (Bl.box k3.bl k2.box) (by omega)) fun w5 k5 x5 => ?_
    refine rtc (cs := [I i.op, I i.a, I (idxB O.oc (nm u i.b))]) x5.at ⟨?_, Below.trans (Below.trans B3 (k4.below (by omega))) (k5.below (by omega))⟩
    unfold instM; rw [if_neg e1, if_pos e2]
  refine brF ?_ (hp := e2)
  by_cases e3 : i.op = 12
  · refine brT ?_ (hp := e3)
    refine ld (x2.cell rfl) ?_
    by_cases h3 : i.a = 3
    · refine brf ?_ (hp := by simp [h3])
      have x4 := x2
      refine lda x4.at ?_
      refine sta (cs' := encIns i) k2.box fun w5 k5 x5 => ?_
      refine rtc (cs := encIns i) x5.at ⟨?_, Below.trans B2 (k5.below (by omega))⟩
      unfold instM; rw [if_neg e1, if_neg e2, if_pos e3, if_pos h3]
    · refine brT ?_ (hp := h3)
      refine dt 1 fun w3 k3 => ?_
      have B3 := B2.trans k3.bl
      have H3 := h.bl B3
      obtain ⟨a, c, hc, hS⟩ := H3.oc
      have x3 := Bl.box k3.bl x2
      refine ld hc ?_
      refine ld (x3.cell rfl) ?_
      refine clq (k_path H3.lnk hu (hb (by omega))) ?_
      refine clq (l_Index hS c _) ?_
      refine stx x3 (fun w4 k4 x4 => ?_) (ho := by simp [encIns])
      refine lda x4.at ?_
      refine sta (cs' := [I i.op, I i.a, I (idxB O.oc (nm u i.b))]) (k4.box (Bl.box k3.bl k2.box) (by omega)) fun w5 k5 x5 => ?_
      refine rtc (cs := [I i.op, I i.a, I (idxB O.oc (nm u i.b))]) x5.at ⟨?_, Below.trans (Below.trans B3 (k4.below (by omega))) (k5.below (by omega))⟩
      unfold instM; rw [if_neg e1, if_neg e2, if_pos e3, if_neg h3]
  refine brF ?_ (hp := e3)
  by_cases e4 : i.op = 17 ∨ i.op = 18
  · -- a field in a
    by_cases q17 : i.op = 17
    · refine brT ?_ (hp := q17)
      refine brT ?_ (hp := q17)
      have hi := ha (by omega)
      obtain ⟨hdot, hsz⟩ := hf (by omega)
      obtain ⟨hcut, hlt⟩ := cut_of hdot
      refine ld (x2.cell rfl) ?_
      refine cl (k_path (h.bl B2).lnk hu hi) ?_
      rintro _ _ ⟨rfl, rfl⟩
      refine cl (l_LastIndex hsz) ?_
      rintro _ _ ⟨rfl, rfl⟩
      rw [hcut]
      refine dt 1 fun w3 k3 => ?_
      have B3 := B2.trans k3.bl
      have H3 := h.bl B3
      obtain ⟨m, Y, hm, hY⟩ := H3.ly
      have x3 := Bl.box k3.bl x2
      refine ld hm ?_
      refine sls 0 (cutI (nm u i.a)) ?_
      refine lk tN hY.is ?_
      obtain ⟨a, c, hg, hS⟩ := hY.get ((nm u i.a).extract 0 (cutI (nm u i.a)))
      rw [hg]
      refine sls (cutI (nm u i.a) + 1) (nm u i.a).size ?_ (h1 := by exact ⟨.i64, congrArg (Value.int .i64) (by rw [wrap_fit (by omega) (by omega)]; omega)⟩)
      refine clq (l_Index hS c _) ?_
      refine stx x3 (fun w4 k4 x4 => ?_) (ho := by simp [encIns])
      refine lda x4.at ?_
      refine sta (cs' := [I i.op, I (fldM us O.oc (nm u i.a)), I i.b]) (k4.box (Bl.box k3.bl k2.box) (by omega)) fun w5 k5 x5 => ?_
      refine rtc (cs := [I i.op, I (fldM us O.oc (nm u i.a)), I i.b]) x5.at ⟨?_, Below.trans (Below.trans B3 (k4.below (by omega))) (k5.below (by omega))⟩
      unfold instM; rw [if_neg e1, if_neg e2, if_neg e3, if_pos e4]
    · refine brF ?_ (hp := q17)
      refine brT ?_ (hp := by omega)
      have hi := ha (by omega)
      obtain ⟨hdot, hsz⟩ := hf (by omega)
      obtain ⟨hcut, hlt⟩ := cut_of hdot
      refine ld (x2.cell rfl) ?_
      refine cl (k_path (h.bl B2).lnk hu hi) ?_
      rintro _ _ ⟨rfl, rfl⟩
      refine cl (l_LastIndex hsz) ?_
      rintro _ _ ⟨rfl, rfl⟩
      rw [hcut]
      refine dt 1 fun w3 k3 => ?_
      have B3 := B2.trans k3.bl
      have H3 := h.bl B3
      obtain ⟨m, Y, hm, hY⟩ := H3.ly
      have x3 := Bl.box k3.bl x2
      refine ld hm ?_
      refine sls 0 (cutI (nm u i.a)) ?_
      refine lk tN hY.is ?_
      obtain ⟨a, c, hg, hS⟩ := hY.get ((nm u i.a).extract 0 (cutI (nm u i.a)))
      rw [hg]
      refine sls (cutI (nm u i.a) + 1) (nm u i.a).size ?_ (h1 := by exact ⟨.i64, congrArg (Value.int .i64) (by rw [wrap_fit (by omega) (by omega)]; omega)⟩)
      refine clq (l_Index hS c _) ?_
      refine stx x3 (fun w4 k4 x4 => ?_) (ho := by simp [encIns])
      refine lda x4.at ?_
      refine sta (cs' := [I i.op, I (fldM us O.oc (nm u i.a)), I i.b]) (k4.box (Bl.box k3.bl k2.box) (by omega)) fun w5 k5 x5 => ?_
      refine rtc (cs := [I i.op, I (fldM us O.oc (nm u i.a)), I i.b]) x5.at ⟨?_, Below.trans (Below.trans B3 (k4.below (by omega))) (k5.below (by omega))⟩
      unfold instM; rw [if_neg e1, if_neg e2, if_neg e3, if_pos e4]
  refine brF ?_ (hp := by omega)
  refine brF ?_ (hp := by omega)
  by_cases e5 : i.op = 22 ∨ i.op = 23
  · -- a static in a
    by_cases q22 : i.op = 22
    · refine brT ?_ (hp := q22)
      refine brT ?_ (hp := q22)
      refine dt 1 fun w3 k3 => ?_
      have B3 := B2.trans k3.bl
      have H3 := h.bl B3
      obtain ⟨a, c, hc, hS⟩ := H3.os
      have x3 := Bl.box k3.bl x2
      refine ld hc ?_
      refine ld (x3.cell rfl) ?_
      refine clq (k_path H3.lnk hu (ha (by omega))) ?_
      refine clq (l_Index hS c _) ?_
      refine stx x3 (fun w4 k4 x4 => ?_) (ho := by simp [encIns])
      refine lda x4.at ?_
      refine sta (cs' := [I i.op, I (idxB O.os (nm u i.a)), I i.b]) (k4.box (Bl.box k3.bl k2.box) (by omega)) fun w5 k5 x5 => ?_
      refine rtc (cs := [I i.op, I (idxB O.os (nm u i.a)), I i.b]) x5.at ⟨?_, Below.trans (Below.trans B3 (k4.below (by omega))) (k5.below (by omega))⟩
      unfold instM; rw [if_neg e1, if_neg e2, if_neg e3, if_neg e4, if_pos e5]
    · refine brF ?_ (hp := q22)
      refine brT ?_ (hp := by omega)
      refine dt 1 fun w3 k3 => ?_
      have B3 := B2.trans k3.bl
      have H3 := h.bl B3
      obtain ⟨a, c, hc, hS⟩ := H3.os
      have x3 := Bl.box k3.bl x2
      refine ld hc ?_
      refine ld (x3.cell rfl) ?_
      refine clq (k_path H3.lnk hu (ha (by omega))) ?_
      refine clq (l_Index hS c _) ?_
      refine stx x3 (fun w4 k4 x4 => ?_) (ho := by simp [encIns])
      refine lda x4.at ?_
      refine sta (cs' := [I i.op, I (idxB O.os (nm u i.a)), I i.b]) (k4.box (Bl.box k3.bl k2.box) (by omega)) fun w5 k5 x5 => ?_
      refine rtc (cs := [I i.op, I (idxB O.os (nm u i.a)), I i.b]) x5.at ⟨?_, Below.trans (Below.trans B3 (k4.below (by omega))) (k5.below (by omega))⟩
      unfold instM; rw [if_neg e1, if_neg e2, if_neg e3, if_neg e4, if_pos e5]
  refine brF ?_ (hp := by omega)
  refine brF ?_ (hp := by omega)
  by_cases e6 : i.op = 25
  · refine brT ?_ (hp := e6)
    refine dt 1 fun w3 k3 => ?_
    have B3 := B2.trans k3.bl
    have H3 := h.bl B3
    obtain ⟨a, c, hc, hS⟩ := H3.om
    have x3 := Bl.box k3.bl x2
    refine ld hc ?_
    refine ld (x3.cell rfl) ?_
    refine clq (k_path H3.lnk hu (ha (by omega))) ?_
    refine clq (l_Index hS c _) ?_
    refine stx x3 (fun w4 k4 x4 => ?_) (ho := by simp [encIns])
    refine lda x4.at ?_
    refine sta (cs' := [I i.op, I (idxB O.om (nm u i.a)), I i.b]) (k4.box (Bl.box k3.bl k2.box) (by omega)) fun w5 k5 x5 => ?_
    refine rtc (cs := [I i.op, I (idxB O.om (nm u i.a)), I i.b]) x5.at ⟨?_, Below.trans (Below.trans B3 (k4.below (by omega))) (k5.below (by omega))⟩
    unfold instM; rw [if_neg e1, if_neg e2, if_neg e3, if_neg e4, if_neg e5, if_pos e6]
  refine brF ?_ (hp := e6)
  by_cases e7 : i.op = 26
  · refine brT ?_ (hp := e7)
    refine dt 1 fun w3 k3 => ?_
    have B3 := B2.trans k3.bl
    have H3 := h.bl B3
    obtain ⟨a, c, hc, hS⟩ := H3.oz
    have x3 := Bl.box k3.bl x2
    refine ld hc ?_
    refine ld (x3.cell rfl) ?_
    refine clq (k_path H3.lnk hu (ha (by omega))) ?_
    refine clq (l_Index hS c _) ?_
    refine stx x3 (fun w4 k4 x4 => ?_) (ho := by simp [encIns])
    refine lda x4.at ?_
    refine sta (cs' := [I i.op, I (idxB O.oz (nm u i.a)), I i.b]) (k4.box (Bl.box k3.bl k2.box) (by omega)) fun w5 k5 x5 => ?_
    refine rtc (cs := [I i.op, I (idxB O.oz (nm u i.a)), I i.b]) x5.at ⟨?_, Below.trans (Below.trans B3 (k4.below (by omega))) (k5.below (by omega))⟩
    unfold instM; rw [if_neg e1, if_neg e2, if_neg e3, if_neg e4, if_neg e5, if_neg e6, if_pos e7]
  refine brF ?_ (hp := e7)
  have x4 := x2
  refine lda x4.at ?_
  refine sta (cs' := encIns i) k2.box fun w5 k5 x5 => ?_
  refine rtc (cs := encIns i) x5.at ⟨?_, Below.trans B2 (k5.below (by omega))⟩
  unfold instM; rw [if_neg e1, if_neg e2, if_neg e3, if_neg e4, if_neg e5, if_neg e6, if_neg e7]
end Go.Proofs.YtkmdfjpafkcleaaGreatDoor

/- Walks: the linker builds its module. -/
namespace Go.Proofs.YtkmdfjpafkcleaaGreatDoor
open Eng Go.RowKit
variable {w w' : World} {b : Nat} {us : List Unt} {O : Ords}
/-- what holds of the orders of a run -/
structure OOk (us : List Unt) (O : Ords) : Prop where
  oc : ∀ p ∈ O.oc, (∃ n k u c, ClsI us (decl us) p n k u c) ∧ Deep us (decl us) (keysM (decl us).classes).length p ∧ p.size ≤ 200 ∧ ¬ p = nost
  os : ∀ p ∈ O.os, p ∈ keysM (decl us).statics
  om : ∀ p ∈ O.om, p ∈ keysM (decl us).calls ++ keysM (decl us).sends
  oz : ∀ s ∈ O.oz, s.size ≤ 200
  zm : ∀ s ∈ O.om, s.size ≤ 200
  kc : (keysM (decl us).classes).length ≤ 50
  lc : O.oc.length ≤ 50
  ls : O.os.length ≤ 50
  lm : O.om.length ≤ 80
  lz : O.oz.length ≤ 80
theorem ftL_len {oc : List ByteArray} (hF7 : ∀ u ∈ us, ∀ c ∈ u.classes, c.fields.length ≤ 7) : ∀ (m : Nat) (p : ByteArray), (ftL us (decl us) oc m p).length ≤ 7 * m
  | 0, _ => Nat.zero_le _
  | m + 1, p => by
    have ih := ftL_len hF7 (oc := oc) m (supL us (decl us) p)
    have h1 : (ownT us (decl us) oc p).length ≤ 7 := by
      unfold ownT
      cases hc : clsOf us (decl us) p with
      | none => exact Nat.zero_le _
      | some x =>
        obtain ⟨u, c⟩ := x
        unfold clsOf clsAt at hc
        simp only [Option.bind_eq_some_iff, Option.map_eq_some_iff, Prod.mk.injEq] at hc
        obtain ⟨d, _, u', hu, c', hc', rfl, rfl⟩ := hc
        simp only [List.length_map]
        exact hF7 u' (List.mem_of_getElem? hu) c' (List.mem_of_getElem? hc')
    unfold ftL
    rw [List.length_append]
    split
    · simp only [List.length_nil]; omega
    · omega
/-- the module's block while classes, statics, methods are put -/
abbrev mdc (a1 : Option Addr) (n1 c1 : Nat) (a2 : Option Addr) (n2 c2 : Nat) (a3 : Option Addr) (n3 c3 : Nat) (z : Nat) : List Value := [.slice a1 n1 c1, .slice a2 n2 c2, .slice a3 n3 c3, I z]
theorem Nc.box {b c : Nat} {w w' : World} (h : Nc b w w') {t : TypeId} {cs : List Value} (hb : Box w c t cs) (hne : c ≠ b) : Box w' c t cs := by unfold Box; rw [h.blk c hb.lt hne]; exact hb
theorem fld_dot {u : Unt} (hC : CkU u) {m : Mth} (hm : m ∈ u.methods) {i : Ins} (hi : i ∈ m.code) (h : i.op = 17 ∨ i.op = 18) : (46 : UInt8) ∈ (nm u i.a).data.toList ∧ (nm u i.a).size ≤ 200 := by
  have hn : named i = (1, 3) := by unfold named; rw [if_pos h]
  have ho : operand i = (i.a, 3) := by unfold operand; rw [hn]; rfl
  have := op_in hC hm hi (by rw [ho]; exact (by decide : (0 : Int) < 3))
  rw [ho] at this
  obtain ⟨h1, h2, h3⟩ := this
  refine ⟨dot_of (by simp only at h3; omega), ?_⟩
  have := (ck_small hC).2 i.a ⟨h1, h2⟩
  omega
theorem staM_at {p : ByteArray} {n k : Nat} {u : Unt} {f : Fld} (hg : getM (decl us).statics p = some (n, k)) (hu : us[n]? = some u) (hf : u.statics[k]? = some f) : staM us O p = kindM O.oc u f.ty := by
  unfold staM
  rw [hg]
  simp [hu, hf]
theorem mthM_at {p : ByteArray} {n k : Nat} {u : Unt} {m : Mth} (h : MthI us (mthD (decl us) p) n k u m) : mthM us O p = ⟨p, if 0 ≤ m.cls then idxB O.oc (nm u m.cls) else -1, m.params.map (kindM O.oc u), m.locals.map (kindM O.oc u), kindM O.oc u m.result, m.code.map (instM us O u)⟩ := by
  unfold mthM mthOf
  rw [h.of]
theorem k_module {c0 s0 m0 : Nat} (h : RunO b us O w) (hC : ∀ u ∈ us, CkU u) (hO : OOk us O) (dok : DOk us c0 s0 m0 (decl us)) (hF7 : ∀ u ∈ us, ∀ c ∈ u.classes, c.fields.length ≤ 7) :
    Ret Tryz.prog 47 #[.pointer (some ⟨b, 0, none⟩)] w fun v w' => ∃ a, v = .agg (modcells (modO us O) a).toArray ∧ MdR (fun i => w.heap.size ≤ i ∧ i < w'.heap.size) w' (modO us O) a ∧ Bl w w' := by
  have hI : ∀ u ∈ us, Ixs u := fun u hu => ixs_of (hC u hu)
  obtain ⟨az, cz, hcz, hSz⟩ := h.oz
  obtain ⟨ac, cc, hcc, hSc⟩ := h.oc
  obtain ⟨as', cs', hcs, hSs⟩ := h.os
  obtain ⟨am, cm, hcm, hSm⟩ := h.om
  have hlt := h.lnk.lt
  have hlc := hO.lc
  have hls := hO.ls
  have hlm := hO.lm
  have hlz := hO.lz
  have hkc := hO.kc
  refine entr (vs := [.pointer (some ⟨b, 0, none⟩)]) [0, 2, 3, 5, 7, 8, 10, 11, 12, 13, 14, 16, 28, 29, 30, 31, 61, 62, 63, 64, 101, 102, 103, 104, 117, 159, 174, 175, 176, 177] tabok Tryz.func47 (by kernel_rfl) ?_
  refine al fun b2 w1 k1 => ?_
  refine ld (k1.bl.cl hcz) ?_
  refine bd ?_
  refine al fun b3 w2 k2 => ?_
  refine sta (cs' := mdc none 0 0 none 0 0 none 0 0 O.oz.length) k2.box fun w3 k3 x3 => ?_
  have z1 := k1.size
  have y1 := k1.blk
  have z2 := k2.size
  have y2 := k2.blk
  have z3 := k3.size
  have B3 : Bl w w3 := k1.bl.trans (k2.wr k3)
  have x2 : Box w3 b2 29 (mdc none 0 0 none 0 0 none 0 0 0) := Bl.box (k2.wr k3) k1.box
  refine ld (B3.cl hcc) ?_
  refine lpk (vals := []) O.oc.length 30 [] [(0, .pointer (some ⟨b, 0, none⟩)), (2, .pointer (some ⟨b2, 0, none⟩)), (3, .pointer (some ⟨b3, 0, none⟩)), (28, .slice ac O.oc.length cc), (29, I O.oc.length)]
    (fun j vals w' => vals = [] ∧ Nc b3 w3 w' ∧ ∃ a1 c1, Box w' b3 29 (mdc a1 ((O.oc.take j).map (clsM us O)).length c1 none 0 0 none 0 0 O.oz.length) ∧ OwC eMC (fun i => w3.heap.size ≤ i) w' w3.heap.size 49 a1 c1 ((O.oc.take j).map (clsM us O)))
    ⟨rfl, .of_bl (Bl.refl _), none, 0, x3, OwC.nil ..⟩ ?_
  rintro j vals w4 hj ⟨rfl, N4, a1, c1, x4, O4⟩ ih
  have B4 : Bl w w4 := Nc.below B3 N4 (by omega) B3.size
  have z4 := N4.size
  by_cases hjl : j < O.oc.length
  · refine brT ?_
    obtain ⟨p, bf, off, cs, hp, rfl, _, hAt, rfl⟩ := at_some (hSc.bl B4) hjl
    obtain ⟨⟨n, k, u, c, hcI⟩, hdp, hps, hp0⟩ := hO.oc p (List.mem_of_getElem? hp)
    refine ix ?_
    refine ld (hAt 0 _ rfl) ?_
    have hna : ∀ g, a1 = some ⟨g, 0, none⟩ → w3.heap.size ≤ g := fun g hg => (O4.lt hg).1
    refine dht 1 (fun i => i < w3.heap.size) [0, 1, 2, 3, 4, 5, 6, 7, 8, 9, 12, 13, 15, 16, 10, 11, 14, 17, 18, 19, 20, 21] fun w5 k5 => ?_
    have B5 := B4.trans k5.bl
    have N5 := N4.bl k5.bl
    have x5 := Bl.box k5.bl x4
    refine ld (x5.cell rfl) ?_ (hm := by show b3 < _; omega)
    refine ld (B5.cl hcc) ?_ (hm := by show b < _; omega)
    refine cl (k_super (h.bl B5).lnk hI hcI) ?_
    rintro _ w6 ⟨rfl, B56⟩
    have B6 := B5.trans B56
    refine cl (l_Index (hSc.bl B6) cc _) ?_
    rintro _ w6x ⟨rfl, q6⟩
    rw [q6]
    refine cl (k_fieldTypes hI hF7 (keysM (decl us).classes).length p w6 (by have := hO.kc; omega) (h.bl B6) hdp) ?_ (hm := fun _ _ r => by obtain ⟨_, _, _, _, _, hB⟩ := r; exact mdW_bl hB)
    rintro _ w7 ⟨a7, c7, rfl, O7, hl7, B67⟩
    have B7 := B6.trans B67
    refine cl (k_row (h.bl B7) hC hdp hps hO.oz hp0) ?_ (hm := fun _ _ r => by obtain ⟨_, _, _, _, hB⟩ := r; exact mdW_bl hB)
    rintro _ w8 ⟨a8, c8, rfl, O8, B78⟩
    refine bd ?_
    refine bs (cs := mccells (clsM us O p) a7 c7 a8 c8) fun b9 w9 k9 => ?_
    have B49 := (k5.bl.trans B56).trans ((B67.trans B78).trans k9.bl)
    have B9 := B4.trans B49
    obtain ⟨xs, e1, e3, hOx, e4⟩ := (O4.bl B49).row
    have z5 : w5.heap.size = w4.heap.size := by rw [k5.heap]
    have z56 := B56.size
    have z67 := B67.size
    have z78 := B78.size
    have z9 := k9.size
    have hl9 : ((O.oc.take j).map (clsM us O)).length ≤ 50 := by rw [List.length_map, List.length_take]; omega
    refine ap hOx (.inr ⟨b9, 0, rfl, k9.box.at⟩) (by omega) (fun a10 c10 w10 hO10 hA10 hf10 => ?_) (hm := apS fun g hg => by have := hna g hg; show ¬ g < _; omega)
    have hrel : eMC.rel (fun i => w3.heap.size ≤ i ∧ a1 ≠ some ⟨i, 0, none⟩ ∧ i < w9.heap.size) w9 (mccells (clsM us O p) a7 c7 a8 c8) (clsM us O p) := by
      refine ⟨a7, c7, a8, c8, rfl, ?_, ?_, Nat.le_trans hps (by decide), O7.capn.1⟩
      · exact owp_sl (enc := encTy) ((O7.bl B78).bl k9.bl) (by show (ftL us (decl us) O.oc _ p).length ≤ _; omega) fun g hg => by
          have q1 := O7.lt hg
          exact ⟨by omega, fun e => by have := (O4.lt e).2; omega, by omega⟩
      · exact owp_sl (enc := encInt) (O8.bl k9.bl) (by rw [List.length_map]; omega) fun g hg => by
          have q1 := O8.lt hg
          exact ⟨by omega, fun e => by have := (O4.lt e).2; omega, by omega⟩
    have hO10' := OwC.push e1 e3 e4 hO10 hA10 hf10 hrel
    have x10 := hA10.box (Bl.box B49 x4) fun e => by have := hna _ e; omega
    refine st x10 fun w11 k11 x11 => ?_
    have e5 : (O.oc.take (j + 1)).map (clsM us O) = (O.oc.take j).map (clsM us O) ++ [clsM us O p] := map_snoc hp
    have N10 : Nc b3 w3 w10 := (N4.bl B49).ap hA10 hna
    exact ih hjl ⟨rfl, N10.wr k11 (.inl rfl), a10, c10, by rw [e5, List.length_append]; exact x11, by rw [e5]; exact hO10'.wr k11 (by omega) fun i hi => by omega⟩
  refine brF ?_
  obtain rfl : j = O.oc.length := by omega
  rw [List.take_length] at x4 O4
  have SC4 : Sl eMC (fun i => w3.heap.size ≤ i ∧ i < w4.heap.size) w4 a1 (O.oc.map (clsM us O)) := O4.sl2 (by rw [List.length_map]; omega)
  have x24 := N4.box x2 (by omega)
  clear ih
  -- the statics
  refine ld (B4.cl hcs) ?_
  refine lpk (vals := []) O.os.length 63 [] [(0, .pointer (some ⟨b, 0, none⟩)), (2, .pointer (some ⟨b2, 0, none⟩)), (3, .pointer (some ⟨b3, 0, none⟩)), (61, .slice as' O.os.length cs'), (62, I O.os.length)]
    (fun j vals w' => vals = [] ∧ Nc b3 w4 w' ∧ ∃ a2 c2, Box w' b3 29 (mdc a1 (O.oc.map (clsM us O)).length c1 a2 ((O.os.take j).map (staM us O)).length c2 none 0 0 O.oz.length) ∧ OwP 2 encTy w' w4.heap.size 51 a2 c2 ((O.os.take j).map (staM us O)))
    ⟨rfl, .of_bl (Bl.refl _), none, 0, x4, Ow.nil ..⟩ ?_
  rintro j vals w5 hj ⟨rfl, N5, a2, c2, x5, O5⟩ ih
  have B5 : Bl w w5 := Nc.below B4 N5 (by omega) B4.size
  have z5 := N5.size
  by_cases hjl : j < O.os.length
  · refine brT ?_
    obtain ⟨p, bf, off, cs, hp, rfl, _, hAt, rfl⟩ := at_some (hSs.bl B5) hjl
    obtain ⟨⟨n, k⟩, hg⟩ := mem_keys (hO.os p (List.mem_of_getElem? hp))
    obtain ⟨u, f, hu, hf⟩ := dok.st p _ hg
    have hum := List.mem_of_getElem? hu
    refine ix ?_
    refine ld (hAt 0 _ rfl) ?_
    obtain ⟨m1, h1, hm1⟩ := (h.bl B5).lnk.st
    refine ld h1 ?_
    refine lk tD hm1 ?_
    rw [hg]
    refine al fun b8 w6 k6 => ?_
    refine sta (vs := [I n, I k]) (cs' := [I n, I k]) k6.box fun w7 k7 x7 => ?_
    have hna : ∀ g, a2 = some ⟨g, 0, none⟩ → w4.heap.size ≤ g ∧ g < w5.heap.size := fun g hg => O5.lt hg
    have z6 := k6.size
    have y6 := k6.blk
    have z7 := k7.size
    refine dht 1 (fun i => i < w4.heap.size ∨ i = b8) (List.range 23) fun w8 k8 => ?_
    have z8 : w8.heap.size = w7.heap.size := by rw [k8.heap]
    have B58 := (k6.wr k7).trans k8.bl
    have B8 := B5.trans B58
    have x8 := Bl.box k8.bl x7
    obtain ⟨a, cu, h0, hS⟩ := h.lnk.us
    obtain ⟨b6, o6, cs6, rfl, _, hAt6, ua, rfl, hU⟩ := hS.el n u hu
    obtain ⟨b7, o7, cs7, e7, _, hAt7, rfl⟩ := hU.sta.el k f hf
    have hn : n < us.length := (List.getElem?_eq_some_iff.1 hu).1
    have hk : k < u.statics.length := (List.getElem?_eq_some_iff.1 hf).1
    have hb6 : b6 < w.heap.size := cell_lt (hAt6 3 _ rfl)
    have hb7 : b7 < w.heap.size := cell_lt (hAt7 0 _ rfl)
    have sB := B3.size
    refine ld ((Bl.box B58 x5).cell rfl) ?_ (hm := by exact .inl (by omega))
    refine ld (x8.cell rfl) ?_ (hm := by exact .inr rfl)
    refine ld (B8.cl h0) ?_ (hm := by exact .inl (by omega))
    refine ld (x8.cell rfl) ?_ (hm := by exact .inr rfl)
    refine ix ?_
    refine ld ((hAt6.bl B8) 3 _ rfl) ?_ (hm := by exact .inl (by omega))
    refine ld (x8.cell rfl) ?_ (hm := by exact .inr rfl)
    rw [e7]
    refine ix ?_
    refine lda ((hAt7.bl B8).sub 1 2) ?_ (hm := by exact .inl (by omega))
    refine cl (k_kind (h.bl B8) hu ((hI u hum).sty f (List.mem_of_getElem? hf))) ?_
    rintro _ w9 ⟨rfl, B89⟩
    refine bs (cs := encTy (kindM O.oc u f.ty)) fun b10 w10 k10 => ?_
    have B510 := (B58.trans B89).trans k10.bl
    have O10 := O5.bl B510
    have z10 := B510.size
    have y10 := k10.blk
    have s9 := B89.size
    have hl : ((O.os.take j).map (staM us O)).length ≤ 50 := by rw [List.length_map, List.length_take]; omega
    have e1 : (O.os.take (j + 1)).map (staM us O) = (O.os.take j).map (staM us O) ++ [kindM O.oc u f.ty] := by rw [map_snoc hp, staM_at hg hu hf]
    refine apl (l1 := [kindM O.oc u f.ty]) O10 (.inr ⟨b10, 0, rfl, k10.box.at⟩) (by omega) (fun a11 c11 w11 hO11 hA11 _ => ?_) (hb := by simp only [List.length_cons, List.length_nil]; omega) (hn := by simp only [List.length_cons, List.length_nil]; omega) (hm := apS fun g hg q => by have := hna g hg; rcases q with q | q <;> omega)
    have x11 := hA11.box (Bl.box B510 x5) fun e => by have := hna _ e; omega
    refine st x11 fun w12 k12 x12 => ?_
    have N11 : Nc b3 w4 w11 := (N5.bl B510).ap hA11 fun g hg => (hna g hg).1
    exact ih hjl ⟨rfl, N11.wr k12 (.inl rfl), a11, c11, by rw [e1]; exact x12, by rw [e1]; exact hO11.wr k12 fun g hg => by have := (hO11.lt hg).1; omega⟩
  refine brF ?_
  obtain rfl : j = O.os.length := by omega
  rw [List.take_length] at x5 O5
  have SC5 := SC4.kp (N5.nb.kp.sub fun i hi => by omega)
  have SS5 : Sl eTy (fun i => w3.heap.size ≤ i ∧ i < w5.heap.size) w5 a2 (O.os.map (staM us O)) := owp_sl O5 (by rw [List.length_map]; omega) fun g hg => by have := O5.lt hg; omega
  have x25 := N5.box x24 (by omega)
  clear ih
  -- the methods
  refine ld (B5.cl hcm) ?_
  refine lpk (vals := []) O.om.length 103 [] [(0, .pointer (some ⟨b, 0, none⟩)), (2, .pointer (some ⟨b2, 0, none⟩)), (3, .pointer (some ⟨b3, 0, none⟩)), (101, .slice am O.om.length cm), (102, I O.om.length)]
    (fun j vals w' => vals = [] ∧ Nc b3 w5 w' ∧ ∃ a3 c3, Box w' b3 29 (mdc a1 (O.oc.map (clsM us O)).length c1 a2 (O.os.map (staM us O)).length c2 a3 ((O.om.take j).map (mthM us O)).length c3 O.oz.length) ∧ OwC eMM (fun i => w5.heap.size ≤ i) w' w5.heap.size 54 a3 c3 ((O.om.take j).map (mthM us O)))
    ⟨rfl, .of_bl (Bl.refl _), none, 0, x5, OwC.nil ..⟩ ?_
  rintro j vals w6 hj ⟨rfl, N6, a3, c3, x6, O6⟩ ih
  have B6 : Bl w w6 := Nc.below B5 N6 (by omega) B5.size
  have z6 := N6.size
  have sB := B3.size
  by_cases hjl : j < O.om.length
  · refine brT ?_
    obtain ⟨p, bf, off, cs, hp, rfl, _, hAt, rfl⟩ := at_some (hSm.bl B6) hjl
    obtain ⟨n, k, u, m, hm⟩ := mthI_of dok (hO.om p (List.mem_of_getElem? hp))
    have hum := List.mem_of_getElem? hm.hu
    have hmm := List.mem_of_getElem? hm.hm
    have hg := hm.g
    unfold mthD at hg
    have hna : ∀ g, a3 = some ⟨g, 0, none⟩ → w5.heap.size ≤ g ∧ g < w6.heap.size := fun g hg => O6.lt hg
    refine ix ?_
    refine ld (hAt 0 _ rfl) ?_
    obtain ⟨m1, h1, hm1⟩ := (h.bl B6).lnk.ca
    refine ld h1 ?_
    refine lko tD hm1 ?_
    rw [getD_enc]
    refine al fun b11 w7 k7 => ?_
    refine sta k7.box fun w8 k8 x8 => ?_
    have B68 := k7.wr k8
    have y7 := k7.blk
    have z7 := k7.size
    have z8 := k8.size
    refine jn [] [(0, .pointer (some ⟨b, 0, none⟩)), (2, .pointer (some ⟨b2, 0, none⟩)), (3, .pointer (some ⟨b3, 0, none⟩)), (101, .slice (some ⟨bf, off, none⟩) O.om.length cm), (102, I O.om.length), (103, I j), (10, .string p), (11, .pointer (some ⟨b11, 0, none⟩))] (fun vals w' => vals = [] ∧ Box w' b11 151 [I n, I k] ∧ Bl w6 w') (fun q jo => ?_) (fun q jo => ?_) ?_
    · have hn : getM (decl us).calls p = none := by
        simp only [hasM, Bool.not_eq_true'] at q
        cases hc : getM (decl us).calls p with
        | none => rfl
        | some d => rw [hc] at q; cases q
      have hg2 : getM (decl us).sends p = some (n, k) := by rw [hn] at hg; exact hg
      obtain ⟨m2, h2, hm2⟩ := (h.bl (B6.trans B68)).lnk.se
      refine ld h2 ?_
      refine lk tD hm2 ?_
      rw [hg2]
      refine sta (vs := [I n, I k]) (cs' := [I n, I k]) x8 fun w9 k9 x9 => ?_
      exact jo ⟨rfl, x9, Below.trans B68 (k9.below (Nat.le_of_eq k7.blk.symm))⟩
    · simp only [hasM, Bool.not_eq_false'] at q
      obtain ⟨d, hd⟩ := Option.isSome_iff_exists.1 q
      have hd2 : d = (n, k) := by rw [hd] at hg; exact Option.some.inj hg
      rw [hd, hd2] at x8
      exact jo ⟨rfl, x8, B68⟩
    clear x8 k8 B68 z8 k7 z7
    rintro _ w8 ⟨rfl, x8, B68⟩
    have z8 := B68.size
    have l8 := x8.lt
    obtain ⟨a, cu, h0, hS⟩ := h.lnk.us
    obtain ⟨b6, o6, cs6, rfl, _, hAt6, ua, rfl, hU⟩ := hS.el n u hm.hu
    obtain ⟨b7, o7, cs7, e7, _, hAt7, p1, d1, p2, d2, p3, d3, rfl, hF1, hF2, hF3⟩ := hU.mth.el k m hm.hm
    have hn : n < us.length := (List.getElem?_eq_some_iff.1 hm.hu).1
    have hk : k < u.methods.length := (List.getElem?_eq_some_iff.1 hm.hm).1
    have hb6 : b6 < w.heap.size := cell_lt (hAt6 4 _ rfl)
    have hb7 : b7 < w.heap.size := cell_lt (hAt7 0 _ rfl)
    have sB6 := B6.size
    have hcl : 0 ≤ m.cls → inP u m.cls := fun q => ((hI u hum).plc.mc m hmm).resolve_left (by omega)
    refine dh (· < w8.heap.size) (List.range 15) fun w9 k9 => ?_
    have B69 := B68.trans k9.bl
    have z9 : w9.heap.size = w8.heap.size := by rw [k9.heap]
    have B9 := B6.trans B69
    have x9 := Bl.box k9.bl x8
    refine ld (B9.cl h0) ?_ (hm := by show b < _; omega)
    refine ld (x9.cell rfl) ?_ (hm := by show b11 < _; omega)
    refine ix ?_
    refine ld ((hAt6.bl B9) 4 _ rfl) ?_ (hm := by show b6 < _; omega)
    refine ld (x9.cell rfl) ?_ (hm := by show b11 < _; omega)
    rw [e7]
    refine ix ?_
    refine lda (hAt7.bl B9) ?_ (hm := by show b7 < _; omega)
    refine al fun b13 w10 k10 => ?_
    have y10 := k10.blk
    have z10 := k10.size
    refine sta k10.box (fun w11 k11 x11 => ?_) (hm := wrS (by show ¬ b13 < _; omega))
    have z11 := k11.size
    have B611 : Bl w6 w11 := B69.trans (k10.wr k11)
    have B11 := B6.trans B611
    have d11 := Bl.box (k10.wr k11) x9
    refine cut [14] [(0, .pointer (some ⟨b, 0, none⟩)), (2, .pointer (some ⟨b2, 0, none⟩)), (3, .pointer (some ⟨b3, 0, none⟩)), (101, .slice (some ⟨bf, off, none⟩) O.om.length cm), (102, I O.om.length), (103, I j), (10, .string p), (11, .pointer (some ⟨b11, 0, none⟩)), (13, .pointer (some ⟨b13, 0, none⟩))]
      (fun vals w' => ∃ b14 a5 c5 a6 c6, vals = [.pointer (some ⟨b14, 0, none⟩)] ∧ w11.heap.size ≤ b14 ∧ Bl w11 w' ∧ Box w' b14 54 (mmcells ⟨p, -1, m.params.map (kindM O.oc u), m.locals.map (kindM O.oc u), kindM O.oc u m.result, []⟩ a5 c5 a6 c6 none 0) ∧
        Sl eTy (fun i => w11.heap.size ≤ i ∧ i < w'.heap.size ∧ i ≠ b14) w' a5 (m.params.map (kindM O.oc u)) ∧ Sl eTy (fun i => w11.heap.size ≤ i ∧ i < w'.heap.size ∧ i ≠ b14) w' a6 (m.locals.map (kindM O.oc u))) (fun jo => ?_) ?_
    · refine dhb (· < w11.heap.size) (.row [0, 1, 2, 3, 4, 5, 7, 8, 9, 10, 11, 13, 14, 15, 16, 17] (.two 6 (.two 12 (.two 18 (.row [19, 20, 21] .done) 20 (.row [18, 19, 21] .done)) 20 (.row [12, 18, 19, 21] .done)) 20 (.row [6, 12, 18, 19, 21] .done))) fun w12 k12 => ?_
      have hIu := hI u hum
      have hty1 : ∀ t ∈ m.params, optP u t.cls := fun t ht => hIu.mty m hmm t (List.mem_append_left _ (List.mem_append_left _ ht))
      have hty2 : ∀ t ∈ m.locals, optP u t.cls := fun t ht => hIu.mty m hmm t (List.mem_append_left _ (List.mem_append_right _ ht))
      have hty3 : optP u m.result.cls := hIu.mty m hmm _ (List.mem_append_right _ (List.mem_singleton.2 rfl))
      have g1 := hF1.big
      have g2 := hF2.big
      have l11 := x11.lt
      have B1_12 := k12.bl
      have s12 : w12.heap.size = w11.heap.size := by rw [k12.heap]
      have d12 := Bl.box k12.bl d11
      have x12 := Bl.box k12.bl x11
      refine ld (d12.cell rfl) ?_ (hm := by show b11 < _; omega)
      refine ld (x12.cell rfl) ?_ (hm := by show b13 < _; omega)
      refine ld (d12.cell rfl) ?_ (hm := by show b11 < _; omega)
      refine ld (x12.cell rfl) ?_ (hm := by show b13 < _; omega)
      refine ld (d12.cell rfl) ?_ (hm := by show b11 < _; omega)
      refine lda (x12.at.sub 4 2) ?_ (hm := by show b13 < _; omega)
      -- ORDERS
      refine bt ?_ ?_
      · refine cl (k_kinds (h.bl (B11.trans B1_12)) hm.hu ((hF1.bl (B11.trans B1_12)).sub fun _ _ => trivial) hty1) ?_ (hm := fun _ _ r => by obtain ⟨_, _, _, _, hB⟩ := r; exact mdW_bl hB)
        rintro _ v13 ⟨a5, c5, rfl, O5_13, q13⟩
        have s13 := q13.size
        have l5 := fun g (hg : a5 = some ⟨g, 0, none⟩) => O5_13.lt hg
        have B1_13 := B1_12.trans q13
        refine bt ?_ ?_
        · refine cl (k_kinds (h.bl (B11.trans B1_13)) hm.hu ((hF2.bl (B11.trans B1_13)).sub fun _ _ => trivial) hty2) ?_ (hm := fun _ _ r => by obtain ⟨_, _, _, _, hB⟩ := r; exact mdW_bl hB)
          rintro _ v14 ⟨a6, c6, rfl, O6_14, q14⟩
          have s14 := q14.size
          have l6 := fun g (hg : a6 = some ⟨g, 0, none⟩) => O6_14.lt hg
          have B1_14 := B1_13.trans q14
          have O5_14 := O5_13.bl q14
          refine bt ?_ ?_
          · refine cl (k_kind (h.bl (B11.trans B1_14)) hm.hu hty3) ?_
            rintro _ v15 ⟨rfl, q15⟩
            have s15 := q15.size
            have B1_15 := B1_14.trans q15
            have O5_15 := O5_14.bl q15
            have O6_15 := O6_14.bl q15
            refine bd ?_
            refine al fun b14 v16 k16 => ?_
            have q16 := k16.bl
            have s16 := k16.size
            have y14 := k16.blk
            have B1_16 := B1_15.trans q16
            have x_16 : Box v16 b14 54 _ := k16.box
            have O5_16 := O5_15.bl q16
            have O6_16 := O6_15.bl q16
            refine sta (cs' := (mmcells ⟨p, -1, m.params.map (kindM O.oc u), m.locals.map (kindM O.oc u), kindM O.oc u m.result, []⟩ a5 c5 a6 c6 none 0)) x_16 (fun wz kz xz => ?_) (hm := wrB (by show ¬ b14 < _; omega))
            have sz := kz.size
            refine jo ⟨b14, a5, c5, a6, c6, rfl, by omega, Below.trans B1_16 (kz.below (by omega)), xz, ?_, ?_⟩
            · exact owp_sl (O5_16.wr kz fun g hg => by have := l5 g hg; omega) (by rw [List.length_map]; omega) fun g hg => by have := l5 g hg; exact ⟨by omega, by omega, by omega⟩
            · exact owp_sl (O6_16.wr kz fun g hg => by have := l6 g hg; omega) (by rw [List.length_map]; omega) fun g hg => by have := l6 g hg; exact ⟨by omega, by omega, by omega⟩
          · refine al fun b14 v15 k15 => ?_
            have q15 := k15.bl
            have s15 := k15.size
            have y14 := k15.blk
            have B1_15 := B1_14.trans q15
            have x_15 : Box v15 b14 54 _ := k15.box
            have O5_15 := O5_14.bl q15
            have O6_15 := O6_14.bl q15
            refine cl (k_kind (h.bl (B11.trans B1_15)) hm.hu hty3) ?_
            rintro _ v16 ⟨rfl, q16⟩
            have s16 := q16.size
            have B1_16 := B1_15.trans q16
            have O5_16 := O5_15.bl q16
            have O6_16 := O6_15.bl q16
            have x_16 := Bl.box q16 x_15
            refine bd ?_
            refine sta (cs' := (mmcells ⟨p, -1, m.params.map (kindM O.oc u), m.locals.map (kindM O.oc u), kindM O.oc u m.result, []⟩ a5 c5 a6 c6 none 0)) x_16 (fun wz kz xz => ?_) (hm := wrB (by show ¬ b14 < _; omega))
            have sz := kz.size
            refine jo ⟨b14, a5, c5, a6, c6, rfl, by omega, Below.trans B1_16 (kz.below (by omega)), xz, ?_, ?_⟩
            · exact owp_sl (O5_16.wr kz fun g hg => by have := l5 g hg; omega) (by rw [List.length_map]; omega) fun g hg => by have := l5 g hg; exact ⟨by omega, by omega, by omega⟩
            · exact owp_sl (O6_16.wr kz fun g hg => by have := l6 g hg; omega) (by rw [List.length_map]; omega) fun g hg => by have := l6 g hg; exact ⟨by omega, by omega, by omega⟩
        · refine al fun b14 v14 k14 => ?_
          have q14 := k14.bl
          have s14 := k14.size
          have y14 := k14.blk
          have B1_14 := B1_13.trans q14
          have x_14 : Box v14 b14 54 _ := k14.box
          have O5_14 := O5_13.bl q14
          refine cl (k_kinds (h.bl (B11.trans B1_14)) hm.hu ((hF2.bl (B11.trans B1_14)).sub fun _ _ => trivial) hty2) ?_ (hm := fun _ _ r => by obtain ⟨_, _, _, _, hB⟩ := r; exact mdW_bl hB)
          rintro _ v15 ⟨a6, c6, rfl, O6_15, q15⟩
          have s15 := q15.size
          have l6 := fun g (hg : a6 = some ⟨g, 0, none⟩) => O6_15.lt hg
          have B1_15 := B1_14.trans q15
          have O5_15 := O5_14.bl q15
          have x_15 := Bl.box q15 x_14
          refine cl (k_kind (h.bl (B11.trans B1_15)) hm.hu hty3) ?_
          rintro _ v16 ⟨rfl, q16⟩
          have s16 := q16.size
          have B1_16 := B1_15.trans q16
          have O5_16 := O5_15.bl q16
          have O6_16 := O6_15.bl q16
          have x_16 := Bl.box q16 x_15
          refine bd ?_
          refine sta (cs' := (mmcells ⟨p, -1, m.params.map (kindM O.oc u), m.locals.map (kindM O.oc u), kindM O.oc u m.result, []⟩ a5 c5 a6 c6 none 0)) x_16 (fun wz kz xz => ?_) (hm := wrB (by show ¬ b14 < _; omega))
          have sz := kz.size
          refine jo ⟨b14, a5, c5, a6, c6, rfl, by omega, Below.trans B1_16 (kz.below (by omega)), xz, ?_, ?_⟩
          · exact owp_sl (O5_16.wr kz fun g hg => by have := l5 g hg; omega) (by rw [List.length_map]; omega) fun g hg => by have := l5 g hg; exact ⟨by omega, by omega, by omega⟩
          · exact owp_sl (O6_16.wr kz fun g hg => by have := l6 g hg; omega) (by rw [List.length_map]; omega) fun g hg => by have := l6 g hg; exact ⟨by omega, by omega, by omega⟩
      · refine al fun b14 v13 k13 => ?_
        have q13 := k13.bl
        have s13 := k13.size
        have y14 := k13.blk
        have B1_13 := B1_12.trans q13
        have x_13 : Box v13 b14 54 _ := k13.box
        refine cl (k_kinds (h.bl (B11.trans B1_13)) hm.hu ((hF1.bl (B11.trans B1_13)).sub fun _ _ => trivial) hty1) ?_ (hm := fun _ _ r => by obtain ⟨_, _, _, _, hB⟩ := r; exact mdW_bl hB)
        rintro _ v14 ⟨a5, c5, rfl, O5_14, q14⟩
        have s14 := q14.size
        have l5 := fun g (hg : a5 = some ⟨g, 0, none⟩) => O5_14.lt hg
        have B1_14 := B1_13.trans q14
        have x_14 := Bl.box q14 x_13
        refine cl (k_kinds (h.bl (B11.trans B1_14)) hm.hu ((hF2.bl (B11.trans B1_14)).sub fun _ _ => trivial) hty2) ?_ (hm := fun _ _ r => by obtain ⟨_, _, _, _, hB⟩ := r; exact mdW_bl hB)
        rintro _ v15 ⟨a6, c6, rfl, O6_15, q15⟩
        have s15 := q15.size
        have l6 := fun g (hg : a6 = some ⟨g, 0, none⟩) => O6_15.lt hg
        have B1_15 := B1_14.trans q15
        have O5_15 := O5_14.bl q15
        have x_15 := Bl.box q15 x_14
        refine cl (k_kind (h.bl (B11.trans B1_15)) hm.hu hty3) ?_
        rintro _ v16 ⟨rfl, q16⟩
        have s16 := q16.size
        have B1_16 := B1_15.trans q16
        have O5_16 := O5_15.bl q16
        have O6_16 := O6_15.bl q16
        have x_16 := Bl.box q16 x_15
        refine bd ?_
        refine sta (cs' := (mmcells ⟨p, -1, m.params.map (kindM O.oc u), m.locals.map (kindM O.oc u), kindM O.oc u m.result, []⟩ a5 c5 a6 c6 none 0)) x_16 (fun wz kz xz => ?_) (hm := wrB (by show ¬ b14 < _; omega))
        have sz := kz.size
        refine jo ⟨b14, a5, c5, a6, c6, rfl, by omega, Below.trans B1_16 (kz.below (by omega)), xz, ?_, ?_⟩
        · exact owp_sl (O5_16.wr kz fun g hg => by have := l5 g hg; omega) (by rw [List.length_map]; omega) fun g hg => by have := l5 g hg; exact ⟨by omega, by omega, by omega⟩
        · exact owp_sl (O6_16.wr kz fun g hg => by have := l6 g hg; omega) (by rw [List.length_map]; omega) fun g hg => by have := l6 g hg; exact ⟨by omega, by omega, by omega⟩
      -- END ORDERS
    rintro _ w12 ⟨b14, a5, c5, a6, c6, rfl, hb14, B1112, x12, S5, S6⟩
    have z12 := B1112.size
    have l12 := x12.lt
    have B612 := B611.trans B1112
    have B12 := B6.trans B612
    have d12 := Bl.box B1112 d11
    have xm12 := Bl.box B1112 x11
    refine ld (xm12.cell rfl) ?_
    refine jn [] [(0, .pointer (some ⟨b, 0, none⟩)), (2, .pointer (some ⟨b2, 0, none⟩)), (3, .pointer (some ⟨b3, 0, none⟩)), (101, .slice (some ⟨bf, off, none⟩) O.om.length cm), (102, I O.om.length), (103, I j), (10, .string p), (11, .pointer (some ⟨b11, 0, none⟩)), (13, .pointer (some ⟨b13, 0, none⟩)), (14, .pointer (some ⟨b14, 0, none⟩))]
      (fun vals w' => vals = [] ∧ Nc b14 w12 w' ∧ Box w' b14 54 (mmcells ⟨p, if 0 ≤ m.cls then idxB O.oc (nm u m.cls) else -1, m.params.map (kindM O.oc u), m.locals.map (kindM O.oc u), kindM O.oc u m.result, []⟩ a5 c5 a6 c6 none 0)) (fun q jo => ?_) (fun q jo => ?_) ?_
    · have q0 : 0 ≤ m.cls := of_decide_eq_true q
      refine dt 1 fun w13 k13 => ?_
      have B13 := B12.trans k13.bl
      refine ld (B13.cl hcc) ?_
      refine ld ((k13.box d12).cell rfl) ?_
      refine ld ((k13.box xm12).cell rfl) ?_
      refine clq (k_path (h.bl B13).lnk hm.hu (hcl q0)) ?_
      refine clq (l_Index (hSc.bl B13) cc _) ?_
      refine st (k13.box x12) fun w14 k14 x14 => ?_
      exact jo ⟨rfl, (Nc.of_bl k13.bl).wr k14 (.inl rfl), by rw [if_pos q0]; exact x14⟩
    · have q0 : ¬ 0 ≤ m.cls := of_decide_eq_false q
      exact jo ⟨rfl, .of_bl (Bl.refl _), by rw [if_neg q0]; exact x12⟩
    rintro _ w13 ⟨rfl, N13, x13⟩
    have z13 := N13.size
    have B13 : Bl w w13 := Nc.below B12 N13 (by omega) B12.size
    have g3 := code_len (hC u hum) hmm
    have xm13 := N13.box xm12 (by omega)
    refine ld (xm13.cell rfl) ?_
    refine lpk (vals := []) m.code.length 176 [] [(0, .pointer (some ⟨b, 0, none⟩)), (2, .pointer (some ⟨b2, 0, none⟩)), (3, .pointer (some ⟨b3, 0, none⟩)), (101, .slice (some ⟨bf, off, none⟩) O.om.length cm), (102, I O.om.length), (103, I j), (10, .string p), (11, .pointer (some ⟨b11, 0, none⟩)), (14, .pointer (some ⟨b14, 0, none⟩)), (174, .slice p3 m.code.length d3), (175, I m.code.length)]
      (fun i vals w' => vals = [] ∧ Nc b14 w13 w' ∧ ∃ a7 c7, Box w' b14 54 [.string p, I (if 0 ≤ m.cls then idxB O.oc (nm u m.cls) else -1), .slice a5 (m.params.map (kindM O.oc u)).length c5, .slice a6 (m.locals.map (kindM O.oc u)).length c6, I (kindM O.oc u m.result).kind, I (kindM O.oc u m.result).cls, .slice a7 ((m.code.take i).map (instM us O u)).length c7] ∧ OwP 3 encIns w' w13.heap.size 120 a7 c7 ((m.code.take i).map (instM us O u)))
      ⟨rfl, .of_bl (Bl.refl _), none, 0, x13, Ow.nil ..⟩ ?_
    rintro i vals w14 hi ⟨rfl, N14, a7, c7, x14, O14⟩ ih2
    have z14 := N14.size
    have B14 : Bl w w14 := Nc.below B13 N14 (by omega) B13.size
    have N1214 := N13.trans N14
    have d14 := N1214.box d12 (by omega)
    by_cases hil : i < m.code.length
    · refine brT ?_
      obtain ⟨ins, bg, og, csg, hin, rfl, _, hAtg, rfl⟩ := at_some (hF3.bl B14) hil
      have him := List.mem_of_getElem? hin
      have hIu := hI u hum
      have l7 := fun g (hg : a7 = some ⟨g, 0, none⟩) => O14.lt hg
      refine ix ?_
      refine lda hAtg ?_
      refine al fun b16 w15 k15 => ?_
      refine sta k15.box fun w16 k16 x16 => ?_
      have y15 := k15.blk
      have z15 := k15.size
      have z16 := k16.size
      have lx14 := x14.lt
      refine dht 1 (fun i => i < w13.heap.size ∨ i = b16) (List.range 10) fun w17 k17 => ?_
      have B1417 := (k15.wr k16).trans k17.bl
      have B17 := B14.trans B1417
      have z17 : w17.heap.size = w16.heap.size := by rw [k17.heap]
      have ld11 := d12.lt
      refine ld ((Bl.box B1417 x14).cell rfl) ?_ (hm := by exact .inl (by omega))
      refine ld ((Bl.box B1417 d14).cell rfl) ?_ (hm := by exact .inl (by omega))
      refine lda (Bl.box k17.bl x16).at ?_ (hm := by exact .inr rfl)
      refine cl (k_instr (h.bl B17) hm.hu (hIu.opa m hmm ins him) (hIu.opb m hmm ins him) (fld_dot (hC u hum) hmm him)) ?_
      rintro _ w18 ⟨rfl, B1718⟩
      refine bs (cs := encIns (instM us O u ins)) fun b19 w19 k19 => ?_
      have B1419 := (B1417.trans B1718).trans k19.bl
      have z18 := B1718.size
      have z19 := k19.size
      have y19 := k19.blk
      have e1 : (m.code.take (i + 1)).map (instM us O u) = (m.code.take i).map (instM us O u) ++ [instM us O u ins] := map_snoc hin
      have hl : ((m.code.take i).map (instM us O u)).length ≤ 120 := by rw [List.length_map, List.length_take]; omega
      refine apl (l1 := [instM us O u ins]) (O14.bl B1419) (.inr ⟨b19, 0, rfl, k19.box.at⟩) (by omega) (fun a20 c20 w20 O20 A20 _ => ?_) (hb := by simp only [List.length_cons, List.length_nil]; omega) (hn := by simp only [List.length_cons, List.length_nil]; omega) (hm := apS fun g hg q => by have := l7 g hg; rcases q with q | q <;> omega)
      have x20 := A20.box (Bl.box B1419 x14) fun e => by have := l7 _ e; omega
      refine st x20 fun w21 k21 x21 => ?_
      have N20 : Nc b14 w13 w20 := (N14.bl B1419).ap A20 fun g hg => (l7 g hg).1
      exact ih2 hil ⟨rfl, N20.wr k21 (.inl rfl), a20, c20, by rw [e1]; exact x21, by rw [e1]; exact O20.wr k21 fun g hg => by have := (O20.lt hg).1; omega⟩
    refine brF ?_
    obtain rfl : i = m.code.length := by omega
    rw [List.take_length] at x14 O14
    clear ih2
    have N614 : Nc b14 w6 w14 := (Nc.of_bl B612).trans N1214
    have x614 := N614.box x6 (by have := x6.lt; omega)
    refine ld (x614.cell rfl) ?_
    refine lda x14.at ?_
    refine bs (cs := mmcells (mthM us O p) a5 c5 a6 c6 a7 c7) (fun b15 w15 k15 => ?_) (hcs := by rw [mthM_at hm]; rfl)
    have y15 := k15.blk
    have z15 := k15.size
    have B614 : Bl w6 w14 := Nc.below B612 N1214 (by omega) B612.size
    have B615 : Bl w6 w15 := B614.trans k15.bl
    obtain ⟨xs, e1, e3, hOx, e4⟩ := (O6.bl B615).row
    have hl9 : ((O.om.take j).map (mthM us O)).length ≤ 80 := by rw [List.length_map, List.length_take]; omega
    refine ap hOx (.inr ⟨b15, 0, rfl, k15.box.at⟩) (by omega) (fun a16 c16 w16 hO16 hA16 hf16 => ?_)
    have hrel : eMM.rel (fun i => w5.heap.size ≤ i ∧ a3 ≠ some ⟨i, 0, none⟩ ∧ i < w15.heap.size) w15 (mmcells (mthM us O p) a5 c5 a6 c6 a7 c7) (mthM us O p) := by
      have hps : p.size ≤ 200 := hO.zm p (List.mem_of_getElem? hp)
      rw [mthM_at hm]
      refine ⟨a5, c5, a6, c6, a7, c7, rfl, ?_, ?_, ?_, Nat.le_trans hps (by decide)⟩
      · exact ((S5.kp (N1214.nb.kp.sub fun i hi => hi.2.2)).bl k15.bl).sub fun i hi => ⟨by omega, fun e => by have := hna _ e; omega, by omega⟩
      · exact ((S6.kp (N1214.nb.kp.sub fun i hi => hi.2.2)).bl k15.bl).sub fun i hi => ⟨by omega, fun e => by have := hna _ e; omega, by omega⟩
      · exact owp_sl (O14.bl k15.bl) (by rw [List.length_map]; omega) fun g hg => by
          have q1 := O14.lt hg
          exact ⟨by omega, fun e => by have := hna _ e; omega, by omega⟩
    have hO16' := OwC.push e1 e3 e4 hO16 hA16 hf16 hrel
    have x16 := hA16.box (Bl.box k15.bl x614) fun e => by have := hna _ e; omega
    refine st x16 fun w17 k17 x17 => ?_
    have e5 : (O.om.take (j + 1)).map (mthM us O) = (O.om.take j).map (mthM us O) ++ [mthM us O p] := map_snoc hp
    have N16 : Nc b3 w5 w16 := (N6.bl B615).ap hA16 fun g hg => (hna g hg).1
    exact ih hjl ⟨rfl, N16.wr k17 (.inl rfl), a16, c16, by rw [e5, List.length_append]; exact x17, by rw [e5]; exact hO16'.wr k17 (by omega) fun i hi => by omega⟩
  refine brF ?_
  obtain rfl : j = O.om.length := by omega
  rw [List.take_length] at x6 O6
  have SC6 := SC5.kp (N6.nb.kp.sub fun i hi => by omega)
  have SS6 := SS5.kp (N6.nb.kp.sub fun i hi => by omega)
  have SM6 : Sl eMM (fun i => w5.heap.size ≤ i ∧ i < w6.heap.size) w6 a3 (O.om.map (mthM us O)) := O6.sl2 (by rw [List.length_map]; omega)
  have x26 := N6.box x25 (by omega)
  refine lda x6.at ?_
  refine sta (cs' := mdc a1 (O.oc.map (clsM us O)).length c1 a2 (O.os.map (staM us O)).length c2 a3 (O.om.map (mthM us O)).length c3 O.oz.length) x26 fun w7 k7 x7 => ?_
  have z7 := k7.size
  refine rtc (cs := mdc a1 (O.oc.map (clsM us O)).length c1 a2 (O.os.map (staM us O)).length c2 a3 (O.om.map (mthM us O)).length c3 O.oz.length) x7.at ⟨⟨a1, c1, a2, c2, a3, c3⟩, rfl, ⟨?_, ?_, ?_⟩, Below.trans B6 (k7.below (by omega))⟩
  · exact (SC6.kp (k7.kp fun i hi => by omega)).sub fun i hi => by omega
  · exact (SS6.kp (k7.kp fun i hi => by omega)).sub fun i hi => by omega
  · exact (SM6.kp (k7.kp fun i hi => by omega)).sub fun i hi => by omega
end Go.Proofs.YtkmdfjpafkcleaaGreatDoor

/- Walks: link.Link. -/
namespace Go.Proofs.YtkmdfjpafkcleaaGreatDoor
open Eng Go.RowKit
variable {w w' : World} {b : Nat} {us : List Unt} {O : Ords}
theorem cls_ne (us : List Unt) : ∀ p ∈ (decl us).classes, 0 < p.1.size := by
  have put : ∀ {D : Dcl} {p : ByteArray} {v : Nat × Nat}, (∀ q ∈ D.classes, 0 < q.1.size) → 0 < p.size → ∀ q ∈ putM D.classes p v, 0 < q.1.size := fun h hp q hq => by
    rcases putM_in hq with rfl | hq
    · exact hp
    · exact h q hq
  refine foldI_ind (f := dUnt) (l := us) (fun _ D => ∀ p ∈ D.classes, 0 < p.1.size) (fun _ h => by cases h) fun n u D _ h => ?_
  have h1 := foldI_ind (f := dCls u n) (l := u.classes) (fun _ D => ∀ p ∈ D.classes, 0 < p.1.size) h fun k x D _ h => by
    unfold dCls
    obtain ⟨f, hf⟩ := dfld_fold u (dots u.name (nm u x.name)) x.fields { D with classes := putM D.classes (dots u.name (nm u x.name)) (n, k) }
    rw [hf]
    exact put h (by rw [dots_sz]; omega)
  have h2 := foldI_ind (f := dSta u n) (l := u.statics) (fun _ D => ∀ p ∈ D.classes, 0 < p.1.size) h1 fun k x D _ h => h
  exact foldI_ind (f := dMth u n) (l := u.methods) (fun _ D => ∀ p ∈ D.classes, 0 < p.1.size) h2 fun k x D _ h => by
    unfold dMth
    split <;> exact h
theorem keys_in {α : Type} {m : Mp α} {k : ByteArray} (h : k ∈ keysM m) : ∃ v, (k, v) ∈ m := by
  obtain ⟨v, hv⟩ := mem_keys h
  exact ⟨v, getM_in hv⟩
/-- what holds of units that link accepts -/
structure RunK (us : List Unt) : Prop where
  ck : ∀ u ∈ us, CkU u
  n5 : us.length ≤ 5
  du : dup (us.map fun u : Unt => u.name) = false
  df : definedL us (decl us) = true
  oc : ordC us = some (ordsL us).oc
  om : ordM us = some (ordsL us).om
  bg : bigD (decl us) = false
  ly : ((ordsL us).oc.any fun p => decide (7 < (lay us p).length)) = false
  dl : ((ordsL us).oc.any fun p => dup (lay us p)) = false
  un : unlikeL us (decl us) = false
theorem runK_of (h : runE us = 0) : RunK us := by
  unfold runE at h
  split at h
  · cases h
  rename_i h5
  split at h
  · rename_i h1; exact absurd h h1
  rename_i h1
  split at h
  · cases h
  rename_i h2
  split at h
  · cases h
  rename_i h3
  split at h
  · cases h
  rename_i oc hoc
  split at h
  · cases h
  rename_i h4
  split at h
  · cases h
  rename_i h6
  split at h
  · cases h
  rename_i h7
  split at h
  · cases h
  rename_i h8
  split at h
  · cases h
  rename_i om hom
  have e1 : (ordsL us).oc = oc := by unfold ordsL; rw [hoc]; rfl
  have e2 : (ordsL us).om = om := by unfold ordsL; rw [hom]; rfl
  refine ⟨fun u hu => (ckU_iff u).1 (chk_all (Classical.not_not.1 h1) u hu), by omega, ?_, ?_, by rw [e1]; exact hoc, by rw [e2]; exact hom, ?_, ?_, ?_, ?_⟩
  · simpa using h2
  · simpa using h3
  · simpa using h4
  · rw [e1]; simpa using h6
  · rw [e1]; simpa using h7
  · simpa using h8
theorem RunK.f7 (h : RunK us) : ∀ u ∈ us, ∀ c ∈ u.classes, c.fields.length ≤ 7 := fun u hu => (lim_of (h.ck u hu).lim).flds
theorem RunK.ook (h : RunK us) : OOk us (ordsL us) := by
  have dok := dok_decl h.ck
  have n5 := h.n5
  have hpc := orderL_perm (show orderL (neeC us (decl us)) (keysM (decl us).classes) = some (ordsL us).oc from h.oc)
  have hpm := orderL_perm (show orderL (calL us (decl us)) (keysM (decl us).calls ++ keysM (decl us).sends) = some (ordsL us).om from h.om)
  have kl : ∀ {α : Type} (m : Mp α), (keysM m).length = m.length := fun m => by unfold keysM; rw [List.length_map]
  have lc := dok.lc
  have ls := dok.ls
  have lm := dok.lm
  have ln := dok.ln
  have hkl : (keysM (decl us).classes).length = (ordsL us).oc.length := hpc.length_eq.symm
  refine ⟨fun p hp => ?_, fun p hp => ?_, fun p hp => hpm.mem_iff.1 hp, fun p hp => ?_, fun p hp => ?_, by rw [kl]; omega, by rw [hpc.length_eq, kl]; omega, ?_, by rw [hpm.length_eq, List.length_append, kl, kl]; omega, ?_⟩
  · have hk := hpc.mem_iff.1 hp
    obtain ⟨v, hv⟩ := keys_in hk
    obtain ⟨i, hi⟩ := List.mem_iff_getElem?.1 hp
    have hil : i < (ordsL us).oc.length := (List.getElem?_eq_some_iff.1 hi).1
    refine ⟨clsI_of dok hk, deep_le (deep_of (fun q hq => clsI_of dok (hpc.mem_iff.1 hq)) (orderL_placed h.oc) i p hi) (by omega), dok.zc _ hv, fun e => ?_⟩
    have := cls_ne us _ hv
    simp only [e] at this
    exact absurd this (by decide)
  · exact (sortL_perm' _).mem_iff.1 hp
  · have hk := (sortL_perm' _).mem_iff.1 hp
    obtain ⟨v, hv⟩ := keys_in hk
    exact dok.zn _ hv
  · rcases List.mem_append.1 (hpm.mem_iff.1 hp) with q | q
    · obtain ⟨v, hv⟩ := keys_in q; exact dok.za _ hv
    · obtain ⟨v, hv⟩ := keys_in q; exact dok.ze _ hv
  · show (sortL _).length ≤ _
    rw [(sortL_perm' _).length_eq, kl]; omega
  · show (sortL _).length ≤ _
    rw [(sortL_perm' _).length_eq, kl]; omega
theorem k_Link {au : Option Addr} {cu : Nat} (hS : Sl eUnt (· < w.heap.size) w au us) (hG : Gl w) :
    Ret Tryz.prog 14 #[.slice au us.length cu] w fun v w' => ∃ a, v = .tuple #[.agg (modcells (modL us) a).toArray, I (runE us)] ∧ MdR (fun i => w.heap.size ≤ i ∧ i < w'.heap.size) w' (modL us) a ∧ Bl w w' := by
  refine entr (vs := [.slice au us.length cu]) [0, 2, 3, 4, 5, 12] tabok Tryz.func14 (by kernel_rfl) ?_
  refine al fun b2 w1 k1 => ?_
  refine bd ?_
  refine bx (cs := lcells (.slice au us.length cu) (.map none) (.map none) (.map none) (.map none) (.map none) (.map none) nilS nilS nilS nilS (.map none)) fun b8 w2 k2 => ?_
  have y1 := k1.blk
  have z1 := k1.size
  have y2 := k2.blk
  have z2 := k2.size
  have B2 := k1.bl.trans k2.bl
  have x2 := Bl.box k2.bl k1.box
  refine cl (k_run k2.box ((hS.bl B2).sub fun i hi => by omega) (hG.bl B2)) ?_
  rintro _ w3 ⟨rfl, N3, hR⟩
  have z3 := N3.size
  have B3 : Bl w w3 := Nc.below B2 N3 (by omega) B2.size
  have x3 := N3.box x2 (by omega)
  by_cases h0 : runE us = 0
  · refine brf ?_ (hp := by simp [h0])
    have K := runK_of h0
    refine cl (k_module (hR h0).o K.ck K.ook (dok_decl K.ck) K.f7) ?_
    rintro _ w4 ⟨a, rfl, M4, B34⟩
    have e : modL us = modO us (ordsL us) := by unfold modL; rw [if_pos h0]
    rw [e, h0]
    have z4 := B34.size
    refine sta (cs' := modcells (modO us (ordsL us)) a) (Bl.box B34 x3) fun w5 k5 x5 => ?_
    have z5 := k5.size
    refine rtc2 (cs := modcells (modO us (ordsL us)) a) x5.at ⟨a, rfl, (M4.kp (k5.kp fun i hi => by omega)).sub fun i hi => by omega, Below.trans (B3.trans B34) (k5.below (by omega))⟩
  · refine brT ?_ (hp := h0)
    have e : modL us = mod0 := by unfold modL; rw [if_neg h0]
    rw [e]
    refine bd ?_
    refine sta (cs' := modcells mod0 ⟨none, 0, none, 0, none, 0⟩) x3 fun w5 k5 x5 => ?_
    refine rtc2 (cs := modcells mod0 ⟨none, 0, none, 0, none, 0⟩) x5.at ⟨⟨none, 0, none, 0, none, 0⟩, rfl, ⟨Sl.nil .., Sl.nil .., Sl.nil ..⟩, Below.trans B3 (k5.below (by omega))⟩
end Go.Proofs.YtkmdfjpafkcleaaGreatDoor

/- Walks: the law's sanity test, its weight of units. -/
namespace Go.Proofs.YtkmdfjpafkcleaaGreatDoor
open Eng Go.RowKit
def una : Unt := ⟨⟨#[97]⟩, [⟨#[112]⟩, ⟨#[120]⟩], [⟨0, -1, [⟨1, ⟨1, -1⟩⟩]⟩], [], []⟩
def unb : Unt := ⟨⟨#[98]⟩, [⟨#[113]⟩, ⟨#[97, 46, 112]⟩], [⟨0, 1, []⟩], [], []⟩
theorem un_keys : keysM (decl [unb, una]).classes = [⟨#[98, 46, 113]⟩, ⟨#[97, 46, 112]⟩] := by kernel_rfl
theorem un_sort : sortL [(⟨#[98, 46, 113]⟩ : ByteArray), ⟨#[97, 46, 112]⟩] = [⟨#[97, 46, 112]⟩, ⟨#[98, 46, 113]⟩] := by
  have e : ([[98, 46, 113], [97, 46, 112]] : List (List UInt8)).mergeSort (fun x y => decide (x ≤ y)) = [[97, 46, 112], [98, 46, 113]] := by
    simp [List.mergeSort, List.MergeSort.Internal.splitInTwo, List.merge]
    decide
  show (([[98, 46, 113], [97, 46, 112]] : List (List UInt8)).mergeSort (fun x y => decide (x ≤ y))).map ofL = _
  rw [e]
  kernel_rfl
theorem un_oc : ordC [unb, una] = some [⟨#[97, 46, 112]⟩, ⟨#[98, 46, 113]⟩] := by
  show placeL _ (keysM (decl [unb, una]).classes).length (sortL (keysM (decl [unb, una]).classes)) [] = _
  rw [un_keys, un_sort]
  kernel_rfl
theorem un_run : runE [unb, una] = 0 := by
  unfold runE
  rw [un_oc]
  kernel_rfl
theorem un_cls : (modL [unb, una]).classes = [⟨⟨#[97, 46, 112]⟩, -1, [⟨1, 0⟩], []⟩, ⟨⟨#[98, 46, 113]⟩, 0, [⟨1, 0⟩], []⟩] := by
  unfold modL
  rw [if_pos un_run]
  unfold modO ordsL
  rw [un_oc]
  kernel_rfl
/-- a row just laid, whose elements are written out -/
theorem sl_new {α : Type} {E : El α} {S : Nat → Prop} {w : World} {b : Nat} {t : TypeId} {cs : List Value} {css : List (List Value)} {l : List α} (hb : Box w b t cs) (hc : cs = css.flatten) (hS : S b) (hl : css.length = l.length) (hn : l.length ≤ 4194304)
    (h : ∀ (i : Nat) (c : List Value) (x : α), css[i]? = some c → l[i]? = some x → E.rel S w c x) : Sl E S w (some ⟨b, 0, none⟩) l := by
  subst hc
  have hsz : ∀ c ∈ css, c.length = E.sz := fun c hc => by
    obtain ⟨i, hi⟩ := List.mem_iff_getElem?.1 hc
    obtain ⟨x, hx⟩ := some_of_lt (l := l) (k := i) (by have := (List.getElem?_eq_some_iff.1 hi).1; omega)
    exact E.len (h i c x hi hx)
  refine ⟨hn, fun i x hx => ?_⟩
  obtain ⟨c, hc⟩ := some_of_lt (l := css) (k := i) (by have := (List.getElem?_eq_some_iff.1 hx).1; omega)
  refine ⟨b, 0, c, rfl, hS, fun j v hj => ?_, h i c x hc hx⟩
  have hj' : j < E.sz := by rw [← hsz c (List.mem_of_getElem? hc)]; exact (List.getElem?_eq_some_iff.1 hj).1
  have := hb.at (i * E.sz + j) v (by rw [flatten_get hsz hc j hj']; exact hj)
  rw [Nat.zero_add] at this ⊢
  exact this
theorem l_sane (w : World) (hG : Gl w) : Ret Tryz.prog 13 #[] w fun v w' => v = .bool true ∧ Bl w w' := by
  refine entr (vs := []) [0, 1, 2, 3, 4] tabok Tryz.func13 (by kernel_rfl) ?_
  refine bs (cs := [.string ⟨#[112]⟩, .string ⟨#[120]⟩]) fun b1 w1 k1 => ?_
  refine bd ?_
  refine bd ?_
  refine bs (cs := encFld ⟨1, ⟨1, -1⟩⟩) fun b2 w2 k2 => ?_
  refine bd ?_
  refine bs (cs := ccells ⟨0, -1, [⟨1, ⟨1, -1⟩⟩]⟩ (some ⟨b2, 0, none⟩) 1) fun b3 w3 k3 => ?_
  refine bd ?_
  refine al fun b4 w4 k4 => ?_
  refine sta (cs' := ucells una ⟨some ⟨b1, 0, none⟩, 2, some ⟨b3, 0, none⟩, 1, none, 0, none, 0⟩) k4.box fun w5 k5 x5 => ?_
  have B5 := ((k1.bl.trans k2.bl).trans k3.bl).trans (k4.wr k5)
  have B15 := (k2.bl.trans k3.bl).trans (k4.wr k5)
  have B25 := k3.bl.trans (k4.wr k5)
  refine bs (cs := [.string ⟨#[113]⟩, .string ⟨#[97, 46, 112]⟩]) fun b6 w6 k6 => ?_
  refine bd ?_
  refine bs (cs := ccells ⟨0, 1, []⟩ none 0) fun b7 w7 k7 => ?_
  refine bd ?_
  refine al fun b8 w8 k8 => ?_
  refine sta (cs' := ucells unb ⟨some ⟨b6, 0, none⟩, 2, some ⟨b7, 0, none⟩, 1, none, 0, none, 0⟩) k8.box fun w9 k9 x9 => ?_
  have B59 := (k6.bl.trans k7.bl).trans (k8.wr k9)
  refine lda x9.at ?_
  refine lda (Bl.box B59 x5).at ?_
  refine bs (cs := ucells unb ⟨some ⟨b6, 0, none⟩, 2, some ⟨b7, 0, none⟩, 1, none, 0, none, 0⟩ ++ ucells una ⟨some ⟨b1, 0, none⟩, 2, some ⟨b3, 0, none⟩, 1, none, 0, none, 0⟩) fun b10 w10 k10 => ?_
  have B10 := (B5.trans B59).trans k10.bl
  have l10 := k10.box.lt
  have e1 := (Bl.box ((B15.trans B59).trans k10.bl) k1.box)
  have e2 := (Bl.box ((B25.trans B59).trans k10.bl) k2.box)
  have e3 := (Bl.box (((k4.wr k5).trans B59).trans k10.bl) k3.box)
  have e6 := (Bl.box ((k7.bl.trans (k8.wr k9)).trans k10.bl) k6.box)
  have e7 := (Bl.box ((k8.wr k9).trans k10.bl) k7.box)
  have hS : Sl eUnt (· < w10.heap.size) w10 (some ⟨b10, 0, none⟩) [unb, una] := by
    refine sl_new (css := [ucells unb ⟨some ⟨b6, 0, none⟩, 2, some ⟨b7, 0, none⟩, 1, none, 0, none, 0⟩, ucells una ⟨some ⟨b1, 0, none⟩, 2, some ⟨b3, 0, none⟩, 1, none, 0, none, 0⟩]) k10.box rfl l10 rfl (by decide) fun i c x hc hx => ?_
    match i, hc, hx with
    | 0, hc, hx =>
      obtain rfl := Option.some.inj hc
      obtain rfl := Option.some.inj hx
      refine ⟨_, rfl, by decide, by decide, ?_, ?_, Sl.nil .., Sl.nil ..⟩
      · exact sl_new (css := [[.string ⟨#[113]⟩], [.string ⟨#[97, 46, 112]⟩]]) e6 rfl e6.lt rfl (by decide) fun i c x hc hx => by
          match i, hc, hx with
          | 0, hc, hx => obtain rfl := Option.some.inj hc; obtain rfl := Option.some.inj hx; rfl
          | 1, hc, hx => obtain rfl := Option.some.inj hc; obtain rfl := Option.some.inj hx; rfl
      · exact sl_new (css := [ccells ⟨0, 1, []⟩ none 0]) e7 rfl e7.lt rfl (by decide) fun i c x hc hx => by
          match i, hc, hx with
          | 0, hc, hx => obtain rfl := Option.some.inj hc; obtain rfl := Option.some.inj hx; exact ⟨_, _, rfl, Sl.nil ..⟩
    | 1, hc, hx =>
      obtain rfl := Option.some.inj hc
      obtain rfl := Option.some.inj hx
      refine ⟨_, rfl, by decide, by decide, ?_, ?_, Sl.nil .., Sl.nil ..⟩
      · exact sl_new (css := [[.string ⟨#[112]⟩], [.string ⟨#[120]⟩]]) e1 rfl e1.lt rfl (by decide) fun i c x hc hx => by
          match i, hc, hx with
          | 0, hc, hx => obtain rfl := Option.some.inj hc; obtain rfl := Option.some.inj hx; rfl
          | 1, hc, hx => obtain rfl := Option.some.inj hc; obtain rfl := Option.some.inj hx; rfl
      · exact sl_new (css := [ccells ⟨0, -1, [⟨1, ⟨1, -1⟩⟩]⟩ (some ⟨b2, 0, none⟩) 1]) e3 rfl e3.lt rfl (by decide) fun i c x hc hx => by
          match i, hc, hx with
          | 0, hc, hx =>
            obtain rfl := Option.some.inj hc
            obtain rfl := Option.some.inj hx
            refine ⟨_, _, rfl, ?_⟩
            exact sl_new (css := [encFld ⟨1, ⟨1, -1⟩⟩]) e2 rfl e2.lt rfl (by decide) fun i c x hc hx => by
              match i, hc, hx with
              | 0, hc, hx => obtain rfl := Option.some.inj hc; obtain rfl := Option.some.inj hx; rfl
  refine cl (k_Link (us := [unb, una]) (cu := 2) hS (hG.bl B10)) ?_ (hm := fun _ _ r => by obtain ⟨_, _, _, hB⟩ := r; exact mdW_bl hB)
  rintro _ w11 ⟨a, rfl, M, B11⟩
  rw [un_run]
  have hcs := M.cls
  have hcl := un_cls
  obtain ⟨md, hmd⟩ : ∃ md, modL [unb, una] = md := ⟨_, rfl⟩
  rw [hmd] at hcs hcl ⊢
  rw [hcl] at hcs
  have ecells : modcells md a = [.slice a.a1 2 a.c1, .slice a.a2 md.statics.length a.c2, .slice a.a3 md.methods.length a.c3, I md.sels] := by unfold modcells; rw [hcl]; rfl
  rw [ecells]
  refine al fun b12 w12 k12 => ?_
  refine sta (cs' := [.slice a.a1 2 a.c1, .slice a.a2 md.statics.length a.c2, .slice a.a3 md.methods.length a.c3, I md.sels]) k12.box fun w13 k13 x13 => ?_
  obtain ⟨g0, o0, cs0, ea, _, hA0, a1, c1, a2, c2, rfl, f0, _, _⟩ := hcs.el 0 _ rfl
  obtain ⟨g1, o1, cs1, ea', _, hA1, a3, c3, a4, c4, rfl, f1, _, _⟩ := hcs.el 1 _ rfl
  have B13 := k12.wr k13
  rw [ea] at ea'
  obtain ⟨rfl, rfl⟩ : g0 = g1 ∧ o0 = o1 := by simpa using ea'
  rw [ea] at x13
  have q0 := hA0.bl B13
  have q1 := hA1.bl B13
  refine ldg (fun _ => x13.cell rfl) ?_
  refine ldg (fun _ => x13.cell rfl) ?_
  refine spt (.pointer none) ?_
  refine ix (j := 0) ?_ (hb := by decide)
  refine ldg (fun _ => q0 0 _ rfl) ?_
  refine ldg (fun _ => x13.cell rfl) ?_
  refine spt (.pointer none) ?_
  refine ix (j := 1) ?_ (hb := by decide)
  refine ldg (fun _ => q1 0 _ rfl) ?_
  refine ldg (fun _ => x13.cell rfl) ?_
  refine spt (.pointer none) ?_
  refine ix (j := 1) ?_ (hb := by decide)
  refine ldg (fun _ => q1 1 _ rfl) ?_
  refine ldg (fun _ => x13.cell rfl) ?_
  refine spt (.pointer none) ?_
  refine ix (j := 1) ?_ (hb := by decide)
  refine ldg (fun _ => q1 2 _ rfl) ?_
  exact rt1 ⟨rfl, (B10.trans B11).trans B13⟩
end Go.Proofs.YtkmdfjpafkcleaaGreatDoor

/- Walks: the document's Common; the law LinkClasses. -/
namespace Go.Proofs.YtkmdfjpafkcleaaGreatDoor
open Eng Go.RowKit
set_option maxHeartbeats 1000000 in
theorem r5_Common (m : Mod) (a : MA) (x y : Int) (w : World) (hM : MdR T w m a) : Ret Tryz.prog 33 #[.agg (modcells m a).toArray, I x, I y] w fun v w' => v = .tuple #[I (comV m x y), I (comE m x y)] ∧ Bl w w' := by
  have q1 := hM.cls.big
  refine entr (vs := [.agg (modcells m a).toArray, I x, I y]) [0, 1, 2, 3, 6, 7, 9, 10, 19, 26, 38] tabok Tryz.func33 (by kernel_rfl) ?_
  refine bx (cs := modcells m a) fun b1 w1 k1 => ?_
  refine lda k1.box.at ?_
  refine cl (r5_Below m a x y w1 (hM.bl k1.bl)) ?_
  rintro _ w2 ⟨rfl, B12⟩
  have B2 := k1.bl.trans B12
  have x2 := Bl.box B12 k1.box
  by_cases h0 : askE m m.classes.length [x, y] = 0
  rotate_left
  · refine brT ?_ (hp := h0)
    obtain ⟨e1, e2⟩ := com_bad h0
    rw [e1, e2, (ask_cases m m.classes.length [x, y]).resolve_left h0]
    exact rt2 ⟨rfl, B2⟩
  refine brF ?_ (hp := by exact fun h => h h0)
  obtain ⟨hm, hi⟩ := ask_yes h0
  have P := modP_of hm
  have D := P.desc
  have hx := hi x (by simp)
  have hy := hi y (by simp)
  refine ld (x2.cell rfl) ?_
  refine lp (vals := [.int .i64 (IntKind.wrap .i64 ((m.classes.length : Int) - 1))]) [10] [(1, I x), (2, I y), (3, .pointer (some ⟨b1, 0, none⟩))] (fun n vals w' => n ≤ m.classes.length ∧ vals = [I ((n : Int) - 1)] ∧ (∀ d, (n : Int) ≤ d → ¬ (d ∈ upM m x ∧ d ∈ upM m y)) ∧ Bl w2 w') ⟨rfl, rfl, rfl, trivial⟩ (m := m.classes.length) ⟨Nat.le_refl _, by rw [wrap_fit (by omega) (by omega)], fun d hd h => by have := upM_mem_le D hx.2 h.1; omega, Bl.refl _⟩ ?_
  rintro n vals w3 ⟨hn, rfl, hno, B23⟩ ih
  have x3 := Bl.box B23 x2
  have B3 := B2.trans B23
  rcases Nat.eq_zero_or_pos n with h0n | h0n
  · subst h0n
    refine brF ?_
    have hI : ¬ ∃ c, IsCom m x y c := fun ⟨c, h⟩ => hno c (by have := upM_mem_le D hx.2 h.l; omega) ⟨h.l, h.r⟩
    obtain ⟨e1, e2⟩ := com_no h0 hI
    rw [e1, e2]
    exact rt2 ⟨rfl, B3⟩
  · obtain ⟨n, rfl⟩ : ∃ n', n = n' + 1 := ⟨n - 1, by omega⟩
    rw [show (((n + 1 : Nat) : Int) - 1) = (n : Int) by omega]
    refine brT ?_
    refine lda x3.at ?_
    refine cl (r5_above m a D x n hx.2 (by omega) w3 (hM.bl B3)) ?_
    rintro _ w4 ⟨rfl, B34⟩
    have x4 := Bl.box B34 x3
    have B4 := B3.trans B34
    have nxt2 : ¬ ((n : Int) ∈ upM m x ∧ (n : Int) ∈ upM m y) → ∀ d, ((n : Nat) : Int) ≤ d → ¬ (d ∈ upM m x ∧ d ∈ upM m y) := fun h d hd => by
      by_cases e : d = n
      · subst e; exact h
      · exact hno d (by omega)
    by_cases hb : (n : Int) ∈ upM m x
    · refine spt (.bool true) ?_ (hb := decide_eq_true hb)
      refine lda x4.at ?_
      refine spt (.bool true) ?_
      refine cl (r5_above m a D y n hy.2 (by omega) w4 (hM.bl B4)) ?_
      rintro _ w5 ⟨rfl, B45⟩
      have B5 := B4.trans B45
      by_cases hc : (n : Int) ∈ upM m y
      · refine brt ?_ (hp := by simp [hb, hc])
        have hI : IsCom m x y n := ⟨hb, hc, fun d h1 h2 => by
          rcases Int.lt_or_le n d with q | q
          · exact absurd ⟨h1, h2⟩ (hno d (by omega))
          · exact q⟩
        obtain ⟨e1, e2⟩ := com_yes h0 hI
        rw [e1, e2]
        exact rt2 ⟨rfl, B5⟩
      · refine brf ?_ (hp := by simp [hb, hc])
        refine again (ih n _ _ _ (by omega) ⟨rfl, rfl, rfl, trivial⟩ rfl ⟨by omega, ?_, nxt2 fun h => hc h.2, (B23.trans B34).trans B45⟩)
        rw [wrap_fit (by omega) (by omega)]
    · refine spn (.agg (modcells m a).toArray) ?_ (hb := by simp [hb])
      refine spn (.bool false) ?_ (hb := by simp [hb])
      refine brf ?_ (hp := by simp [hb])
      refine again (ih n _ _ _ (by omega) ⟨rfl, rfl, rfl, trivial⟩ rfl ⟨by omega, ?_, nxt2 fun h => hb h.1, B23.trans B34⟩)
      rw [wrap_fit (by omega) (by omega)]
theorem chain_mem {m : Mod} {k : Nat} (D : Desc m k) : ∀ (n : Nat) {a c d : Int}, a < n → a < k → c ∈ upM m a → d ∈ upM m a → d ≤ c → d ∈ upM m c
  | 0, a, c, d, h1, _, hc, _, _ => by rw [upM_neg (by omega)] at hc; cases hc
  | n + 1, a, c, d, h1, ha, hc, hd, hdc => by
    have hc1 := upM_mem_le D ha hc
    have h0 : 0 ≤ a := by omega
    have hs := sup_lt D h0 ha
    by_cases e : a = c
    · subst e; exact hd
    · have hc2 := (mem_step D h0 ha e).1 hc
      have e2 : ¬ a = d := by omega
      have hd2 := (mem_step D h0 ha e2).1 hd
      exact chain_mem D n (by omega) (by omega) hc2 hd2 hdc
theorem com_ex {m : Mod} {k : Nat} (D : Desc m k) {x y : Int} (hx : x < k) : ∀ (n : Nat) {d : Int}, x - d < n → d ∈ upM m x → d ∈ upM m y → ∃ c, IsCom m x y c
  | 0, d, h, h1, _ => by have := upM_mem_le D hx h1; omega
  | n + 1, d, h, h1, h2 => by
    by_cases q : ∃ e, d < e ∧ e ∈ upM m x ∧ e ∈ upM m y
    · obtain ⟨e, q1, q2, q3⟩ := q
      exact com_ex D hx n (by omega) q2 q3
    · exact ⟨d, h1, h2, fun e q1 q2 => by
        rcases Int.lt_or_le d e with r | r
        · exact absurd ⟨e, r, q1, q2⟩ q
        · exact r⟩
end Go.Proofs.YtkmdfjpafkcleaaGreatDoor

/- Walks: the law LinkClasses. -/
namespace Go.Proofs.YtkmdfjpafkcleaaGreatDoor
open Eng Go.RowKit
theorem blw_of {m : Mod} {x y : Int} (h : askE m m.classes.length [x, y] = 0) : blwB m x y = decide (y ∈ upM m x) := by unfold blwB; rw [decide_eq_true h, Bool.true_and]
theorem ask_mk {m : Mod} {n x y : Int} (hm : mchkE m = 0) (hx : 0 ≤ x ∧ x < n) (hy : 0 ≤ y ∧ y < n) : askE m n [x, y] = 0 := by
  unfold askE
  refine if_pos ⟨hm, fun i hi => ?_⟩
  simp only [List.mem_cons, List.not_mem_nil, or_false] at hi
  rcases hi with rfl | rfl
  · exact hx
  · exact hy
set_option maxHeartbeats 1000000 in
theorem l_LinkClasses (m : Mod) (a : MA) (x y : Int) (w : World) (hM : MdR T w m a) (hG : Gl w) : Ret Tryz.prog 7 #[.agg (modcells m a).toArray, I x, I y] w fun v w' => v = .bool true ∧ Bl w w' := by
  have q1 := hM.cls.big
  refine entr (vs := [.agg (modcells m a).toArray, I x, I y]) [0, 1, 2, 3, 6, 7, 8, 9, 10, 11, 12, 13, 14, 15, 16, 17, 18, 19, 20, 21, 23, 70, 79, 101, 105, 122] tabok Tryz.func7 (by kernel_rfl) ?_
  refine bx (cs := modcells m a) fun b1 w1 k1 => ?_
  refine lda k1.box.at ?_
  refine cl (l_heavyM m a w1 (hM.bl k1.bl)) ?_ (hm := fun _ _ r => by obtain ⟨_, _, hB⟩ := r; exact mdW_bl hB)
  rintro _ w2 ⟨hv, rfl, B12⟩
  have B2 := k1.bl.trans B12
  have x2 := Bl.box B12 k1.box
  cases hv with
  | true =>
    refine brt ?_
    refine cl (l_sane w2 (hG.bl B2)) ?_
    rintro _ w3 ⟨rfl, h3⟩
    exact rt1 ⟨rfl, B2.trans h3⟩
  | false =>
  refine brf ?_
  refine lda x2.at ?_
  refine cl (k_Below m a x y w2 (hM.bl B2)) ?_
  rintro _ w3 ⟨rfl, B23⟩
  have B3 := B2.trans B23
  have x3 := Bl.box B23 x2
  refine lda x3.at ?_
  refine cl (r5_Below m a x y w3 (hM.bl B3)) ?_
  rintro _ w4 ⟨rfl, B34⟩
  have B4 := B3.trans B34
  have x4 := Bl.box B34 x3
  refine lda x4.at ?_
  refine cl (k_Common m a x y w4 (hM.bl B4)) ?_
  rintro _ w5 ⟨rfl, B45⟩
  have B5 := B4.trans B45
  have x5 := Bl.box B45 x4
  refine lda x5.at ?_
  refine cl (r5_Common m a x y w5 (hM.bl B5)) ?_
  rintro _ w6 ⟨rfl, B56⟩
  have B6 := B5.trans B56
  have x6 := Bl.box B56 x5
  refine bnb ?_
  refine brf ?_
  refine lpk m.classes.length 15 [] [(1, I x), (2, I y), (3, .pointer (some ⟨b1, 0, none⟩)), (10, I (askE m m.classes.length [x, y])), (11, I (comV m x y)), (14, I (comE m x y))] (fun k vals w' => vals = [] ∧ Bl w6 w') ⟨rfl, Bl.refl _⟩ ?_
  rintro k vals w7 hk ⟨rfl, B67⟩ ih
  have B7 := B6.trans B67
  have x7 := Bl.box B67 x6
  refine ld (x7.cell rfl) ?_
  by_cases hc : k < m.classes.length ∧ askE m m.classes.length [x, y] = 0
  rotate_left
  · refine brf ?_ (hp := by first | (simp; done) | (simp; omega))
    refine cl (l_sane w7 (hG.bl B7)) ?_
    rintro _ w8 ⟨rfl, B78⟩
    exact rt1 ⟨rfl, B7.trans B78⟩
  obtain ⟨hlt, h0⟩ := hc
  refine brt ?_ (hp := by first | (simp [hlt, h0]; done) | (simp; omega))
  obtain ⟨hm, hi⟩ := ask_yes h0
  have P := modP_of hm
  have D := P.desc
  have hx := hi x (by simp)
  have hy := hi y (by simp)
  have e1 : askE m m.classes.length [x, k] = 0 := ask_mk hm hx ⟨by omega, by omega⟩
  have e2 : askE m m.classes.length [y, k] = 0 := ask_mk hm hy ⟨by omega, by omega⟩
  refine lda x7.at ?_
  refine cl (k_Below m a x k w7 (hM.bl B7)) ?_
  rintro _ w8 ⟨rfl, B78⟩
  have B8 := B7.trans B78
  have x8 := Bl.box B78 x7
  refine lda x8.at ?_
  refine cl (k_Below m a y k w8 (hM.bl B8)) ?_
  rintro _ w9 ⟨rfl, B89⟩
  have B9 := B8.trans B89
  have x9 := Bl.box B89 x8
  rw [e1, e2, blw_of e1, blw_of e2]
  refine brf ?_
  by_cases hb : (k : Int) ∈ upM m x ∧ (k : Int) ∈ upM m y
  · refine brt ?_ (hp := by simp [hb])
    obtain ⟨c, hI⟩ := com_ex D hx.2 (x - k + 1).toNat (d := k) (by omega) hb.1 hb.2
    obtain ⟨f1, f2⟩ := com_yes h0 hI
    have hI : IsCom m x y (comV m x y) := f1.symm ▸ hI
    have hc0 := upM_mem_le D hx.2 hI.l
    have e3 : askE m m.classes.length [comV m x y, k] = 0 := ask_mk hm ⟨by omega, by omega⟩ ⟨by omega, by omega⟩
    have hck : (k : Int) ∈ upM m (comV m x y) := chain_mem D (x + 1).toNat (by omega) hx.2 hI.l hb.1 (hI.m _ hb.1 hb.2)
    refine lda x9.at ?_
    refine cl (k_Below m a (comV m x y) k w9 (hM.bl B9)) ?_
    rintro _ w10 ⟨rfl, B910⟩
    rw [e3, blw_of e3, decide_eq_true hck]
    refine brf ?_ (hp := by simp [f2])
    exact ih hlt ⟨rfl, (B67.trans B78).trans (B89.trans B910)⟩
  · refine brf ?_ (hp := by simp; exact fun h1 h2 => hb ⟨h1, h2⟩)
    exact ih hlt ⟨rfl, (B67.trans B78).trans B89⟩
end Go.Proofs.YtkmdfjpafkcleaaGreatDoor

/- Walks: Dispatch and Targets, in the program and in the document. -/
namespace Go.Proofs.YtkmdfjpafkcleaaGreatDoor
open Eng Go.RowKit
/-- what stands in a class's table for a selector -/
def entM (m : Mod) (c s : Int) : Int := ((m.classes[c.toNat]?).map fun x => x.table.getD s.toNat (-1)).getD (-1)
def dspOk (m : Mod) (c s : Int) : Prop := askE m m.classes.length [c] = 0 ∧ askE m m.sels [s] = 0
open Classical in
noncomputable def dspV (m : Mod) (c s : Int) : Int := if dspOk m c s ∧ 0 ≤ entM m c s then entM m c s else 0
open Classical in
noncomputable def dspE (m : Mod) (c s : Int) : Int := if dspOk m c s then (if 0 ≤ entM m c s then 0 else 3) else 1
theorem dsp_bad {m : Mod} {c s : Int} (h : ¬ dspOk m c s) : dspV m c s = 0 ∧ dspE m c s = 1 := by
  unfold dspV dspE
  rw [if_neg h, if_neg fun q => h q.1]
  exact ⟨rfl, rfl⟩
theorem dsp_yes {m : Mod} {c s : Int} (h : dspOk m c s) (h0 : 0 ≤ entM m c s) : dspV m c s = entM m c s ∧ dspE m c s = 0 := by
  unfold dspV dspE
  rw [if_pos h, if_pos h0, if_pos ⟨h, h0⟩]
  exact ⟨rfl, rfl⟩
theorem dsp_no {m : Mod} {c s : Int} (h : dspOk m c s) (h0 : ¬ 0 ≤ entM m c s) : dspV m c s = 0 ∧ dspE m c s = 3 := by
  unfold dspV dspE
  rw [if_pos h, if_neg h0, if_neg fun q => h0 q.2]
  exact ⟨rfl, rfl⟩
theorem ask_one {m : Mod} {n x : Int} (h : askE m n [x] = 0) : ModP m ∧ 0 ≤ x ∧ x < n := by
  obtain ⟨h1, h2⟩ := ask_yes h
  exact ⟨modP_of h1, h2 x (by simp)⟩
theorem ask_n {m : Mod} {n : Int} {l : List Int} (h : ¬ askE m n l = 0) : askE m n l = 1 := (ask_cases m n l).resolve_left h
/-- the entry of a class for a selector can be read -/
theorem ent_at {m : Mod} {c s : Nat} {x : MC} (hx : m.classes[c]? = some x) : entM m c s = x.table.getD s (-1) := by
  unfold entM
  rw [Int.toNat_natCast, Int.toNat_natCast, hx]; rfl
theorem k_Dispatch (m : Mod) (a : MA) (c s : Int) (w : World) (hM : MdR T w m a) : Ret Tryz.prog 24 #[.agg (modcells m a).toArray, I c, I s] w fun v w' => v = .tuple #[I (dspV m c s), I (dspE m c s)] ∧ Bl w w' := by
  have q1 := hM.cls.big
  refine entr (vs := [.agg (modcells m a).toArray, I c, I s]) [0, 1, 2, 3, 6, 7, 8, 25, 36] tabok Tryz.func24 (by kernel_rfl) ?_
  refine bx (cs := modcells m a) fun b1 w1 k1 => ?_
  refine lda k1.box.at ?_
  refine ld (k1.box.cell rfl) ?_
  refine bs (cs := [I c]) fun b2 w2 k2 => ?_
  have B2 := k1.bl.trans k2.bl
  refine cl (k_asked m a m.classes.length [c] _ 1 w2 (hM.bl B2) (one_int k2)) ?_
  rintro _ w3 ⟨rfl, B23⟩
  have B3 := B2.trans B23
  have x3 := Bl.box (k2.bl.trans B23) k1.box
  by_cases h1 : askE m m.classes.length [c] = 0
  rotate_left
  · rw [ask_n h1]
    refine spn (.bool false) ?_
    refine spn (I 0) ?_
    refine spn (.slice none 0 0) ?_
    refine spn (I 0) ?_
    refine brt ?_
    obtain ⟨e1, e2⟩ := dsp_bad (m := m) (c := c) (s := s) fun q => h1 q.1
    rw [e1, e2]
    exact rt2 ⟨rfl, B3⟩
  rw [h1]
  refine spt (.bool false) ?_
  refine lda x3.at ?_
  refine spt (.bool false) ?_
  refine ld (x3.cell rfl) ?_
  refine spt (.bool false) ?_
  refine bs (cs := [I s]) fun b4 w4 k4 => ?_
  have B4 := B3.trans k4.bl
  refine spt (.bool false) ?_
  refine cl (k_asked m a m.sels [s] _ 1 w4 (hM.bl B4) (one_int k4)) ?_
  rintro _ w5 ⟨rfl, B45⟩
  have B5 := B4.trans B45
  have x5 := Bl.box (k4.bl.trans B45) x3
  by_cases h2 : askE m m.sels [s] = 0
  rotate_left
  · rw [ask_n h2]
    refine brt ?_
    obtain ⟨e1, e2⟩ := dsp_bad (m := m) (c := c) (s := s) fun q => h2 q.2
    rw [e1, e2]
    exact rt2 ⟨rfl, B5⟩
  rw [h2]
  refine brf ?_
  obtain ⟨P, c0, c1⟩ := ask_one h1
  obtain ⟨_, s0, s1⟩ := ask_one h2
  obtain ⟨c, rfl⟩ := Int.eq_ofNat_of_zero_le c0
  obtain ⟨s, rfl⟩ := Int.eq_ofNat_of_zero_le s0
  obtain ⟨x, b, o, cs, hx, e2, _, hAt, a3, c3, a4, c4, rfl, _, hF, _⟩ := at_some (hM.bl B5).cls (i := c) (by omega)
  have hT := (P.cls c x hx).tl
  obtain ⟨n, b6, o6, cs6, hn, e5, _, hA6, rfl⟩ := at_some hF (i := s) (by omega)
  have en : entM m c s = n := by rw [ent_at hx, List.getD_eq_getElem?_getD, hn]; rfl
  refine ld (x5.cell rfl) ?_
  rw [e2]
  refine ix ?_
  refine ld (hAt 3 _ rfl) ?_
  rw [e5]
  refine ix ?_
  refine ld (hA6 0 _ rfl) ?_
  by_cases h0 : 0 ≤ n
  · refine brT ?_
    obtain ⟨e1, e2⟩ := dsp_yes (m := m) (c := c) (s := s) ⟨h1, h2⟩ (by rw [en]; exact h0)
    rw [e1, e2, en]
    exact rt2 ⟨rfl, B5⟩
  · refine brF ?_
    obtain ⟨e1, e2⟩ := dsp_no (m := m) (c := c) (s := s) ⟨h1, h2⟩ (by rw [en]; exact h0)
    rw [e1, e2]
    exact rt2 ⟨rfl, B5⟩
theorem r5_Dispatch (m : Mod) (a : MA) (c s : Int) (w : World) (hM : MdR T w m a) : Ret Tryz.prog 25 #[.agg (modcells m a).toArray, I c, I s] w fun v w' => v = .tuple #[I (dspV m c s), I (dspE m c s)] ∧ Bl w w' := by
  have q1 := hM.cls.big
  refine entr (vs := [.agg (modcells m a).toArray, I c, I s]) [0, 1, 2, 3, 6, 7, 8, 16, 23, 34] tabok Tryz.func25 (by kernel_rfl) ?_
  refine bx (cs := modcells m a) fun b1 w1 k1 => ?_
  refine lda k1.box.at ?_
  refine ld (k1.box.cell rfl) ?_
  refine cl (r5_within m a c m.classes.length w1 (hM.bl k1.bl)) ?_
  rintro _ w2 ⟨rfl, B12⟩
  have B2 := k1.bl.trans B12
  have x2 := Bl.box B12 k1.box
  by_cases h1 : askE m m.classes.length [c] = 0
  rotate_left
  · rw [ask_n h1]
    refine brf ?_
    refine brt ?_
    obtain ⟨e1, e2⟩ := dsp_bad (m := m) (c := c) (s := s) fun q => h1 q.1
    rw [e1, e2]
    exact rt2 ⟨rfl, B2⟩
  rw [h1]
  refine brt ?_
  refine lda x2.at ?_
  refine ld (x2.cell rfl) ?_
  refine cl (r5_within m a s m.sels w2 (hM.bl B2)) ?_
  rintro _ w3 ⟨rfl, B23⟩
  have B3 := B2.trans B23
  have x3 := Bl.box B23 x2
  by_cases h2 : askE m m.sels [s] = 0
  rotate_left
  · rw [ask_n h2]
    refine brt ?_
    obtain ⟨e1, e2⟩ := dsp_bad (m := m) (c := c) (s := s) fun q => h2 q.2
    rw [e1, e2]
    exact rt2 ⟨rfl, B3⟩
  rw [h2]
  refine brf ?_
  obtain ⟨P, c0, c1⟩ := ask_one h1
  obtain ⟨_, s0, s1⟩ := ask_one h2
  obtain ⟨c, rfl⟩ := Int.eq_ofNat_of_zero_le c0
  obtain ⟨s, rfl⟩ := Int.eq_ofNat_of_zero_le s0
  obtain ⟨x, b, o, cs, hx, e2, _, hAt, a3, c3, a4, c4, rfl, _, hF, _⟩ := at_some (hM.bl B3).cls (i := c) (by omega)
  have hT := (P.cls c x hx).tl
  obtain ⟨n, b6, o6, cs6, hn, e5, _, hA6, rfl⟩ := at_some hF (i := s) (by omega)
  have en : entM m c s = n := by rw [ent_at hx, List.getD_eq_getElem?_getD, hn]; rfl
  refine ld (x3.cell rfl) ?_
  rw [e2]
  refine ix ?_
  refine ld (hAt 3 _ rfl) ?_
  rw [e5]
  refine ix ?_
  refine ld (hA6 0 _ rfl) ?_
  by_cases h0 : 0 ≤ n
  · refine brF ?_
    refine ld (x3.cell rfl) ?_
    rw [e2]
    refine ix ?_
    refine ld (hAt 3 _ rfl) ?_
    rw [e5]
    refine ix ?_
    refine ld (hA6 0 _ rfl) ?_
    obtain ⟨e1, e2⟩ := dsp_yes (m := m) (c := c) (s := s) ⟨h1, h2⟩ (by rw [en]; exact h0)
    rw [e1, e2, en]
    exact rt2 ⟨rfl, B3⟩
  · refine brT ?_
    obtain ⟨e1, e2⟩ := dsp_no (m := m) (c := c) (s := s) ⟨h1, h2⟩ (by rw [en]; exact h0)
    rw [e1, e2]
    exact rt2 ⟨rfl, B3⟩
open Classical in
noncomputable def tgtL (m : Mod) (s : Int) : List Int := if askE m m.sels [s] = 0 then trgM m s.toNat else []
theorem k_Targets (m : Mod) (a : MA) (s : Int) (w : World) (hM : MdR T w m a) : Ret Tryz.prog 26 #[.agg (modcells m a).toArray, I s] w fun v w' => ∃ a c, v = .tuple #[.slice a (tgtL m s).length c, I (askE m m.sels [s])] ∧ Sl eInt T w' a (tgtL m s) ∧ Bl w w' := by
  have q1 := hM.cls.big
  refine entr (vs := [.agg (modcells m a).toArray, I s]) [0, 1, 2, 4, 5, 6, 14] tabok Tryz.func26 (by kernel_rfl) ?_
  refine bx (cs := modcells m a) fun b1 w1 k1 => ?_
  refine lda k1.box.at ?_
  refine ld (k1.box.cell rfl) ?_
  refine bs (cs := [I s]) fun b2 w2 k2 => ?_
  have B2 := k1.bl.trans k2.bl
  refine cl (k_asked m a m.sels [s] _ 1 w2 (hM.bl B2) (one_int k2)) ?_
  rintro _ w3 ⟨rfl, B23⟩
  have B3 := B2.trans B23
  have x3 := Bl.box (k2.bl.trans B23) k1.box
  by_cases h1 : askE m m.sels [s] = 0
  rotate_left
  · have e : tgtL m s = [] := if_neg h1
    rw [ask_n h1, e]
    refine brt ?_
    exact rt2 ⟨none, 0, rfl, Sl.nil .., B3⟩
  have e : tgtL m s = trgM m s.toNat := if_pos h1
  rw [h1, e]
  refine brf ?_
  obtain ⟨P, s0, s1⟩ := ask_one h1
  obtain ⟨s, rfl⟩ := Int.eq_ofNat_of_zero_le s0
  refine lda x3.at ?_
  have hT : ∀ c ∈ m.classes, s < c.table.length := fun c hc => by
    obtain ⟨k, hk⟩ := List.mem_iff_getElem?.1 hc
    have := (P.cls k c hk).tl
    omega
  refine cl (k_targets m a s hT w3 (hM.bl B3)) ?_ (hm := fun _ _ r => by obtain ⟨_, _, _, _, hB⟩ := r; exact mdW_bl hB)
  rintro _ w4 ⟨a4, c4, rfl, O4, B34⟩
  have hl := trg_len (m := m) s
  exact rt2 ⟨a4, c4, rfl, owp_sl O4 (by omega) fun _ _ => trivial, B3.trans B34⟩
theorem r5_Targets (m : Mod) (a : MA) (s : Int) (w : World) (hM : MdR T w m a) : Ret Tryz.prog 27 #[.agg (modcells m a).toArray, I s] w fun v w' => ∃ a c, v = .tuple #[.slice a (tgtL m s).length c, I (askE m m.sels [s])] ∧ Sl eInt T w' a (tgtL m s) ∧ Bl w w' := by
  have q1 := hM.cls.big
  refine entr (vs := [.agg (modcells m a).toArray, I s]) [0, 1, 2, 4, 5, 6, 13] tabok Tryz.func27 (by kernel_rfl) ?_
  refine bx (cs := modcells m a) fun b1 w1 k1 => ?_
  refine lda k1.box.at ?_
  refine ld (k1.box.cell rfl) ?_
  refine cl (r5_within m a s m.sels w1 (hM.bl k1.bl)) ?_
  rintro _ w3 ⟨rfl, B13⟩
  have B3 := k1.bl.trans B13
  have x3 := Bl.box B13 k1.box
  by_cases h1 : askE m m.sels [s] = 0
  rotate_left
  · have e : tgtL m s = [] := if_neg h1
    rw [ask_n h1, e]
    refine brt ?_
    exact rt2 ⟨none, 0, rfl, Sl.nil .., B3⟩
  have e : tgtL m s = trgM m s.toNat := if_pos h1
  rw [h1, e]
  refine brf ?_
  obtain ⟨P, s0, s1⟩ := ask_one h1
  obtain ⟨s, rfl⟩ := Int.eq_ofNat_of_zero_le s0
  refine lda x3.at ?_
  have hT : ∀ c ∈ m.classes, s < c.table.length := fun c hc => by
    obtain ⟨k, hk⟩ := List.mem_iff_getElem?.1 hc
    have := (P.cls k c hk).tl
    omega
  refine cl (r5_targets m a s hT w3 (hM.bl B3)) ?_ (hm := fun _ _ r => by obtain ⟨_, _, _, _, hB⟩ := r; exact mdW_bl hB)
  rintro _ w4 ⟨a4, c4, rfl, O4, B34⟩
  exact rt2 ⟨a4, c4, rfl, O4.sub fun _ _ => trivial, B3.trans B34⟩
theorem r5_Has (l : List Int) (al : Option Addr) (ce : Nat) (n : Int) (w : World) (hS : Sl eInt T w al l) : Ret Tryz.prog 30 #[.slice al l.length ce, I n] w fun v w' => v = .bool (decide (n ∈ l)) ∧ Bl w w' := by
  have q1 := hS.big
  refine entr (vs := [.slice al l.length ce, I n]) [0, 1, 4, 5, 9, 17] tabok Tryz.func30 (by kernel_rfl) ?_
  refine lpk l.length 5 [] [(0, .slice al l.length ce), (1, I n)] (fun k vals w' => vals = [] ∧ w = w' ∧ ∀ i y, i < k → l[i]? = some y → ¬ y = n) ⟨rfl, rfl, fun i y h => by omega⟩ ?_
  rintro k vals _ hk ⟨rfl, rfl, hno⟩ ih
  by_cases hlt : k < l.length
  · refine brT ?_
    obtain ⟨x, b, o, cs, hx, rfl, _, hAt, rfl⟩ := at_some hS hlt
    refine ix ?_
    refine ld (hAt 0 _ rfl) ?_
    by_cases h : x = n
    · refine brT ?_ (hp := h)
      have : n ∈ l := h ▸ List.mem_of_getElem? hx
      rw [decide_eq_true this]
      exact rt1 ⟨rfl, Bl.refl _⟩
    · refine brF ?_ (hp := h)
      refine ih hlt ⟨rfl, rfl, fun i y hi hy => ?_⟩
      by_cases e : i = k
      · subst e; rw [hx] at hy; obtain rfl := Option.some.inj hy; exact h
      · exact hno i y (by omega) hy
  · refine brF ?_
    have : ¬ n ∈ l := fun h => by
      obtain ⟨i, hi⟩ := List.mem_iff_getElem?.1 h
      exact hno i n (by have := (List.getElem?_eq_some_iff.1 hi).1; omega) hi rfl
    rw [decide_eq_false this]
    exact rt1 ⟨rfl, Bl.refl _⟩
end Go.Proofs.YtkmdfjpafkcleaaGreatDoor

/- What roots need of a module (reach), as a least closed set; a search that goes deep first finds it. No program stands here. -/
namespace Go.Proofs.YtkmdfjpafkcleaaGreatDoor
open Eng Go.RowKit
/-- the class that a type names -/
def tcl (t : Ty) : List Int := if t.kind = 2 ∨ t.kind = 4 then [t.cls] else []
/-- the types of all locals of a method -/
def locM (x : MM) : List Ty := (if 0 ≤ x.cls then [⟨2, x.cls⟩] else []) ++ x.params ++ x.locals
def insC (i : Ins) : List Int := if i.op = 12 then tcl ⟨i.a, i.b⟩ else if i.op = 14 ∨ i.op = 24 then [i.a] else if i.op = 16 then [i.b] else []
def insS (i : Ins) : List Int := if i.op = 22 ∨ i.op = 23 then [i.a] else []
def needC (x : MM) : List Int := (locM x ++ [x.result]).flatMap tcl ++ x.code.flatMap insC
def needS (x : MM) : List Int := x.code.flatMap insS
def sucC (m : Mod) (c : Int) : List Int := ((m.classes[c.toNat]?).map fun x => (if 0 ≤ x.super then [x.super] else []) ++ x.fields.flatMap tcl).getD []
def staC (m : Mod) (i : Int) : List Int := ((m.statics[i.toNat]?).map tcl).getD []
/-- methods, classes, statics of a module -/
inductive Nd where
  | m (n : Int)
  | c (n : Int)
  | s (n : Int)
deriving DecidableEq
def mths (m : Mod) (k : Int) : MM := (m.methods[k.toNat]?).getD ⟨⟨#[]⟩, -1, [], [], ⟨0, 0⟩, []⟩
def suc (m : Mod) : Nd → List Nd
  | .m k => (needC (mths m k)).map .c ++ (needS (mths m k)).map .s ++ (calM m k.toNat).map .m
  | .c c => (sucC m c).map .c
  | .s i => (staC m i).map .c
inductive Rch (m : Mod) (R : Nd → Prop) : Nd → Prop
  | root {x : Nd} (h : R x) : Rch m R x
  | step {x y : Nd} (h : Rch m R x) (hy : y ∈ suc m x) : Rch m R y
theorem Rch.mono {m : Mod} {R R' : Nd → Prop} (h : ∀ x, R x → R' x) {x : Nd} (k : Rch m R x) : Rch m R' x := by
  induction k with
  | root q => exact .root (h _ q)
  | step _ hy ih => exact .step ih hy
theorem Rch.trans {m : Mod} {R R' : Nd → Prop} (h : ∀ x, R x → Rch m R' x) {x : Nd} (k : Rch m R x) : Rch m R' x := by
  induction k with
  | root q => exact h _ q
  | step _ hy ih => exact .step ih hy
/-- from the set V a search of the roots R has come to the set V' -/
structure Dfs (m : Mod) (R V V' : Nd → Prop) : Prop where
  mono : ∀ x, V x → V' x
  new : ∀ x, V' x → V x ∨ Rch m R x
  cl : ∀ x, V' x → ¬ V x → ∀ y ∈ suc m x, V' y
  has : ∀ x, R x → V' x
theorem Dfs.refl (m : Mod) {R V : Nd → Prop} (h : ∀ x, R x → V x) : Dfs m R V V := ⟨fun _ h => h, fun _ h => .inl h, fun _ h k => absurd h k, h⟩
theorem Dfs.trans {m : Mod} {R R' V V1 V2 : Nd → Prop} (h : Dfs m R V V1) (k : Dfs m R' V1 V2) : Dfs m (fun x => R x ∨ R' x) V V2 :=
  ⟨fun x q => k.mono x (h.mono x q), fun x q => by
    rcases k.new x q with q | q
    · exact (h.new x q).imp id (Rch.mono fun _ => .inl)
    · exact .inr (q.mono fun _ => .inr), fun x q hV y hy => by
    by_cases h1 : V1 x
    · exact k.mono y (h.cl x h1 hV y hy)
    · exact k.cl x q h1 y hy, fun x q => by
    rcases q with q | q
    · exact k.mono x (h.has x q)
    · exact k.has x q⟩
theorem Dfs.congr {m : Mod} {R R' V V' : Nd → Prop} (h : Dfs m R V V') (k : ∀ x, R x ↔ R' x) : Dfs m R' V V' :=
  ⟨h.mono, fun x q => (h.new x q).imp id (Rch.mono fun _ => (k _).1), h.cl, fun x q => h.has x ((k x).2 q)⟩
/-- a node that is marked, then what follows it -/
theorem Dfs.node {m : Mod} {n : Nd} {V V' : Nd → Prop} (h : Dfs m (· ∈ suc m n) (fun x => V x ∨ x = n) V') : Dfs m (· = n) V V' :=
  ⟨fun x q => h.mono x (.inl q), fun x q => by
    rcases h.new x q with (q | rfl) | q
    · exact .inl q
    · exact .inr (.root rfl)
    · exact .inr (Rch.trans (R' := (· = n)) (fun y hy => .step (.root rfl) hy) q), fun x q hV y hy => by
    by_cases h1 : x = n
    · subst h1; exact h.has y hy
    · exact h.cl x q (fun e => e.elim hV h1) y hy, fun x q => by subst q; exact h.mono _ (.inr rfl)⟩
/-- what is found of nothing -/
theorem Dfs.all {m : Mod} {R V' : Nd → Prop} (h : Dfs m R (fun _ => False) V') (x : Nd) : V' x ↔ Rch m R x := by
  constructor
  · intro q; exact (h.new x q).resolve_left id
  · intro q
    induction q with
    | root q => exact h.has _ q
    | step _ hy ih => exact h.cl _ ih id _ hy
/-- what a module has -/
def NdIn (m : Mod) : Nd → Prop
  | .m n => 0 ≤ n ∧ n < m.methods.length
  | .c n => 0 ≤ n ∧ n < m.classes.length
  | .s n => 0 ≤ n ∧ n < m.statics.length
theorem tcl_in {m : Mod} {t : Ty} {least c : Int} (h : ityp m t least = true) (hc : c ∈ tcl t) : 0 ≤ c ∧ c < m.classes.length := by
  unfold tcl at hc
  unfold ityp at h
  split at hc
  · rename_i q
    rw [if_pos q] at h
    simp only [List.mem_singleton] at hc
    subst hc
    simpa using h
  · cases hc
theorem mths_at {m : Mod} {k : Nat} {x : MM} (h : m.methods[k]? = some x) : mths m (k : Int) = x := by unfold mths; rw [Int.toNat_natCast, h]; rfl
theorem calM_mem {m : Mod} {k : Nat} {x : MM} (h : m.methods[k]? = some x) {c : Int} : c ∈ calM m k ↔ ∃ i ∈ x.code, c ∈ calO m i := by
  unfold calM
  rw [mem_srtI, h]
  simp only [Option.map_some, Option.getD_some, List.mem_flatMap]
theorem val_sta {i : Ins} (hv : validI i false = true) (h : i.op = 22 ∨ i.op = 23) : 0 ≤ i.a := by
  obtain ⟨op, a, b⟩ := i
  simp only at h ⊢
  rcases h with rfl | rfl <;> (simp [validI, inR, rngs, mosts] at hv; omega)
theorem codeE_val {l : List Ins} (h : codeE l false = 0) : ∀ i ∈ l, validI i false = true := code_all h
theorem calO_lt {m : Mod} (P : ModP m) {k : Nat} {x : MM} (h : m.methods[k]? = some x) {i : Ins} (hi : i ∈ x.code) {c : Int} (hc : c ∈ calO m i) : 0 ≤ c ∧ c < k := by
  have M := P.mth k x h
  have hop := M.op i hi
  have hv := code_all M.cd i hi
  unfold calO at hc
  split at hc
  · rename_i q
    simp only [List.mem_singleton] at hc
    subst hc
    have h0 := val_call hv (.inl q)
    unfold oprB at hop
    simp [q] at hop
    exact ⟨h0, hop.1⟩
  · split at hc
    · rename_i q
      have h0 := (P.trg hc).1
      unfold oprB at hop
      simp [q] at hop
      exact ⟨h0, hop.2 c hc⟩
    · cases hc
theorem calM_lt {m : Mod} (P : ModP m) {k : Nat} {x : MM} (h : m.methods[k]? = some x) {c : Int} (hc : c ∈ calM m k) : 0 ≤ c ∧ c < k := by
  obtain ⟨i, hi, hc⟩ := (calM_mem h).1 hc
  exact calO_lt P h hi hc
theorem sucC_in {m : Mod} (P : ModP m) {k : Nat} {x : MC} (h : m.classes[k]? = some x) {c : Int} (hc : c ∈ sucC m k) : 0 ≤ c ∧ c < m.classes.length := by
  unfold sucC at hc
  rw [Int.toNat_natCast, h] at hc
  simp only [Option.map_some, Option.getD_some, List.mem_append, List.mem_flatMap] at hc
  have C := P.cls k x h
  have hk := (List.getElem?_eq_some_iff.1 h).1
  rcases hc with hc | ⟨t, ht, hc⟩
  · split at hc
    · simp only [List.mem_singleton] at hc
      subst hc
      have := C.s2
      omega
    · cases hc
  · exact tcl_in (C.ft t ht) hc
theorem insC_in {m : Mod} {k : Nat} {i : Ins} (hop : oprB m k i = true) (hv : validI i false = true) {c : Int} (hc : c ∈ insC i) : 0 ≤ c ∧ c < m.classes.length := by
  unfold insC at hc
  split at hc
  · rename_i q
    have h0 := val_b hv (.inr q)
    unfold tcl at hc
    unfold oprB at hop
    split at hc
    · rename_i q2
      simp only [List.mem_singleton] at hc
      subst hc
      simp [q] at hop
      refine ⟨h0, ?_⟩
      rcases hop with hop | hop
      · simp only at q2; omega
      · exact hop
    · cases hc
  · split at hc
    · rename_i q1 q
      simp only [List.mem_singleton] at hc
      subst hc
      have h0 := val_a hv q
      unfold oprB at hop
      rw [if_neg q1, if_pos q] at hop
      exact ⟨h0, by simpa using hop⟩
    · split at hc
      · rename_i q1 q2 q
        simp only [List.mem_singleton] at hc
        subst hc
        have h0 := val_b hv (.inl q)
        unfold oprB at hop
        rw [if_neg q1, if_neg q2, if_pos q] at hop
        exact ⟨h0, by simpa using hop⟩
      · cases hc
theorem insS_in {m : Mod} {k : Nat} {i : Ins} (hop : oprB m k i = true) (hv : validI i false = true) {c : Int} (hc : c ∈ insS i) : 0 ≤ c ∧ c < m.statics.length := by
  unfold insS at hc
  split at hc
  · rename_i q
    simp only [List.mem_singleton] at hc
    subst hc
    have h0 := val_sta hv q
    unfold oprB at hop
    rw [if_neg (by omega), if_neg (by omega), if_neg (by omega), if_pos q] at hop
    exact ⟨h0, by simpa using hop⟩
  · cases hc
theorem needC_in {m : Mod} (P : ModP m) {k : Nat} {x : MM} (h : m.methods[k]? = some x) {c : Int} (hc : c ∈ needC x) : 0 ≤ c ∧ c < m.classes.length := by
  have M := P.mth k x h
  unfold needC at hc
  simp only [List.mem_append, List.mem_flatMap, List.mem_singleton] at hc
  rcases hc with ⟨t, ht, hc⟩ | ⟨i, hi, hc⟩
  · rcases ht with ht | rfl
    · unfold locM at ht
      simp only [List.mem_append] at ht
      rcases ht with (ht | ht) | ht
      · split at ht
        · simp only [List.mem_singleton] at ht
          subst ht
          simp [tcl] at hc
          have := M.c2
          omega
        · cases ht
      · exact tcl_in (M.pt t ht) hc
      · exact tcl_in (M.lt t ht) hc
    · exact tcl_in M.rt hc
  · exact insC_in (M.op i hi) (code_all M.cd i hi) hc
theorem needS_in {m : Mod} (P : ModP m) {k : Nat} {x : MM} (h : m.methods[k]? = some x) {c : Int} (hc : c ∈ needS x) : 0 ≤ c ∧ c < m.statics.length := by
  have M := P.mth k x h
  unfold needS at hc
  obtain ⟨i, hi, hc⟩ := List.mem_flatMap.1 hc
  exact insS_in (M.op i hi) (code_all M.cd i hi) hc
theorem staC_in {m : Mod} (P : ModP m) {i c : Int} (hc : c ∈ staC m i) : 0 ≤ c ∧ c < m.classes.length := by
  unfold staC at hc
  cases ht : m.statics[i.toNat]? with
  | none => rw [ht] at hc; cases hc
  | some t =>
    rw [ht] at hc
    exact tcl_in (P.sta t (List.mem_of_getElem? ht)) hc
theorem suc_in {m : Mod} (P : ModP m) {x y : Nd} (hx : NdIn m x) (hy : y ∈ suc m x) : NdIn m y := by
  cases x with
  | m n =>
    obtain ⟨k, rfl⟩ := Int.eq_ofNat_of_zero_le hx.1
    obtain ⟨z, hz⟩ := some_of_lt (l := m.methods) (k := k) (by have := hx.2; omega)
    simp only [suc, mths_at hz, Int.toNat_natCast, List.mem_append, List.mem_map] at hy
    rcases hy with (⟨c, hc, rfl⟩ | ⟨c, hc, rfl⟩) | ⟨c, hc, rfl⟩
    · exact needC_in P hz hc
    · exact needS_in P hz hc
    · have := calM_lt P hz hc
      have h2 := hx.2
      exact ⟨this.1, by omega⟩
  | c n =>
    obtain ⟨k, rfl⟩ := Int.eq_ofNat_of_zero_le hx.1
    obtain ⟨z, hz⟩ := some_of_lt (l := m.classes) (k := k) (by have := hx.2; omega)
    obtain ⟨c, hc, rfl⟩ := List.mem_map.1 hy
    exact sucC_in P hz hc
  | s n =>
    obtain ⟨c, hc, rfl⟩ := List.mem_map.1 hy
    exact staC_in P hc
theorem Rch.isIn {m : Mod} (P : ModP m) {R : Nd → Prop} (hR : ∀ x, R x → NdIn m x) {x : Nd} (h : Rch m R x) : NdIn m x := by
  induction h with
  | root q => exact hR _ q
  | step _ hy ih => exact suc_in P ih hy
/-- the numbers below n with a property, in ascending order -/
noncomputable def sel (n : Nat) (p : Int → Prop) : List Int := by
  classical exact ((List.range n).map fun i : Nat => (i : Int)).filter fun i => decide (p i)
theorem mem_sel {n : Nat} {p : Int → Prop} {x : Int} : x ∈ sel n p ↔ (0 ≤ x ∧ x < n) ∧ p x := by
  unfold sel
  rw [List.mem_filter, List.mem_map]
  simp only [List.mem_range, decide_eq_true_eq]
  constructor
  · rintro ⟨⟨i, hi, rfl⟩, h⟩; exact ⟨⟨by omega, by omega⟩, h⟩
  · rintro ⟨⟨h0, h1⟩, h⟩; exact ⟨⟨x.toNat, by omega, by omega⟩, h⟩
theorem sel_asc (n : Nat) (p : Int → Prop) : AscI (sel n p) := by
  unfold sel AscI
  refine List.Pairwise.filter _ ?_
  rw [List.pairwise_map]
  exact List.pairwise_lt_range.imp fun h => by omega
theorem sel_of {n : Nat} {p : Int → Prop} {l : List Int} (ha : AscI l) (h : ∀ x, x ∈ l ↔ p x) (hp : ∀ x, p x → 0 ≤ x ∧ x < n) : l = sel n p :=
  asc_eq ha (sel_asc n p) fun x => by rw [mem_sel, h]; exact ⟨fun q => ⟨hp x q, q⟩, fun q => q.2⟩
def rootsN (roots : List Int) : Nd → Prop := fun x => ∃ k ∈ roots, x = .m k
noncomputable def meL (m : Mod) (roots : List Int) : List Int := sel m.methods.length fun k => Rch m (rootsN roots) (.m k)
noncomputable def clL (m : Mod) (roots : List Int) : List Int := sel m.classes.length fun k => Rch m (rootsN roots) (.c k)
noncomputable def stL (m : Mod) (roots : List Int) : List Int := sel m.statics.length fun k => Rch m (rootsN roots) (.s k)
end Go.Proofs.YtkmdfjpafkcleaaGreatDoor

/- Walks: Locals and Calls, in the program and in the document. -/
namespace Go.Proofs.YtkmdfjpafkcleaaGreatDoor
open Eng Go.RowKit
def selfM (x : MM) : List Ty := if 0 ≤ x.cls then [⟨2, x.cls⟩] else []
theorem locM_eq (x : MM) : locM x = selfM x ++ x.params ++ x.locals := rfl
theorem selfM_len (x : MM) : (selfM x).length ≤ 1 := by unfold selfM; split <;> simp
set_option maxHeartbeats 1000000 in
theorem k_locals (x : MM) (a1 : Option Addr) (c1 : Nat) (a2 : Option Addr) (c2 : Nat) (a3 : Option Addr) (c3 : Nat) (w : World) (h1 : Sl eTy T w a1 x.params) (h2 : Sl eTy T w a2 x.locals) :
    Ret Tryz.prog 74 #[.agg (mmcells x a1 c1 a2 c2 a3 c3).toArray] w fun v w' => ∃ a c, v = .slice a (locM x).length c ∧ OwP 2 encTy w' w.heap.size 51 a c (locM x) ∧ Bl w w' := by
  have g1 := h1.big
  have g2 := h2.big
  have g3 := selfM_len x
  refine entr (vs := [.agg (mmcells x a1 c1 a2 c2 a3 c3).toArray]) [0, 1, 2, 3, 6] tabok Tryz.func74 (by kernel_rfl) ?_
  refine bx (cs := mmcells x a1 c1 a2 c2 a3 c3) fun b1 w1 k1 => ?_
  have z1 := k1.size
  have y1 := k1.blk
  refine ld (k1.box.cell rfl) ?_
  refine jn [3] [(1, .pointer (some ⟨b1, 0, none⟩))] (fun vals w' => ∃ a c, vals = [.slice a (selfM x).length c] ∧ OwP 2 encTy w' w1.heap.size 51 a c (selfM x) ∧ Bl w1 w') (fun h go => ?_) (fun h go => ?_) ?_
  · have h0 : 0 ≤ x.cls := of_decide_eq_true h
    have e : selfM x = [⟨2, x.cls⟩] := if_pos h0
    refine ld (k1.box.cell rfl) ?_
    refine bd (cs := [I 2, I x.cls]) ?_
    refine bs (cs := [I 2, I x.cls]) fun b5 w5 k5 => ?_
    have z5 := k5.size
    refine apl (enc := encTy) (base := w1.heap.size) (l0 := []) (l1 := [⟨2, x.cls⟩]) (Ow.nil ..) (.inr ⟨b5, 0, rfl, k5.box.at⟩) (by omega) fun a7 c7 w7 O7 A7 _ => ?_
    rw [← e] at O7
    refine go ⟨a7, c7, by rw [e], O7, Below.trans k5.bl (A7.below (by omega) fun g hg => by cases hg)⟩
  · have h0 : ¬ 0 ≤ x.cls := of_decide_eq_false h
    have e : selfM x = [] := if_neg h0
    refine go ⟨none, 0, by rw [e], by rw [e]; exact Ow.nil .., Bl.refl _⟩
  rintro _ w5 ⟨a5, c5, rfl, O5, B15⟩
  have x5 := Bl.box B15 k1.box
  have z5 := B15.size
  refine dh (fun i => i = b1) [0, 1, 2, 4, 5, 3, 6, 7] fun w6 k6 => ?_
  have x6 := k6.box x5
  have B6 := (k1.bl.trans B15).trans k6.bl
  have O6 := O5.bl k6.bl
  have z6 := k6.bl.size
  refine ld (x6.cell rfl) ?_ (hm := rfl)
  refine ld (x6.cell rfl) ?_ (hm := rfl)
  refine apl (l0 := selfM x) (l1 := x.params) O6 (src_of (h1.bl B6)) (by omega) (fun a7 c7 w7 O7 A7 F7 => ?_) (hm := apS fun g hg q => by have := (O6.lt hg).1; omega)
  have z7 := A7.size
  have D7 : Below w.heap.size w w7 := Below.trans B6 (A7.below (by omega) fun g hg => by have := (O6.lt hg).1; omega)
  have L7 : Sl eTy (· < w.heap.size) w7 a2 x.locals := (Sl.lt (by decide) h2).kp (Below.kp D7)
  refine apl (l0 := selfM x ++ x.params) (l1 := x.locals) O7 (src_of L7) (by omega) (fun a8 c8 w8 O8 A8 F8 => ?_) (hm := apS fun g hg q => by have := (O7.lt hg).1; omega)
  refine rt1 ⟨a8, c8, rfl, O8.base (by omega), Below.trans D7 (A8.below (by omega) fun g hg => by have := (O7.lt hg).1; omega)⟩
open Classical in
noncomputable def locL (m : Mod) (k : Int) : List Ty := if askE m m.methods.length [k] = 0 then locM (mths m k) else []
theorem k_LocalsF (m : Mod) (a : MA) (k : Int) (w : World) (hM : MdR T w m a) : Ret Tryz.prog 34 #[.agg (modcells m a).toArray, I k] w fun v w' => ∃ a c, v = .tuple #[.slice a (locL m k).length c, I (askE m m.methods.length [k])] ∧ OwP 2 encTy w' w.heap.size 51 a c (locL m k) ∧ Bl w w' := by
  have q1 := hM.mth.big
  refine entr (vs := [.agg (modcells m a).toArray, I k]) [0, 1, 2, 4, 5, 6, 15] tabok Tryz.func34 (by kernel_rfl) ?_
  refine bx (cs := modcells m a) fun b1 w1 k1 => ?_
  refine lda k1.box.at ?_
  refine ld (k1.box.cell rfl) ?_
  refine bs (cs := [I k]) fun b2 w2 k2 => ?_
  have B2 := k1.bl.trans k2.bl
  refine cl (k_asked m a m.methods.length [k] _ 1 w2 (hM.bl B2) (one_int k2)) ?_
  rintro _ w3 ⟨rfl, B23⟩
  have B3 := B2.trans B23
  have x3 := Bl.box (k2.bl.trans B23) k1.box
  by_cases h1 : askE m m.methods.length [k] = 0
  rotate_left
  · have e : locL m k = [] := if_neg h1
    rw [ask_n h1, e]
    refine brt ?_
    exact rt2 ⟨none, 0, rfl, Ow.nil .., B3⟩
  have e : locL m k = locM (mths m k) := if_pos h1
  rw [h1, e]
  refine brf ?_
  obtain ⟨P, c0, c1⟩ := ask_one h1
  obtain ⟨k, rfl⟩ := Int.eq_ofNat_of_zero_le c0
  obtain ⟨x, b, o, cs, hx, e2, _, hAt, a1, d1, a2, d2, a3, d3, rfl, f1, f2, _⟩ := at_some (hM.bl B3).mth (i := k) (by omega)
  rw [mths_at hx]
  refine ld (x3.cell rfl) ?_
  rw [e2]
  refine ix ?_
  refine lda hAt ?_
  refine cl (k_locals x a1 d1 a2 d2 a3 d3 w3 f1 f2) ?_ (hm := fun _ _ r => by obtain ⟨_, _, _, _, hB⟩ := r; exact mdW_bl hB)
  rintro _ w4 ⟨a4, c4, rfl, O4, B34⟩
  exact rt2 ⟨a4, c4, rfl, O4.base B3.size, B3.trans B34⟩
set_option maxHeartbeats 1000000 in
theorem r5_Locals (m : Mod) (a : MA) (k : Int) (w : World) (hM : MdR T w m a) : Ret Tryz.prog 35 #[.agg (modcells m a).toArray, I k] w fun v w' => ∃ a c, v = .tuple #[.slice a (locL m k).length c, I (askE m m.methods.length [k])] ∧ OwP 2 encTy w' w.heap.size 51 a c (locL m k) ∧ Bl w w' := by
  have q1 := hM.mth.big
  refine entr (vs := [.agg (modcells m a).toArray, I k]) [0, 1, 2, 4, 5, 6, 7, 8, 16, 25] tabok Tryz.func35 (by kernel_rfl) ?_
  refine bx (cs := modcells m a) fun b1 w1 k1 => ?_
  refine lda k1.box.at ?_
  refine ld (k1.box.cell rfl) ?_
  refine cl (r5_within m a k m.methods.length w1 (hM.bl k1.bl)) ?_
  rintro _ w3 ⟨rfl, B13⟩
  have B3 := k1.bl.trans B13
  have x3 := Bl.box B13 k1.box
  by_cases h1 : askE m m.methods.length [k] = 0
  rotate_left
  · have e : locL m k = [] := if_neg h1
    rw [ask_n h1, e]
    refine brt ?_
    exact rt2 ⟨none, 0, rfl, Ow.nil .., B3⟩
  have e : locL m k = locM (mths m k) := if_pos h1
  rw [h1, e]
  refine brf ?_
  obtain ⟨P, c0, c1⟩ := ask_one h1
  obtain ⟨k, rfl⟩ := Int.eq_ofNat_of_zero_le c0
  obtain ⟨x, b, o, cs, hx, e2, _, hAt, a1, d1, a2, d2, a3, d3, rfl, f1, f2, _⟩ := at_some (hM.bl B3).mth (i := k) (by omega)
  rw [mths_at hx]
  have g1 := f1.big
  have g2 := f2.big
  have g3 := selfM_len x
  refine ld (x3.cell rfl) ?_
  rw [e2]
  refine ix ?_
  refine lda hAt ?_
  refine al fun b4 w4 k4 => ?_
  refine sta (cs' := mmcells x a1 d1 a2 d2 a3 d3) k4.box fun w5 k5 x5 => ?_
  have B35 := k4.wr k5
  have y4 := k4.blk
  have z5 := B35.size
  have l5 := x5.lt
  refine ld (x5.cell rfl) ?_
  refine jn [8] [(7, .pointer (some ⟨b4, 0, none⟩))] (fun vals w' => ∃ a c, vals = [.slice a (selfM x).length c] ∧ OwP 2 encTy w' w5.heap.size 51 a c (selfM x) ∧ Bl w5 w') (fun h go => ?_) (fun h go => ?_) ?_
  · have h0 : 0 ≤ x.cls := of_decide_eq_true h
    have e : selfM x = [⟨2, x.cls⟩] := if_pos h0
    refine ld (x5.cell rfl) ?_
    refine bd (cs := [I 2, I x.cls]) ?_
    refine bs (cs := [I 2, I x.cls]) fun b5 w6 k6 => ?_
    have z6 := k6.size
    refine apl (enc := encTy) (base := w5.heap.size) (l0 := []) (l1 := [⟨2, x.cls⟩]) (Ow.nil ..) (.inr ⟨b5, 0, rfl, k6.box.at⟩) (by omega) fun a7 c7 w7 O7 A7 _ => ?_
    rw [← e] at O7
    refine go ⟨a7, c7, by rw [e], O7, Below.trans k6.bl (A7.below (by omega) fun g hg => by cases hg)⟩
  · have h0 : ¬ 0 ≤ x.cls := of_decide_eq_false h
    have e : selfM x = [] := if_neg h0
    refine go ⟨none, 0, by rw [e], by rw [e]; exact Ow.nil .., Bl.refl _⟩
  rintro _ w6 ⟨a5, c5, rfl, O5, B56⟩
  have x6 := Bl.box B56 x5
  have z6 := B56.size
  refine dh (fun i => i = b4) [0, 1, 2, 4, 5, 3, 6, 7, 8] fun w7 k7 => ?_
  have x7 := k7.box x6
  have B37 := (B35.trans B56).trans k7.bl
  have O6 := O5.bl k7.bl
  have z7 := k7.bl.size
  refine ld (x7.cell rfl) ?_ (hm := rfl)
  refine ld (x7.cell rfl) ?_ (hm := rfl)
  refine apl (l0 := selfM x) (l1 := x.params) O6 (src_of (f1.bl B37)) (by omega) (fun a7 c7 w8 O7 A7 F7 => ?_) (hm := apS fun g hg q => by have := (O6.lt hg).1; omega)
  have z8 := A7.size
  have D7 : Below w3.heap.size w3 w8 := Below.trans B37 (A7.below (by omega) fun g hg => by have := (O6.lt hg).1; omega)
  have L7 : Sl eTy (· < w3.heap.size) w8 a2 x.locals := (Sl.lt (by decide) f2).kp (Below.kp D7)
  refine apl (l0 := selfM x ++ x.params) (l1 := x.locals) O7 (src_of L7) (by omega) (fun a8 c8 w9 O8 A8 F8 => ?_) (hm := apS fun g hg q => by have := (O7.lt hg).1; omega)
  refine rt2 ⟨a8, c8, rfl, O8.base (by have := B3.size; omega), B3.trans (Below.trans D7 (A8.below (by omega) fun g hg => by have := (O7.lt hg).1; omega))⟩
theorem calO_len {m : Mod} (P : ModP m) (i : Ins) : (calO m i).length ≤ 10 := by
  unfold calO
  split
  · simp
  · split
    · exact Nat.le_trans (trg_len _) P.cl
    · simp
theorem codeE_len {l : List Ins} {p : Bool} (h : codeE l p = 0) : l.length ≤ 120 := by
  unfold codeE at h
  split at h
  · cases h
  · omega
theorem ModP.tbl {m : Mod} (P : ModP m) {s : Nat} (h : (s : Int) < m.sels) : ∀ c ∈ m.classes, s < c.table.length := fun c hc => by
  obtain ⟨k, hk⟩ := List.mem_iff_getElem?.1 hc
  have := (P.cls k c hk).tl
  omega
theorem calM_at {m : Mod} {k : Nat} {x : MM} (h : m.methods[k]? = some x) : calM m k = srtI (x.code.flatMap (calO m)) := by unfold calM; rw [h]; rfl
set_option maxHeartbeats 2000000 in
theorem k_calls (m : Mod) (a : MA) (k : Nat) (P : ModP m) (hk : k < m.methods.length) (w : World) (hM : MdR T w m a) :
    Ret Tryz.prog 75 #[.agg (modcells m a).toArray, I k] w fun v w' => ∃ a c, v = .slice a (calM m k).length c ∧ OwP 1 encInt w' w.heap.size 3 a c (calM m k) ∧ Bl w w' := by
  refine entr (vs := [.agg (modcells m a).toArray, I k]) [0, 1, 2, 4, 5, 7, 13, 14, 15, 16, 20, 21, 28] tabok Tryz.func75 (by kernel_rfl) ?_
  refine bx (cs := modcells m a) fun b1 w1 k1 => ?_
  have x1 := k1.box
  have z1 := k1.size
  have y1 := k1.blk
  obtain ⟨x, b, o, cs, hx, e2, _, hAt, a1, d1, a2, d2, a3, d3, rfl, f1, f2, f3, _⟩ := at_some (hM.bl k1.bl).mth hk
  have M := P.mth k x hx
  have hcl := codeE_len M.cd
  have hle := fun {j : Nat} (hj : j ≤ x.code.length) => flatMap_take_le (f := calO m) (B := 10) (l := x.code) (fun i _ => calO_len P i) hj
  refine ld (x1.cell rfl) ?_
  rw [e2]
  refine ix ?_
  refine ld (hAt 6 _ rfl) ?_
  refine lpk x.code.length 15 [5] [(2, .pointer (some ⟨b1, 0, none⟩)), (13, .slice a3 x.code.length d3), (14, I x.code.length)] (fun j vals w' => ∃ a c, vals = [.slice a ((x.code.take j).flatMap (calO m)).length c] ∧ OwP 1 encInt w' w1.heap.size 3 a c ((x.code.take j).flatMap (calO m)) ∧ Bl w1 w') ⟨none, 0, rfl, Ow.nil .., Bl.refl _⟩ ?_
  rintro j vals w2 hj ⟨a2', c2, rfl, O2, B2⟩ ih
  have hl := hle hj
  have z2 := B2.size
  have x2 := Bl.box B2 x1
  by_cases hlt : j < x.code.length
  · refine brT ?_
    obtain ⟨i, bi, oi, ci, hi, ei, _, hAi, rfl⟩ := at_some (f3.bl B2) hlt
    have hv := code_all M.cd i (List.mem_of_getElem? hi)
    rw [ei]
    refine ix ?_
    refine lda hAi ?_
    refine al fun b7 w3 h3 => ?_
    refine sta (cs' := encIns i) h3.box fun w4 k4 x4 => ?_
    have B24 := h3.wr k4
    have z4 := B24.size
    have O4 := O2.bl B24
    have S7 : ∀ {l'' : Env}, Eng.Sub [(2, .pointer (some ⟨b1, 0, none⟩)), (13, .slice (some ⟨bi, oi, none⟩) x.code.length d3), (14, I x.code.length)] l'' → Eng.Sub [(2, .pointer (some ⟨b1, 0, none⟩)), (13, .slice a3 x.code.length d3), (14, I x.code.length)] l'' := fun h => by rw [ei]; exact h
    refine ld (x4.cell rfl) ?_
    by_cases h25 : i.op = 25
    · have e : calO m i = [i.a] := if_pos h25
      refine brT ?_ (hp := h25)
      refine ld (x4.cell rfl) ?_
      refine bs (cs := encInt i.a) fun b6 w6 k6 => ?_
      have z6 := k6.size
      refine apl (l1 := [i.a]) (O4.bl k6.bl) (.inr ⟨b6, 0, rfl, k6.box.at⟩) (by omega) fun a7 c7 w7 O7 A7 _ => ?_
      refine ih hlt ⟨a7, c7, by rw [flatMap_snoc hi, e], by rw [flatMap_snoc hi, e]; exact O7, Below.trans ((B2.trans B24).trans k6.bl) (A7.below (by omega) fun g hg => (O2.lt hg).1)⟩ (hsub := S7 (by repeat (first | exact True.intro | (refine ⟨rfl, ?_⟩))))
    · refine brF ?_ (hp := h25)
      by_cases h26 : i.op = 26
      · have e : calO m i = trgM m i.a.toNat := by unfold calO; rw [if_neg h25, if_pos h26]
        refine brT ?_ (hp := h26)
        have h0 := val_call hv (.inr h26)
        obtain ⟨s, es⟩ := Int.eq_ofNat_of_zero_le h0
        have hop := M.op i (List.mem_of_getElem? hi)
        have hs : (s : Int) < m.sels := by
          unfold oprB at hop
          simp [h26] at hop
          omega
        rw [es, Int.toNat_natCast] at e
        have x2' := Bl.box B24 x2
        refine lda x2'.at ?_
        refine ld (x4.cell rfl) ?_
        rw [es]
        refine cl (k_targets m a s (P.tbl hs) w4 (hM.bl ((k1.bl.trans B2).trans B24))) ?_ (hm := fun _ _ r => by obtain ⟨_, _, _, _, hB⟩ := r; exact mdW_bl hB)
        rintro _ w6 ⟨a6, c6, rfl, O6, B46⟩
        have ht := trg_len (m := m) s
        have hc10 := P.cl
        have z6 := B46.size
        refine apl (l1 := trgM m s) (O4.bl B46) (src_of (owp_sl (S := T) O6 (by omega) fun _ _ => trivial)) (by omega) fun a7 c7 w7 O7 A7 _ => ?_
        refine ih hlt ⟨a7, c7, by rw [flatMap_snoc hi, e], by rw [flatMap_snoc hi, e]; exact O7, Below.trans ((B2.trans B24).trans B46) (A7.below (by omega) fun g hg => (O2.lt hg).1)⟩ (hsub := S7 (by repeat (first | exact True.intro | (refine ⟨rfl, ?_⟩))))
      · have e : calO m i = [] := by unfold calO; rw [if_neg h25, if_neg h26]
        refine brF ?_ (hp := h26)
        refine ih hlt ⟨a2', c2, by rw [flatMap_snoc hi, e, List.append_nil], by rw [flatMap_snoc hi, e, List.append_nil]; exact O4, B2.trans B24⟩ (hsub := S7 (by repeat (first | exact True.intro | (refine ⟨rfl, ?_⟩))))
  refine brF ?_
  obtain rfl : j = x.code.length := by omega
  rw [List.take_length] at O2 hl ⊢
  refine cl (c_SortI (x.code.flatMap (calO m)) w1.heap.size a2' c2 w2 O2 (by omega)) ?_ (hm := by intros; trivial)
  rintro _ w3 ⟨O3, A3⟩
  rw [show (x.code.flatMap (calO m)).length = (sortI (x.code.flatMap (calO m))).length from (sortI_len _).symm]
  refine cl (c_CompactI (sortI (x.code.flatMap (calO m))) w1.heap.size a2' c2 w3 O3 (by rw [sortI_len]; omega)) ?_ (hm := by intros; trivial)
  rintro _ w4 ⟨rfl, O4, A4⟩
  have et : Lib.compact (sortI (x.code.flatMap (calO m))) = calM m k := by rw [calM_at hx]; exact compactI_srt _
  rw [et] at O4 ⊢
  refine rt1 ⟨a2', c2, rfl, O4.base (by omega), ?_⟩
  have B02 := k1.bl.trans B2
  exact Below.trans (Below.trans B02 (A3.below B02.size fun g hg => by have := (O2.lt hg).1; omega)) (A4.below (by have := A3.size; have := B02.size; omega) fun g hg => by have := (O2.lt hg).1; omega)
set_option maxHeartbeats 2000000 in
theorem r5_calls (m : Mod) (a : MA) (k : Nat) (P : ModP m) (hk : k < m.methods.length) (w : World) (hM : MdR T w m a) :
    Ret Tryz.prog 76 #[.agg (modcells m a).toArray, I k] w fun v w' => ∃ a c, v = .slice a (calM m k).length c ∧ Sl eInt (fun b => w.heap.size ≤ b ∧ b < w'.heap.size) w' a (calM m k) ∧ Bl w w' := by
  refine entr (vs := [.agg (modcells m a).toArray, I k]) [0, 1, 2, 4, 5, 6, 7, 17, 25, 39] tabok Tryz.func76 (by kernel_rfl) ?_
  refine bx (cs := modcells m a) fun b1 w1 k1 => ?_
  have x1 := k1.box
  have z1 := k1.size
  have y1 := k1.blk
  obtain ⟨x, b, o, cs, hx, e2, _, hAt, a1, d1, a2, d2, a3, d3, rfl, f1, f2, f3, _⟩ := at_some (hM.bl k1.bl).mth hk
  have M := P.mth k x hx
  have hcl := codeE_len M.cd
  have hle := fun {j : Nat} (hj : j ≤ x.code.length) => flatMap_take_le (f := calO m) (B := 10) (l := x.code) (fun i _ => calO_len P i) hj
  refine ld (x1.cell rfl) ?_
  rw [e2]
  refine ix ?_
  refine ld (hAt 6 _ rfl) ?_
  refine lpk x.code.length 7 [5] [(2, .pointer (some ⟨b1, 0, none⟩)), (6, .slice a3 x.code.length d3)] (fun j vals w' => ∃ a c, vals = [.slice a ((x.code.take j).flatMap (calO m)).length c] ∧ OwP 1 encInt w' w1.heap.size 3 a c ((x.code.take j).flatMap (calO m)) ∧ Bl w1 w') ⟨none, 0, rfl, Ow.nil .., Bl.refl _⟩ ?_
  rintro j vals w2 hj ⟨a2', c2, rfl, O2, B2⟩ ih
  have hl := hle hj
  have z2 := B2.size
  have x2 := Bl.box B2 x1
  by_cases hlt : j < x.code.length
  · refine brT ?_
    obtain ⟨i, bi, oi, ci, hi, ei, hSi, hAi, rfl⟩ := at_some ((Sl.lt (by decide) f3).bl B2) hlt
    have hv := code_all M.cd i (List.mem_of_getElem? hi)
    have S7 : ∀ {l'' : Env}, Eng.Sub [(2, .pointer (some ⟨b1, 0, none⟩)), (6, .slice (some ⟨bi, oi, none⟩) x.code.length d3)] l'' → Eng.Sub [(2, .pointer (some ⟨b1, 0, none⟩)), (6, .slice a3 x.code.length d3)] l'' := fun h => by rw [ei]; exact h
    rw [ei]
    refine ix ?_
    refine ld (hAi 0 _ rfl) ?_
    by_cases h25 : i.op = 25
    · have e : calO m i = [i.a] := if_pos h25
      refine brT ?_ (hp := h25)
      refine ix ?_
      refine ld (hAi 1 _ rfl) ?_
      refine bs (cs := encInt i.a) fun b6 w6 k6 => ?_
      have z6 := k6.size
      refine apl (l1 := [i.a]) (O2.bl k6.bl) (.inr ⟨b6, 0, rfl, k6.box.at⟩) (by omega) fun a7 c7 w7 O7 A7 _ => ?_
      have D7 : Below w2.heap.size w2 w6 := k6.bl
      have K7 : Below w1.heap.size w1 w7 := Below.trans (B2.trans k6.bl) (A7.below (by omega) fun g hg => (O2.lt hg).1)
      have hA7 : At w7 bi (oi + j * eIns.sz) (encIns i) := by
        obtain ⟨i', bi', oi', ci', hi', ei', _, hAi', rfl⟩ := at_some (f3.bl K7) hlt
        rw [ei] at ei'
        simp only [Option.some.injEq, Addr.mk.injEq, and_true] at ei'
        obtain ⟨rfl, rfl⟩ := ei'
        rw [hi] at hi'
        obtain rfl := Option.some.inj hi'
        exact hAi'
      refine ix ?_
      refine ld (hA7 0 _ rfl) ?_
      refine brF ?_
      refine ih hlt ⟨a7, c7, by rw [flatMap_snoc hi, e], by rw [flatMap_snoc hi, e]; exact O7, K7⟩ (hsub := S7 (by repeat (first | exact True.intro | (refine ⟨rfl, ?_⟩))))
    · refine brF ?_ (hp := h25)
      refine ix ?_
      refine ld (hAi 0 _ rfl) ?_
      by_cases h26 : i.op = 26
      · have e : calO m i = trgM m i.a.toNat := by unfold calO; rw [if_neg h25, if_pos h26]
        refine brT ?_ (hp := h26)
        have h0 := val_call hv (.inr h26)
        obtain ⟨s, es⟩ := Int.eq_ofNat_of_zero_le h0
        have hop := M.op i (List.mem_of_getElem? hi)
        have hs : (s : Int) < m.sels := by
          unfold oprB at hop
          simp [h26] at hop
          omega
        rw [es, Int.toNat_natCast] at e
        refine dh (· < w1.heap.size) (List.range 10) fun w4 k4 => ?_
        have z4 := k4.bl.size
        refine lda (Bl.box k4.bl x2).at ?_ (hm := by show b1 < w1.heap.size; omega)
        refine ix ?_
        refine ld ((hAi.bl k4.bl) 1 _ rfl) ?_ (hm := hSi)
        rw [es]
        refine cl (r5_targets m a s (P.tbl hs) w4 (hM.bl ((k1.bl.trans B2).trans k4.bl))) ?_ (hm := fun _ _ r => by obtain ⟨_, _, _, _, hB⟩ := r; exact mdW_bl hB)
        rintro _ w6 ⟨a6, c6, rfl, O6, B46⟩
        have B26 := k4.bl.trans B46
        have ht := trg_len (m := m) s
        have hc10 := P.cl
        have z6 := B46.size
        refine apl (l1 := trgM m s) (O2.bl B26) (src_of O6) (by omega) (fun a7 c7 w7 O7 A7 _ => ?_) (hm := apS fun g hg q => by have := (O2.lt hg).1; omega)
        refine ih hlt ⟨a7, c7, by rw [flatMap_snoc hi, e], by rw [flatMap_snoc hi, e]; exact O7, Below.trans (B2.trans B26) (A7.below (by omega) fun g hg => (O2.lt hg).1)⟩ (hsub := S7 (by repeat (first | exact True.intro | (refine ⟨rfl, ?_⟩))))
      · have e : calO m i = [] := by unfold calO; rw [if_neg h25, if_neg h26]
        refine brF ?_ (hp := h26)
        refine ih hlt ⟨a2', c2, by rw [flatMap_snoc hi, e, List.append_nil], by rw [flatMap_snoc hi, e, List.append_nil]; exact O2, B2⟩ (hsub := S7 (by repeat (first | exact True.intro | (refine ⟨rfl, ?_⟩))))
  refine brF ?_
  obtain rfl : j = x.code.length := by omega
  rw [List.take_length] at O2 hl ⊢
  refine cl (r5_Sort (x.code.flatMap (calO m)) a2' c2 w2 (owp_sl O2 (by omega) fun _ _ => trivial)) ?_ (hm := fun _ _ r => by obtain ⟨_, _, _, _, hB⟩ := r; exact mdW_bl hB)
  rintro _ w3 ⟨a3', c3', rfl, S3, B23⟩
  rw [← calM_at hx] at S3 ⊢
  exact rt1 ⟨a3', c3', rfl, S3.sub fun i hi => ⟨by have := (k1.bl.trans B2).size; omega, hi.2⟩, (k1.bl.trans B2).trans B23⟩
end Go.Proofs.YtkmdfjpafkcleaaGreatDoor

/- Walks: Chain, in the program and in the document. -/
namespace Go.Proofs.YtkmdfjpafkcleaaGreatDoor
open Eng Go.RowKit
/-- the length of a chain out of the lengths of those that are called -/
def chV (D : List Int) (l : List Int) : Int := l.foldl (fun x c => max x (D.getD c.toNat 0 + 1)) 0
def chL (m : Mod) : Nat → List Int
  | 0 => []
  | k + 1 => chL m k ++ [chV (chL m k) (calM m k)]
def chaN (m : Mod) (k : Nat) : Int := chV (chL m k) (calM m k)
theorem chL_len (m : Mod) : ∀ (k : Nat), (chL m k).length = k
  | 0 => rfl
  | k + 1 => by show (chL m k ++ [_]).length = _; rw [List.length_append, chL_len m k]; rfl
theorem chL_at {m : Mod} {i : Nat} : ∀ {n : Nat}, i < n → (chL m n)[i]? = some (chaN m i)
  | 0, h => by omega
  | n + 1, h => by
    show (chL m n ++ [_])[i]? = _
    by_cases e : i = n
    · subst e
      rw [List.getElem?_append_right (by rw [chL_len]; exact Nat.le_refl _), chL_len, Nat.sub_self]; rfl
    · rw [List.getElem?_append_left (by rw [chL_len]; omega)]
      exact chL_at (by omega)
theorem fold_le {D : List Int} {B : Int} : ∀ {l : List Int} {x : Int}, x ≤ B → (∀ c ∈ l, D.getD c.toNat 0 + 1 ≤ B) → l.foldl (fun x c => max x (D.getD c.toNat 0 + 1)) x ≤ B
  | [], _, h, _ => h
  | c :: l, x, h, k => by
    rw [List.foldl_cons]
    exact fold_le (Int.max_le.2 ⟨h, k c (List.mem_cons_self ..)⟩) fun d hd => k d (List.mem_cons_of_mem _ hd)
theorem le_fold {D : List Int} : ∀ {l : List Int} {x : Int}, x ≤ l.foldl (fun x c => max x (D.getD c.toNat 0 + 1)) x ∧ ∀ c ∈ l, D.getD c.toNat 0 + 1 ≤ l.foldl (fun x c => max x (D.getD c.toNat 0 + 1)) x
  | [], x => ⟨Int.le_refl _, fun c h => by cases h⟩
  | c :: l, x => by
    rw [List.foldl_cons]
    obtain ⟨h1, h2⟩ := le_fold (D := D) (l := l) (x := max x (D.getD c.toNat 0 + 1))
    have h3 := Int.le_max_left x (D.getD c.toNat 0 + 1)
    have h4 := Int.le_max_right x (D.getD c.toNat 0 + 1)
    refine ⟨by omega, fun d hd => ?_⟩
    rcases List.mem_cons.1 hd with rfl | hd
    · omega
    · exact h2 d hd
theorem chD {m : Mod} {i : Nat} {c : Int} (h0 : 0 ≤ c) (h : c < i) : (chL m i).getD c.toNat 0 = chaN m c.toNat := by
  rw [List.getD_eq_getElem?_getD, chL_at (by omega)]; rfl
theorem chaN_le {m : Mod} (P : ModP m) : ∀ (n : Nat) {i : Nat}, i < n → i < m.methods.length → 0 ≤ chaN m i ∧ chaN m i ≤ i
  | 0, _, h, _ => by omega
  | n + 1, i, h, hi => by
    obtain ⟨x, hx⟩ := some_of_lt hi
    refine ⟨(le_fold (D := chL m i) (l := calM m i) (x := 0)).1, fold_le (by omega) fun c hc => ?_⟩
    obtain ⟨c0, c1⟩ := calM_lt P hx hc
    rw [chD c0 c1]
    have := (chaN_le P n (i := c.toNat) (by omega) (by omega)).2
    omega
theorem chaN_lt {m : Mod} (P : ModP m) {i : Nat} (hi : i < m.methods.length) {c : Int} (hc : c ∈ calM m i) : chaN m c.toNat < chaN m i := by
  obtain ⟨x, hx⟩ := some_of_lt hi
  obtain ⟨c0, c1⟩ := calM_lt P hx hc
  have := (le_fold (D := chL m i) (l := calM m i) (x := 0)).2 c hc
  rw [chD c0 c1] at this
  unfold chaN at this ⊢
  unfold chV at this ⊢
  omega
/-- the row of lengths while the method k is looked at -/
def chR (m : Mod) (k : Nat) (v : Int) (r : Nat) : List Int := chL m k ++ v :: List.replicate r 0
theorem chR_len (m : Mod) (k : Nat) (v : Int) (r : Nat) : (chR m k v r).length = k + 1 + r := by unfold chR; simp [chL_len]; omega
theorem chR_lt {m : Mod} {k c : Nat} {v : Int} {r : Nat} (h : c < k) : ((chR m k v r).map I)[c]? = some (I (chaN m c)) := by
  unfold chR
  rw [List.getElem?_map, List.getElem?_append_left (by rw [chL_len]; exact h), chL_at h]; rfl
theorem chR_at {m : Mod} {k : Nat} {v : Int} {r : Nat} : ((chR m k v r).map I)[k]? = some (I v) := by
  unfold chR
  rw [List.getElem?_map, List.getElem?_append_right (by rw [chL_len]; exact Nat.le_refl _), chL_len, Nat.sub_self]; rfl
theorem chR_set {m : Mod} {k : Nat} {v u : Int} {r : Nat} : ((chR m k v r).map I).set k (I u) = (chR m k u r).map I := by
  rw [← List.map_set]
  unfold chR
  rw [List.set_append_right _ _ (by rw [chL_len]; exact Nat.le_refl _), chL_len, Nat.sub_self]; rfl
theorem chR_next {m : Mod} {k r : Nat} : chR m k (chaN m k) (r + 1) = chR m (k + 1) 0 r := by
  unfold chR
  show chL m k ++ chaN m k :: (0 :: List.replicate r 0) = (chL m k ++ [chaN m k]) ++ 0 :: List.replicate r 0
  rw [List.append_assoc]; rfl
theorem rep_I (n : Nat) : rep n [I 0] = (List.replicate n (0 : Int)).map I := by
  induction n with
  | zero => rfl
  | succ n ih => rw [show rep (n + 1) [I 0] = rep n [I 0] ++ [I 0] from rfl, ih, List.replicate_succ', List.map_append]; rfl
theorem foldl_snoc' {D l : List Int} {j : Nat} {c : Int} (h : l[j]? = some c) : chV D (l.take (j + 1)) = max (chV D (l.take j)) (D.getD c.toNat 0 + 1) := by
  unfold chV
  rw [take_succ_some h, List.foldl_append]; rfl
open Classical in
noncomputable def chnV (m : Mod) (k : Int) : Int := if askE m m.methods.length [k] = 0 then chaN m k.toNat else 0
/-- since a world only the blocks bs and newer ones have turned -/
structure Chg (bs : Nat → Prop) (w w' : World) : Prop where
  os : w'.os = w.os
  tape : w'.tape = w.tape
  output : w'.output = w.output
  size : w.heap.size ≤ w'.heap.size
  block : ∀ k, k < w.heap.size → ¬ bs k → w'.heap[k]? = w.heap[k]?
theorem Chg.refl (bs : Nat → Prop) (w : World) : Chg bs w w := ⟨rfl, rfl, rfl, Nat.le_refl _, fun _ _ _ => rfl⟩
theorem Chg.trans {bs : Nat → Prop} {w w1 w2 : World} (h : Chg bs w w1) (k : Chg bs w1 w2) : Chg bs w w2 :=
  ⟨k.os.trans h.os, k.tape.trans h.tape, k.output.trans h.output, Nat.le_trans h.size k.size, fun i hi hn => (k.block i (Nat.lt_of_lt_of_le hi h.size) hn).trans (h.block i hi hn)⟩
theorem Bl.chg {w w' : World} (h : Bl w w') (bs : Nat → Prop) : Chg bs w w' := ⟨h.os, h.tape, h.output, h.size, fun k hk _ => h.block k hk⟩
theorem Eng.Wr.chg {w w' : World} {b : Nat} (h : Wr w b w') {bs : Nat → Prop} (hb : bs b) : Chg bs w w' :=
  ⟨h.os, h.tape, h.output, by rw [h.size]; exact Nat.le_refl _, fun k _ hn => h.block k fun e => hn (e ▸ hb)⟩
theorem Eng.Ap.chg {w w' : World} {a : Option Addr} (h : Ap w a w') {bs : Nat → Prop} (hb : ∀ g, a = some ⟨g, 0, none⟩ → g < w.heap.size → bs g) : Chg bs w w' :=
  ⟨h.os, h.tape, h.output, h.size, fun k hk hn => h.block k hk fun e => hn (hb k e hk)⟩
theorem Chg.below {bs : Nat → Prop} {w w' : World} (h : Chg bs w w') {B : Nat} (hB : B ≤ w.heap.size) (hb : ∀ b, bs b → B ≤ b) : Below B w w' :=
  ⟨h.os, h.tape, h.output, h.size, fun k hk => h.block k (by omega) fun q => by have := hb k q; omega⟩
theorem Chg.box {bs : Nat → Prop} {w w' : World} (h : Chg bs w w') {b : Nat} {t : TypeId} {cs : List Value} (hb : Box w b t cs) (hn : ¬ bs b) : Box w' b t cs := by unfold Box; rw [h.block b hb.lt hn]; exact hb
theorem Chg.kp {bs : Nat → Prop} {w w' : World} (h : Chg bs w w') : Kp (fun b => ¬ bs b) w w' := fun b o v s x => by rw [World.cell?_of_block (w := w) (h.block b (cell_lt x) s)]; exact x
theorem Chg.sub {bs bs' : Nat → Prop} {w w' : World} (h : Chg bs w w') (k : ∀ b, bs b → bs' b) : Chg bs' w w' := ⟨h.os, h.tape, h.output, h.size, fun i hi hn => h.block i hi fun q => hn (k i q)⟩
theorem calM_len {m : Mod} (P : ModP m) {k : Nat} (hk : k < m.methods.length) : (calM m k).length ≤ 1200 := by
  obtain ⟨x, hx⟩ := some_of_lt hk
  have h1 := codeE_len (P.mth k x hx).cd
  have h2 := flatMap_le (f := calO m) (B := 10) (l := x.code) fun i _ => calO_len P i
  rw [calM_at hx]
  have h3 := srtI_len (x.code.flatMap (calO m))
  omega
set_option maxHeartbeats 2000000 in
theorem k_Chain (m : Mod) (a : MA) (k : Int) (w : World) (hM : MdR T w m a) : Ret Tryz.prog 38 #[.agg (modcells m a).toArray, I k] w fun v w' => v = .tuple #[I (chnV m k), I (askE m m.methods.length [k])] ∧ Bl w w' := by
  have q1 := hM.mth.big
  refine entr (vs := [.agg (modcells m a).toArray, I k]) [0, 1, 2, 4, 5, 6, 7, 8, 10, 19, 25, 26, 27, 31, 32, 33, 34] tabok Tryz.func38 (by kernel_rfl) ?_
  refine bx (cs := modcells m a) fun b1 w1 k1 => ?_
  refine lda k1.box.at ?_
  refine ld (k1.box.cell rfl) ?_
  refine bs (cs := [I k]) fun b2 w2 k2 => ?_
  have B2 := k1.bl.trans k2.bl
  refine cl (k_asked m a m.methods.length [k] _ 1 w2 (hM.bl B2) (one_int k2)) ?_
  rintro _ w3 ⟨rfl, B23⟩
  have B3 := B2.trans B23
  have x3 := Bl.box (k2.bl.trans B23) k1.box
  by_cases h1 : askE m m.methods.length [k] = 0
  rotate_left
  · have e : chnV m k = 0 := if_neg h1
    rw [ask_n h1, e]
    refine brt ?_
    exact rt2 ⟨rfl, B3⟩
  have e : chnV m k = chaN m k.toNat := if_pos h1
  rw [h1, e]
  refine brf ?_
  obtain ⟨P, c0, c1⟩ := ask_one h1
  obtain ⟨k, rfl⟩ := Int.eq_ofNat_of_zero_le c0
  rw [Int.toNat_natCast]
  have e1 : IntKind.wrap .i64 ((k : Int) + 1) = ((k + 1 : Nat) : Int) := by rw [wrap_fit (by omega) (by omega)]; omega
  refine mk (m := k + 1) (n := k + 1) (fun b4 w4 k4 => ?_) (hx := by exact congrArg (fun z => some (Value.int .i64 z)) e1) (hy := by exact congrArg (fun z => some (Value.int .i64 z)) e1)
  have y4 := k4.blk
  have z4 := k4.size
  have B4 := B3.trans k4.bl
  have R4 : Box w4 b4 3 ((chR m 0 0 k).map I) := by
    have := k4.box
    rw [rep_I] at this; exact this
  refine lpk (k + 1) 26 [] [(1, I k), (2, .pointer (some ⟨b1, 0, none⟩)), (7, .slice (some ⟨b4, 0, none⟩) (k + 1) (k + 1)), (25, I ((k + 1 : Nat) : Int))] (fun i vals w' => vals = [] ∧ Chg (· = b4) w4 w' ∧ (i ≤ k → Box w' b4 3 ((chR m i 0 (k - i)).map I)) ∧ (i = k + 1 → w'.cell? ⟨b4, k, none⟩ = some (I (chaN m k)))) ⟨rfl, Chg.refl _ _, fun _ => by rw [Nat.sub_zero]; exact R4, fun h => by omega⟩ ?_
  rintro i vals w5 hi ⟨rfl, C5, R5, F5⟩ ih
  have x5 := C5.box (Bl.box k4.bl x3) (by have := x3.lt; omega)
  have B5 : Bl w w5 := Below.trans B4 (C5.below B4.size fun b q => by have := B3.size; omega)
  by_cases hlt : i < k + 1
  rotate_left
  · refine brF ?_
    obtain rfl : i = k + 1 := by omega
    refine ix ?_
    rw [Nat.zero_add, Nat.mul_one]
    refine ld (F5 rfl) ?_
    exact rt2 ⟨rfl, B5⟩
  have hik : i ≤ k := by omega
  have R := R5 hik
  refine brT ?_
  refine lda x5.at ?_
  refine cl (k_calls m a i P (by omega) w5 (hM.bl B5)) ?_ (hm := fun _ _ r => by obtain ⟨_, _, _, _, hB⟩ := r; exact mdW_bl hB)
  rintro _ w6 ⟨a6, c6, rfl, O6, B56⟩
  have hcl := calM_len P (k := i) (by omega)
  have S6 : Sl eInt (fun b => ¬ b = b4) w6 a6 (calM m i) := owp_sl O6 (by omega) fun g hg => by have := (O6.lt hg).1; have := R.lt; omega
  refine lpk (calM m i).length 33 [] [(1, I k), (2, .pointer (some ⟨b1, 0, none⟩)), (7, .slice (some ⟨b4, 0, none⟩) (k + 1) (k + 1)), (25, I ((k + 1 : Nat) : Int)), (26, I i), (8, I i), (31, .slice a6 (calM m i).length c6), (32, I (calM m i).length)] (fun j vals w' => vals = [] ∧ Chg (· = b4) w6 w' ∧ Box w' b4 3 ((chR m i (chV (chL m i) ((calM m i).take j)) (k - i)).map I)) ⟨rfl, Chg.refl _ _, Bl.box B56 R⟩ ?_
  rintro j vals w7 hj ⟨rfl, C7, R7⟩ ih2
  have C7' : Chg (· = b4) w4 w7 := (C5.trans (B56.chg _)).trans C7
  by_cases hlj : j < (calM m i).length
  · refine brT ?_
    obtain ⟨c, bc, oc, cc, hc, rfl, hSc, hAc, rfl⟩ := at_some (S6.kp C7.kp) hlj
    obtain ⟨x, hx⟩ := some_of_lt (l := m.methods) (k := i) (by omega)
    obtain ⟨g0, g1⟩ := calM_lt P hx (List.mem_of_getElem? hc)
    obtain ⟨n, rfl⟩ := Int.eq_ofNat_of_zero_le g0
    have hn := chaN_le P (n + 1) (i := n) (by omega) (by omega)
    refine ix ?_
    refine ld (hAc 0 _ rfl) ?_
    refine dt 1 fun w8 k8 => ?_
    have R8 := k8.box R7
    refine ix ?_
    rw [Nat.zero_add, Nat.mul_one]
    refine ld (R8.cell chR_at) ?_
    refine ix ?_
    rw [Nat.zero_add, Nat.mul_one]
    refine ld (R8.cell (chR_lt (c := n) (k := i) (by omega))) ?_
    refine mx ?_
    refine ix ?_
    rw [Nat.zero_add, Nat.mul_one]
    refine stx R8 (fun w9 k9 R9 => ?_) (ho := by rw [List.length_map, chR_len]; omega)
    rw [wrap_fit (by omega) (by omega), chR_set, show 1 + chaN m n = (chL m i).getD (n : Int).toNat 0 + 1 by rw [chD g0 g1, Int.toNat_natCast]; omega, ← foldl_snoc' hc] at R9
    exact ih2 hlj ⟨rfl, (C7.trans (k8.bl.chg _)).trans (k9.chg rfl), R9⟩
  · refine brF ?_
    obtain rfl : j = (calM m i).length := by omega
    rw [List.take_length] at R7
    refine ih hlt ⟨rfl, C7', fun h => ?_, fun h => ?_⟩
    · have := R7
      rw [show chV (chL m i) (calM m i) = chaN m i from rfl, show k - i = (k - (i + 1)) + 1 by omega, chR_next] at this
      exact this
    · obtain rfl : i = k := by omega
      exact R7.cell chR_at
set_option maxHeartbeats 2000000 in
theorem r5_Chain (m : Mod) (a : MA) (k : Int) (w : World) (hM : MdR T w m a) : Ret Tryz.prog 39 #[.agg (modcells m a).toArray, I k] w fun v w' => v = .tuple #[I (chnV m k), I (askE m m.methods.length [k])] ∧ Bl w w' := by
  have q1 := hM.mth.big
  refine entr (vs := [.agg (modcells m a).toArray, I k]) [0, 1, 2, 4, 5, 6, 7, 8, 9, 10, 18, 25, 34] tabok Tryz.func39 (by kernel_rfl) ?_
  refine bx (cs := modcells m a) fun b1 w1 k1 => ?_
  refine lda k1.box.at ?_
  refine ld (k1.box.cell rfl) ?_
  refine cl (r5_within m a k m.methods.length w1 (hM.bl k1.bl)) ?_
  rintro _ w3 ⟨rfl, B13⟩
  have B3 := k1.bl.trans B13
  have x3 := Bl.box B13 k1.box
  by_cases h1 : askE m m.methods.length [k] = 0
  rotate_left
  · have e : chnV m k = 0 := if_neg h1
    rw [ask_n h1, e]
    refine brt ?_
    exact rt2 ⟨rfl, B3⟩
  have e : chnV m k = chaN m k.toNat := if_pos h1
  rw [h1, e]
  refine brf ?_
  obtain ⟨P, c0, c1⟩ := ask_one h1
  obtain ⟨k, rfl⟩ := Int.eq_ofNat_of_zero_le c0
  rw [Int.toNat_natCast]
  have e1 : IntKind.wrap .i64 ((k : Int) + 1) = ((k + 1 : Nat) : Int) := by rw [wrap_fit (by omega) (by omega)]; omega
  refine mk (m := k + 1) (n := k + 1) (fun b4 w4 k4 => ?_) (hx := by exact congrArg (fun z => some (Value.int .i64 z)) e1) (hy := by exact congrArg (fun z => some (Value.int .i64 z)) e1)
  have y4 := k4.blk
  have z4 := k4.size
  have B4 := B3.trans k4.bl
  have R4 : Box w4 b4 3 ((chR m 0 0 k).map I) := by
    have := k4.box
    rw [rep_I] at this; exact this
  refine lpk (k + 1) 8 [] [(1, I k), (2, .pointer (some ⟨b1, 0, none⟩)), (7, .slice (some ⟨b4, 0, none⟩) (k + 1) (k + 1))] (fun i vals w' => vals = [] ∧ Chg (· = b4) w4 w' ∧ (i ≤ k → Box w' b4 3 ((chR m i 0 (k - i)).map I)) ∧ (i = k + 1 → w'.cell? ⟨b4, k, none⟩ = some (I (chaN m k)))) ⟨rfl, Chg.refl _ _, fun _ => by rw [Nat.sub_zero]; exact R4, fun h => by omega⟩ ?_
  rintro i vals w5 hi ⟨rfl, C5, R5, F5⟩ ih
  have x5 := C5.box (Bl.box k4.bl x3) (by have := x3.lt; omega)
  have B5 : Bl w w5 := Below.trans B4 (C5.below B4.size fun b q => by have := B3.size; omega)
  by_cases hlt : i < k + 1
  rotate_left
  · refine brF ?_
    obtain rfl : i = k + 1 := by omega
    refine ix ?_
    rw [Nat.zero_add, Nat.mul_one]
    refine ld (F5 rfl) ?_
    exact rt2 ⟨rfl, B5⟩
  have hik : i ≤ k := by omega
  have R := R5 hik
  refine brT ?_
  refine lda x5.at ?_
  refine cl (r5_calls m a i P (by omega) w5 (hM.bl B5)) ?_ (hm := fun _ _ r => by obtain ⟨_, _, _, _, hB⟩ := r; exact mdW_bl hB)
  rintro _ w6 ⟨a6, c6, rfl, O6, B56⟩
  have hcl := calM_len P (k := i) (by omega)
  have S6 : Sl eInt (fun b => ¬ b = b4) w6 a6 (calM m i) := O6.sub fun g hg => by have := hg.1; have := R.lt; omega
  refine lpk (calM m i).length 10 [] [(1, I k), (2, .pointer (some ⟨b1, 0, none⟩)), (7, .slice (some ⟨b4, 0, none⟩) (k + 1) (k + 1)), (8, I i), (9, .slice a6 (calM m i).length c6)] (fun j vals w' => vals = [] ∧ Chg (· = b4) w6 w' ∧ Box w' b4 3 ((chR m i (chV (chL m i) ((calM m i).take j)) (k - i)).map I)) ⟨rfl, Chg.refl _ _, Bl.box B56 R⟩ ?_
  rintro j vals w7 hj ⟨rfl, C7, R7⟩ ih2
  have C7' : Chg (· = b4) w4 w7 := (C5.trans (B56.chg _)).trans C7
  by_cases hlj : j < (calM m i).length
  · refine brT ?_
    obtain ⟨c, bc, oc, cc, hc, rfl, hSc, hAc, rfl⟩ := at_some (S6.kp C7.kp) hlj
    obtain ⟨x, hx⟩ := some_of_lt (l := m.methods) (k := i) (by omega)
    obtain ⟨g0, g1⟩ := calM_lt P hx (List.mem_of_getElem? hc)
    obtain ⟨n, rfl⟩ := Int.eq_ofNat_of_zero_le g0
    have hn := chaN_le P (n + 1) (i := n) (by omega) (by omega)
    refine dt 1 fun w8 k8 => ?_
    have R8 := k8.box R7
    refine ix ?_
    rw [Nat.zero_add, Nat.mul_one]
    refine ld (R8.cell chR_at) ?_
    refine ix ?_
    refine ld ((hAc.bl k8.bl) 0 _ rfl) ?_
    refine ix ?_
    rw [Nat.zero_add, Nat.mul_one]
    refine ld (R8.cell (chR_lt (c := n) (k := i) (by omega))) ?_
    refine mx ?_
    refine ix ?_
    rw [Nat.zero_add, Nat.mul_one]
    refine stx R8 (fun w9 k9 R9 => ?_) (ho := by rw [List.length_map, chR_len]; omega)
    rw [wrap_fit (by omega) (by omega), chR_set, show chaN m n + 1 = (chL m i).getD (n : Int).toNat 0 + 1 by rw [chD g0 g1, Int.toNat_natCast], ← foldl_snoc' hc] at R9
    exact ih2 hlj ⟨rfl, (C7.trans (k8.bl.chg _)).trans (k9.chg rfl), R9⟩
  · refine brF ?_
    obtain rfl : j = (calM m i).length := by omega
    rw [List.take_length] at R7
    refine ih hlt ⟨rfl, C7', fun h => ?_, fun h => ?_⟩
    · have := R7
      rw [show chV (chL m i) (calM m i) = chaN m i from rfl, show k - i = (k - (i + 1)) + 1 by omega, chR_next] at this
      exact this
    · obtain rfl : i = k := by omega
      exact R7.cell chR_at
end Go.Proofs.YtkmdfjpafkcleaaGreatDoor

/- Walks: Calls; the law LinkMethods. -/
namespace Go.Proofs.YtkmdfjpafkcleaaGreatDoor
open Eng Go.RowKit
theorem binOp_beq {P : Program} {w : World} {t : TypeId} {a b : Bool} (hu : P.underlying t = some .bool) : (binOp .eql t (.bool a) (.bool b)).run P w = .ok (.bool (a == b)) w := by simp [binOp, pure, equaln_bool hu]
/-- == on two truths -/
theorem Eng.beb {C : Cx} {s : St} {w : World} {md : Option Md} {ops : Array Oper} {T T' : TypeId} {x y : Operand} {d : Nat} {ty : TypeId} {pos : String} {af : Array Edge} {g : Option (Nat × Bool)} {rest : List Oper} {k : List Item} {l : Env} {c : CEnv} {a b : Bool}
    (h : Wk C (.reg md ops rest k ((d, .bool (a == b)) :: l) c) w)
    (hs : adv C.tab C.n C.ks 400 s = .opn md ops ⟨some d, .binOp .eql T x y T', ty, pos, af, g⟩ rest k l c [] := by rfl) (hx : evc l c [] x = some (.bool a) := by rfl) (hy : evc l c [] y = some (.bool b) := by rfl) (hu : C.P.underlying T = some .bool := by kernel_rfl) (hf : fresh d l c [] = true := by rfl) : Wk C s w :=
  rd (p := []) (fun _ _ hA hp w' _ => by
    simp only [execOp, evc_ok hA.k hA.kc.c hp hx, evc_ok hA.k hA.kc.c hp hy]
    exact run_bind_ok (run_bind_ok (eqgn_bool ..) |>.trans (binOp_beq hu)) |>.trans rfl) h hs rfl hf (okR_no rfl)
open Classical in
noncomputable def callL (m : Mod) (k : Int) : List Int := if askE m m.methods.length [k] = 0 then calM m k.toNat else []
theorem k_CallsF (m : Mod) (a : MA) (k : Int) (w : World) (hM : MdR T w m a) : Ret Tryz.prog 36 #[.agg (modcells m a).toArray, I k] w fun v w' => ∃ a c, v = .tuple #[.slice a (callL m k).length c, I (askE m m.methods.length [k])] ∧ Sl eInt T w' a (callL m k) ∧ Bl w w' := by
  have q1 := hM.mth.big
  refine entr (vs := [.agg (modcells m a).toArray, I k]) [0, 1, 2, 4, 5, 6, 15] tabok Tryz.func36 (by kernel_rfl) ?_
  refine bx (cs := modcells m a) fun b1 w1 k1 => ?_
  refine lda k1.box.at ?_
  refine ld (k1.box.cell rfl) ?_
  refine bs (cs := [I k]) fun b2 w2 k2 => ?_
  have B2 := k1.bl.trans k2.bl
  refine cl (k_asked m a m.methods.length [k] _ 1 w2 (hM.bl B2) (one_int k2)) ?_
  rintro _ w3 ⟨rfl, B23⟩
  have B3 := B2.trans B23
  have x3 := Bl.box (k2.bl.trans B23) k1.box
  by_cases h1 : askE m m.methods.length [k] = 0
  rotate_left
  · have e : callL m k = [] := if_neg h1
    rw [ask_n h1, e]
    refine brt ?_
    exact rt2 ⟨none, 0, rfl, Sl.nil .., B3⟩
  have e : callL m k = calM m k.toNat := if_pos h1
  rw [h1, e]
  refine brf ?_
  obtain ⟨P, c0, c1⟩ := ask_one h1
  obtain ⟨k, rfl⟩ := Int.eq_ofNat_of_zero_le c0
  rw [Int.toNat_natCast]
  refine lda x3.at ?_
  refine cl (k_calls m a k P (by omega) w3 (hM.bl B3)) ?_ (hm := fun _ _ r => by obtain ⟨_, _, _, _, hB⟩ := r; exact mdW_bl hB)
  rintro _ w4 ⟨a4, c4, rfl, O4, B34⟩
  have hl := calM_len P (k := k) (by omega)
  exact rt2 ⟨a4, c4, rfl, owp_sl O4 (by omega) fun _ _ => trivial, B3.trans B34⟩
theorem r5_CallsF (m : Mod) (a : MA) (k : Int) (w : World) (hM : MdR T w m a) : Ret Tryz.prog 37 #[.agg (modcells m a).toArray, I k] w fun v w' => ∃ a c, v = .tuple #[.slice a (callL m k).length c, I (askE m m.methods.length [k])] ∧ Sl eInt T w' a (callL m k) ∧ Bl w w' := by
  have q1 := hM.mth.big
  refine entr (vs := [.agg (modcells m a).toArray, I k]) [0, 1, 2, 4, 5, 6, 14] tabok Tryz.func37 (by kernel_rfl) ?_
  refine bx (cs := modcells m a) fun b1 w1 k1 => ?_
  refine lda k1.box.at ?_
  refine ld (k1.box.cell rfl) ?_
  refine cl (r5_within m a k m.methods.length w1 (hM.bl k1.bl)) ?_
  rintro _ w3 ⟨rfl, B13⟩
  have B3 := k1.bl.trans B13
  have x3 := Bl.box B13 k1.box
  by_cases h1 : askE m m.methods.length [k] = 0
  rotate_left
  · have e : callL m k = [] := if_neg h1
    rw [ask_n h1, e]
    refine brt ?_
    exact rt2 ⟨none, 0, rfl, Sl.nil .., B3⟩
  have e : callL m k = calM m k.toNat := if_pos h1
  rw [h1, e]
  refine brf ?_
  obtain ⟨P, c0, c1⟩ := ask_one h1
  obtain ⟨k, rfl⟩ := Int.eq_ofNat_of_zero_le c0
  rw [Int.toNat_natCast]
  refine lda x3.at ?_
  refine cl (r5_calls m a k P (by omega) w3 (hM.bl B3)) ?_ (hm := fun _ _ r => by obtain ⟨_, _, _, _, hB⟩ := r; exact mdW_bl hB)
  rintro _ w4 ⟨a4, c4, rfl, S4, B34⟩
  exact rt2 ⟨a4, c4, rfl, S4.sub fun _ _ => trivial, B3.trans B34⟩
set_option maxHeartbeats 2000000 in
theorem l_LinkMethods (m : Mod) (a : MA) (k : Int) (w : World) (hM : MdR T w m a) (hG : Gl w) : Ret Tryz.prog 8 #[.agg (modcells m a).toArray, I k] w fun v w' => v = .bool true ∧ Bl w w' := by
  have q1 := hM.mth.big
  refine entr (vs := [.agg (modcells m a).toArray, I k]) [0, 1, 2, 4, 5, 6, 7, 8, 9, 10, 11, 12, 13, 14, 15, 16, 17, 18, 19, 21, 88, 92, 125] tabok Tryz.func8 (by kernel_rfl) ?_
  refine bx (cs := modcells m a) fun b1 w1 k1 => ?_
  refine lda k1.box.at ?_
  refine cl (l_heavyM m a w1 (hM.bl k1.bl)) ?_ (hm := fun _ _ r => by obtain ⟨_, _, hB⟩ := r; exact mdW_bl hB)
  rintro _ w2 ⟨hv, rfl, B12⟩
  have B2 := k1.bl.trans B12
  have x2 := Bl.box B12 k1.box
  cases hv with
  | true =>
    refine brt ?_
    refine cl (l_sane w2 (hG.bl B2)) ?_
    rintro _ w3 ⟨rfl, h3⟩
    exact rt1 ⟨rfl, B2.trans h3⟩
  | false =>
  refine brf ?_
  refine lda x2.at ?_
  refine cl (k_LocalsF m a k w2 (hM.bl B2)) ?_ (hm := fun _ _ r => by obtain ⟨_, _, _, _, hB⟩ := r; exact mdW_bl hB)
  rintro _ w3 ⟨a3, c3, rfl, O3, B23⟩
  have B3 := B2.trans B23
  have x3 := Bl.box B23 x2
  refine lda x3.at ?_
  refine cl (r5_Locals m a k w3 (hM.bl B3)) ?_ (hm := fun _ _ r => by obtain ⟨_, _, _, _, hB⟩ := r; exact mdW_bl hB)
  rintro _ w4 ⟨a4, c4, rfl, O4, B34⟩
  have B4 := B3.trans B34
  have x4 := Bl.box B34 x3
  refine lda x4.at ?_
  refine cl (k_CallsF m a k w4 (hM.bl B4)) ?_ (hm := fun _ _ r => by obtain ⟨_, _, _, _, hB⟩ := r; exact mdW_bl hB)
  rintro _ w5 ⟨a5, c5, rfl, S5, B45⟩
  have B5 := B4.trans B45
  have x5 := Bl.box B45 x4
  refine lda x5.at ?_
  refine cl (r5_CallsF m a k w5 (hM.bl B5)) ?_ (hm := fun _ _ r => by obtain ⟨_, _, _, _, hB⟩ := r; exact mdW_bl hB)
  rintro _ w6 ⟨a6, c6, rfl, S6, B56⟩
  have B6 := B5.trans B56
  have x6 := Bl.box B56 x5
  refine lda x6.at ?_
  refine cl (k_Chain m a k w6 (hM.bl B6)) ?_
  rintro _ w7 ⟨rfl, B67⟩
  have B7 := B6.trans B67
  have x7 := Bl.box B67 x6
  refine lda x7.at ?_
  refine cl (r5_Chain m a k w7 (hM.bl B7)) ?_
  rintro _ w8 ⟨rfl, B78⟩
  have B8 := B7.trans B78
  have x8 := Bl.box B78 x7
  have hll : (locL m k).length ≤ 4194304 := by
    unfold locL
    split
    · rename_i h
      obtain ⟨P, c0, c1⟩ := ask_one h
      obtain ⟨k, rfl⟩ := Int.eq_ofNat_of_zero_le c0
      obtain ⟨x, hx⟩ := some_of_lt (l := m.methods) (k := k) (by omega)
      have M := P.mth k x hx
      have h1 := M.ll
      have h2 := selfM_len x
      rw [mths_at hx, locM_eq, List.length_append, List.length_append]
      split at h1 <;> omega
    · simp
  have T3 : Sl eTy T w8 a3 (locL m k) := (owp_sl O3 hll fun _ _ => trivial).bl ((((B34.trans B45).trans B56).trans B67).trans B78)
  have T4 : Sl eTy T w8 a4 (locL m k) := (owp_sl O4 hll fun _ _ => trivial).bl (((B45.trans B56).trans B67).trans B78)
  have T5 := S5.bl ((B56.trans B67).trans B78)
  have T6 := S6.bl (B67.trans B78)
  refine cl (r_SameTypes (locL m k) (locL m k) a3 a4 c3 c4 w8 T3 T4) ?_
  rintro _ w9 ⟨rfl, B89⟩
  have B9 := B8.trans B89
  have x9 := Bl.box B89 x8
  rw [decide_eq_true (rfl : locL m k = locL m k)]
  refine spt (.bool true) ?_
  refine cl (r_Ints (callL m k) (callL m k) a5 a6 c5 c6 w9 (T5.bl B89) (T6.bl B89)) ?_
  rintro _ w10 ⟨rfl, B910⟩
  have B10 := B9.trans B910
  have x10 := Bl.box B910 x9
  rw [decide_eq_true (rfl : callL m k = callL m k)]
  refine brf ?_
  have T10 := (T5.bl B89).bl B910
  have hbig := T10.big
  refine lpk (callL m k).length 17 [] [(1, I k), (2, .pointer (some ⟨b1, 0, none⟩)), (9, .slice a5 (callL m k).length c5), (13, I (chnV m k)), (16, I (askE m m.methods.length [k]))] (fun j vals w' => vals = [] ∧ Bl w10 w') ⟨rfl, Bl.refl _⟩ ?_
  rintro j vals w11 hj ⟨rfl, B1011⟩ ih
  have B11 := B10.trans B1011
  have x11 := Bl.box B1011 x10
  by_cases hlt : j < (callL m k).length
  · refine brT ?_
    obtain ⟨c, bc, oc, cc, hc, ec, _, hAc, rfl⟩ := at_some (T10.bl B1011) hlt
    have h1 : askE m m.methods.length [k] = 0 := by
      by_cases q : askE m m.methods.length [k] = 0
      · exact q
      · unfold callL at hlt; rw [if_neg q] at hlt; exact absurd hlt (by simp)
    obtain ⟨P, c0, c1⟩ := ask_one h1
    have e5 : callL m k = calM m k.toNat := if_pos h1
    have e6 : chnV m k = chaN m k.toNat := if_pos h1
    obtain ⟨x, hx⟩ := some_of_lt (l := m.methods) (k := k.toNat) (by omega)
    have hcm : c ∈ calM m k.toNat := by rw [← e5]; exact List.mem_of_getElem? hc
    obtain ⟨g0, g1⟩ := calM_lt P hx hcm
    have hlt2 := chaN_lt P (i := k.toNat) (by omega) hcm
    have h2 : askE m m.methods.length [c] = 0 := if_pos ⟨chkE_yes P, fun i hi => by simp only [List.mem_singleton] at hi; subst hi; exact ⟨g0, by omega⟩⟩
    have e7 : chnV m c = chaN m c.toNat := if_pos h2
    refine dh T (List.range 11) fun w12 k12 => ?_
    have B12' := B11.trans k12.bl
    refine lda (Bl.box k12.bl x11).at ?_ (hm := trivial)
    rw [ec]
    refine ix ?_
    refine ld ((hAc.bl k12.bl) 0 _ rfl) ?_ (hm := trivial)
    refine cl (k_Chain m a c w12 (hM.bl B12')) ?_
    rintro _ w13 ⟨rfl, B1213⟩
    rw [h2, e7]
    have hA13 := (hAc.bl k12.bl).bl B1213
    refine ix ?_
    refine ld (hA13 0 _ rfl) ?_
    refine spt (I 0) ?_ (hb := decide_eq_false (by omega))
    refine ix ?_
    refine spt (I 0) ?_
    refine ld (hA13 0 _ rfl) ?_
    refine brf ?_ (hp := by simp; omega)
    exact ih hlt ⟨rfl, (B1011.trans k12.bl).trans B1213⟩ (hsub := by rw [ec]; repeat (first | exact True.intro | (refine ⟨rfl, ?_⟩)))
  · refine brF ?_
    by_cases h1 : askE m m.methods.length [k] = 0
    · rw [h1]
      obtain ⟨P, c0, c1⟩ := ask_one h1
      have e6 : chnV m k = chaN m k.toNat := if_pos h1
      have e5 : callL m k = calM m k.toNat := if_pos h1
      obtain ⟨g0, g1⟩ := chaN_le P (k.toNat + 1) (i := k.toNat) (by omega) (by omega)
      refine spt2 (.pointer (some ⟨0, 0, none⟩)) ?_ (hy := by simp; omega)
      refine ld (x11.cell rfl) ?_
      refine spt2 (.bool true) ?_ (hy := by simp; omega)
      refine beb ?_
      have hz : chnV m k = 0 ↔ callL m k = [] := by
        rw [e5, e6]
        constructor
        · intro q
          cases hl : calM m k.toNat with
          | nil => rfl
          | cons c l =>
            have hc : c ∈ calM m k.toNat := by rw [hl]; exact List.mem_cons_self ..
            obtain ⟨x, hx⟩ := some_of_lt (l := m.methods) (k := k.toNat) (by omega)
            obtain ⟨g2, g3⟩ := calM_lt P hx hc
            have h3 := chaN_lt P (i := k.toNat) (by omega) hc
            have h4 := (chaN_le P (c.toNat + 1) (i := c.toNat) (by omega) (by omega)).1
            omega
        · intro q; unfold chaN; rw [q]; rfl
      have hd : (decide (chnV m k = 0) == decide (((callL m k).length : Int) = 0)) = true := by
        by_cases q : chnV m k = 0
        · simp [q, hz.1 q]
        · have : ¬ callL m k = [] := fun e => q (hz.2 e)
          simp [q, this]
      refine spt (.bool true) ?_ (hb := by first | (simp only [hd]; simp; done) | (simp only [hd]; simp; omega))
      refine cl (l_sane w11 (hG.bl B11)) ?_
      rintro _ w12 ⟨rfl, B1112⟩
      exact rt1 ⟨by first | rfl | (simp only [hd]; simp; omega), B11.trans B1112⟩
    · rw [ask_n h1]
      refine spn2 (.slice none 0 0) ?_
      refine spn2 (.bool false) ?_
      refine spt (.bool true) ?_
      refine cl (l_sane w11 (hG.bl B11)) ?_
      rintro _ w12 ⟨rfl, B1112⟩
      exact rt1 ⟨rfl, B11.trans B1112⟩
end Go.Proofs.YtkmdfjpafkcleaaGreatDoor
