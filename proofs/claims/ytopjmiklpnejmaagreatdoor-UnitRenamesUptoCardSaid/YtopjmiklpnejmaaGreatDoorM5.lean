import Derived.Test.YtopjmiklpnejmaaGreatDoorM4
import Derived.Test.YtopjmiklpnejmaaGreatDoorM2
/- Walks: a unit renamed, in the program. -/
namespace Go.Proofs.YtopjmiklpnejmaaGreatDoor
open Eng Go.RowKit
def preB (p s : ByteArray) : Bool := p.data.toList.isPrefixOf s.data.toList
theorem pre_take {p s : ByteArray} : preB p s = decide (p.size ≤ s.size ∧ s.extract 0 p.size = p) := by
  have e : (s.extract 0 p.size).data.toList = s.data.toList.take p.size := by rw [Lib.extract_data]; simp
  rw [Bool.eq_iff_iff, decide_eq_true_eq]
  unfold preB
  rw [List.isPrefixOf_iff_prefix, List.prefix_iff_eq_take, ba_len]
  constructor
  · intro h
    have hl := congrArg List.length h
    rw [List.length_take, ba_len, ba_len] at hl
    exact ⟨by omega, ba_ext (by rw [e, ← h])⟩
  · rintro ⟨_, h⟩
    rw [← e, h]
theorem c_HasPrefix (s p : ByteArray) (w : World) : Ret Tryz.prog 186 #[.string s, .string p] w fun v w' => v = .bool (preB p s) ∧ w' = w := by
  refine entr (vs := [.string s, .string p]) [0, 1, 4] tabok Tryz.func186 (by kernel_rfl) ?_
  refine sp (.string ⟨#[]⟩) (fun q => ?_) (fun q => ?_)
  · have q' : p.size ≤ s.size := by simpa using q
    refine sls 0 p.size ?_
    refine rt1 ⟨vb ?_, rfl⟩
    rw [pre_take]
    simp [q']
  · have q' : ¬ p.size ≤ s.size := by simpa using q
    refine rt1 ⟨vb ?_, rfl⟩
    rw [pre_take]
    simp [q']
def cutS (p s : ByteArray) : ByteArray := if preB p s = true then s.extract p.size s.size else s
theorem cutS_size (p s : ByteArray) : (cutS p s).size ≤ s.size := by
  unfold cutS
  split
  · rw [← ba_len, Lib.extract_data, List.length_take, List.length_drop, ba_len]; omega
  · exact Nat.le_refl _
theorem c_CutPrefix (s p : ByteArray) (w : World) : Ret Tryz.prog 81 #[.string s, .string p] w fun v w' => v = .tuple #[.string (cutS p s), .bool (preB p s)] ∧ w' = w := by
  refine entr (vs := [.string s, .string p]) [0, 1, 4, 5] tabok Tryz.func81 (by kernel_rfl) ?_
  refine cl (R := fun v w' => v = .tuple #[.string (cutS p s), .bool (preB p s)] ∧ w' = w) ?_ ?_
  · refine entr (vs := [.string s, .string p]) [0, 1, 4, 5, 9] tabok Tryz.func143 (by kernel_rfl) ?_
    refine cl (c_HasPrefix s p w) ?_
    rintro _ _ ⟨rfl, rfl⟩
    refine br (t := !preB p s) (fun h => ?_) (fun h => ?_)
    · have h' : preB p s = false := by simpa using h
      exact rt2 ⟨by unfold cutS; rw [h'], rfl⟩
    · have h' : preB p s = true := by simpa using h
      have hle : p.size ≤ s.size := by rw [pre_take] at h'; exact (of_decide_eq_true h').1
      refine sls p.size s.size ?_
      exact rt2 ⟨by unfold cutS; rw [h'], rfl⟩
  rintro _ _ ⟨rfl, rfl⟩
  exact rt2 ⟨rfl, rfl⟩
theorem ren_cut (n m s : ByteArray) : ren n m s = if preB (n ++ ⟨#[46]⟩) s = true then (m ++ ⟨#[46]⟩) ++ cutS (n ++ ⟨#[46]⟩) s else s := by
  have e1 : (n ++ ⟨#[46]⟩ : ByteArray).data.toList = n.data.toList ++ [46] := by rw [ByteArray.data_append]; simp
  have e2 : (m ++ ⟨#[46]⟩ : ByteArray).data.toList = m.data.toList ++ [46] := by rw [ByteArray.data_append]; simp
  apply ba_ext
  unfold ren
  rw [toL_ofL]
  unfold renL
  have ep : preB (n ++ ⟨#[46]⟩) s = (n.data.toList ++ [46]).isPrefixOf s.data.toList := by unfold preB; rw [e1]
  rw [ep]
  by_cases h : (n.data.toList ++ [46]).isPrefixOf s.data.toList = true
  · rw [if_pos h, if_pos h]
    rw [Joins.data_append, e2]
    have : (cutS (n ++ ⟨#[46]⟩) s).data.toList = s.data.toList.drop (n.data.toList.length + 1) := by
      unfold cutS
      rw [ep, if_pos h, Lib.extract_data]
      have hs : (n ++ ⟨#[46]⟩ : ByteArray).size = n.data.toList.length + 1 := by rw [← ba_len, e1]; simp
      rw [hs]
      exact List.take_of_length_le (by rw [List.length_drop, ba_len]; exact Nat.le_refl _)
    rw [this]; simp
  · rw [if_neg h, if_neg h]
theorem unr_nil (S : Nat → Prop) (w : World) : UnR S w u00 ⟨none, 0, none, 0, none, 0, none, 0⟩ :=
  ⟨by decide, by simp [u00], ⟨by decide, by simp [u00]⟩, ⟨by decide, by simp [u00]⟩, ⟨by decide, by simp [u00]⟩, ⟨by decide, by simp [u00]⟩⟩
/-- what Rename answers -/
def RenR (u : Unt) (name : ByteArray) (w : World) (v : Value) (w' : World) : Prop := ∃ a', v = .tuple #[.agg (ucells (renU u name) a').toArray, I (renE u name)] ∧ UnR (fun b => w.heap.size ≤ b) w' (renU u name) a' ∧ Bl w w'
theorem ren_err {u : Unt} {name : ByteArray} {w w' : World} {e : Int} (he : renE u name = e) (h0 : ¬ e = 0) (hB : Bl w w') : RenR u name w (.tuple #[.agg (ucells u00 ⟨none, 0, none, 0, none, 0, none, 0⟩).toArray, I e]) w' := by
  have hu : renU u name = u00 := by unfold renU; rw [he, if_neg h0]
  exact ⟨⟨none, 0, none, 0, none, 0, none, 0⟩, by rw [hu, he], by rw [hu]; exact unr_nil _ _, hB⟩
/-- the pool of a unit in rows of its own, other texts in it -/
theorem SepU.pool {w : World} {base : Nat} {X : UX} {P : List ByteArray} (h : SepR w base (setR X.row .pool ⟨9, 1, X.a1, P.length, X.c1, P.flatMap encStr⟩)) (name : ByteArray) : SepU w base { X with name := name, pool := P } := by
  refine cast (congrArg (SepR w base) (funext fun k => ?_)) h
  cases k <;> simp [setR, UX.row, rowN]
/-- the first k texts renamed -/
def renK (u : Unt) (name : ByteArray) (k : Nat) : List ByteArray := (u.pool.take k).map (ren u.name name) ++ u.pool.drop k
theorem renK_len (u : Unt) (name : ByteArray) (k : Nat) : (renK u name k).length = u.pool.length := by unfold renK; simp; omega
theorem renK_set {u : Unt} {name s : ByteArray} {k : Nat} (h : u.pool[k]? = some s) : (renK u name k)[k]? = some s ∧ (renK u name k).set k (ren u.name name s) = renK u name (k + 1) := by
  obtain ⟨hk, rfl⟩ := List.getElem?_eq_some_iff.1 h
  have hl : ((u.pool.take k).map (ren u.name name)).length = k := by simp; omega
  unfold renK
  constructor
  · rw [List.getElem?_append_right (by omega), hl, Nat.sub_self, List.drop_eq_getElem_cons hk]; rfl
  · rw [List.set_append_right _ _ (by omega), hl, Nat.sub_self, List.drop_eq_getElem_cons hk, take_succ_some h, List.map_append]
    simp only [List.set_cons_zero, List.map_cons, List.map_nil, List.append_assoc, List.singleton_append]
theorem renK_end (u : Unt) (name : ByteArray) : renK u name u.pool.length = renPool u name := by unfold renK renPool; simp
theorem renK_zero (u : Unt) (name : ByteArray) : renK u name 0 = u.pool := by unfold renK; simp
theorem ren_size {n m s : ByteArray} (hn : simple n = true) (hm : simple m = true) (hs : path s ≠ 0) : (ren n m s).size ≤ 38 := path_size (by rw [path_ren hn hm]; exact hs)
set_option maxHeartbeats 1000000 in
theorem u_Rename (u : Unt) (a : UA) (name : ByteArray) (w : World) (hU : UnR T w u a) (hs : name.size ≤ 1048576) (hG : Gl w) : Ret Tryz.prog 28 #[.agg (ucells u a).toArray, .string name] w (RenR u name w) := by
  refine entr (vs := [.agg (ucells u a).toArray, .string name]) [0, 1, 2, 4, 5, 6, 7, 8, 9, 10, 14, 19, 24, 25, 26, 27, 39, 51] tabok Tryz.func28 (by kernel_rfl) ?_
  refine bx (cs := ucells u a) fun b1 w1 h1 => ?_
  refine al fun b2 w2 h2 => ?_
  have B02 := h1.bl.trans h2.bl
  have z1 := h1.size
  have z2 := h2.size
  have y1 := h1.blk
  have y2 := h2.blk
  have hx1 := Bl.box h2.bl h1.box
  have hx2 := h2.box
  refine lda hx1.at ?_
  refine cl (u_Check u a w2 (hU.bl B02) (hG.bl B02)) ?_
  rintro _ w3 ⟨rfl, B23⟩
  have B03 := B02.trans B23
  replace hx1 := Bl.box B23 hx1
  replace hx2 := Bl.box B23 hx2
  have z3 := B23.size
  refine br (t := decide (¬ checkE u = 0)) (fun h => ?_) (fun h => ?_)
  · have h0 := of_decide_eq_true h
    refine bd ?_
    refine sta hx2 fun w4 k4 hx4 => ?_
    exact rtc2 hx4.at (ren_err (by unfold renE; rw [if_neg h0]) h0 (B03.trans_wr k4 (by omega)))
  have h0 : checkE u = 0 := Classical.not_not.1 (of_decide_eq_false h)
  have hC := (ckU_iff u).1 h0
  refine cl (u_Simple name w3 hs) ?_
  rintro _ w3 ⟨rfl, rfl⟩
  refine br (t := !simple name) (fun h => ?_) (fun h => ?_)
  · have h1 : simple name = false := by simpa using h
    refine bd ?_
    refine sta hx2 fun w4 k4 hx4 => ?_
    exact rtc2 hx4.at (ren_err (by unfold renE; rw [if_pos h0, if_pos h1]) (by decide) (B03.trans_wr k4 (by omega)))
  have h1 : simple name = true := by simpa using h
  have hns : name.size ≤ 12 := by
    have := simpleL_len (l := name.data.toList) h1
    rw [ba_len] at this; exact this.2
  have hus : u.name.size ≤ 12 := by
    have := simpleL_len (l := u.name.data.toList) hC.nm
    rw [ba_len] at this; exact this.2
  refine lda hx1.at ?_
  refine cl (u_clone u a w3 (hU.bl B03)) ?_
  rintro _ w4 ⟨X, rfl, hXu, hS4, B34⟩
  have B04 := B03.trans B34
  replace hx1 := Bl.box B34 hx1
  replace hx2 := Bl.box B34 hx2
  have z4 := B34.size
  have hpX : X.pool = u.pool := congrArg Unt.pool hXu
  have hnX : X.name = u.name := congrArg Unt.name hXu
  refine sta (cs' := X.cells) hx1 fun w5 k5 hx5 => ?_
  have z5 := k5.size
  have B05 := B04.trans_wr k5 (by omega)
  have hx25 := k5.box hx2 (by omega)
  have hS5 := hS4.wr k5 (by omega)
  refine ld (hx5.cell rfl) ?_
  have hpl := (lim_of hC.lim).pool
  have hpl2 : X.pool.length ≤ 60 := by rw [hpX]; omega
  refine lpk X.pool.length 26 [] [(1, .string name), (2, .pointer (some ⟨b1, 0, none⟩)), (4, .pointer (some ⟨b2, 0, none⟩)), (24, .slice X.a1 X.pool.length X.c1), (25, I X.pool.length)] (fun k vals w' => vals = [] ∧ SepR w' w3.heap.size (setR X.row .pool ⟨9, 1, X.a1, (renK u name k).length, X.c1, (renK u name k).flatMap encStr⟩) ∧
    Box w' b1 30 X.cells ∧ Box w' b2 30 [.string ⟨#[]⟩, .slice none 0 0, .slice none 0 0, .slice none 0 0, .slice none 0 0] ∧ Bl w w') ⟨rfl, by rw [renK_zero, ← hpX]; exact (setR_self X.row .pool).symm ▸ hS5, hx5, hx25, B05⟩ ?_
  rintro k vals w6 hk ⟨rfl, hS6, hx6, hx26, B06⟩ ih
  by_cases hlt : k < X.pool.length
  · refine brT ?_
    obtain ⟨s, hs1⟩ := some_of_lt (l := u.pool) (k := k) (by rw [← hpX]; exact hlt)
    obtain ⟨hk1, hk2⟩ := renK_set (name := name) hs1
    have hps : path s ≠ 0 := fun e => by
      have := of_decide_eq_true (List.all_eq_true.1 hC.ps s (List.mem_of_getElem? hs1))
      omega
    have hss := path_size hps
    have hcs := cutS_size (X.name ++ ⟨#[46]⟩) s
    have hle := renK_len u name k
    obtain ⟨g, cur, ea, hgb, hln, hAt, hg⟩ := hS6.box .pool (by show 0 < (renK u name k).length; rw [hle, ← hpX]; omega)
    have ea : X.a1 = some ⟨g, 0, none⟩ := ea
    have hln : (renK u name k).length * 1 ≤ cur.length := hln
    rw [hle, ← hpX] at hln
    have hAx := at_elem (sz := 1) (enc := encStr) hAt hk1 fun _ => rfl
    have hz : ∀ x y : ByteArray, (x ++ y).size = x.size + y.size := fun x y => ByteArray.size_append
    have h1z : (⟨#[46]⟩ : ByteArray).size = 1 := rfl
    rw [ea]
    refine ix ?_
    refine ld (hAx 0 _ rfl) ?_
    refine ld (hx6.cell rfl) ?_
    refine cat ?_ (hab := by rw [hnX, h1z]; omega)
    refine cl (c_CutPrefix s (X.name ++ ⟨#[46]⟩) w6) ?_
    rintro _ _ ⟨rfl, rfl⟩
    have er := ren_cut u.name name s
    refine br (t := preB (X.name ++ ⟨#[46]⟩) s) (fun h => ?_) (fun h => ?_)
    · refine ld (hx6.cell rfl) ?_
      refine cat ?_ (hab := by rw [h1z]; omega)
      refine cat ?_ (hab := by rw [hz, h1z]; omega)
      rw [ea]
      refine ix ?_
      refine stx hgb (fun w7 k7 hb7 => ?_) (ho := by omega)
      rw [← hnX, if_pos h] at er
      have q := hS6.set .pool (g := g) ea hgb k7 hb7 (r := ⟨9, 1, X.a1, (renK u name (k + 1)).length, X.c1, (renK u name (k + 1)).flatMap encStr⟩) (by
        rw [← hk2, List.length_set, ← flat_set (sz := 1) (enc := encStr) (fun _ => rfl) hk1 (j := 0) (v := .string (ren u.name name s)) (by omega) rfl, ← hnX, er, Nat.zero_add]; rfl)
      rw [setR_setR] at q
      refine ih hlt ⟨rfl, q, k7.box hx6 (by omega), k7.box hx26 (by omega), B06.trans_wr k7 (by omega)⟩ (hsub := by simp only [ea]; repeat (first | exact True.intro | (refine ⟨rfl, ?_⟩)))
    · rw [← hnX, if_neg (by rw [h]; simp)] at er
      have e2 : renK u name (k + 1) = renK u name k := by
        rw [← hk2, ← hnX, er]
        refine List.ext_getElem? fun i => ?_
        rw [List.getElem?_set]
        split
        · rename_i e
          subst e
          rw [hk1, if_pos (by rw [hle, ← hpX]; exact hlt)]
        · rfl
      exact ih hlt ⟨rfl, by rw [e2]; exact hS6, hx6, hx26, B06⟩ (hsub := by simp only [ea]; repeat (first | exact True.intro | (refine ⟨rfl, ?_⟩)))
  refine brF ?_
  obtain rfl : k = X.pool.length := by omega
  clear ih
  rw [hpX, renK_end] at hS6
  have hlen : (renPool u name).length = u.pool.length := by simp [renPool]
  refine ld (hx6.cell rfl) ?_
  have hsl : Sl eStr T w6 X.a1 (renPool u name) := owp_sl (enc := encStr) (hS6.own .pool) (by omega) fun _ _ => trivial
  have hc := u_twice (renPool u name) X.a1 X.c1 T w6 hsl
  rw [hlen, ← hpX] at hc
  refine cl hc ?_
  rintro _ w8 ⟨rfl, B68⟩
  have B08 := B06.trans B68
  have z6 := B06.size
  have z8 := B68.size
  replace hx6 := Bl.box B68 hx6
  replace hx26 := Bl.box B68 hx26
  refine br (t := dup (renPool u name)) (fun h => ?_) (fun h => ?_)
  · refine bd ?_
    refine sta hx26 fun w9 k9 hx9 => ?_
    exact rtc2 hx9.at (ren_err (by unfold renE; rw [if_pos h0, if_neg (by rw [h1]; simp), if_pos h]) (by decide) (B08.trans_wr k9 (by omega)))
  have he : renE u name = 0 := by unfold renE; rw [if_pos h0, if_neg (by rw [h1]; simp), if_neg (by rw [h]; simp)]
  refine st hx6 fun w9 k9 hx9 => ?_
  refine lda hx9.at ?_
  refine sta (k9.box hx26 (by omega)) fun w10 k10 hx10 => ?_
  have eu : renU u name = UX.u { X with name := name, pool := renPool u name } := by
    unfold renU; rw [if_pos he, ← hXu]; rfl
  have B10 := (B08.trans_wr k9 (by omega)).trans_wr k10 (by omega)
  have hS10 : SepU w10 w3.heap.size { X with name := name, pool := renPool u name } := SepU.pool (((hS6.bl B68).wr k9 (by omega)).wr k10 (by omega)) name
  have hz : Siz (renU u name) := by
    have q := hU.siz
    rw [show renU u name = { u with name := name, pool := renPool u name } by unfold renU; rw [if_pos he]]
    exact ⟨hs, fun s hs => by have := renU_size he s hs; omega, by rw [hlen]; exact q.pool, q.cls, q.sta, q.mth, q.flds, q.prms, q.locs, q.cods⟩
  refine rtc2 hx10.at ⟨(UX.mk name X.a1 X.c1 (renPool u name) X.a2 X.c2 X.cl X.a3 X.c3 X.sta X.a4 X.c4 X.ml).a, ?_, ?_, B10⟩
  · rw [eu, he, UX.cells_eq]
    simp only [UX.cells, hlen, hpX]
  · rw [eu] at hz ⊢
    exact (SepU.unr hS10 hz).sub fun i hi => by have := B03.size; omega
end Go.Proofs.YtopjmiklpnejmaaGreatDoor

/- Walks: a unit copied, in the document: in rows of its own. -/
namespace Go.Proofs.YtopjmiklpnejmaaGreatDoor
open Eng Go.RowKit
theorem take_push {α : Type} {l : List α} {k : Nat} (hk : l.length = k) (x : α) (i : Nat) : ((l ++ [x]).take (k + 1))[i]? = if i = k then some x else (l.take k)[i]? := by
  subst hk
  rw [List.take_of_length_le (by simp), List.take_length]
  by_cases h : i = l.length
  · subst h; simp
  · rw [if_neg h]
    rcases Nat.lt_or_ge i l.length with q | q
    · rw [List.getElem?_append_left q]
    · rw [List.getElem?_eq_none (by simp; omega), List.getElem?_eq_none q]
/-- one more class, its fields in a row of their own -/
theorem rowN_pushC {X : UX} {k j : Nat} {x : ClR} {a : Option Addr} {c : Nat} (hk : X.cl.length = k) : setR (setR (rowN X k j) (.fld k) (rwF x)) .cls ⟨58, 3, a, (X.cl ++ [x]).length, c, (X.cl ++ [x]).flatMap encC⟩ = rowN { X with cl := X.cl ++ [x], a2 := a, c2 := c } (k + 1) j := by
  funext key
  cases key with
  | fld i =>
    simp only [setR, rowN, reduceCtorEq, if_false, Key.fld.injEq, take_push hk]
    by_cases h : i = k
    · rw [if_pos h, if_pos h]; rfl
    · rw [if_neg h, if_neg h]
  | _ => simp [setR, rowN]
theorem rowN_pushM {X : UX} {i k : Nat} {x : MtR} {a : Option Addr} {c : Nat} (hk : X.ml.length = k) : setR (setR (setR (setR (rowN X i k) (.prm k) (rwP x)) (.loc k) (rwL x)) (.cod k) (rwI x)) .mth ⟨64, 7, a, (X.ml ++ [x]).length, c, (X.ml ++ [x]).flatMap encM⟩ = rowN { X with ml := X.ml ++ [x], a4 := a, c4 := c } i (k + 1) := by
  have key3 : ∀ (j : Nat) (f : MtR → Rw), (if j = k then f x else (((X.ml.take k)[j]?).map f).getD (Rw.no 0 0)) = ((((X.ml ++ [x]).take (k + 1))[j]?).map f).getD (Rw.no 0 0) := fun j f => by
    rw [take_push hk]
    by_cases h : j = k
    · rw [if_pos h, if_pos h]; rfl
    · rw [if_neg h, if_neg h]
  funext key
  cases key with
  | prm j => simpa [setR, rowN] using key3 j rwP
  | loc j => simpa [setR, rowN] using key3 j rwL
  | cod j => simpa [setR, rowN] using key3 j rwI
  | _ => simp [setR, rowN]
/-- a row that is empty may be one of other elements -/
theorem SepR.empty {w : World} {base : Nat} {R : Key → Rw} (h : SepR w base R) (k : Key) {r : Rw} (hr : r.a = none) (hn : r.n = 0) (hc : r.cap = 0) (hs : r.cs = []) : SepR w base (setR R k r) := by
  refine h.upd k (Ap.of_bl (Bl.refl w) _) (by unfold Rw.ok; rw [hr, hn, hc, hs]; exact Ow.nil ..) fun g hg => by rw [hr] at hg; cases hg
theorem r_Copy2 (u : Unt) (a : UA) (w : World) (hU : UnR T w u a) : Ret Tryz.prog 20 #[.agg (ucells u a).toArray] w fun v w' => ∃ X, v = .agg X.cells.toArray ∧ X.u = u ∧ SepU w' w.heap.size X ∧ Bl w w' := by
  have hU0 := hU.lt
  have hp1 := hU.pool.big
  have hp2 := hU.cls.big
  have hp3 := hU.sta.big
  have hp4 := hU.mth.big
  refine entr (vs := [.agg (ucells u a).toArray]) [0, 1, 2, 3, 4, 5, 6, 7, 27, 49] tabok Tryz.func20 (by kernel_rfl) ?_
  refine bx (cs := ucells u a) fun b1 w1 h1 => ?_
  refine al fun b2 w2 h2 => ?_
  have hx12 := Bl.box h2.bl h1.box
  refine ld (hx12.cell rfl) ?_
  refine bd ?_
  refine al fun b3 w3 h3 => ?_
  refine sta h3.box fun w4 k4 hx4 => ?_
  have B24 : Bl w2 w4 := h3.wr k4
  have B04 : Bl w w4 := (h1.bl.trans h2.bl).trans B24
  have z1 := h1.size
  have z2 := h2.size
  have z3 := h3.size
  have z4 := k4.size
  have y1 := h1.blk
  have y2 := h2.blk
  have y3 := h3.blk
  have hx14 := Bl.box B24 hx12
  have hx24 := Bl.box B24 h2.box
  refine ld (hx4.cell rfl) ?_
  refine ld (hx14.cell rfl) ?_
  refine apl (enc := encStr) (base := w4.heap.size) (l0 := []) (l1 := u.pool) (Ow.nil ..) (src_of (hU.bl B04).pool) (Nat.le_refl _) (fun a5 cap5 w5 hO5 hA5 hf5 => ?_)
  have B45 : Bl w4 w5 := hA5.below (Nat.le_refl _) fun g hg => absurd hg nn
  refine st (Bl.box B45 hx4) fun w6 k6 hx6 => ?_
  refine ld (hx6.cell rfl) ?_
  have S6 : CpS w w4 b3 w6 := ((CpS.refl B04 (by omega)).bl B45).wr k6 (.inl rfl)
  have z5 := B45.size
  have z6 := k6.size
  refine ld ((S6.box hx14 (by omega)).cell rfl) ?_
  refine apl (enc := encFld) (base := w4.heap.size) (l0 := []) (l1 := u.statics) (Ow.nil ..) (src_of (hU0.below S6.below).sta) (by omega) (fun a7 cap7 w7 hO7 hA7 hf7 => ?_)
  have B67 : Bl w6 w7 := hA7.below (Nat.le_refl _) fun g hg => absurd hg nn
  refine st (Bl.box B67 hx6) fun w8 k8 hx8 => ?_
  have S8 : CpS w w4 b3 w8 := (S6.bl B67).wr k8 (.inl rfl)
  have z7 := B67.size
  have z8 := k8.size
  have hB3 : b3 < w4.heap.size := hx4.lt
  have q8 : SepR w8 w4.heap.size (rowN ⟨u.name, a5, cap5, u.pool, none, 0, [], a7, cap7, u.statics, none, 0, []⟩ 0 0) := by
    have q0 : SepR w4 w4.heap.size fun _ => Rw.no 0 0 := SepR.no _ _ _ fun _ => ⟨0, 0, rfl⟩
    have q1 := q0.upd .pool (r := ⟨9, 1, a5, u.pool.length, cap5, u.pool.flatMap encStr⟩) hA5 hO5 hf5
    have q2 := (q1.wr k6 hB3).upd .sta (r := ⟨86, 3, a7, u.statics.length, cap7, u.statics.flatMap encFld⟩) hA7 hO7 hf7
    have q3 := ((q2.wr k8 hB3).empty .cls (r := ⟨58, 3, none, 0, 0, []⟩) rfl rfl rfl rfl).empty .mth (r := ⟨64, 7, none, 0, 0, []⟩) rfl rfl rfl rfl
    refine cast (congrArg (SepR w8 w4.heap.size) (funext fun k => ?_)) q3
    cases k <;> simp [setR, rowN]
  refine lpk u.classes.length 4 [] [(1, .pointer (some ⟨b1, 0, none⟩)), (2, .pointer (some ⟨b2, 0, none⟩)), (3, .pointer (some ⟨b3, 0, none⟩))] (fun k vals w' => vals = [] ∧ CpS w w4 b3 w' ∧ ∃ ac cc, ∃ xs : List ClR, xs.map (·.c) = u.classes.take k ∧ SepR w' w4.heap.size (rowN ⟨u.name, a5, cap5, u.pool, ac, cc, xs, a7, cap7, u.statics, none, 0, []⟩ k 0) ∧
    Box w' b3 30 [.string u.name, .slice a5 u.pool.length cap5, .slice ac xs.length cc, .slice a7 u.statics.length cap7, .slice none 0 0]) ⟨rfl, S8, none, 0, [], rfl, q8, hx8⟩ ?_
  rintro k vals w9 hk ⟨rfl, S9, ac, cc, xs, exs, hS9, hx9⟩ ih
  have lxs : xs.length = k := by have := congrArg List.length exs; rw [List.length_map, List.length_take] at this; omega
  have hx19 := S9.box hx14 (by omega)
  have z9 := S9.sz
  refine ld (hx19.cell rfl) ?_
  by_cases hlt : k < u.classes.length
  · refine brT ?_
    obtain ⟨c, bs2, o2, cs, hc, e2, _, hAt, af, cf, rfl, hf⟩ := at_some (hU0.below S9.below).cls hlt
    refine ld (hx19.cell rfl) ?_
    rw [e2]
    refine ix ?_
    refine lda hAt ?_
    refine al fun b5 w10 h10 => ?_
    refine sta h10.box fun w11 k11 hx11 => ?_
    have B911 : Bl w9 w11 := h10.wr k11
    have z10 := h10.size
    have z11 := k11.size
    have y10 := h10.blk
    have hfb := hf.big
    refine ld (hx11.cell rfl) ?_
    refine apl (enc := encFld) (base := w4.heap.size) (l0 := []) (l1 := c.fields) (Ow.nil ..) (src_of (hf.bl B911)) (by omega) (fun a12 cap12 w12 hO12 hA12 hf12 => ?_)
    have B1112 : Bl w11 w12 := hA12.below (Nat.le_refl _) fun g hg => absurd hg nn
    refine st (Bl.box B1112 hx11) fun w13 k13 hx13 => ?_
    have z12 := B1112.size
    have z13 := k13.size
    have B1013 : Bl w9 w13 := (B911.trans B1112).trans_wr k13 (by omega)
    refine ld ((Bl.box B1013 hx9).cell rfl) ?_
    refine lda hx13.at ?_
    refine bs fun b14 w14 h14 => ?_
    have z14 := h14.size
    have B914 : Bl w9 w14 := B1013.trans h14.bl
    have g12 : ∀ g, a12 = some ⟨g, 0, none⟩ → w11.heap.size ≤ g := fun g hg => by
      rcases hf12 g hg with e | e
      · cases e
      · exact e
    have q14 := hS9.upd (.fld k) (r := rwF ⟨c, a12, cap12⟩) (Ap.of_bl B914 _) ((Ow.wr hO12 k13 fun g hg => by have := g12 g hg; omega).bl h14.bl) fun g hg => .inr (by have := g12 g hg; omega)
    have ho14 : OwP 3 encC w14 w4.heap.size 58 ac cc xs := q14.own .cls
    refine apl (enc := encC) (base := w4.heap.size) (l0 := xs) (l1 := [⟨c, a12, cap12⟩]) ho14 (.inr ⟨b14, 0, rfl, h14.box.at⟩) (by omega) (fun a15 cap15 w15 hO15 hA15 hf15 => ?_)
    have q15 := q14.upd .cls (r := ⟨58, 3, a15, (xs ++ [(⟨c, a12, cap12⟩ : ClR)]).length, cap15, (xs ++ [(⟨c, a12, cap12⟩ : ClR)]).flatMap encC⟩) hA15 hO15 hf15
    have hlt9 : ∀ g, ac = some ⟨g, 0, none⟩ → w4.heap.size ≤ g := fun g hg => (hS9.lt (k := .cls) hg).1
    have S15 := (S9.bl B914).ap hA15 hlt9
    refine st (hA15.box (Bl.box B914 hx9) fun e => by have := hlt9 _ e; omega) fun w16 k16 hx16 => ?_
    have hq := q15.wr k16 hB3
    rw [rowN_pushC (X := ⟨u.name, a5, cap5, u.pool, ac, cc, xs, a7, cap7, u.statics, none, 0, []⟩) lxs] at hq
    refine ih hlt ⟨rfl, S15.wr k16 (.inl rfl), a15, cap15, xs ++ [⟨c, a12, cap12⟩], by rw [List.map_append, exs, take_succ_some hc]; rfl, hq, ?_⟩
    exact hx16
  refine brF ?_
  obtain rfl : k = u.classes.length := by omega
  clear ih
  rw [List.take_length] at exs
  refine lpk u.methods.length 6 [] [(1, .pointer (some ⟨b1, 0, none⟩)), (2, .pointer (some ⟨b2, 0, none⟩)), (3, .pointer (some ⟨b3, 0, none⟩))] (fun k vals w' => vals = [] ∧ CpS w w4 b3 w' ∧ ∃ am cm, ∃ ms : List MtR, ms.map (·.m) = u.methods.take k ∧ SepR w' w4.heap.size (rowN ⟨u.name, a5, cap5, u.pool, ac, cc, xs, a7, cap7, u.statics, am, cm, ms⟩ u.classes.length k) ∧
    Box w' b3 30 [.string u.name, .slice a5 u.pool.length cap5, .slice ac xs.length cc, .slice a7 u.statics.length cap7, .slice am ms.length cm]) ⟨rfl, S9, none, 0, [], rfl, hS9, hx9⟩ ?_
  rintro k vals wA hk ⟨rfl, SA, am, cm, ms, ems, hSA, hxA⟩ ih
  have lms : ms.length = k := by have := congrArg List.length ems; rw [List.length_map, List.length_take] at this; omega
  have hx1A := SA.box hx14 (by omega)
  have zA := SA.sz
  refine ld (hx1A.cell rfl) ?_
  by_cases hlt : k < u.methods.length
  · refine brT ?_
    obtain ⟨m, bs2, o2, cs, hm, e2, _, hAt, q1, s1, q2, s2, q3, s3, rfl, f1, f2, f3⟩ := at_some (hU0.below SA.below).mth hlt
    have g1 := f1.big
    have g2 := f2.big
    have g3 := f3.big
    refine ld (hx1A.cell rfl) ?_
    rw [e2]
    refine ix ?_
    refine lda hAt ?_
    refine al fun b5 w10 h10 => ?_
    refine sta h10.box fun w11 k11 hx11 => ?_
    have BA11 : Bl wA w11 := h10.wr k11
    have z10 := h10.size
    have z11 := k11.size
    have y10 := h10.blk
    refine ld (hx11.cell rfl) ?_
    refine apl (enc := encTy) (base := w4.heap.size) (l0 := []) (l1 := m.params) (Ow.nil ..) (src_of (f1.bl BA11)) (by omega) (fun a12 cap12 w12 hO12 hA12 hf12 => ?_)
    have B1112 : Bl w11 w12 := hA12.below (Nat.le_refl _) fun g hg => absurd hg nn
    refine st (Bl.box B1112 hx11) fun w13 k13 hx13 => ?_
    have z12 := B1112.size
    have z13 := k13.size
    have BA13 : Bl wA w13 := (BA11.trans B1112).trans_wr k13 (by omega)
    refine ld (hx13.cell rfl) ?_
    refine apl (enc := encTy) (base := w4.heap.size) (l0 := []) (l1 := m.locals) (Ow.nil ..) (src_of (f2.bl BA13)) (by omega) (fun a14 cap14 w14 hO14 hA14 hf14 => ?_)
    have B1314 : Bl w13 w14 := hA14.below (Nat.le_refl _) fun g hg => absurd hg nn
    refine st (Bl.box B1314 hx13) fun w15 k15 hx15 => ?_
    have z14 := B1314.size
    have z15 := k15.size
    have BA15 : Bl wA w15 := (BA13.trans B1314).trans_wr k15 (by omega)
    refine ld (hx15.cell rfl) ?_
    refine apl (enc := encIns) (base := w4.heap.size) (l0 := []) (l1 := m.code) (Ow.nil ..) (src_of (f3.bl BA15)) (by omega) (fun a16 cap16 w16 hO16 hA16 hf16 => ?_)
    have B1516 : Bl w15 w16 := hA16.below (Nat.le_refl _) fun g hg => absurd hg nn
    refine st (Bl.box B1516 hx15) fun w17 k17 hx17 => ?_
    have z16 := B1516.size
    have z17 := k17.size
    have BA17 : Bl wA w17 := (BA15.trans B1516).trans_wr k17 (by omega)
    refine ld ((Bl.box BA17 hxA).cell rfl) ?_
    refine lda hx17.at ?_
    refine bs fun b18 w18 h18 => ?_
    have z18 := h18.size
    have BA18 : Bl wA w18 := BA17.trans h18.bl
    have fr : ∀ {x : Option Addr} {w1 : World}, (∀ g, x = some ⟨g, 0, none⟩ → (none : Option Addr) = some ⟨g, 0, none⟩ ∨ w1.heap.size ≤ g) → ∀ g, x = some ⟨g, 0, none⟩ → w1.heap.size ≤ g := fun h g hg => by
      rcases h g hg with e | e
      · cases e
      · exact e
    have g12 := fr hf12
    have g14 := fr hf14
    have g16 := fr hf16
    let x : MtR := ⟨m, a12, cap12, a14, cap14, a16, cap16⟩
    have qA : SepR w12 w4.heap.size (setR (rowN ⟨u.name, a5, cap5, u.pool, ac, cc, xs, a7, cap7, u.statics, am, cm, ms⟩ u.classes.length k) (.prm k) (rwP x)) :=
      hSA.upd (.prm k) (r := rwP x) (Ap.of_bl (BA11.trans B1112) _) hO12 fun g hg => .inr (by have := g12 g hg; omega)
    have nb : ∀ {w1 w2 : World} {R : Key → Rw}, SepR w1 w4.heap.size R → Wr w1 b5 w2 → (∀ j g, (R j).a = some ⟨g, 0, none⟩ → g ≠ b5) → SepR w2 w4.heap.size R := fun h k hn => h.ap k.ap fun j g hg e => hn j g hg (by simp only [Option.some.injEq, Addr.mk.injEq, and_true] at e; exact e.symm)
    have n0 : ∀ j g, (rowN ⟨u.name, a5, cap5, u.pool, ac, cc, xs, a7, cap7, u.statics, am, cm, ms⟩ u.classes.length k j).a = some ⟨g, 0, none⟩ → g ≠ b5 := fun j g hg => by have := (hSA.lt hg).2; omega
    have n1 : ∀ {R : Key → Rw} {j0 : Key} {r : Rw}, (∀ j g, (R j).a = some ⟨g, 0, none⟩ → g ≠ b5) → (∀ g, r.a = some ⟨g, 0, none⟩ → g ≠ b5) → ∀ j g, (setR R j0 r j).a = some ⟨g, 0, none⟩ → g ≠ b5 := fun h h2 j g hg => by
      unfold setR at hg
      split at hg
      · exact h2 g hg
      · exact h j g hg
    have nA := n1 (j0 := .prm k) (r := rwP x) n0 fun g hg => by have := g12 g hg; omega
    have qB := nb qA k13 nA
    have qC := qB.upd (.loc k) (r := rwL x) (Ap.of_bl B1314 _) hO14 fun g hg => .inr (by have := g14 g hg; omega)
    have nC := n1 (j0 := .loc k) (r := rwL x) nA fun g hg => by have := g14 g hg; omega
    have qD := nb qC k15 nC
    have qE := qD.upd (.cod k) (r := rwI x) (Ap.of_bl B1516 _) hO16 fun g hg => .inr (by have := g16 g hg; omega)
    have nE := n1 (j0 := .cod k) (r := rwI x) nC fun g hg => by have := g16 g hg; omega
    have q18 := (nb qE k17 nE).bl h18.bl
    have ho18 : OwP 7 encM w18 w4.heap.size 64 am cm ms := q18.own .mth
    refine apl (enc := encM) (base := w4.heap.size) (l0 := ms) (l1 := [x]) ho18 (.inr ⟨b18, 0, rfl, h18.box.at⟩) (by omega) (fun a19 cap19 w19 hO19 hA19 hf19 => ?_)
    have q19 := q18.upd .mth (r := ⟨64, 7, a19, (ms ++ [x]).length, cap19, (ms ++ [x]).flatMap encM⟩) hA19 hO19 hf19
    have hltA : ∀ g, am = some ⟨g, 0, none⟩ → w4.heap.size ≤ g := fun g hg => (hSA.lt (k := .mth) hg).1
    have S19 := (SA.bl BA18).ap hA19 hltA
    refine st (hA19.box (Bl.box BA18 hxA) fun e => by have := hltA _ e; omega) fun w20 k20 hx20 => ?_
    have hq := q19.wr k20 hB3
    rw [rowN_pushM (X := ⟨u.name, a5, cap5, u.pool, ac, cc, xs, a7, cap7, u.statics, am, cm, ms⟩) lms] at hq
    refine ih hlt ⟨rfl, S19.wr k20 (.inl rfl), a19, cap19, ms ++ [x], by rw [List.map_append, ems, take_succ_some hm]; rfl, hq, ?_⟩
    exact hx20
  refine brF ?_
  obtain rfl : k = u.methods.length := by omega
  rw [List.take_length] at ems
  refine lda hxA.at ?_
  refine sta (SA.box hx24 (by omega)) fun wB kB hxB => ?_
  refine rtc hxB.at ⟨⟨u.name, a5, cap5, u.pool, ac, cc, xs, a7, cap7, u.statics, am, cm, ms⟩, rfl, ?_, ?_, SA.below.trans (kB.below (by omega))⟩
  · simp only [UX.u, exs, ems]
  · unfold SepU UX.row
    rw [lxs, lms]
    exact (hSA.wr kB (by omega)).base B04.size
end Go.Proofs.YtopjmiklpnejmaaGreatDoor

/- Walks: the program's comparison of lists. -/
namespace Go.Proofs.YtopjmiklpnejmaaGreatDoor
open Eng Go.RowKit
theorem c_EqStr (l m : List ByteArray) (a1 a2 : Option Addr) (c1 c2 : Nat) (w : World) (h1 : Sl eStr T w a1 l) (h2 : Sl eStr T w a2 m) : Ret Tryz.prog 77 #[.slice a1 l.length c1, .slice a2 m.length c2] w fun v w' => v = .bool (decide (l = m)) ∧ Bl w w' := by
  refine entr (vs := [.slice a1 l.length c1, .slice a2 m.length c2]) [0, 1, 4, 5, 10, 12, 13, 14, 24] tabok Tryz.func77 (by kernel_rfl) ?_
  have hb1 := h1.big
  have hb2 := h2.big
  refine br (fun h => ?_) (fun h => ?_)
  · exact rt1 ⟨vb (same_len (of_decide_eq_true h)).symm, Bl.refl _⟩
  have hl := Classical.not_not.1 (of_decide_eq_false h)
  refine lpk l.length 13 [] [(0, .slice a1 l.length c1), (1, .slice a2 m.length c2), (12, I l.length)] (fun k vals w' => vals = [] ∧ l.take k = m.take k ∧ Bl w w') ⟨rfl, rfl, Bl.refl _⟩ ?_
  rintro k vals w2 hk ⟨rfl, ha, hB⟩ ih
  by_cases hlt : k < l.length
  · refine brT ?_
    obtain ⟨x, b, o, cs, hx, rfl, _, hAt, rfl⟩ := at_some (h1.bl hB) hlt
    obtain ⟨y, b', o', cs', hy, rfl, _, hAt', rfl⟩ := at_some (h2.bl hB) (i := k) (by omega)
    refine dh T (List.range 9) fun w8 h8 => ?_
    have hC := hAt.bl h8.bl
    have hC' := hAt'.bl h8.bl
    refine ix ?_
    refine ld (hC 0 _ rfl) ?_ (hm := trivial)
    refine ix ?_
    refine ld (hC' 0 _ rfl) ?_ (hm := trivial)
    skip
    refine br (fun h => ?_) (fun h => ?_)
    · exact rt1 ⟨vb (same_no hx hy (of_decide_eq_true h)).symm, hB.trans h8.bl⟩
    · exact ih hlt ⟨rfl, same_go hx hy (Classical.not_not.1 (of_decide_eq_false h)) ha, hB.trans h8.bl⟩
  refine brF ?_
  exact rt1 ⟨vb (same_end hl ha (by omega)).symm, hB⟩
theorem c_EqFld (l m : List Fld) (a1 a2 : Option Addr) (c1 c2 : Nat) (w : World) (h1 : Sl eFld T w a1 l) (h2 : Sl eFld T w a2 m) : Ret Tryz.prog 73 #[.slice a1 l.length c1, .slice a2 m.length c2] w fun v w' => v = .bool (decide (l = m)) ∧ Bl w w' := by
  refine entr (vs := [.slice a1 l.length c1, .slice a2 m.length c2]) [0, 1, 4, 5, 10, 12, 13, 14, 24] tabok Tryz.func73 (by kernel_rfl) ?_
  have hb1 := h1.big
  have hb2 := h2.big
  refine br (fun h => ?_) (fun h => ?_)
  · exact rt1 ⟨vb (same_len (of_decide_eq_true h)).symm, Bl.refl _⟩
  have hl := Classical.not_not.1 (of_decide_eq_false h)
  refine lpk l.length 13 [] [(0, .slice a1 l.length c1), (1, .slice a2 m.length c2), (12, I l.length)] (fun k vals w' => vals = [] ∧ l.take k = m.take k ∧ Bl w w') ⟨rfl, rfl, Bl.refl _⟩ ?_
  rintro k vals w2 hk ⟨rfl, ha, hB⟩ ih
  by_cases hlt : k < l.length
  · refine brT ?_
    obtain ⟨x, b, o, cs, hx, rfl, _, hAt, rfl⟩ := at_some (h1.bl hB) hlt
    obtain ⟨y, b', o', cs', hy, rfl, _, hAt', rfl⟩ := at_some (h2.bl hB) (i := k) (by omega)
    refine dh T (List.range 9) fun w8 h8 => ?_
    have hC := hAt.bl h8.bl
    have hC' := hAt'.bl h8.bl
    refine ix ?_
    refine lda hC ?_ (hm := trivial)
    refine ix ?_
    refine lda hC' ?_ (hm := trivial)
    refine neA (fun w => eq_fld x y) ?_
    refine br (fun h => ?_) (fun h => ?_)
    · exact rt1 ⟨vb (same_no hx hy (fun e => by rw [decide_eq_true e] at h; cases h)).symm, hB.trans h8.bl⟩
    · exact ih hlt ⟨rfl, same_go hx hy (Classical.byContradiction fun e => by rw [decide_eq_false e] at h; cases h) ha, hB.trans h8.bl⟩
  refine brF ?_
  exact rt1 ⟨vb (same_end hl ha (by omega)).symm, hB⟩
theorem c_EqTy (l m : List Ty) (a1 a2 : Option Addr) (c1 c2 : Nat) (w : World) (h1 : Sl eTy T w a1 l) (h2 : Sl eTy T w a2 m) : Ret Tryz.prog 75 #[.slice a1 l.length c1, .slice a2 m.length c2] w fun v w' => v = .bool (decide (l = m)) ∧ Bl w w' := by
  refine entr (vs := [.slice a1 l.length c1, .slice a2 m.length c2]) [0, 1, 4, 5, 10, 12, 13, 14, 24] tabok Tryz.func75 (by kernel_rfl) ?_
  have hb1 := h1.big
  have hb2 := h2.big
  refine br (fun h => ?_) (fun h => ?_)
  · exact rt1 ⟨vb (same_len (of_decide_eq_true h)).symm, Bl.refl _⟩
  have hl := Classical.not_not.1 (of_decide_eq_false h)
  refine lpk l.length 13 [] [(0, .slice a1 l.length c1), (1, .slice a2 m.length c2), (12, I l.length)] (fun k vals w' => vals = [] ∧ l.take k = m.take k ∧ Bl w w') ⟨rfl, rfl, Bl.refl _⟩ ?_
  rintro k vals w2 hk ⟨rfl, ha, hB⟩ ih
  by_cases hlt : k < l.length
  · refine brT ?_
    obtain ⟨x, b, o, cs, hx, rfl, _, hAt, rfl⟩ := at_some (h1.bl hB) hlt
    obtain ⟨y, b', o', cs', hy, rfl, _, hAt', rfl⟩ := at_some (h2.bl hB) (i := k) (by omega)
    refine dh T (List.range 9) fun w8 h8 => ?_
    have hC := hAt.bl h8.bl
    have hC' := hAt'.bl h8.bl
    refine ix ?_
    refine lda hC ?_ (hm := trivial)
    refine ix ?_
    refine lda hC' ?_ (hm := trivial)
    refine neA (fun w => eq_ty x y) ?_
    refine br (fun h => ?_) (fun h => ?_)
    · exact rt1 ⟨vb (same_no hx hy (fun e => by rw [decide_eq_true e] at h; cases h)).symm, hB.trans h8.bl⟩
    · exact ih hlt ⟨rfl, same_go hx hy (Classical.byContradiction fun e => by rw [decide_eq_false e] at h; cases h) ha, hB.trans h8.bl⟩
  refine brF ?_
  exact rt1 ⟨vb (same_end hl ha (by omega)).symm, hB⟩
theorem c_EqIns (l m : List Ins) (a1 a2 : Option Addr) (c1 c2 : Nat) (w : World) (h1 : Sl eIns T w a1 l) (h2 : Sl eIns T w a2 m) : Ret Tryz.prog 76 #[.slice a1 l.length c1, .slice a2 m.length c2] w fun v w' => v = .bool (decide (l = m)) ∧ Bl w w' := by
  refine entr (vs := [.slice a1 l.length c1, .slice a2 m.length c2]) [0, 1, 4, 5, 10, 12, 13, 14, 24] tabok Tryz.func76 (by kernel_rfl) ?_
  have hb1 := h1.big
  have hb2 := h2.big
  refine br (fun h => ?_) (fun h => ?_)
  · exact rt1 ⟨vb (same_len (of_decide_eq_true h)).symm, Bl.refl _⟩
  have hl := Classical.not_not.1 (of_decide_eq_false h)
  refine lpk l.length 13 [] [(0, .slice a1 l.length c1), (1, .slice a2 m.length c2), (12, I l.length)] (fun k vals w' => vals = [] ∧ l.take k = m.take k ∧ Bl w w') ⟨rfl, rfl, Bl.refl _⟩ ?_
  rintro k vals w2 hk ⟨rfl, ha, hB⟩ ih
  by_cases hlt : k < l.length
  · refine brT ?_
    obtain ⟨x, b, o, cs, hx, rfl, _, hAt, rfl⟩ := at_some (h1.bl hB) hlt
    obtain ⟨y, b', o', cs', hy, rfl, _, hAt', rfl⟩ := at_some (h2.bl hB) (i := k) (by omega)
    refine dh T (List.range 9) fun w8 h8 => ?_
    have hC := hAt.bl h8.bl
    have hC' := hAt'.bl h8.bl
    refine ix ?_
    refine lda hC ?_ (hm := trivial)
    refine ix ?_
    refine lda hC' ?_ (hm := trivial)
    refine neA (fun w => eq_ins x y) ?_
    refine br (fun h => ?_) (fun h => ?_)
    · exact rt1 ⟨vb (same_no hx hy (fun e => by rw [decide_eq_true e] at h; cases h)).symm, hB.trans h8.bl⟩
    · exact ih hlt ⟨rfl, same_go hx hy (Classical.byContradiction fun e => by rw [decide_eq_false e] at h; cases h) ha, hB.trans h8.bl⟩
  refine brF ?_
  exact rt1 ⟨vb (same_end hl ha (by omega)).symm, hB⟩
theorem c_EqCls (l m : List Cls) (a1 a2 : Option Addr) (c1 c2 : Nat) (g : FuncId) (caps : List Value) (w : World) (h1 : Sl eCls T w a1 l) (h2 : Sl eCls T w a2 m)
    (hp : ∀ x y cs ds, ∀ w', Bl w w' → (eCls).rel T w' cs x → (eCls).rel T w' ds y → Ret Tryz.prog g ([asV cs, asV ds] ++ caps).toArray w' fun v w'' => v = .bool (decide (x = y)) ∧ Bl w' w'') :
    Ret Tryz.prog 78 #[.slice a1 l.length c1, .slice a2 m.length c2, .func (.func g) #[] caps.toArray] w fun v w' => v = .bool (decide (l = m)) ∧ Bl w w' := by
  refine entr (vs := [.slice a1 l.length c1, .slice a2 m.length c2, .func (.func g) #[] caps.toArray]) [0, 1, 2, 6, 7, 8, 9, 14, 15, 16, 17, 18, 30] tabok Tryz.func78 (by kernel_rfl) ?_
  have hb1 := h1.big
  have hb2 := h2.big
  refine br (fun h => ?_) (fun h => ?_)
  · exact rt1 ⟨vb (same_len (of_decide_eq_true h)).symm, Bl.refl _⟩
  have hl := Classical.not_not.1 (of_decide_eq_false h)
  refine lpk l.length 17 [] [(1, .slice a2 m.length c2), (2, .func (.func g) #[] caps.toArray), (15, .slice a1 l.length c1), (16, I l.length)] (fun k vals w' => vals = [] ∧ l.take k = m.take k ∧ Bl w w') ⟨rfl, rfl, Bl.refl _⟩ ?_
  rintro k vals w2 hk ⟨rfl, ha, hB⟩ ih
  by_cases hlt : k < l.length
  · refine brT ?_
    obtain ⟨x, b, o, cs, hx, rfl, _, hAt, hr⟩ := at_some (h1.bl hB) hlt
    obtain ⟨y, b', o', cs', hy, rfl, _, hAt', hr'⟩ := at_some (h2.bl hB) (i := k) (by omega)
    have hr0 := hr
    have hr0' := hr'
    obtain ⟨af, cf, rfl, _⟩ := hr
    obtain ⟨af', cf', rfl, _⟩ := hr'
    refine ix ?_
    refine lda hAt ?_
    refine al fun b5 w5 h5 => ?_
    refine sta h5.box fun w6 k6 hx6 => ?_
    have B26 : Bl w2 w6 := h5.wr k6
    refine ix ?_
    refine lda (hAt'.bl B26) ?_
    refine al fun b7 w7 h7 => ?_
    refine sta h7.box fun w8 k8 hx8 => ?_
    have B68 : Bl w6 w8 := h7.wr k8
    have B28 := B26.trans B68
    refine lda (Bl.box B68 hx6).at ?_
    refine lda hx8.at ?_
    refine cl (hp x y _ _ w8 (hB.trans B28) ((eCls).kp (B28.kp T) hr0) ((eCls).kp (B28.kp T) hr0')) ?_
    rintro _ w9 ⟨rfl, h9⟩
    refine br (fun h => ?_) (fun h => ?_)
    · exact rt1 ⟨vb (same_no hx hy (fun e => by rw [decide_eq_true e] at h; cases h)).symm, (hB.trans B28).trans h9⟩
    · exact ih hlt ⟨rfl, same_go hx hy (Classical.byContradiction fun e => by rw [decide_eq_false e] at h; cases h) ha, (hB.trans B28).trans h9⟩
  refine brF ?_
  exact rt1 ⟨vb (same_end hl ha (by omega)).symm, hB⟩
theorem c_EqMth (l m : List Mth) (a1 a2 : Option Addr) (c1 c2 : Nat) (g : FuncId) (caps : List Value) (w : World) (h1 : Sl eMth T w a1 l) (h2 : Sl eMth T w a2 m)
    (hp : ∀ x y cs ds, ∀ w', Bl w w' → (eMth).rel T w' cs x → (eMth).rel T w' ds y → Ret Tryz.prog g ([asV cs, asV ds] ++ caps).toArray w' fun v w'' => v = .bool (decide (x = y)) ∧ Bl w' w'') :
    Ret Tryz.prog 79 #[.slice a1 l.length c1, .slice a2 m.length c2, .func (.func g) #[] caps.toArray] w fun v w' => v = .bool (decide (l = m)) ∧ Bl w w' := by
  refine entr (vs := [.slice a1 l.length c1, .slice a2 m.length c2, .func (.func g) #[] caps.toArray]) [0, 1, 2, 6, 7, 8, 9, 14, 15, 16, 17, 18, 30] tabok Tryz.func79 (by kernel_rfl) ?_
  have hb1 := h1.big
  have hb2 := h2.big
  refine br (fun h => ?_) (fun h => ?_)
  · exact rt1 ⟨vb (same_len (of_decide_eq_true h)).symm, Bl.refl _⟩
  have hl := Classical.not_not.1 (of_decide_eq_false h)
  refine lpk l.length 17 [] [(1, .slice a2 m.length c2), (2, .func (.func g) #[] caps.toArray), (15, .slice a1 l.length c1), (16, I l.length)] (fun k vals w' => vals = [] ∧ l.take k = m.take k ∧ Bl w w') ⟨rfl, rfl, Bl.refl _⟩ ?_
  rintro k vals w2 hk ⟨rfl, ha, hB⟩ ih
  by_cases hlt : k < l.length
  · refine brT ?_
    obtain ⟨x, b, o, cs, hx, rfl, _, hAt, hr⟩ := at_some (h1.bl hB) hlt
    obtain ⟨y, b', o', cs', hy, rfl, _, hAt', hr'⟩ := at_some (h2.bl hB) (i := k) (by omega)
    have hr0 := hr
    have hr0' := hr'
    obtain ⟨q1, s1, q2, s2, q3, s3, rfl, _⟩ := hr
    obtain ⟨q1', s1', q2', s2', q3', s3', rfl, _⟩ := hr'
    refine ix ?_
    refine lda hAt ?_
    refine al fun b5 w5 h5 => ?_
    refine sta h5.box fun w6 k6 hx6 => ?_
    have B26 : Bl w2 w6 := h5.wr k6
    refine ix ?_
    refine lda (hAt'.bl B26) ?_
    refine al fun b7 w7 h7 => ?_
    refine sta h7.box fun w8 k8 hx8 => ?_
    have B68 : Bl w6 w8 := h7.wr k8
    have B28 := B26.trans B68
    refine lda (Bl.box B68 hx6).at ?_
    refine lda hx8.at ?_
    refine cl (hp x y _ _ w8 (hB.trans B28) ((eMth).kp (B28.kp T) hr0) ((eMth).kp (B28.kp T) hr0')) ?_
    rintro _ w9 ⟨rfl, h9⟩
    refine br (fun h => ?_) (fun h => ?_)
    · exact rt1 ⟨vb (same_no hx hy (fun e => by rw [decide_eq_true e] at h; cases h)).symm, (hB.trans B28).trans h9⟩
    · exact ih hlt ⟨rfl, same_go hx hy (Classical.byContradiction fun e => by rw [decide_eq_false e] at h; cases h) ha, (hB.trans B28).trans h9⟩
  refine brF ?_
  exact rt1 ⟨vb (same_end hl ha (by omega)).symm, hB⟩
end Go.Proofs.YtopjmiklpnejmaaGreatDoor

/- Walks: the program's comparison of units. -/
namespace Go.Proofs.YtopjmiklpnejmaaGreatDoor
open Eng Go.RowKit
/-- == on two values of a struct -/
theorem Eng.eqA {C : Cx} {s : St} {w : World} {md : Option Md} {ops : Array Oper} {T T' : TypeId} {x y : Operand} {d : Nat} {ty : TypeId} {pos : String} {af : Array Edge} {g : Option (Nat × Bool)} {rest : List Oper} {k : List Item} {l : Env} {c : CEnv} {a b : List Value} {r : Bool}
    (he : ∀ w', (Op.equalIn 10000 T (.agg a.toArray) (.agg b.toArray)).run C.P w' = .ok r w') (h : Wk C (.reg md ops rest k ((d, .bool r) :: l) c) w)
    (hs : adv C.tab C.n C.ks 400 s = .opn md ops ⟨some d, .binOp .eql T x y T', ty, pos, af, g⟩ rest k l c [] := by rfl) (hx : evc l c [] x = some (.agg a.toArray) := by rfl) (hy : evc l c [] y = some (.agg b.toArray) := by rfl) (hg : C.P.eqGuardType C.P.depth T = false := by kernel_rfl) (hf : fresh d l c [] = true := by rfl) : Wk C s w :=
  rd (p := []) (fun _ _ hA hp w' _ => by
    simp only [execOp, evc_ok hA.k hA.kc.c hp hx, evc_ok hA.k hA.kc.c hp hy]
    have hb : (binOp .eql T (.agg a.toArray) (.agg b.toArray)).run C.P w' = .ok (.bool r) w' := by rw [run_eql_struct, he]; rfl
    exact run_bind_ok (run_bind_ok (run_eqGuard_agg _ _ _ _ _ _ _ hg) |>.trans hb) |>.trans rfl) h hs rfl hf (okR_no rfl)
/-- a guard that says no -/
theorem Eng.spn {C : Cx} {s : St} {w : World} {md : Option Md} {ops : Array Oper} {o : Oper} {rest : List Oper} {k : List Item} {l : Env} {c : CEnv} {gs : Nat} {gb gt : Bool} {d : Nat} (u : Value)
    (h2 : Wk C (.reg md ops rest k l ((d, [(gs, gb)], u) :: c)) w)
    (hs : adv C.tab C.n C.ks 400 s = .opn md ops o rest k l c [(gs, gb)] := by rfl) (hg : evc l c [] (.tmp gs) = some (.bool gt) := by rfl) (hd : o.dst = some d := by rfl) (hf : fresh d l c [(gs, gb)] = true := by rfl) (hb : gt = (!gb) := by first | rfl | simp_all) : Wk C s w :=
  sp u (fun q => by rw [q] at hb; cases gb <;> cases hb) (fun _ => h2) hs hg hd hf
theorem cls_eq (c d : Cls) : c = d ↔ c.name = d.name ∧ c.super = d.super ∧ c.fields = d.fields := by
  obtain ⟨a, b, e⟩ := c
  obtain ⟨a', b', e'⟩ := d
  simp
theorem mth_eq (c d : Mth) : c = d ↔ c.name = d.name ∧ c.cls = d.cls ∧ c.result = d.result ∧ c.params = d.params ∧ c.locals = d.locals ∧ c.code = d.code := by
  obtain ⟨a, b, e, f, g, h⟩ := c
  obtain ⟨a', b', e', f', g', h'⟩ := d
  simp only [Mth.mk.injEq]
  constructor
  · rintro ⟨h1, h2, h3, h4, h5, h6⟩; exact ⟨h1, h2, h5, h3, h4, h6⟩
  · rintro ⟨h1, h2, h3, h4, h5, h6⟩; exact ⟨h1, h2, h4, h5, h3, h6⟩
def sameU (u v : Unt) : Bool := decide (u.name = v.name) && decide (u.pool = v.pool) && decide (u.classes = v.classes) && decide (u.statics = v.statics) && decide (u.methods = v.methods)
theorem u_Same1 (c d : Cls) (cs ds : List Value) (w : World) (hc : eCls.rel T w cs c) (hd : eCls.rel T w ds d) : Ret Tryz.prog 72 #[asV cs, asV ds] w fun v w' => v = .bool (decide (c = d)) ∧ Bl w w' := by
  obtain ⟨a, cap, rfl, hf⟩ := hc
  obtain ⟨a', cap', rfl, hf'⟩ := hd
  refine entr (vs := [asV [I c.name, I c.super, .slice a c.fields.length cap], asV [I d.name, I d.super, .slice a' d.fields.length cap']]) [0, 1, 2, 3, 4] tabok Tryz.func72 (by kernel_rfl) ?_
  refine bx (cs := [I c.name, I c.super, .slice a c.fields.length cap]) fun b1 w1 h1 => ?_
  refine bx (cs := [I d.name, I d.super, .slice a' d.fields.length cap']) fun b2 w2 h2 => ?_
  have hx1 := Bl.box h2.bl h1.box
  have hx2 := h2.box
  have B := h1.bl.trans h2.bl
  refine ld (hx1.cell rfl) ?_
  refine ld (hx2.cell rfl) ?_
  refine ldg (fun _ => hx1.cell rfl) ?_
  refine ldg (fun _ => hx2.cell rfl) ?_
  refine ldg (fun _ => hx1.cell rfl) ?_
  refine ldg (fun _ => hx2.cell rfl) ?_
  refine sp (.bool false) (fun q => ?_) (fun q => ?_)
  · refine cl (c_EqFld c.fields d.fields a a' cap cap' w2 (hf.bl B) (hf'.bl B)) ?_
    rintro _ w3 ⟨rfl, h3⟩
    refine rt1 ⟨vb ?_, B.trans h3⟩
    simp_all [cls_eq]
  · refine rt1 ⟨vb ?_, B⟩
    simp_all [cls_eq]
theorem u_Same2 (c d : Mth) (cs ds : List Value) (w : World) (hc : eMth.rel T w cs c) (hd : eMth.rel T w ds d) : Ret Tryz.prog 74 #[asV cs, asV ds] w fun v w' => v = .bool (decide (c = d)) ∧ Bl w w' := by
  obtain ⟨q1, s1, q2, s2, q3, s3, rfl, f1, f2, f3⟩ := hc
  obtain ⟨q1', s1', q2', s2', q3', s3', rfl, f1', f2', f3'⟩ := hd
  refine entr (vs := [asV (mcells c q1 s1 q2 s2 q3 s3), asV (mcells d q1' s1' q2' s2' q3' s3')]) [0, 1, 2, 3, 4] tabok Tryz.func74 (by kernel_rfl) ?_
  refine bx (cs := mcells c q1 s1 q2 s2 q3 s3) fun b1 w1 h1 => ?_
  refine bx (cs := mcells d q1' s1' q2' s2' q3' s3') fun b2 w2 h2 => ?_
  have hx1 := Bl.box h2.bl h1.box
  have hx2 := h2.box
  have B := h1.bl.trans h2.bl
  refine ld (hx1.cell rfl) ?_
  refine ld (hx2.cell rfl) ?_
  refine ldg (fun _ => hx1.cell rfl) ?_
  refine ldg (fun _ => hx2.cell rfl) ?_
  refine sp (.agg (encTy c.result).toArray) (fun q => ?_) (fun q => ?_)
  rotate_left
  · refine spn (.agg (encTy d.result).toArray) ?_
    refine spn (.bool false) ?_
    refine ldg (fun _ => hx1.cell rfl) ?_
    refine ldg (fun _ => hx2.cell rfl) ?_
    refine spn (.bool false) ?_
    refine ldg (fun _ => hx1.cell rfl) ?_
    refine ldg (fun _ => hx2.cell rfl) ?_
    refine spn (.bool false) ?_
    refine ldg (fun _ => hx1.cell rfl) ?_
    refine ldg (fun _ => hx2.cell rfl) ?_
    refine spn (.bool false) ?_
    refine rt1 ⟨vb ?_, B⟩
    simp_all [mth_eq]
  refine lda (At.left (cs := encTy c.result) hx1.at.tail.tail.tail.tail) ?_
  refine spt (.agg (encTy d.result).toArray) ?_
  refine lda (At.left (cs := encTy d.result) hx2.at.tail.tail.tail.tail) ?_
  refine spt (.bool false) ?_
  refine eqA (fun w => eq_ty c.result d.result) ?_
  refine ldg (fun _ => hx1.cell rfl) ?_
  refine ldg (fun _ => hx2.cell rfl) ?_
  refine sp (.bool false) (fun k2 => ?_) (fun k2 => ?_)
  rotate_left
  · refine ldg (fun _ => hx1.cell rfl) ?_
    refine ldg (fun _ => hx2.cell rfl) ?_
    refine spn (.bool false) ?_
    refine ldg (fun _ => hx1.cell rfl) ?_
    refine ldg (fun _ => hx2.cell rfl) ?_
    refine spn (.bool false) ?_
    refine rt1 ⟨vb ?_, B⟩
    simp_all [mth_eq]
  refine cl (c_EqTy c.params d.params q1 q1' s1 s1' w2 (f1.bl B) (f1'.bl B)) ?_
  rintro _ w3 ⟨rfl, h3⟩
  have B3 := B.trans h3
  replace hx1 := Bl.box h3 hx1
  replace hx2 := Bl.box h3 hx2
  refine ldg (fun _ => hx1.cell rfl) ?_
  refine ldg (fun _ => hx2.cell rfl) ?_
  refine sp (.bool false) (fun k3 => ?_) (fun k3 => ?_)
  rotate_left
  · refine ldg (fun _ => hx1.cell rfl) ?_
    refine ldg (fun _ => hx2.cell rfl) ?_
    refine spn (.bool false) ?_
    refine rt1 ⟨vb ?_, B3⟩
    simp_all [mth_eq]
  refine cl (c_EqTy c.locals d.locals q2 q2' s2 s2' w3 (f2.bl B3) (f2'.bl B3)) ?_
  rintro _ w4 ⟨rfl, h4⟩
  have B4 := B3.trans h4
  replace hx1 := Bl.box h4 hx1
  replace hx2 := Bl.box h4 hx2
  refine ldg (fun _ => hx1.cell rfl) ?_
  refine ldg (fun _ => hx2.cell rfl) ?_
  refine sp (.bool false) (fun k4 => ?_) (fun k4 => ?_)
  rotate_left
  · refine rt1 ⟨vb ?_, B4⟩
    simp_all [mth_eq]
  refine cl (c_EqIns c.code d.code q3 q3' s3 s3' w4 (f3.bl B4) (f3'.bl B4)) ?_
  rintro _ w5 ⟨rfl, h5⟩
  refine rt1 ⟨vb ?_, B4.trans h5⟩
  simp_all [mth_eq]
theorem u_Same (u v : Unt) (a b : UA) (w : World) (hU : UnR T w u a) (hV : UnR T w v b) : Ret Tryz.prog 27 #[.agg (ucells u a).toArray, .agg (ucells v b).toArray] w fun x w' => x = .bool (sameU u v) ∧ Bl w w' := by
  refine entr (vs := [.agg (ucells u a).toArray, .agg (ucells v b).toArray]) [0, 1, 2, 3, 4, 5, 6] tabok Tryz.func27 (by kernel_rfl) ?_
  refine bx (cs := ucells u a) fun b1 w1 h1 => ?_
  refine bx (cs := ucells v b) fun b2 w2 h2 => ?_
  have hx1 := Bl.box h2.bl h1.box
  have hx2 := h2.box
  have B := h1.bl.trans h2.bl
  refine ld (hx1.cell rfl) ?_
  refine ld (hx2.cell rfl) ?_
  refine ldg (fun _ => hx1.cell rfl) ?_
  refine ldg (fun _ => hx2.cell rfl) ?_
  refine sp (.bool false) (fun k1 => ?_) (fun k1 => ?_)
  rotate_left
  · refine ldg (fun _ => hx1.cell rfl) ?_
    refine ldg (fun _ => hx2.cell rfl) ?_
    refine spn (.bool false) ?_
    refine ldg (fun _ => hx1.cell rfl) ?_
    refine ldg (fun _ => hx2.cell rfl) ?_
    refine spn (.bool false) ?_
    refine ldg (fun _ => hx1.cell rfl) ?_
    refine ldg (fun _ => hx2.cell rfl) ?_
    refine spn (.bool false) ?_
    refine rt1 ⟨vb ?_, B⟩
    simp_all [sameU]
  refine cl (c_EqStr u.pool v.pool a.a1 b.a1 a.c1 b.c1 w2 (hU.bl B).pool (hV.bl B).pool) ?_
  rintro _ w3 ⟨rfl, h3⟩
  have B3 := B.trans h3
  replace hx1 := Bl.box h3 hx1
  replace hx2 := Bl.box h3 hx2
  refine ldg (fun _ => hx1.cell rfl) ?_
  refine ldg (fun _ => hx2.cell rfl) ?_
  refine sp (.bool false) (fun k2 => ?_) (fun k2 => ?_)
  rotate_left
  · refine ldg (fun _ => hx1.cell rfl) ?_
    refine ldg (fun _ => hx2.cell rfl) ?_
    refine spn (.bool false) ?_
    refine ldg (fun _ => hx1.cell rfl) ?_
    refine ldg (fun _ => hx2.cell rfl) ?_
    refine spn (.bool false) ?_
    refine rt1 ⟨vb ?_, B3⟩
    simp_all [sameU]
  refine cl (c_EqCls u.classes v.classes a.a2 b.a2 a.c2 b.c2 72 [] w3 (hU.bl B3).cls (hV.bl B3).cls (fun x y cs ds w' _ hc hd => u_Same1 x y cs ds w' hc hd)) ?_
  rintro _ w4 ⟨rfl, h4⟩
  have B4 := B3.trans h4
  replace hx1 := Bl.box h4 hx1
  replace hx2 := Bl.box h4 hx2
  refine ldg (fun _ => hx1.cell rfl) ?_
  refine ldg (fun _ => hx2.cell rfl) ?_
  refine sp (.bool false) (fun k3 => ?_) (fun k3 => ?_)
  rotate_left
  · refine ldg (fun _ => hx1.cell rfl) ?_
    refine ldg (fun _ => hx2.cell rfl) ?_
    refine spn (.bool false) ?_
    refine rt1 ⟨vb ?_, B4⟩
    simp_all [sameU]
  refine cl (c_EqFld u.statics v.statics a.a3 b.a3 a.c3 b.c3 w4 (hU.bl B4).sta (hV.bl B4).sta) ?_
  rintro _ w5 ⟨rfl, h5⟩
  have B5 := B4.trans h5
  replace hx1 := Bl.box h5 hx1
  replace hx2 := Bl.box h5 hx2
  refine ldg (fun _ => hx1.cell rfl) ?_
  refine ldg (fun _ => hx2.cell rfl) ?_
  refine sp (.bool false) (fun k4 => ?_) (fun k4 => ?_)
  rotate_left
  · refine rt1 ⟨vb ?_, B5⟩
    simp_all [sameU]
  refine cl (c_EqMth u.methods v.methods a.a4 b.a4 a.c4 b.c4 74 [] w5 (hU.bl B5).mth (hV.bl B5).mth (fun x y cs ds w' _ hc hd => u_Same2 x y cs ds w' hc hd)) ?_
  rintro _ w6 ⟨rfl, h6⟩
  refine rt1 ⟨vb ?_, B5.trans h6⟩
  simp_all [sameU]
end Go.Proofs.YtopjmiklpnejmaaGreatDoor

/- Walks: the document's comparison of any two units. -/
namespace Go.Proofs.YtopjmiklpnejmaaGreatDoor
open Eng Go.RowKit
theorem sameU_no {u v : Unt} (h : ¬ (u.name = v.name ∧ u.pool = v.pool ∧ u.classes = v.classes ∧ u.statics = v.statics ∧ u.methods = v.methods)) : sameU u v = false := by
  rw [← Bool.not_eq_true]
  intro h2
  simp only [sameU, Bool.and_eq_true, decide_eq_true_eq] at h2
  exact h ⟨h2.1.1.1.1, h2.1.1.1.2, h2.1.1.2, h2.1.2, h2.2⟩
theorem r_Same (u v : Unt) (a b : UA) (w : World) (hU : UnR T w u a) (hV : UnR T w v b) : Ret Tryz.prog 23 #[.agg (ucells u a).toArray, .agg (ucells v b).toArray] w fun x w' => x = .bool (sameU u v) ∧ Bl w w' := by
  refine entr (vs := [.agg (ucells u a).toArray, .agg (ucells v b).toArray]) [0, 1, 2, 3, 4, 5, 6, 7, 8, 9, 10, 49, 54, 86, 91, 146] tabok Tryz.func23 (by kernel_rfl) ?_
  have hp2 := hU.cls.big
  have hp4 := hU.mth.big
  have hp2' := hV.cls.big
  have hp4' := hV.mth.big
  refine bx (cs := ucells u a) fun b1 w1 h1 => ?_
  refine bx (cs := ucells v b) fun b2 w2 h2 => ?_
  have B02 : Bl w w2 := h1.bl.trans h2.bl
  have hx1 := Bl.box h2.bl h1.box
  have hx2 := h2.box
  refine ld (hx1.cell rfl) ?_
  refine ld (hx2.cell rfl) ?_
  refine ldg (fun _ => hx1.cell rfl) ?_
  refine ldg (fun _ => hx2.cell rfl) ?_
  refine sp (.bool true) (fun k1 => ?_) (fun k1 => ?_)
  rotate_left
  · refine ldg (fun _ => hx1.cell rfl) ?_
    refine ldg (fun _ => hx2.cell rfl) ?_
    refine ldg (fun _ => hx1.cell rfl) ?_
    refine ldg (fun _ => hx2.cell rfl) ?_
    refine ldg (fun _ => hx1.cell rfl) ?_
    refine ldg (fun _ => hx2.cell rfl) ?_
    refine spn (.bool true) ?_
    refine br (fun _ => ?_) (fun k3 => ?_)
    rotate_left
    · exfalso; simp_all
    refine rt1 ⟨vb (sameU_no fun q => ?_).symm, B02⟩
    simp_all
  refine cl (r_SameStrings u.pool v.pool a.a1 b.a1 a.c1 b.c1 w2 (hU.bl B02).pool (hV.bl B02).pool) ?_
  rintro _ w3 ⟨rfl, h3⟩
  replace hx1 := Bl.box h3 hx1
  replace hx2 := Bl.box h3 hx2
  have B03 := B02.trans h3
  refine ldg (fun _ => hx1.cell rfl) ?_
  refine ldg (fun _ => hx2.cell rfl) ?_
  refine ldg (fun _ => hx1.cell rfl) ?_
  refine ldg (fun _ => hx2.cell rfl) ?_
  refine ldg (fun _ => hx1.cell rfl) ?_
  refine ldg (fun _ => hx2.cell rfl) ?_
  refine sp (.bool true) (fun k2 => ?_) (fun k2 => ?_)
  rotate_left
  · refine br (fun _ => ?_) (fun k3 => ?_)
    rotate_left
    · exfalso; simp_all
    refine rt1 ⟨vb (sameU_no fun q => ?_).symm, B03⟩
    simp_all
  refine cl (r_sameFields u.statics v.statics a.a3 b.a3 a.c3 b.c3 w3 (hU.bl B03).sta (hV.bl B03).sta) ?_
  rintro _ w4 ⟨rfl, h4⟩
  replace hx1 := Bl.box h4 hx1
  replace hx2 := Bl.box h4 hx2
  have B04 := B03.trans h4
  refine br (fun k3 => ?_) (fun k3 => ?_)
  · refine rt1 ⟨vb (sameU_no fun q => ?_).symm, B04⟩
    simp_all
  have k5 : u.name = v.name ∧ u.pool = v.pool ∧ u.classes.length = v.classes.length ∧ u.methods.length = v.methods.length ∧ u.statics = v.statics := by
    simp_all
    omega
  clear k1 k2 k3
  obtain ⟨n1, n2, n3, n4, n5⟩ := k5
  refine lpk u.classes.length 5 [] [(2, .pointer (some ⟨b1, 0, none⟩)), (3, .pointer (some ⟨b2, 0, none⟩))] (fun k vals w' => vals = [] ∧ u.classes.take k = v.classes.take k ∧ Bl w4 w') ⟨rfl, rfl, Bl.refl _⟩ ?_
  rintro k vals w5 hk ⟨rfl, ha, hB⟩ ih
  have hy1 := Bl.box hB hx1
  have hy2 := Bl.box hB hx2
  have B05 := B04.trans hB
  refine ld (hy1.cell rfl) ?_
  by_cases hlt : k < u.classes.length
  · refine brT ?_
    obtain ⟨c, bs, o, cs, hc, e2, _, hAt, af, cf, rfl, hf⟩ := at_some (hU.bl B05).cls hlt
    obtain ⟨d, bs', o', cs', hd, e2', _, hAt', af', cf', rfl, hf'⟩ := at_some (hV.bl B05).cls (i := k) (by omega)
    have hcd : c ≠ d → sameU u v = false := fun hne => sameU_no fun q => of_decide_eq_false (same_no hc hd hne) q.2.2.1
    refine ld (hy1.cell rfl) ?_
    rw [e2]
    refine ix ?_
    refine lda hAt ?_
    refine al fun b6 w6 h6 => ?_
    refine sta h6.box fun w7 k7 hx7 => ?_
    have B57 : Bl w5 w7 := h6.wr k7
    refine ld ((Bl.box B57 hy2).cell rfl) ?_
    rw [e2']
    refine ix ?_
    refine lda (hAt'.bl B57) ?_
    refine al fun b8 w8 h8 => ?_
    refine sta h8.box fun w9 k9 hx9 => ?_
    have B79 : Bl w7 w9 := h8.wr k9
    have hz7 := Bl.box B79 hx7
    have B59 := B57.trans B79
    refine ld (hz7.cell rfl) ?_
    refine ld (hx9.cell rfl) ?_
    refine ldg (fun _ => hz7.cell rfl) ?_
    refine ldg (fun _ => hx9.cell rfl) ?_
    refine ldg (fun _ => hz7.cell rfl) ?_
    refine ldg (fun _ => hx9.cell rfl) ?_
    refine sp (.bool true) (fun k1 => ?_) (fun k1 => ?_)
    rotate_left
    · refine br (fun _ => ?_) (fun k3 => ?_)
      rotate_left
      · exfalso; simp_all
      refine rt1 ⟨vb (hcd fun q => ?_).symm, B05.trans B59⟩
      rw [cls_eq] at q
      simp_all
    refine cl (r_sameFields c.fields d.fields af af' cf cf' w9 (hf.bl B59) (hf'.bl B59)) ?_
    rintro _ w10 ⟨rfl, h10⟩
    refine br (fun k3 => ?_) (fun k3 => ?_)
    · refine rt1 ⟨vb (hcd fun q => ?_).symm, (B05.trans B59).trans h10⟩
      rw [cls_eq] at q
      simp_all
    · refine ih hlt ⟨rfl, same_go hc hd ?_ ha, (hB.trans B59).trans h10⟩
      rw [cls_eq]
      simp_all
  refine brF ?_
  have eC : u.classes = v.classes := of_decide_eq_true (same_end (by omega) ha (by omega))
  clear ih hy1 hy2
  refine lpk u.methods.length 8 [] [(2, .pointer (some ⟨b1, 0, none⟩)), (3, .pointer (some ⟨b2, 0, none⟩))] (fun k vals w' => vals = [] ∧ u.methods.take k = v.methods.take k ∧ Bl w4 w') ⟨rfl, rfl, hB⟩ ?_
  clear hB B05 ha
  rintro k vals w5 hk ⟨rfl, ha, hB⟩ ih
  have hy1 := Bl.box hB hx1
  have hy2 := Bl.box hB hx2
  have B05 := B04.trans hB
  refine ld (hy1.cell rfl) ?_
  by_cases hlt : k < u.methods.length
  · refine brT ?_
    obtain ⟨c, bs, o, cs, hc, e2, _, hAt, q1, s1, q2, s2, q3, s3, rfl, f1, f2, f3⟩ := at_some (hU.bl B05).mth hlt
    obtain ⟨d, bs', o', cs', hd, e2', _, hAt', q1', s1', q2', s2', q3', s3', rfl, f1', f2', f3'⟩ := at_some (hV.bl B05).mth (i := k) (by omega)
    have hcd : c ≠ d → sameU u v = false := fun hne => sameU_no fun q => of_decide_eq_false (same_no hc hd hne) q.2.2.2.2
    refine ld (hy1.cell rfl) ?_
    rw [e2]
    refine ix ?_
    refine lda hAt ?_
    refine al fun b6 w6 h6 => ?_
    refine sta h6.box fun w7 k7 hx7 => ?_
    have B57 : Bl w5 w7 := h6.wr k7
    refine ld ((Bl.box B57 hy2).cell rfl) ?_
    rw [e2']
    refine ix ?_
    refine lda (hAt'.bl B57) ?_
    refine al fun b8 w8 h8 => ?_
    refine sta h8.box fun w9 k9 hx9 => ?_
    have B79 : Bl w7 w9 := h8.wr k9
    have hz7 := Bl.box B79 hx7
    have B59 := B57.trans B79
    refine ld (hz7.cell rfl) ?_
    refine ld (hx9.cell rfl) ?_
    refine ldg (fun _ => hz7.cell rfl) ?_
    refine ldg (fun _ => hx9.cell rfl) ?_
    refine sp (.agg (encTy c.result).toArray) (fun k1 => ?_) (fun k1 => ?_)
    rotate_left
    · refine spn (.agg (encTy d.result).toArray) ?_
      refine spn (.bool true) ?_
      refine ldg (fun _ => hz7.cell rfl) ?_
      refine ldg (fun _ => hx9.cell rfl) ?_
      refine spn (.bool true) ?_
      refine ldg (fun _ => hz7.cell rfl) ?_
      refine ldg (fun _ => hx9.cell rfl) ?_
      refine spn (.bool true) ?_
      refine ldg (fun _ => hz7.cell rfl) ?_
      refine ldg (fun _ => hx9.cell rfl) ?_
      refine spn (.bool true) ?_
      refine br (fun _ => ?_) (fun k3 => ?_)
      rotate_left
      · exfalso; simp_all
      refine rt1 ⟨vb (hcd fun q => ?_).symm, B05.trans B59⟩
      rw [mth_eq] at q
      simp_all
    refine lda (At.left (cs := encTy c.result) hz7.at.tail.tail.tail.tail) ?_
    refine spt (.bool true) ?_
    refine lda (At.left (cs := encTy d.result) hx9.at.tail.tail.tail.tail) ?_
    refine spt (.bool true) ?_
    refine neA (fun w => eq_ty c.result d.result) ?_
    refine ldg (fun _ => hz7.cell rfl) ?_
    refine ldg (fun _ => hx9.cell rfl) ?_
    refine sp (.bool true) (fun k2 => ?_) (fun k2 => ?_)
    rotate_left
    · refine ldg (fun _ => hz7.cell rfl) ?_
      refine ldg (fun _ => hx9.cell rfl) ?_
      refine spn (.bool true) ?_
      refine ldg (fun _ => hz7.cell rfl) ?_
      refine ldg (fun _ => hx9.cell rfl) ?_
      refine spn (.bool true) ?_
      refine br (fun _ => ?_) (fun k3 => ?_)
      rotate_left
      · exfalso; simp_all
      refine rt1 ⟨vb (hcd fun q => ?_).symm, B05.trans B59⟩
      rw [mth_eq] at q
      simp_all
    refine cl (r_sameTypes c.params d.params q1 q1' s1 s1' w9 (f1.bl B59) (f1'.bl B59)) ?_
    rintro _ w10 ⟨rfl, h10⟩
    have B510 := B59.trans h10
    replace hz7 := Bl.box h10 hz7
    replace hx9 := Bl.box h10 hx9
    refine ldg (fun _ => hz7.cell rfl) ?_
    refine ldg (fun _ => hx9.cell rfl) ?_
    refine sp (.bool true) (fun k3 => ?_) (fun k3 => ?_)
    rotate_left
    · refine ldg (fun _ => hz7.cell rfl) ?_
      refine ldg (fun _ => hx9.cell rfl) ?_
      refine spn (.bool true) ?_
      refine br (fun _ => ?_) (fun k4 => ?_)
      rotate_left
      · exfalso; simp_all
      refine rt1 ⟨vb (hcd fun q => ?_).symm, B05.trans B510⟩
      rw [mth_eq] at q
      simp_all
    refine cl (r_sameTypes c.locals d.locals q2 q2' s2 s2' w10 (f2.bl B510) (f2'.bl B510)) ?_
    rintro _ w11 ⟨rfl, h11⟩
    have B511 := B510.trans h11
    replace hz7 := Bl.box h11 hz7
    replace hx9 := Bl.box h11 hx9
    refine ldg (fun _ => hz7.cell rfl) ?_
    refine ldg (fun _ => hx9.cell rfl) ?_
    refine sp (.bool true) (fun k4 => ?_) (fun k4 => ?_)
    rotate_left
    · refine br (fun _ => ?_) (fun k5 => ?_)
      rotate_left
      · exfalso; simp_all
      refine rt1 ⟨vb (hcd fun q => ?_).symm, B05.trans B511⟩
      rw [mth_eq] at q
      simp_all
    refine cl (r_SameCode c.code d.code q3 q3' s3 s3' w11 (f3.bl B511) (f3'.bl B511)) ?_
    rintro _ w12 ⟨rfl, h12⟩
    refine br (fun k5 => ?_) (fun k5 => ?_)
    · refine rt1 ⟨vb (hcd fun q => ?_).symm, (B05.trans B511).trans h12⟩
      rw [mth_eq] at q
      simp_all
    · refine ih hlt ⟨rfl, same_go hc hd ?_ ha, (hB.trans B511).trans h12⟩
      rw [mth_eq]
      simp_all
  refine brF ?_
  have eM : u.methods = v.methods := of_decide_eq_true (same_end (by omega) ha (by omega))
  refine rt1 ⟨vb ?_, B05⟩
  simp [sameU, n1, n2, n5, eC, eM]
end Go.Proofs.YtopjmiklpnejmaaGreatDoor

/- Walks: a unit renamed, in the document; the law UnitRenames. -/
namespace Go.Proofs.YtopjmiklpnejmaaGreatDoor
open Eng Go.RowKit
theorem fm_take {l : List (List UInt8)} (i : Nat) : ((l.take i).flatMap fun q => (46 : UInt8) :: q).length ≤ (l.flatMap fun q => (46 : UInt8) :: q).length := by
  conv => rhs; rw [← List.take_append_drop i l, List.flatMap_append, List.length_append]
  omega
set_option maxHeartbeats 1000000 in
theorem r_Rename (u : Unt) (a : UA) (name : ByteArray) (w : World) (hU : UnR T w u a) (hs : name.size ≤ 1048576) : Ret Tryz.prog 29 #[.agg (ucells u a).toArray, .string name] w (RenR u name w) := by
  refine entr (vs := [.agg (ucells u a).toArray, .string name]) [0, 1, 2, 4, 5, 6, 7, 8, 9, 10, 11, 15, 20, 30, 49, 54, 71] tabok Tryz.func29 (by kernel_rfl) ?_
  refine bx (cs := ucells u a) fun b1 w1 h1 => ?_
  refine al fun b2 w2 h2 => ?_
  have B02 := h1.bl.trans h2.bl
  have z1 := h1.size
  have z2 := h2.size
  have y1 := h1.blk
  have y2 := h2.blk
  have hx1 := Bl.box h2.bl h1.box
  have hx2 := h2.box
  refine lda hx1.at ?_
  refine cl (r_Check u a w2 (hU.bl B02)) ?_
  rintro _ w3 ⟨rfl, B23⟩
  have B03 := B02.trans B23
  replace hx1 := Bl.box B23 hx1
  replace hx2 := Bl.box B23 hx2
  have z3 := B23.size
  refine br (t := decide (¬ checkE u = 0)) (fun h => ?_) (fun h => ?_)
  · have h0 := of_decide_eq_true h
    refine bd ?_
    refine sta hx2 fun w4 k4 hx4 => ?_
    exact rtc2 hx4.at (ren_err (by unfold renE; rw [if_neg h0]) h0 (B03.trans_wr k4 (by omega)))
  have h0 : checkE u = 0 := Classical.not_not.1 (of_decide_eq_false h)
  have hC := (ckU_iff u).1 h0
  refine cl (r_Simple name w3 hs) ?_
  rintro _ w3 ⟨rfl, rfl⟩
  refine br (t := !simple name) (fun h => ?_) (fun h => ?_)
  · have h1 : simple name = false := by simpa using h
    refine bd ?_
    refine sta hx2 fun w4 k4 hx4 => ?_
    exact rtc2 hx4.at (ren_err (by unfold renE; rw [if_pos h0, if_pos h1]) (by decide) (B03.trans_wr k4 (by omega)))
  have h1 : simple name = true := by simpa using h
  have hns : name.size ≤ 12 := by
    have := simpleL_len (l := name.data.toList) h1
    rw [ba_len] at this; exact this.2
  have hpt : (46 : UInt8) ∉ u.name.data.toList := simple_nodot hC.nm
  refine lda hx1.at ?_
  refine cl (r_Copy2 u a w3 (hU.bl B03)) ?_
  rintro _ w4 ⟨X, rfl, hXu, hS4, B34⟩
  have B04 := B03.trans B34
  replace hx1 := Bl.box B34 hx1
  replace hx2 := Bl.box B34 hx2
  have z4 := B34.size
  have hpX : X.pool = u.pool := congrArg Unt.pool hXu
  have hnX : X.name = u.name := congrArg Unt.name hXu
  refine al fun b3 w5 h5 => ?_
  refine sta (cs' := X.cells) h5.box fun w6 k6 hx6 => ?_
  have y5 := h5.blk
  have z5 := h5.size
  have z6 := k6.size
  have B46 : Bl w4 w6 := h5.wr k6
  replace hx1 := Bl.box B46 hx1
  replace hx2 := Bl.box B46 hx2
  have hS6 := hS4.bl B46
  refine st hx6 fun w7 k7 hx7 => ?_
  have z7 := k7.size
  have B07 := (B04.trans B46).trans_wr k7 (by omega)
  replace hx1 := k7.box hx1 (by omega)
  replace hx2 := k7.box hx2 (by omega)
  have nb : ∀ (k : Key) g, (X.row k).a = some ⟨g, 0, none⟩ → g ≠ b3 := fun k g hg => by
    have := (SepR.lt hS4 hg).2
    omega
  have hS7 : SepR w7 w3.heap.size X.row := SepR.ap hS6 k7.ap fun k g hg e => nb k g hg (by simp only [Option.some.injEq, Addr.mk.injEq, and_true] at e; exact e.symm)
  have hpl := (lim_of hC.lim).pool
  have hpl2 : X.pool.length ≤ 60 := by rw [hpX]; omega
  have nb1 : X.a1 ≠ some ⟨b3, 0, none⟩ := fun e => nb .pool b3 e rfl
  refine lpk X.pool.length 8 [] [(1, .string name), (2, .pointer (some ⟨b1, 0, none⟩)), (4, .pointer (some ⟨b2, 0, none⟩)), (7, .pointer (some ⟨b3, 0, none⟩))] (fun k vals w' => vals = [] ∧ SepR w' w3.heap.size (setR X.row .pool ⟨9, 1, X.a1, (renK u name k).length, X.c1, (renK u name k).flatMap encStr⟩) ∧
    Box w' b3 30 [.string name, .slice X.a1 X.pool.length X.c1, .slice X.a2 X.cl.length X.c2, .slice X.a3 X.sta.length X.c3, .slice X.a4 X.ml.length X.c4] ∧ Box w' b1 30 (ucells u a) ∧ Box w' b2 30 [.string ⟨#[]⟩, .slice none 0 0, .slice none 0 0, .slice none 0 0, .slice none 0 0] ∧ Bl w w' ∧ w7.heap.size ≤ w'.heap.size) ⟨rfl, by rw [renK_zero, ← hpX]; exact (setR_self X.row .pool).symm ▸ hS7, hx7, hx1, hx2, B07, Nat.le_refl _⟩ ?_
  clear hx1 hx2 hx7 hx6 hS7 hS6 hS4
  rintro k vals w8 hk ⟨rfl, hS8, hx8, hx1, hx2, B08, z8⟩ ih
  refine ld (hx8.cell rfl) ?_
  by_cases hlt : k < X.pool.length
  · refine brT ?_
    obtain ⟨s, hs1⟩ := some_of_lt (l := u.pool) (k := k) (by rw [← hpX]; exact hlt)
    obtain ⟨hk1, hk2⟩ := renK_set (name := name) hs1
    have hps : path s ≠ 0 := fun e => by
      have := of_decide_eq_true (List.all_eq_true.1 hC.ps s (List.mem_of_getElem? hs1))
      omega
    have hss := path_size hps
    have hle := renK_len u name k
    obtain ⟨g, cur, ea, hgb, hln, hAt, hg⟩ := hS8.box .pool (by show 0 < (renK u name k).length; rw [hle, ← hpX]; omega)
    have ea : X.a1 = some ⟨g, 0, none⟩ := ea
    have hln : (renK u name k).length * 1 ≤ cur.length := hln
    rw [hle, ← hpX] at hln
    have hAx := at_elem (sz := 1) (enc := encStr) hAt hk1 fun _ => rfl
    have gb3 : g ≠ b3 := fun e => nb1 (by rw [ea, e])
    refine ld (hx8.cell rfl) ?_
    rw [ea]
    refine ix ?_
    refine ld (hAx 0 _ rfl) ?_
    refine cl (r_Parts s w8 (by omega)) ?_
    rintro _ w9 ⟨ap, cp, rfl, hP, B89⟩
    replace hx8 := Bl.box B89 hx8
    replace hx1 := Bl.box B89 hx1
    replace hx2 := Bl.box B89 hx2
    replace hgb := Bl.box B89 hgb
    replace hS8 := hS8.bl B89
    have B09 := B08.trans B89
    have z9 := B89.size
    obtain ⟨p, ps, hcut⟩ : ∃ p ps, cutDot s.data.toList = p :: ps := by
      cases hc : cutDot s.data.toList with
      | nil => exact absurd hc (cutDot_ne _)
      | cons p ps => exact ⟨p, ps, rfl⟩
    have hparts : partsB s = ofL p :: ps.map ofL := by unfold partsB; rw [hcut]; rfl
    have hpn : (partsB s).length = ps.length + 1 := by rw [hparts]; simp
    have her : ren u.name name s = ofL (if 1 < ps.length + 1 ∧ p = u.name.data.toList then name.data.toList ++ ps.flatMap (fun q => 46 :: q) else s.data.toList) := by unfold ren; rw [renL_parts hpt hcut]
    have hpsl : ps.length ≤ 38 := by
      have := cutDot_length s.data.toList
      rw [hcut, ba_len] at this
      simp only [List.length_cons] at this
      omega
    have hjl : (ps.flatMap fun q => (46 : UInt8) :: q).length ≤ 38 := by
      have := congrArg List.length (cutDot_join hcut)
      rw [List.length_append, ba_len] at this
      omega
    have miss : ¬ (1 < ps.length + 1 ∧ p = u.name.data.toList) → renK u name (k + 1) = renK u name k := fun hno => by
      rw [← hk2, her, if_neg hno, ofL_toL]
      refine List.ext_getElem? fun i => ?_
      rw [List.getElem?_set]
      split
      · rename_i e
        subst e
        rw [hk1, if_pos (by rw [hle, ← hpX]; exact hlt)]
      · rfl
    refine ds fun w10 h10 => ?_
    have hx10 := h10.box hx8
    have hP10 := hP.bl h10.bl
    replace hx1 := h10.box hx1
    replace hx2 := h10.box hx2
    replace hgb := h10.box hgb
    replace hS8 := hS8.bl h10.bl
    have B010 := B09.trans h10.bl
    have z10 : w10.heap.size = w9.heap.size := by rw [h10.heap]
    obtain ⟨s0, b0, o0, cs0, hs0, e0, _, hAt0, rfl⟩ := at_some hP10 (i := 0) (by omega)
    have es0 : s0 = ofL p := by rw [hparts] at hs0; simpa using hs0.symm
    subst es0
    rw [e0]
    refine sp (.pointer none) (fun q => ?_) (fun q => ?_)
    · have q1 : 1 < ps.length + 1 := by rw [hpn] at q; have := of_decide_eq_true q; omega
      refine ix (j := 0) ?_
      refine spt (.string ⟨#[]⟩) ?_
      refine ld (hAt0 0 _ rfl) ?_
      refine spt (.string ⟨#[]⟩) ?_
      refine ld (hx1.cell rfl) ?_
      refine br (t := decide (ofL p = u.name)) (fun h => ?_) (fun h => ?_)
      · have hpe : p = u.name.data.toList := by rw [← of_decide_eq_true h, toL_ofL]
        refine lp (vals := [.string name, I 1]) [10, 11] [(1, .string name), (2, .pointer (some ⟨b1, 0, none⟩)), (4, .pointer (some ⟨b2, 0, none⟩)), (7, .pointer (some ⟨b3, 0, none⟩)), (8, I k), (9, .slice (some ⟨b0, o0, none⟩) (partsB s).length cp)] (fun m vals w' => ∃ i : Nat, m = ps.length - i ∧ i ≤ ps.length ∧ vals = [.string (ofL (name.data.toList ++ (ps.take i).flatMap fun q => 46 :: q)), I ((i + 1 : Nat) : Int)] ∧ w' = w10) ⟨rfl, rfl, rfl, rfl, rfl, rfl, trivial⟩ ⟨0, rfl, Nat.zero_le _, by simp [ofL_toL], rfl⟩ ?_
        rintro m vals _ ⟨i, rfl, hi, rfl, rfl⟩ ih2
        by_cases hlt2 : i < ps.length
        · refine brT ?_ (hp := by rw [hpn]; omega)
          obtain ⟨q1, hq1⟩ := some_of_lt hlt2
          obtain ⟨s1, b1', o1, cs1, hs1', e1, _, hAt1, rfl⟩ := at_some hP10 (i := i + 1) (by omega)
          have es1 : s1 = ofL q1 := by rw [hparts] at hs1'; simp [hq1] at hs1'; exact hs1'.symm
          subst es1
          have hql : q1.length ≤ 38 := by
            have := fm_take (l := ps) (i + 1)
            rw [take_succ_some hq1, List.flatMap_append, List.length_append] at this
            have e : ([q1].flatMap fun q => (46 : UInt8) :: q).length = q1.length + 1 := by simp
            rw [e] at this
            omega
          have hil := fm_take (l := ps) i
          obtain ⟨rfl, rfl⟩ : b1' = b0 ∧ o1 = o0 := by rw [e0] at e1; simp only [Option.some.injEq, Addr.mk.injEq, and_true] at e1; exact ⟨e1.1.symm, e1.2.symm⟩
          refine ix ?_
          refine ld (hAt1 0 _ rfl) ?_
          refine cat ?_ (hab := by rw [ofL_size]; show 1 + _ ≤ _; omega)
          refine cat ?_ (hab := by
            rw [ByteArray.size_append, ofL_size, ofL_size, List.length_append, ba_len]; show _ + (1 + _) ≤ _; omega)
          refine again (ih2 _ _ _ _ ?_ ⟨rfl, rfl, rfl, rfl, rfl, rfl, trivial⟩ rfl ⟨i + 1, rfl, by omega, ?_, rfl⟩)
          · omega
          · refine lst2 ?_ ?_
            · rw [take_succ_some hq1, List.flatMap_append]
              congr 1
              rw [show (⟨#[46]⟩ : ByteArray) = ofL [46] from rfl, ofL_append, ofL_append]
              simp
            · rw [wrap_fit (by omega) (by omega)]; rfl
        · refine brF ?_ (hp := by rw [hpn]; omega)
          obtain rfl : i = ps.length := by omega
          rw [List.take_length]
          rw [if_pos ⟨q1, hpe⟩] at her
          refine ld (hx10.cell rfl) ?_
          rw [ea]
          refine ix ?_
          refine stx hgb (fun w11 k11 hb11 => ?_) (ho := by omega)
          rw [← her] at hb11 ⊢
          have q := hS8.set .pool (g := g) ea hgb k11 hb11 (r := ⟨9, 1, X.a1, (renK u name (k + 1)).length, X.c1, (renK u name (k + 1)).flatMap encStr⟩) (by
            rw [← hk2, List.length_set, ← flat_set (sz := 1) (enc := encStr) (fun _ => rfl) hk1 (j := 0) (v := .string (ren u.name name s)) (by omega) rfl, Nat.zero_add]; rfl)
          rw [setR_setR] at q
          refine ih hlt ⟨rfl, q, ?_, k11.box hx1 (by omega), k11.box hx2 (by omega), B010.trans_wr k11 (by omega), by rw [k11.size]; omega⟩
          exact k11.box hx10 (by omega)
      · refine ih hlt ⟨rfl, ?_, hx10, hx1, hx2, B010, by omega⟩
        rw [miss fun hh => by
          have := of_decide_eq_false h
          exact this (by rw [hh.2, ofL_toL])]
        exact hS8
    · have q1 : ¬ 1 < ps.length + 1 := by rw [hpn] at q; have := of_decide_eq_false q; omega
      refine spn (.string ⟨#[]⟩) ?_
      refine spn (.string ⟨#[]⟩) ?_
      refine brf ?_ (hp := by simp; intros; omega)
      refine ih hlt ⟨rfl, ?_, hx10, hx1, hx2, B010, by omega⟩
      rw [miss fun hh => q1 hh.1]
      exact hS8
  refine brF ?_
  obtain rfl : k = X.pool.length := by omega
  clear ih
  rw [hpX, renK_end] at hS8
  have hlen : (renPool u name).length = u.pool.length := by simp [renPool]
  refine ld (hx8.cell rfl) ?_
  have hsl : Sl eStr T w8 X.a1 (renPool u name) := owp_sl (enc := encStr) (hS8.own .pool) (by omega) fun _ _ => trivial
  have hc := r_twice (renPool u name) X.a1 X.c1 T w8 hsl
  rw [hlen, ← hpX] at hc
  refine cl hc ?_
  rintro _ w9 ⟨rfl, B89⟩
  have B09 := B08.trans B89
  have z9 := B89.size
  replace hx8 := Bl.box B89 hx8
  replace hx2 := Bl.box B89 hx2
  refine br (t := dup (renPool u name)) (fun h => ?_) (fun h => ?_)
  · refine bd ?_
    refine sta hx2 fun w10 k10 hx10 => ?_
    exact rtc2 hx10.at (ren_err (by unfold renE; rw [if_pos h0, if_neg (by rw [h1]; simp), if_pos h]) (by decide) (B09.trans_wr k10 (by omega)))
  have he : renE u name = 0 := by unfold renE; rw [if_pos h0, if_neg (by rw [h1]; simp), if_neg (by rw [h]; simp)]
  refine lda hx8.at ?_
  refine sta hx2 fun w10 k10 hx10 => ?_
  have eu : renU u name = UX.u { X with name := name, pool := renPool u name } := by
    unfold renU; rw [if_pos he, ← hXu]; rfl
  have B10 := B09.trans_wr k10 (by omega)
  have hS10 : SepU w10 w3.heap.size { X with name := name, pool := renPool u name } := SepU.pool ((hS8.bl B89).wr k10 (by omega)) name
  have hz : Siz (renU u name) := by
    have q := hU.siz
    rw [show renU u name = { u with name := name, pool := renPool u name } by unfold renU; rw [if_pos he]]
    exact ⟨hs, fun s hs => by have := renU_size he s hs; omega, by rw [hlen]; exact q.pool, q.cls, q.sta, q.mth, q.flds, q.prms, q.locs, q.cods⟩
  refine rtc2 hx10.at ⟨(UX.mk name X.a1 X.c1 (renPool u name) X.a2 X.c2 X.cl X.a3 X.c3 X.sta X.a4 X.c4 X.ml).a, ?_, ?_, B10⟩
  · rw [eu, he, UX.cells_eq]
    simp only [UX.cells, hlen, hpX]
  · rw [eu] at hz ⊢
    exact (SepU.unr hS10 hz).sub fun i hi => by have := B03.size; omega
end Go.Proofs.YtopjmiklpnejmaaGreatDoor
/- Walks: the law UnitRenames. -/
namespace Go.Proofs.YtopjmiklpnejmaaGreatDoor
open Eng Go.RowKit
def freeS (name s : ByteArray) : Bool := !(decide (1 < (partsB s).length) && decide ((partsB s).head? = some name))
theorem l_free (u : Unt) (a : UA) (name : ByteArray) (w : World) (hU : UnR T w u a) : Ret Tryz.prog 30 #[.agg (ucells u a).toArray, .string name] w fun v w' => v = .bool (freeU u name) ∧ Bl w w' := by
  have hbig := hU.pool.big
  refine entr (vs := [.agg (ucells u a).toArray, .string name]) [0, 1, 2, 4, 5, 6, 11, 29] tabok Tryz.func30 (by kernel_rfl) ?_
  refine bx (cs := ucells u a) fun b1 w1 h1 => ?_
  refine lpk u.pool.length 5 [] [(1, .string name), (2, .pointer (some ⟨b1, 0, none⟩))] (fun k vals w' => vals = [] ∧ ((u.pool.take k).all (freeS name)) = true ∧ Bl w1 w') ⟨rfl, rfl, Bl.refl _⟩ ?_
  rintro k vals w2 hk ⟨rfl, ha, B12⟩ ih
  have hx := Bl.box B12 h1.box
  refine ld (hx.cell rfl) ?_
  by_cases hlt : k < u.pool.length
  · refine brT ?_
    obtain ⟨s, b, o, cs, hs, e2, _, hAt, rfl⟩ := at_some (hU.bl (h1.bl.trans B12)).pool hlt
    refine ld (hx.cell rfl) ?_
    rw [e2]
    refine ix ?_
    refine ld (hAt 0 _ rfl) ?_
    refine cl (r_Parts s w2 (hU.ps s (List.mem_of_getElem? hs))) ?_
    rintro _ w3 ⟨ap, cp, rfl, hP, B23⟩
    have next : freeS name s = true → ((u.pool.take (k + 1)).all (freeS name)) = true := fun h => by rw [take_succ_some hs, List.all_append, ha]; simp [h]
    refine sp (.pointer none) (fun q => ?_) (fun q => ?_)
    · have q1 : 1 < (partsB s).length := by have := of_decide_eq_true q; omega
      obtain ⟨s0, b0, o0, cs0, hs0, e0, _, hAt0, rfl⟩ := at_some hP (i := 0) (by omega)
      rw [e0]
      refine ix (j := 0) ?_
      refine spt (.string ⟨#[]⟩) ?_
      refine ld (hAt0 0 _ rfl) ?_
      have hh : (partsB s).head? = some s0 := by rw [List.head?_eq_getElem?]; exact hs0
      refine br (t := decide (s0 = name)) (fun h => ?_) (fun h => ?_)
      · refine rt1 ⟨vb ?_, h1.bl.trans (B12.trans B23)⟩
        symm
        unfold freeU
        rw [← Bool.not_eq_true, List.all_eq_true]
        intro hall
        have := hall s (List.mem_of_getElem? hs)
        rw [hh, of_decide_eq_true h, decide_eq_true q1] at this
        simp at this
      · refine ih hlt ⟨rfl, next ?_, B12.trans B23⟩
        unfold freeS
        rw [hh]
        have := of_decide_eq_false h
        simp [this]
    · have q1 : ¬ 1 < (partsB s).length := by have := of_decide_eq_false q; omega
      refine spn (.string ⟨#[]⟩) ?_
      refine brf ?_ (hp := by simp; intros; omega)
      refine ih hlt ⟨rfl, next ?_, B12.trans B23⟩
      unfold freeS
      rw [decide_eq_false q1]; rfl
  refine brF ?_
  obtain rfl : k = u.pool.length := by omega
  rw [List.take_length] at ha
  exact rt1 ⟨vb ha.symm, h1.bl.trans B12⟩
theorem same_refl (u : Unt) : sameU u u = true := by simp [sameU]
set_option maxHeartbeats 1000000 in
theorem l_Renames (u : Unt) (a : UA) (name : ByteArray) (w : World) (hU : UnR T w u a) (hs : name.size ≤ 1048576) (hG : Gl w) : Ret Tryz.prog 7 #[.agg (ucells u a).toArray, .string name] w fun v w' => v = .bool true ∧ Bl w w' := by
  refine entr (vs := [.agg (ucells u a).toArray, .string name]) [0, 1, 2, 4, 5, 6, 7, 8, 9, 10, 11, 13, 43, 50, 65] tabok Tryz.func7 (by kernel_rfl) ?_
  refine bx (cs := ucells u a) fun b1 w1 h1 => ?_
  have hx1 := h1.box
  refine lda hx1.at ?_
  refine cl (l_heavy u a w1 (hU.bl h1.bl)) ?_
  rintro _ w2 ⟨hv, rfl, B12⟩
  have B02 := h1.bl.trans B12
  replace hx1 := Bl.box B12 hx1
  cases hv with
  | true =>
    refine br (fun _ => ?_) (fun q => ?_)
    · refine cl (l_sane w2 (hG.bl B02)) ?_
      rintro _ w4 ⟨rfl, h4⟩
      exact rt1 ⟨rfl, B02.trans h4⟩
    · cases q
  | false =>
  refine br (fun q => ?_) (fun _ => ?_)
  · cases q
  refine lda hx1.at ?_
  refine cl (r_Copy u a w2 (hU.bl B02)) ?_
  rintro _ w3 ⟨ac, rfl, hC3, B23⟩
  refine al fun b5 w4 h4 => ?_
  refine sta (cs' := ucells u ac) h4.box fun w5 k5 hx5 => ?_
  have B25 := B23.trans (h4.wr k5)
  have B05 := B02.trans B25
  replace hx1 := Bl.box B25 hx1
  have hC5 := (hC3.all).bl (h4.wr k5)
  refine lda hx5.at ?_
  refine cl (u_Rename u ac name w5 hC5 hs (hG.bl B05)) ?_
  rintro _ w6 ⟨av, rfl, hV6, B56⟩
  refine al fun b6 w7 h7 => ?_
  refine sta (cs' := ucells (renU u name) av) h7.box fun w8 k8 hx6 => ?_
  have B58 := B56.trans (h7.wr k8)
  have B08 := B05.trans B58
  replace hx1 := Bl.box B58 hx1
  replace hx5 := Bl.box B58 hx5
  have hV8 := (hV6.all).bl (h7.wr k8)
  refine lda hx1.at ?_
  refine cl (r_Rename u a name w8 (hU.bl B08) hs) ?_
  rintro _ w9 ⟨aw, rfl, hW9, B89⟩
  refine al fun b8 w10 h10 => ?_
  refine sta (cs' := ucells (renU u name) aw) h10.box fun w11 k11 hx8 => ?_
  have B811 := B89.trans (h10.wr k11)
  have B011 := B08.trans B811
  replace hx1 := Bl.box B811 hx1
  replace hx5 := Bl.box B811 hx5
  replace hx6 := Bl.box B811 hx6
  have hV11 := hV8.bl B811
  have hW11 := (hW9.all).bl (h10.wr k11)
  have hC11 := hC5.bl (B58.trans B811)
  refine spt (.bool false) ?_
  refine lda hx6.at ?_
  refine spt (.bool false) ?_
  refine lda hx8.at ?_
  refine spt (.bool false) ?_
  refine cl (r_Same (renU u name) (renU u name) av aw w11 hV11 hW11) ?_
  rintro _ w12 ⟨rfl, B1112⟩
  rw [same_refl]
  have B012 := B011.trans B1112
  replace hx1 := Bl.box B1112 hx1
  replace hx5 := Bl.box B1112 hx5
  replace hx6 := Bl.box B1112 hx6
  refine spt (.bool false) ?_
  refine lda hx5.at ?_
  refine spt (.bool false) ?_
  refine lda hx1.at ?_
  refine spt (.bool false) ?_
  refine cl (r_Same u u ac a w12 (hC11.bl B1112) (hU.bl B012)) ?_
  rintro _ w13 ⟨rfl, B1213⟩
  rw [same_refl]
  have B013 := B012.trans B1213
  replace hx1 := Bl.box B1213 hx1
  replace hx6 := Bl.box B1213 hx6
  refine brf ?_
  have fin : ∀ {w'}, Bl w13 w' → Gl w' := fun h => hG.bl (B013.trans h)
  refine sp (.agg (ucells u a).toArray) (fun q => ?_) (fun q => ?_)
  · have he : renE u name = 0 := by simpa using q
    refine lda hx1.at ?_
    refine spt (.bool false) ?_
    refine cl (l_free u a name w13 (hU.bl B013)) ?_
    rintro _ w14 ⟨rfl, B1314⟩
    have B014 := B013.trans B1314
    replace hx1 := Bl.box B1314 hx1
    replace hx6 := Bl.box B1314 hx6
    refine br (t := freeU u name) (fun h => ?_) (fun h => ?_)
    · obtain ⟨hb1, hb2⟩ := ren_back he h
      refine lda hx6.at ?_
      refine ld (hx1.cell rfl) ?_
      refine cl (u_Rename (renU u name) av u.name w14 (hV11.bl ((B1112.trans B1213).trans B1314)) hU.nm (hG.bl B014)) ?_
      rintro _ w15 ⟨ab, rfl, hA15, B1415⟩
      rw [hb2] at hA15
      rw [hb2, hb1]
      refine al fun b10 w16 h16 => ?_
      refine sta (cs' := ucells u ab) h16.box fun w17 k17 hx10 => ?_
      have B1417 := B1415.trans (h16.wr k17)
      have B017 := B014.trans B1417
      replace hx1 := Bl.box B1417 hx1
      refine spt (.bool false) ?_
      refine lda hx10.at ?_
      refine spt (.bool false) ?_
      refine lda hx1.at ?_
      refine spt (.bool false) ?_
      refine cl (r_Same u u ab a w17 ((hA15.all).bl (h16.wr k17)) (hU.bl B017)) ?_
      rintro _ w18 ⟨rfl, B1718⟩
      rw [same_refl]
      refine brf ?_
      refine cl (l_sane w18 (hG.bl (B017.trans B1718))) ?_
      rintro _ w19 ⟨rfl, h19⟩
      exact rt1 ⟨rfl, (B017.trans B1718).trans h19⟩
    · refine cl (l_sane w14 (hG.bl B014)) ?_
      rintro _ w19 ⟨rfl, h19⟩
      exact rt1 ⟨rfl, B014.trans h19⟩
  · refine spn (.bool false) ?_
    refine brf ?_
    refine cl (l_sane w13 (hG.bl B013)) ?_
    rintro _ w19 ⟨rfl, h19⟩
    exact rt1 ⟨rfl, B013.trans h19⟩
end Go.Proofs.YtopjmiklpnejmaaGreatDoor
