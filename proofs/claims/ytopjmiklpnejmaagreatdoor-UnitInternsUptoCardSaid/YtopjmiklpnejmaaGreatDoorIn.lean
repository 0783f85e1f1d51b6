/- Walks: a pool takes in a string, in the program and in the document. -/
import Derived.Test.YtopjmiklpnejmaaGreatDoorSm
import Derived.Test.YtopjmiklpnejmaaGreatDoorTw
namespace Go.Proofs.YtopjmiklpnejmaaGreatDoor
open Eng Go.RowKit
theorem own_shape {w : World} {base e esz n : Nat} {v : Value} {xs : List Value} (h : w.ownsRow base e esz v n xs) : ∃ a cap, v = .slice a n cap ∧ Ow w base e esz a n cap xs := by
  obtain ⟨h1, h2⟩ := h
  rcases h2 with ⟨rfl, rfl⟩ | ⟨g, cap, cur, rfl, h3⟩
  · exact ⟨none, 0, rfl, ⟨h1, .inl ⟨rfl, rfl⟩⟩⟩
  · exact ⟨_, _, rfl, ⟨h1, .inr ⟨g, cap, cur, rfl, h3⟩⟩⟩
theorem str_cells {S : Nat → Prop} {w : World} {a : Option Addr} {x : ByteArray} {l : List ByteArray} (h : Sl eStr S w a (x :: l)) : ∃ b o, a = some ⟨b, o, none⟩ ∧ ∀ j, j < (x :: l).length → w.cell? ⟨b, o + j, none⟩ = some (.string ((x :: l).getD j ByteArray.empty)) := by
  obtain ⟨b, o, cs, e, _, _, _⟩ := h.el 0 x rfl
  refine ⟨b, o, e, fun j hj => ?_⟩
  obtain ⟨y, hy⟩ := some_of_lt hj
  obtain ⟨b', o', cs', e', _, hat, rfl⟩ := h.el j y hy
  rw [e] at e'
  simp only [Option.some.injEq, Addr.mk.injEq, and_true] at e'
  obtain ⟨rfl, rfl⟩ := e'
  have hc := hat 0 _ rfl
  have hd : (x :: l).getD j ByteArray.empty = y := by rw [List.getD_eq_getElem?_getD, hy]; rfl
  rw [hd]
  simpa [eStr, plainEl] using hc
theorem c_CloneStr (l : List ByteArray) (a : Option Addr) (cap : Nat) (S : Nat → Prop) (w : World) (hS : Sl eStr S w a l) :
    Ret Tryz.prog 70 #[.slice a l.length cap] w fun v w' => ∃ a' cap', v = .slice a' l.length cap' ∧ OwP 1 encStr w' w.heap.size 9 a' cap' l ∧ Bl w w' := by
  have hbig := hS.big
  refine ⟨by kernel_rfl, ?_⟩
  cases l with
  | nil =>
    cases a with
    | none =>
      refine (Tryz.slices_Clone_string_nil 0 cap w).mono ?_
      rintro e w' ⟨rfl, rfl⟩
      exact ⟨none, 0, rfl, Ow.nil .., Bl.refl _⟩
    | some a =>
      refine (Tryz.slices_Clone_string_zero a cap w).mono ?_
      rintro e w' ⟨v, rfl, h1, _, h2⟩
      obtain ⟨a', cap', rfl, hO⟩ := own_shape h1
      exact ⟨a', cap', rfl, hO, h2⟩
  | cons x l =>
    obtain ⟨b, o, rfl, hc⟩ := str_cells hS
    refine (Tryz.slices_Clone_string b o (x :: l).length cap (x :: l) w (Nat.le_refl _) (by omega) hc).mono ?_
    rintro e w' ⟨v, rfl, h1, _, h2⟩
    obtain ⟨a', cap', rfl, hO⟩ := own_shape h1
    rw [List.take_length, List.map_eq_flatMap] at hO
    exact ⟨a', cap', rfl, hO, h2⟩
theorem c_IndexStr (l : List ByteArray) (a : Option Addr) (cap : Nat) (s : ByteArray) (S : Nat → Prop) (w : World) (hS : Sl eStr S w a l) :
    Ret Tryz.prog 67 #[.slice a l.length cap, .string s] w fun v w' => v = I (Lib.idxOfS l s) ∧ w' = w := by
  have hbig := hS.big
  refine ⟨by kernel_rfl, ?_⟩
  cases l with
  | nil =>
    refine (Tryz.slices_Index_string_empty a cap s w).mono ?_
    rintro e w' ⟨rfl, rfl⟩
    exact ⟨rfl, rfl⟩
  | cons x l =>
    obtain ⟨b, o, rfl, hc⟩ := str_cells hS
    refine (Tryz.slices_Index_string b o (x :: l).length cap (x :: l) s w (Nat.le_refl _) (by omega) hc).mono ?_
    rintro e w' ⟨rfl, rfl⟩
    rw [List.take_length]
    exact ⟨rfl, rfl⟩
def noP (x : ByteArray) : Bool := decide ((path x : Int) = 0)
def inE (l : List ByteArray) (s : ByteArray) : Int :=
  if (noP s || l.any noP) = true then 8 else if dup l = true then 9 else if 60 < l.length ∨ (Lib.idxOfS l s < 0 ∧ l.length = 60) then 2 else 0
def inL (l : List ByteArray) (s : ByteArray) : List ByteArray := if inE l s = 0 then (if Lib.idxOfS l s < 0 then l ++ [s] else l) else []
def inA (l : List ByteArray) (s : ByteArray) : Int := if inE l s = 0 then (if Lib.idxOfS l s < 0 then (l.length : Int) else Lib.idxOfS l s) else 0
/-- what both give -/
def InR (l : List ByteArray) (s : ByteArray) (w : World) (v : Value) (w' : World) : Prop := ∃ a cap, v = .tuple #[.slice a (inL l s).length cap, I (inA l s), I (inE l s)] ∧ Sl eStr T w' a (inL l s) ∧ Bl w w'
theorem inR_no {l : List ByteArray} {s : ByteArray} {w w' : World} {e : Int} (h : inE l s = e) (h0 : e ≠ 0) (hB : Bl w w') : InR l s w (.tuple #[.slice none 0 0, I 0, I e]) w' := by
  refine ⟨none, 0, ?_, ?_, hB⟩
  · unfold inL inA; rw [h, if_neg h0, if_neg h0]; rfl
  · unfold inL; rw [h, if_neg h0]; exact Sl.nil ..
theorem inR_yes {l m : List ByteArray} {s : ByteArray} {w w' : World} {a : Option Addr} {cap : Nat} {i : Int} (h : inE l s = 0) (hm : m = if Lib.idxOfS l s < 0 then l ++ [s] else l) (hi : i = if Lib.idxOfS l s < 0 then (l.length : Int) else Lib.idxOfS l s) (hS : Sl eStr T w' a m) (hB : Bl w w') :
    InR l s w (.tuple #[.slice a m.length cap, I i, I 0]) w' := by
  have e1 : inL l s = m := by unfold inL; rw [if_pos h, hm]
  have e2 : inA l s = i := by unfold inA; rw [if_pos h, hi]
  exact ⟨a, cap, by rw [e1, e2, h], by rw [e1]; exact hS, hB⟩
theorem u_Intern1 (s : ByteArray) (w : World) (hs : s.size ≤ 1048576) (hG : Gl w) : Ret Tryz.prog 68 #[.string s] w fun v w' => v = .bool (noP s) ∧ Bl w w' := by
  refine entr (vs := [.string s]) [0, 2] tabok Tryz.func68 (by kernel_rfl) ?_
  refine cl (u_Path s w hs hG) ?_
  rintro _ w1 ⟨rfl, h1⟩
  exact rt1 ⟨rfl, h1⟩
theorem u_Intern (l : List ByteArray) (a : Option Addr) (cap : Nat) (s : ByteArray) (w : World) (hS : Sl eStr T w a l) (hl : ∀ x ∈ l, x.size ≤ 1048576) (hs : s.size ≤ 1048576) (hG : Gl w) :
    Ret Tryz.prog 24 #[.slice a l.length cap, .string s] w (InR l s w) := by
  have hbig := hS.big
  refine entr (vs := [.slice a l.length cap, .string s]) [0, 1, 4, 5, 6, 7, 11, 19, 22, 35] tabok Tryz.func24 (by kernel_rfl) ?_
  refine cl (c_IndexStr l a cap s T w hS) ?_
  rintro _ w ⟨rfl, rfl⟩
  refine cl (u_Path s w hs hG) ?_
  rintro _ w1 ⟨rfl, h1⟩
  by_cases hp : (path s : Int) = 0
  · refine sp (.bool true) (fun q => ?_) (fun _ => ?_)
    · exact absurd q (by simp [hp])
    refine brt ?_ (hp := by simp [hp])
    exact rt3 (inR_no (by unfold inE; rw [if_pos (by simp [noP, hp])]) (by decide) h1)
  refine spt (.bool true) ?_ (hb := by rw [decide_eq_false hp])
  refine cl (ContainsFunc_str l a cap 68 [] noP T w1 (hS.bl h1) (fun x cs hx w' hB hr => by
    have e : cs = encStr x := hr
    subst e
    exact u_Intern1 x w' (hl x hx) (hG.bl (h1.trans hB)))) ?_
  rintro _ w2 ⟨rfl, h2⟩
  have h02 := h1.trans h2
  refine br (fun h => ?_) (fun h => ?_)
  · have h' : l.any noP = true := by simpa [hp] using h
    exact rt3 (inR_no (by unfold inE; rw [if_pos (by rw [h']; simp)]) (by decide) h02)
  have h' : l.any noP = false := by simpa [hp] using h
  have hn0 : (noP s || l.any noP) = false := by rw [h', Bool.or_false]; exact decide_eq_false hp
  refine cl (u_twice l a cap T w2 (hS.bl h02)) ?_
  rintro _ w3 ⟨rfl, h3⟩
  have h03 := h02.trans h3
  refine br (fun hd => ?_) (fun hd => ?_)
  · exact rt3 (inR_no (e := 9) (by unfold inE; rw [hn0, hd]; simp) (by decide) h03)
  refine br (fun h => ?_) (fun h => ?_)
  · refine rt3 (inR_no (by unfold inE; rw [hn0, hd, if_neg (by decide), if_neg (by decide), if_pos]; simp only [Bool.or_eq_true, Bool.and_eq_true, decide_eq_true_eq] at h; omega) (by decide) h03)
  have hE : inE l s = 0 := by
    unfold inE
    rw [hn0, hd, if_neg (by decide), if_neg (by decide), if_neg]
    simp only [Bool.or_eq_false_iff, Bool.and_eq_false_iff, decide_eq_false_iff_not] at h
    omega
  refine br (fun hi => ?_) (fun hi => ?_)
  · have hi := of_decide_eq_true hi
    refine cl (c_CloneStr l a cap T w3 (hS.bl h03)) ?_
    rintro _ w4 ⟨a4, cap4, rfl, hO4, h4⟩
    refine bs fun b5 w5 h5 => ?_
    refine apl (enc := encStr) (l0 := l) (l1 := [s]) (hO4.bl h5.bl) (.inr ⟨b5, 0, rfl, h5.box.at⟩) (by have := h4.size; have := h5.size; omega) (fun a6 cap6 w6 hO6 hA6 hf6 => ?_)
    have h36 : Bl w3 w6 := (hO4.bl h5.bl).below hA6 (h4.trans h5.bl) (by have := h4.size; have := h5.size; omega)
    refine rt3 (inR_yes hE (by rw [if_pos hi]) (by rw [if_pos hi]) (owp_sl hO6 (by simp only [List.length_append, List.length_cons, List.length_nil]; simp only [Bool.or_eq_false_iff, Bool.and_eq_false_iff, decide_eq_false_iff_not] at h; omega) fun _ _ => trivial) (h03.trans h36))
  · have hi := of_decide_eq_false hi
    refine cl (c_CloneStr l a cap T w3 (hS.bl h03)) ?_
    rintro _ w4 ⟨a4, cap4, rfl, hO4, h4⟩
    exact rt3 (inR_yes hE (by rw [if_neg hi]) (by rw [if_neg hi]) (owp_sl hO4 hbig fun _ _ => trivial) (h03.trans h4))
theorem last_idx {l : List ByteArray} {s : ByteArray} {i : Int} (hd : dup l = false) (h1 : s ∈ l → 0 ≤ i ∧ l[i.toNat]? = some s) (h2 : s ∉ l → i = -1) : i = Lib.idxOfS l s := by
  by_cases hm : s ∈ l
  · obtain ⟨h0, hi⟩ := h1 hm
    have hlt := (List.getElem?_eq_some_iff.1 hi).1
    have hnd : (l.map toL).Nodup := by
      have h := dup_nodup l
      rw [hd] at h
      simpa using h
    have := Lib.idxOfS_hit l l.length i.toNat s hlt (Nat.le_refl _) (by rw [List.getD_eq_getElem?_getD, hi]; rfl) (fun j hj e => by
      have hjl : j < l.length := by omega
      rw [List.getD_eq_getElem?_getD, List.getElem?_eq_getElem hjl] at e
      have e' : l[j] = s := e
      have hi' : l[i.toNat] = s := (List.getElem?_eq_some_iff.1 hi).2
      have h3 := List.pairwise_iff_getElem.1 hnd j i.toNat (by rw [List.length_map]; exact hjl) (by rw [List.length_map]; exact hlt) hj
      rw [List.getElem_map, List.getElem_map, e', hi'] at h3
      exact h3 rfl)
    rw [List.take_length] at this
    rw [this]; omega
  · rw [h2 hm]
    have := Lib.idxOfS_miss l l.length s (fun j hj e => hm (by
      rw [List.getD_eq_getElem?_getD, List.getElem?_eq_getElem hj] at e
      have e' : l[j] = s := e
      rw [← e']; exact List.getElem_mem hj))
    rw [List.take_length] at this
    exact this.symm
theorem r_Intern (l : List ByteArray) (a : Option Addr) (cap : Nat) (s : ByteArray) (w : World) (hS : Sl eStr T w a l) (hl : ∀ x ∈ l, x.size ≤ 1048576) (hs : s.size ≤ 1048576) :
    Ret Tryz.prog 25 #[.slice a l.length cap, .string s] w (InR l s w) := by
  have hbig := hS.big
  refine entr (vs := [.slice a l.length cap, .string s]) [0, 1, 4, 5, 6, 7, 8, 9, 10, 14, 22, 25, 27, 33, 41, 44, 53] tabok Tryz.func25 (by kernel_rfl) ?_
  refine lpk l.length 7 [] [(0, .slice a l.length cap), (1, .string s)] (fun k vals w' => vals = [] ∧ (l.take k).any noP = false ∧ Bl w w') ⟨rfl, rfl, Bl.refl _⟩ ?_
  rintro k vals w1 hk ⟨rfl, ha, h1⟩ ih
  by_cases hlt : k < l.length
  · refine brT ?_
    obtain ⟨x, b, o, cs, hx, rfl, _, hAt, rfl⟩ := at_some (hS.bl h1) hlt
    refine ix ?_
    refine ld (hAt 0 _ rfl) ?_
    refine cl (r_Path x w1 (hl x (List.mem_of_getElem? hx))) ?_
    rintro _ w2 ⟨rfl, h2⟩
    refine br (fun h => ?_) (fun h => ?_)
    · have : l.any noP = true := any_hit (p := noP) hx h
      exact rt3 (inR_no (by unfold inE; rw [if_pos (by rw [this]; simp)]) (by decide) (h1.trans h2))
    · exact ih hlt ⟨rfl, any_snoc (p := noP) hx ha h, h1.trans h2⟩
  refine brF ?_
  obtain rfl : k = l.length := by omega
  clear ih
  rw [List.take_length] at ha
  refine cl (r_Path s w1 hs) ?_
  rintro _ w2 ⟨rfl, h2⟩
  have h02 := h1.trans h2
  refine br (fun h => ?_) (fun h => ?_)
  · exact rt3 (inR_no (by unfold inE; rw [if_pos (by simp only [noP, h, Bool.true_or])]) (by decide) h02)
  have hn0 : (noP s || l.any noP) = false := by rw [ha]; simp only [noP, h]; rfl
  refine cl (r_twice l a cap T w2 (hS.bl h02)) ?_
  rintro _ w3 ⟨rfl, h3⟩
  have h03 := h02.trans h3
  refine br (fun hd => ?_) (fun hd => ?_)
  · exact rt3 (inR_no (e := 9) (by unfold inE; rw [hn0, hd]; simp) (by decide) h03)
  refine apl (enc := encStr) (base := w3.heap.size) (l0 := []) (l1 := l) (Ow.nil ..) (src_of (hS.bl h03)) (Nat.le_refl _) (fun a4 cap4 w4 hO4 hA4 hf4 => ?_)
  have h34 : Bl w3 w4 := hA4.below (Nat.le_refl _) fun g hg => absurd hg nn
  have h04 := h03.trans h34
  refine lpk l.length 10 [9] [(0, .slice a l.length cap), (1, .string s), (8, .slice a4 l.length cap4)] (fun k vals w' => ∃ i : Int, vals = [I i] ∧ (s ∈ l.take k → 0 ≤ i ∧ l[i.toNat]? = some s) ∧ (s ∉ l.take k → i = -1) ∧ w' = w4) ⟨-1, rfl, by simp, fun _ => rfl, rfl⟩ ?_
  rintro k vals _ hk ⟨i, rfl, hi1, hi2, rfl⟩ ih
  by_cases hlt : k < l.length
  · refine brT ?_
    obtain ⟨x, b, o, cs, hx, rfl, _, hAt, rfl⟩ := at_some (hS.bl h04) hlt
    refine ix ?_
    refine ld (hAt 0 _ rfl) ?_
    refine br (fun h => ?_) (fun h => ?_)
    · have h := of_decide_eq_true h
      refine ih hlt ⟨k, rfl, fun _ => ⟨by omega, ?_⟩, fun hn => absurd ?_ hn, rfl⟩
      · rw [Int.toNat_natCast, hx, h]
      · rw [take_succ_some hx, h]; simp
    · have h := of_decide_eq_false h
      refine ih hlt ⟨i, rfl, fun hm => hi1 ?_, fun hm => hi2 fun hn => hm ?_, rfl⟩
      · rw [take_succ_some hx, List.mem_append] at hm
        rcases hm with hm | hm
        · exact hm
        · exact absurd (List.mem_singleton.1 hm).symm h
      · rw [take_succ_some hx]; exact List.mem_append_left _ hn
  refine brF ?_
  obtain rfl : k = l.length := by omega
  clear ih
  rw [List.take_length] at hi1 hi2
  obtain rfl := last_idx hd hi1 hi2
  have hres : ∀ (hx : 60 < l.length ∨ (Lib.idxOfS l s < 0 ∧ l.length = 60)), inE l s = 2 := fun hx => by
    unfold inE; rw [hn0, hd, if_neg (by decide), if_neg (by decide), if_pos hx]
  have hres0 : ∀ (hx : ¬ (60 < l.length ∨ (Lib.idxOfS l s < 0 ∧ l.length = 60))), inE l s = 0 := fun hx => by
    unfold inE; rw [hn0, hd, if_neg (by decide), if_neg (by decide), if_neg hx]
  refine br (fun hi => ?_) (fun hi => ?_)
  · have hi := of_decide_eq_true hi
    refine bs fun b5 w5 h5 => ?_
    refine apl (enc := encStr) (l0 := l) (l1 := [s]) (Eng.Ow.bl hO4 h5.bl) (.inr ⟨b5, 0, rfl, h5.box.at⟩) (by have := h34.size; have := h5.size; omega) (fun a6 cap6 w6 hO6 hA6 hf6 => ?_)
    have h36 : Bl w3 w6 := (Eng.Ow.bl hO4 h5.bl).below hA6 (h34.trans h5.bl) (by have := h34.size; have := h5.size; omega)
    refine br (fun h => ?_) (fun h => ?_)
    · have h := of_decide_eq_true h
      simp only [List.length_append, List.length_cons, List.length_nil] at h
      exact rt3 (inR_no (hres (by omega)) (by decide) (h03.trans h36))
    · have h := of_decide_eq_false h
      simp only [List.length_append, List.length_cons, List.length_nil] at h
      refine rt3 (inR_yes (hres0 (by omega)) (by rw [if_pos hi]) (by rw [if_pos hi]) (owp_sl hO6 (by simp only [List.length_append, List.length_cons, List.length_nil]; omega) fun _ _ => trivial) (h03.trans h36))
  · have hi := of_decide_eq_false hi
    refine br (fun h => ?_) (fun h => ?_)
    · have h := of_decide_eq_true h
      exact rt3 (inR_no (hres (by have : ([] ++ l).length = l.length := rfl; omega)) (by decide) h04)
    · have h := of_decide_eq_false h
      exact rt3 (inR_yes (hres0 (by have : ([] ++ l).length = l.length := rfl; omega)) (by rw [if_neg hi]; rfl) (by rw [if_neg hi]) (owp_sl hO4 hbig fun _ _ => trivial) h04)
end Go.Proofs.YtopjmiklpnejmaaGreatDoor
