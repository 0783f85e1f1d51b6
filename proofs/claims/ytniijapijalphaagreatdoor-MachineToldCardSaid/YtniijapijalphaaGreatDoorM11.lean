import Derived.Test.YtniijapijalphaaGreatDoorM2
import Derived.Test.YtniijapijalphaaGreatDoorM10
/- Walks: Told, in the program and in the document; the law MachineTold. -/
namespace Go.Proofs.YtniijapijalphaaGreatDoor
open Eng Go.RowKit
/-- 27.4 -/
def isT (job : Int) (x : Ent) : Bool := decide (x.c = 7) && decide (x.b = job)
def tol (l : List Ent) (job : Int) : List (Int × Int) := (l.filter (isT job)).map fun x => (x.d, x.e)
theorem tol_len (l : List Ent) (job : Int) : (tol l job).length ≤ l.length := by
  unfold tol; rw [List.length_map]; exact List.length_filter_le ..
theorem tol_snoc {l : List Ent} {j : Nat} {e : Ent} {job : Int} (h : l[j]? = some e) : tol (l.take (j + 1)) job = tol (l.take j) job ++ (if isT job e = true then [(e.d, e.e)] else []) := by
  unfold tol
  rw [take_succ_some h, List.filter_append, List.map_append]
  by_cases q : isT job e = true
  · rw [if_pos q]; simp [q]
  · rw [if_neg q]; simp [q]
theorem tol_take (l : List Ent) (job : Int) (j : Nat) (h : l.length ≤ 5000) : (tol (l.take j) job).length ≤ 5000 := by
  have h1 := tol_len (l.take j) job
  have h2 := List.length_take_le' j l
  omega
theorem p_Told (l : List Ent) (hl : l.length ≤ 5000) (a : Option Addr) (c : Nat) (job : Int) (w : World) (hS : Sl eEnt T w a l) : Ret Tryz.prog 5 #[.agg #[.slice a l.length c, I 0, I 0], I job] w fun v w' => ∃ a' c', v = .slice a' (tol l job).length c' ∧ OwP 2 enc2 w' w.heap.size 29 a' c' (tol l job) ∧ Bl w w' := by
  refine entr (vs := [.agg #[.slice a l.length c, I 0, I 0], I job]) [0, 1, 2, 4, 5, 7, 9, 10, 11, 12, 23] tabok Tryz.func5 (by kernel_rfl) ?_
  refine bx (cs := [.slice a l.length c, I 0, I 0]) fun b1 w1 k1 => ?_
  refine ld (k1.box.cell rfl) ?_
  refine lpk (vals := [.slice none 0 0]) l.length 11 [5] [(1, I job), (9, .slice a l.length c), (10, I l.length)]
    (fun j vals w' => ∃ a' c', vals = [.slice a' (tol (l.take j) job).length c'] ∧ OwP 2 enc2 w' w.heap.size 29 a' c' (tol (l.take j) job) ∧ Bl w w') ⟨none, 0, rfl, Ow.nil .., k1.bl⟩ ?_
  rintro j vals w2 hj ⟨a', c', rfl, O2, B2⟩ ih
  by_cases hlt : j < l.length
  · refine brT ?_
    obtain ⟨e, bf, off, cs, he, rfl, _, hAt, rfl⟩ := at_some (hS.bl B2) hlt
    refine ix ?_
    refine lda hAt ?_
    refine al fun b3 w3 k3 => ?_
    refine sta (cs' := encEnt e) k3.box fun w4 k4 x4 => ?_
    have y3 := k3.blk
    have B24 : Bl w2 w4 := Below.trans k3.bl (k4.below (by omega))
    have B4 := B2.trans B24
    have O4 := O2.bl B24
    have hsn := tol_snoc (job := job) he
    have hlen := tol_take l job j hl
    refine ld (x4.cell rfl) ?_
    by_cases h7 : e.c = 7
    · refine spt (I 0) ?_ (hb := by simp [h7])
      refine ld (x4.cell rfl) ?_
      by_cases hjb : e.b = job
      · have hq : isT job e = true := by simp [isT, h7, hjb]
        rw [if_pos hq] at hsn
        refine brt ?_ (hp := by simp [h7, hjb])
        refine ld (x4.cell rfl) ?_
        refine ld (x4.cell rfl) ?_
        refine bda ?_
        refine bs fun b5 w5 k5 => ?_
        have B5 := B4.trans k5.bl
        have O5 := O4.bl k5.bl
        refine apl (l1 := [(e.d, e.e)]) O5 (.inr ⟨b5, 0, rfl, k5.box.at⟩) B5.size (fun a6 c6 w6 O6 A6 _ => ?_) (hb := by simp only [List.length_cons, List.length_nil]; omega) (hn := by simp only [List.length_cons, List.length_nil]; omega)
        exact ih hlt ⟨a6, c6, by rw [hsn], by rw [hsn]; exact O6, Eng.Ow.below O5 A6 B5 B5.size⟩
      · have hq : ¬ isT job e = true := by simp [isT, hjb]
        rw [if_neg hq, List.append_nil] at hsn
        refine brf ?_ (hp := by simp [hjb])
        exact ih hlt ⟨a', c', by rw [hsn], by rw [hsn]; exact O4, B4⟩
    · have hq : ¬ isT job e = true := by simp [isT, h7]
      rw [if_neg hq, List.append_nil] at hsn
      refine spn (I 0) ?_ (hb := by simp [h7])
      refine brf ?_ (hp := by simp [h7])
      exact ih hlt ⟨a', c', by rw [hsn], by rw [hsn]; exact O4, B4⟩
  · refine brF ?_
    obtain rfl : j = l.length := by omega
    rw [List.take_length] at O2 ⊢
    exact rt1 ⟨a', c', rfl, O2, B2⟩
theorem r_Told (l : List Ent) (hl : l.length ≤ 5000) (a : Option Addr) (c : Nat) (job : Int) (w : World) (hS : Sl eEnt T w a l) : Ret Tryz.prog 6 #[.slice a l.length c, I job] w fun v w' => ∃ a' c', v = .slice a' (tol l job).length c' ∧ OwP 2 enc2 w' w.heap.size 29 a' c' (tol l job) ∧ Bl w w' := by
  refine entr (vs := [.slice a l.length c, I job]) [0, 1, 4, 5, 6, 10, 27] tabok Tryz.func6 (by kernel_rfl) ?_
  refine lpk (vals := [.slice none 0 0]) l.length 6 [5] [(0, .slice a l.length c), (1, I job)]
    (fun j vals w' => ∃ a' c', vals = [.slice a' (tol (l.take j) job).length c'] ∧ OwP 2 enc2 w' w.heap.size 29 a' c' (tol (l.take j) job) ∧ Bl w w') ⟨none, 0, rfl, Ow.nil .., Bl.refl _⟩ ?_
  rintro j vals w2 hj ⟨a', c', rfl, O2, B2⟩ ih
  by_cases hlt : j < l.length
  · refine brT ?_
    obtain ⟨e, bf, off, cs, he, rfl, _, hAt0, rfl⟩ := at_some hS hlt
    have hbf : bf < w.heap.size := cell_lt (hAt0 0 _ rfl)
    have hAt := hAt0.bl B2
    have hsn := tol_snoc (job := job) he
    have hlen := tol_take l job j hl
    refine ix ?_
    refine ld (hAt 2 _ rfl) ?_
    by_cases h7 : e.c = 7
    · refine spt (.pointer none) ?_ (hb := by simp [h7])
      refine ix ?_
      refine spt (I 0) ?_
      refine ld (hAt 1 _ rfl) ?_
      by_cases hjb : e.b = job
      · have hq : isT job e = true := by simp [isT, h7, hjb]
        rw [if_pos hq] at hsn
        refine brt ?_ (hp := by simp [h7, hjb])
        refine dh (fun i => i < w.heap.size) (List.range 15) fun w3 h3 => ?_
        have hAt3 := hAt.bl h3.bl
        refine ix ?_
        refine ld (hAt3 3 _ rfl) ?_ (hm := hbf)
        refine ix ?_
        refine ld (hAt3 4 _ rfl) ?_ (hm := hbf)
        refine bda ?_
        refine bs fun b5 w5 k5 => ?_
        have B25 := h3.bl.trans k5.bl
        have B5 := B2.trans B25
        have O5 := O2.bl B25
        refine apl (l1 := [(e.d, e.e)]) O5 (.inr ⟨b5, 0, rfl, k5.box.at⟩) B5.size (fun a6 c6 w6 O6 A6 _ => ?_) (hb := by simp only [List.length_cons, List.length_nil]; omega) (hn := by simp only [List.length_cons, List.length_nil]; omega) (hm := apS (S := fun i => i < w.heap.size) fun g hg => by have := (O2.lt hg).1; omega)
        exact ih hlt ⟨a6, c6, by rw [hsn], by rw [hsn]; exact O6, Eng.Ow.below O5 A6 B5 B5.size⟩
      · have hq : ¬ isT job e = true := by simp [isT, hjb]
        rw [if_neg hq, List.append_nil] at hsn
        refine brf ?_ (hp := by simp [hjb])
        exact ih hlt ⟨a', c', by rw [hsn], by rw [hsn]; exact O2, B2⟩
    · have hq : ¬ isT job e = true := by simp [isT, h7]
      rw [if_neg hq, List.append_nil] at hsn
      refine spn (.pointer (some ⟨0, 0, none⟩)) ?_ (hb := by simp [h7])
      refine spn (I 0) ?_ (hb := by simp [h7])
      refine brf ?_ (hp := by simp [h7])
      exact ih hlt ⟨a', c', by rw [hsn], by rw [hsn]; exact O2, B2⟩
  · refine brF ?_
    obtain rfl : j = l.length := by omega
    rw [List.take_length] at O2 ⊢
    exact rt1 ⟨a', c', rfl, O2, B2⟩
theorem l_MachineTold (a : Option Addr) (n c : Nat) (job : Int) (w : World) (h1 : n ≤ 5000 → ∃ l : List Ent, l.length = n ∧ Sl eEnt T w a l) :
    Ret Tryz.prog 3 #[.slice a n c, I job] w fun v w' => v = .bool true ∧ Bl w w' := by
  refine entr (vs := [.slice a n c, I job]) [0, 1, 4, 5, 6, 7, 10, 23, 27, 38] tabok Tryz.func3 (by kernel_rfl) ?_
  by_cases hg : n ≤ 5000
  rotate_left
  · refine brt ?_ (hp := by first | (simp; done) | (simp; omega))
    refine cl (Zr.k_sane27 w) ?_
    rintro _ w2 ⟨rfl, hB⟩
    exact rt1 ⟨rfl, hB⟩
  obtain ⟨l, rfl, hS⟩ := h1 hg
  refine brf ?_ (hp := by first | (simp; done) | (simp; omega))
  refine bd ?_
  refine cl (p_Told l hg a c job w hS) ?_
  rintro _ w2 ⟨a2, c2, rfl, O2, B2⟩
  refine cl (r_Told l hg a c job w2 (hS.bl B2)) ?_
  rintro _ w3 ⟨a3, c3, rfl, O3, B23⟩
  have B3 := B2.trans B23
  have hn := tol_len l job
  have S2 : Sl e2 T w3 a2 (tol l job) := (owp_sl (S := T) O2 (by omega) fun _ _ => trivial).bl B23
  have S3 : Sl e2 T w3 a3 (tol l job) := owp_sl O3 (by omega) fun _ _ => trivial
  refine brf ?_ (hp := by simp)
  refine lpk (tol l job).length 7 [] [(5, .slice a2 (tol l job).length c2), (6, .slice a3 (tol l job).length c3)] (fun j vals w' => vals = [] ∧ Bl w3 w') ⟨rfl, Bl.refl _⟩ ?_
  rintro j vals w4 hj ⟨rfl, B4⟩ ih
  by_cases hlt : j < (tol l job).length
  · refine brT ?_
    obtain ⟨x, b, o, cs, hx, rfl, _, hAt, rfl⟩ := at_some (S2.bl B4) hlt
    obtain ⟨y, b', o', cs', hy, rfl, _, hAt', rfl⟩ := at_some (S3.bl B4) hlt
    have hxy : x = y := by rw [hx] at hy; exact Option.some.inj hy
    subst hxy
    refine dh T (List.range 9) fun w8 h8 => ?_
    refine ix ?_
    refine lda (hAt.bl h8.bl) ?_ (hm := trivial)
    refine ix ?_
    refine lda (hAt'.bl h8.bl) ?_ (hm := trivial)
    refine neA (fun w => eq_two x x) ?_
    refine brf ?_ (hp := by simp)
    exact ih hlt ⟨rfl, B4.trans h8.bl⟩
  · refine brF ?_
    refine cl (Zr.k_sane27 w4) ?_
    rintro _ w5 ⟨rfl, B5⟩
    exact rt1 ⟨rfl, (B3.trans B4).trans B5⟩
end Go.Proofs.YtniijapijalphaaGreatDoor
