import Derived.Test.YtopjmiklpnejmaaGreatDoorM4
import Derived.Test.YtopjmiklpnejmaaGreatDoorM2
import Derived.Test.YtopjmiklpnejmaaGreatDoorM3
/- Walks: texts sorted, and each once; the first part of a path. -/
namespace Go.Proofs.YtopjmiklpnejmaaGreatDoor
open Eng Go.RowKit Go.Sort
theorem compact_at {zs : List (List UInt8)} {x : List UInt8} : x ∈ Lib.compact zs ↔ ∃ j, j < zs.length ∧ Lib.keeps zs.toArray j = true ∧ zs.getD j [] = x := by
  unfold Lib.compact Lib.compactUpTo
  simp only [List.mem_map, List.mem_filter, List.mem_range]
  constructor
  · rintro ⟨j, ⟨h1, h2⟩, h3⟩
    exact ⟨j, h1, h2, by simpa [h1] using h3⟩
  · rintro ⟨j, h1, h2, h3⟩
    exact ⟨j, ⟨h1, h2⟩, by simpa [h1] using h3⟩
theorem keeps_iff {zs : List (List UInt8)} {j : Nat} (h : j < zs.length) : Lib.keeps zs.toArray j = true ↔ j = 0 ∨ zs.getD (j - 1) [] ≠ zs.getD j [] := by
  unfold Lib.keeps
  rw [decide_eq_true_eq]
  constructor
  · rintro (h0 | h1)
    · exact .inl h0
    · refine .inr fun e => ?_
      simp [h, show j - 1 < zs.length by omega] at h1 e
      exact h1 e.symm
  · rintro (h0 | h1)
    · exact .inl h0
    · refine .inr ?_
      simp [h, show j - 1 < zs.length by omega] at h1 ⊢
      exact fun e => h1 e.symm
theorem compact_mem {zs : List (List UInt8)} {x : List UInt8} : x ∈ Lib.compact zs ↔ x ∈ zs := by
  rw [compact_at]
  constructor
  · rintro ⟨j, h1, _, rfl⟩
    simp [h1]
  · intro hx
    obtain ⟨i, hi, rfl⟩ := List.getElem_of_mem hx
    have key : ∀ n, n < zs.length → ∃ j, j < zs.length ∧ Lib.keeps zs.toArray j = true ∧ zs.getD j [] = zs.getD n [] := by
      intro n
      induction n with
      | zero => intro h; exact ⟨0, h, (keeps_iff h).2 (.inl rfl), rfl⟩
      | succ n ih =>
        intro h
        by_cases e : zs.getD n [] = zs.getD (n + 1) []
        · obtain ⟨j, h1, h2, h3⟩ := ih (by omega)
          exact ⟨j, h1, h2, h3.trans e⟩
        · exact ⟨n + 1, h, (keeps_iff h).2 (.inr (by simpa using e)), rfl⟩
    obtain ⟨j, h1, h2, h3⟩ := key i hi
    exact ⟨j, h1, h2, by rw [h3]; simp [hi]⟩
theorem compact_lt {zs : List (List UInt8)} (hs : zs.Pairwise (· ≤ ·)) : (Lib.compact zs).Pairwise (· < ·) := by
  have hp : ∀ i j, i ≤ j → j < zs.length → zs.getD i [] ≤ zs.getD j [] := fun i j hij hj => by
    rcases Nat.eq_or_lt_of_le hij with rfl | h
    · exact List.le_refl _
    · have := List.pairwise_iff_getElem.1 hs i j (by omega) hj h
      simpa [hj, show i < zs.length by omega] using this
  unfold Lib.compact Lib.compactUpTo
  rw [List.pairwise_map]
  have hr : ((List.range zs.toArray.size).filter (Lib.keeps zs.toArray)).Pairwise (· < ·) := List.pairwise_lt_range.filter _
  refine List.Pairwise.imp_of_mem (fun {i j} hi hj hij => ?_) hr
  simp only [List.mem_filter, List.mem_range] at hi hj
  have h1 := hp i (j - 1) (by omega) (by omega)
  have h2 := hp (j - 1) j (by omega) hj.1
  have h3 : zs.getD (j - 1) [] ≠ zs.getD j [] := by
    rcases (keeps_iff hj.1).1 hj.2 with q | q
    · omega
    · exact q
  have h4 := le_lt_of_ne h2 h3
  have h5 : zs.getD i [] < zs.getD j [] := by
    by_cases e : zs.getD i [] = zs.getD (j - 1) []
    · rw [e]; exact h4
    · exact List.lt_trans (le_lt_of_ne h1 e) h4
  simpa [hi.1, hj.1] using h5
theorem srt_compact (l : List ByteArray) : Asc l ((Lib.compact (srt l)).map ofL) := by
  refine ⟨?_, mem_ofL fun x => ?_⟩
  · rw [map_toL_ofL]; exact compact_lt (sorted_le _)
  · rw [compact_mem]; exact srt_mem
theorem flat_str (l : List ByteArray) : l.flatMap encStr = (l.map toL).map sEnc := by
  induction l with
  | nil => rfl
  | cons x l ih => rw [List.flatMap_cons, ih, List.map_cons, List.map_cons, sEnc_toL]; rfl
theorem flat_ofL (L : List (List UInt8)) : (L.map ofL).flatMap encStr = L.map sEnc := by rw [flat_str, map_toL_ofL]
theorem ap_grown {w w' : World} {g : Nat} (h : w.grownBy w' (some g)) : Ap w (some ⟨g, 0, none⟩) w' := by
  obtain ⟨q1, q2, q3, q4, q5⟩ := h
  first
    | exact ⟨q1, q2, q3, q4, fun k hk hne => q5 k hk fun e => hne (by cases e; rfl)⟩
    | exact ⟨q1, q3, q2, q4, fun k hk hne => q5 k hk fun e => hne (by cases e; rfl)⟩
theorem c_SortS (l : List ByteArray) (base : Nat) (a : Option Addr) (cap : Nat) (w : World) (hO : OwP 1 encStr w base 9 a cap l) (hl : l.length ≤ 4194304) :
    Ret Tryz.prog 83 #[.slice a l.length cap] w fun _ w' => Ow w' base 9 1 a l.length cap ((srt l).map sEnc) ∧ Ap w a w' := by
  have hlen : (l.map toL).length = l.length := List.length_map ..
  have hsl : (srt l).length = l.length := by unfold srt; rw [List.length_mergeSort, hlen]
  refine ⟨by kernel_rfl, ?_⟩
  have hO' : Ow w base 9 1 a l.length cap ((l.map toL).map sEnc) := by rw [← flat_str]; exact hO
  obtain ⟨_, h2⟩ := hO'.own
  rcases h2 with ⟨h3, h4⟩ | ⟨g, cap', cur, h2, hg, hgb, r1, r2, r3, r4⟩
  · simp only [Value.slice.injEq] at h3
    obtain ⟨rfl, h0, rfl⟩ := h3
    have : l = [] := List.eq_nil_of_length_eq_zero h0
    subst this
    refine (Tryz.slices_Sort_string_none none 0 w).mono ?_
    rintro e w' ⟨rfl, rfl⟩
    have e0 : srt ([] : List ByteArray) = [] := by simp [srt]
    rw [e0]
    exact ⟨Ow.nil .., Ap.bl (Bl.refl _) _⟩
  · simp only [Value.slice.injEq] at h2
    obtain ⟨rfl, _, rfl⟩ := h2
    have hH : Holds sEnc w g 0 (l.map toL).toArray := holds_of_block hgb (by rw [hlen]; simpa using r4)
    have c := Tryz.slices_Sort_string g 0 cap (l.map toL) w hH (Array.getElem?_eq_some_iff.1 hgb).1 (by omega)
    rw [hlen] at c
    refine c.mono ?_
    rintro e w' ⟨rfl, n, os, rfl⟩
    refine ⟨⟨?_⟩, ap_grown (grownBy_sorted _)⟩
    have := ownsRow_sorted (ss := l.map toL) (ts := srt l) (os := os) (n := n) (by rw [hsl, hlen]) hg hgb (by rw [hlen]; exact r1) r2 r3
    rw [hlen] at this
    exact this
theorem c_CompactS (zs : List (List UInt8)) (base : Nat) (a : Option Addr) (cap : Nat) (w : World) (hO : Ow w base 9 1 a zs.length cap (zs.map sEnc)) (hl : zs.length ≤ 4194304) (hs : zs.Pairwise (· ≤ ·)) :
    Ret Tryz.prog 87 #[.slice a zs.length cap] w fun v w' => v = .slice a (Lib.compact zs).length cap ∧ Ow w' base 9 1 a (Lib.compact zs).length cap ((Lib.compact zs).map sEnc) ∧ Ap w a w' := by
  have hle := (compact_len hs).2
  refine ⟨by kernel_rfl, ?_⟩
  obtain ⟨_, h2⟩ := hO.own
  rcases h2 with ⟨h3, h4⟩ | ⟨g, cap', cur, h2, hg, hgb, r1, r2, r3, r4⟩
  · simp only [Value.slice.injEq] at h3
    obtain ⟨rfl, h0, rfl⟩ := h3
    have : zs = [] := List.eq_nil_of_length_eq_zero h0
    subst this
    refine (Tryz.slices_Compact_string_empty none 0 w).mono ?_
    rintro e w' ⟨rfl, rfl⟩
    exact ⟨rfl, Ow.nil .., Ap.bl (Bl.refl _) _⟩
  · simp only [Value.slice.injEq] at h2
    obtain ⟨rfl, _, rfl⟩ := h2
    have hH : Holds sEnc w g 0 zs.toArray := holds_of_block hgb (by simpa using r4)
    refine (Tryz.slices_Compact_string g 0 cap zs w hH (by omega) r1).mono ?_
    rintro e w' ⟨rfl, q, hw⟩
    rw [← Go.Sort.grow_empty (putRow _ _ _ _ _)] at hw
    have e1 : (Lib.compact zs ++ List.replicate (zs.length - (Lib.compact zs).length) []).length = zs.length := by rw [List.length_append, List.length_replicate]; omega
    have hrow := ownsRow_sorted (ss := zs) (ts := Lib.compact zs ++ List.replicate (zs.length - (Lib.compact zs).length) []) (os := #[]) (n := q) e1 hg hgb r1 r2 r3
    rw [← hw] at hrow
    have hO2 : Ow w' base 9 1 (some ⟨g, 0, none⟩) zs.length cap ((Lib.compact zs ++ List.replicate (zs.length - (Lib.compact zs).length) []).map sEnc) := ⟨hrow⟩
    have hO3 := hO2.cut hle
    refine ⟨rfl, ?_, ?_⟩
    · have e2 : ((Lib.compact zs ++ List.replicate (zs.length - (Lib.compact zs).length) []).map sEnc).take ((Lib.compact zs).length * 1) = (Lib.compact zs).map sEnc := by
        rw [Nat.mul_one, List.map_append, List.take_left' (by simp)]
      rw [e2] at hO3; exact hO3
    · rw [hw]; exact ap_grown (grownBy_sorted _)
theorem cut_first (s : ByteArray) : (⟨(Lib.cut s.data.toList [46]).1.toArray⟩ : ByteArray) = fstP s := by
  unfold fstP partsB Lib.cut
  rw [Lib.index_one]
  rcases ib_nat s.data.toList 46 with h | ⟨i, h⟩
  · rw [h, if_neg (by decide), (cut_miss _ h).1]; rfl
  · rw [h, if_pos (by omega), (cut_hit _ i h).1]; rfl
theorem fstP_size (s : ByteArray) : (fstP s).size ≤ s.size := by
  unfold fstP
  cases h : partsB s with
  | nil => exact Nat.zero_le _
  | cons p ps => exact partsB_mem (s := s) (p := p) (by rw [h]; exact List.mem_cons_self ..)
theorem u_first (s : ByteArray) (w : World) (hs : s.size ≤ 1048576) (hG : Gl w) : Ret Tryz.prog 89 #[.string s] w fun v w' => v = .string (fstP s) ∧ Bl w w' := by
  refine entr (vs := [.string s]) [0, 2, 3] tabok Tryz.func89 (by kernel_rfl) ?_
  refine cl (R := fun v w' => ∃ x y, v = .tuple #[.string (fstP s), x, y] ∧ Bl w w') ?_ ?_
  · obtain ⟨m, hm⟩ := hG
    refine ⟨by kernel_rfl, (Tryz.strings_Cut s ⟨#[46]⟩ m w (by omega) hm).mono ?_⟩
    rintro e w' ⟨rfl, n, rfl⟩
    have e1 : (⟨#[46]⟩ : ByteArray).data.toList = [46] := rfl
    rw [e1, cut_first]
    exact ⟨_, _, rfl, below_drewN (Below.refl _ _) n⟩
  rintro _ w1 ⟨x, y, rfl, hB⟩
  exact rt1 ⟨rfl, hB⟩
/-- the model's < on bytes is the lists' own -/
theorem bl_lt : ∀ x y : List UInt8, Op.bytesLess x y = decide (x < y) := by
  intro x
  induction x with
  | nil => intro y; cases y <;> simp [Op.bytesLess]
  | cons a x ih =>
    intro y
    cases y with
    | nil => simp [Op.bytesLess]
    | cons b y =>
      rw [Op.bytesLess, ih, Bool.eq_iff_iff]
      simp only [List.cons_lt_cons_iff, Bool.or_eq_true, Bool.and_eq_true, decide_eq_true_eq, beq_iff_eq]
theorem lss_run {T : TypeId} {a b : ByteArray} : ∀ P w, (binOp .lss T (.string a) (.string b)).run P w = .ok (.bool (decide (toL a < toL b))) w := fun P w => by
  simp [binOp, Op.stringOp, pure, ByteArray.toList_eq, bl_lt]
theorem gtr_run {T : TypeId} {a b : ByteArray} : ∀ P w, (binOp .gtr T (.string a) (.string b)).run P w = .ok (.bool (decide (toL b < toL a))) w := fun P w => by
  have h : (!(decide (toL a < toL b) || (toL a == toL b))) = decide (toL b < toL a) := by
    rw [Bool.eq_iff_iff]
    simp only [Bool.not_eq_true', Bool.or_eq_false_iff, decide_eq_false_iff_not, decide_eq_true_eq, beq_eq_false_iff_ne]
    constructor
    · rintro ⟨h1, h2⟩
      exact le_lt_of_ne (List.not_lt.1 h1) fun e => h2 e.symm
    · intro h
      exact ⟨fun q => List.lt_irrefl _ (List.lt_trans h q), fun e => by rw [e] at h; exact List.lt_irrefl _ h⟩
  simp [binOp, Op.stringOp, pure, ByteArray.toList_eq, bl_lt]
  simpa using h
/-- a comparison of texts whose outcome is given -/
theorem Eng.sop {C : Cx} {s : St} {w : World} {md : Option Md} {ops : Array Oper} {op : BinOp} {T T' : TypeId} {x y : Operand} {d : Nat} {ty : TypeId} {pos : String} {af : Array Edge} {g : Option (Nat × Bool)} {rest : List Oper} {k : List Item} {l : Env} {c : CEnv} {a b : ByteArray} {v : Value}
    (hr : ∀ P w, (binOp op T (.string a) (.string b)).run P w = .ok v w) (h : Wk C (.reg md ops rest k ((d, v) :: l) c) w)
    (hs : adv C.tab C.n C.ks 400 s = .opn md ops ⟨some d, .binOp op T x y T', ty, pos, af, g⟩ rest k l c [] := by rfl) (hx : evc l c [] x = some (.string a) := by rfl) (hy : evc l c [] y = some (.string b) := by rfl) (hf : fresh d l c [] = true := by rfl) : Wk C s w :=
  rd (p := []) (fun _ _ hA hp w' _ => by
    simp only [execOp, evc_ok hA.k hA.kc.c hp hx, evc_ok hA.k hA.kc.c hp hy]
    exact run_bind_ok (run_bind_ok (eqg_str ..) |>.trans (hr C.P w')) |>.trans rfl) h hs rfl hf (okR_no rfl)
/-- a guard of two tests that says no -/
theorem Eng.spn2 {C : Cx} {s : St} {w : World} {md : Option Md} {ops : Array Oper} {o : Oper} {rest : List Oper} {k : List Item} {l : Env} {c : CEnv} {gs gs' : Nat} {gb gt gb' gt' : Bool} {d : Nat} (u : Value)
    (h2 : Wk C (.reg md ops rest k l ((d, [(gs, gb), (gs', gb')], u) :: c)) w)
    (hs : adv C.tab C.n C.ks 400 s = .opn md ops o rest k l c [(gs, gb), (gs', gb')] := by rfl) (hg' : evc l c [] (.tmp gs') = some (.bool gt') := by rfl) (hg : evc l c [(gs', gb')] (.tmp gs) = some (.bool gt) := by rfl) (hd : o.dst = some d := by rfl) (hf : fresh d l c [(gs, gb), (gs', gb')] = true := by rfl) (hn : ¬ (gt' = gb' ∧ gt = gb) := by simp_all) : Wk C s w :=
  sp2 u (fun a b => absurd ⟨a, b⟩ hn) (fun _ => h2) hs hg' hg hd hf
/-- .. that says yes -/
theorem Eng.spt2 {C : Cx} {s : St} {w : World} {md : Option Md} {ops : Array Oper} {o : Oper} {rest : List Oper} {k : List Item} {l : Env} {c : CEnv} {gs gs' : Nat} {gb gt gb' gt' : Bool} {d : Nat} (u : Value)
    (h1 : Wk C (.opn md ops o rest k (bools [(gs, gb), (gs', gb')] (settleL [(gs, gb), (gs', gb')] c l)) (settleC [(gs, gb), (gs', gb')] c) []) w)
    (hs : adv C.tab C.n C.ks 400 s = .opn md ops o rest k l c [(gs, gb), (gs', gb')] := by rfl) (hg' : evc l c [] (.tmp gs') = some (.bool gt') := by rfl) (hg : evc l c [(gs', gb')] (.tmp gs) = some (.bool gt) := by rfl) (hd : o.dst = some d := by rfl) (hf : fresh d l c [(gs, gb), (gs', gb')] = true := by rfl) (hy : gt' = gb' ∧ gt = gb := by simp_all) : Wk C s w :=
  sp2 u (fun _ _ => h1) (fun q => absurd hy q) hs hg' hg hd hf
def Cand (out : List ByteArray) (x : ByteArray) : Prop := ∀ y ∈ out, toL y < toL x
theorem cand_last {out : List ByteArray} (hs : (out.map toL).Pairwise (· < ·)) {y x : ByteArray} (hy : out[out.length - 1]? = some y) : Cand out x ↔ toL y < toL x := by
  constructor
  · intro h; exact h y (List.mem_of_getElem? hy)
  · intro h z hz
    obtain ⟨i, hi, rfl⟩ := List.getElem_of_mem hz
    rcases Nat.eq_or_lt_of_le (show i ≤ out.length - 1 by omega) with e | e
    · have : out[i] = y := by
        subst e
        rw [List.getElem?_eq_getElem hi] at hy
        exact Option.some.inj hy
      rw [this]; exact h
    · have hlt : out.length - 1 < out.length := by omega
      have h2 := List.pairwise_iff_getElem.1 hs i (out.length - 1) (by simpa using hi) (by simpa using hlt) e
      simp only [List.getElem_map] at h2
      rw [List.getElem?_eq_getElem hlt] at hy
      rw [Option.some.inj hy] at h2
      exact List.lt_trans h2 h
theorem countP_lt {α : Type} {p q : α → Bool} : ∀ {l : List α}, (∀ x ∈ l, q x = true → p x = true) → ∀ {y}, y ∈ l → p y = true → q y = false → l.countP q < l.countP p
  | [], _, _, h, _, _ => by cases h
  | x :: l, h, y, hy, hp, hq => by
    have hle : l.countP q ≤ l.countP p := List.countP_mono_left fun z hz => h z (List.mem_cons_of_mem _ hz)
    rw [List.countP_cons, List.countP_cons]
    rcases List.mem_cons.1 hy with rfl | hy
    · rw [hp, hq]; simp; omega
    · have ih := countP_lt (fun z hz => h z (List.mem_cons_of_mem _ hz)) hy hp hq
      have hx := h x (List.mem_cons_self ..)
      by_cases hqx : q x = true
      · rw [hqx, hx hqx]; simp; exact ih
      · simp only [hqx]
        simp
        omega
noncomputable instance (out : List ByteArray) (x : ByteArray) : Decidable (Cand out x) := Classical.propDecidable _
noncomputable def left (l out : List ByteArray) : Nat := l.countP fun x => decide (Cand out x)
/-- what the inner loop has found -/
def Lst (l out : List ByteArray) (k : Nat) (p : Int) : Prop := (p = -1 ∧ ∀ i x, i < k → l[i]? = some x → ¬ Cand out x) ∨ ∃ (n : Nat) (y : ByteArray), p = n ∧ n < k ∧ l[n]? = some y ∧ Cand out y ∧ ∀ i x, i < k → l[i]? = some x → Cand out x → toL y ≤ toL x
theorem Lst.skip {l out : List ByteArray} {k : Nat} {p : Int} {x : ByteArray} (h : Lst l out k p) (hx : l[k]? = some x) (hn : ¬ Cand out x) : Lst l out (k + 1) p := by
  have key : ∀ i z, i < k + 1 → l[i]? = some z → i < k ∨ z = x := fun i z hi hz => by
    rcases Nat.lt_or_ge i k with q | q
    · exact .inl q
    · obtain rfl : i = k := by omega
      rw [hx] at hz; exact .inr (Option.some.inj hz).symm
  rcases h with ⟨h1, h2⟩ | ⟨n, y, h1, h2, h3, h4, h5⟩
  · refine .inl ⟨h1, fun i z hi hz => ?_⟩
    rcases key i z hi hz with q | rfl
    · exact h2 i z q hz
    · exact hn
  · refine .inr ⟨n, y, h1, by omega, h3, h4, fun i z hi hz hc => ?_⟩
    rcases key i z hi hz with q | rfl
    · exact h5 i z q hz hc
    · exact absurd hc hn
theorem Lst.take {l out : List ByteArray} {k : Nat} {p : Int} {x : ByteArray} (h : Lst l out k p) (hx : l[k]? = some x) (hc : Cand out x) (hl : ∀ n y, p = ((n : Nat) : Int) → l[n]? = some y → toL x < toL y) : Lst l out (k + 1) k := by
  refine .inr ⟨k, x, rfl, by omega, hx, hc, fun i z hi hz hcz => ?_⟩
  rcases Nat.lt_or_ge i k with q | q
  · rcases h with ⟨h1, h2⟩ | ⟨n, y, h1, h2, h3, h4, h5⟩
    · exact absurd hcz (h2 i z q hz)
    · exact List.le_trans (List.le_of_lt (hl n y h1 h3)) (h5 i z q hz hcz)
  · obtain rfl : i = k := by omega
    rw [hx] at hz
    rw [Option.some.inj hz]; exact List.le_refl _
theorem Lst.pass {l out : List ByteArray} {k n : Nat} {x y : ByteArray} (h : Lst l out k ((n : Nat) : Int)) (hx : l[k]? = some x) (hy : l[n]? = some y) (hl : ¬ toL x < toL y) : Lst l out (k + 1) ((n : Nat) : Int) := by
  rcases h with ⟨h1, h2⟩ | ⟨n', y', h1, h2, h3, h4, h5⟩
  · omega
  · obtain rfl : n = n' := by omega
    rw [hy] at h3
    obtain rfl := Option.some.inj h3
    refine .inr ⟨n, y, rfl, by omega, hy, h4, fun i z hi hz hc => ?_⟩
    rcases Nat.lt_or_ge i k with q | q
    · exact h5 i z q hz hc
    · obtain rfl : i = k := by omega
      rw [hx] at hz
      rw [← Option.some.inj hz]; exact List.not_lt.1 hl
set_option maxHeartbeats 1000000 in
theorem r_Sorted (l : List ByteArray) (a : Option Addr) (cap : Nat) (S : Nat → Prop) (w : World) (hS : Sl eStr S w a l) : Ret Tryz.prog 84 #[.slice a l.length cap] w fun v w' => ∃ out a' cap', v = .slice a' out.length cap' ∧ Asc l out ∧ out.length ≤ 4194304 ∧ OwP 1 encStr w' w.heap.size 9 a' cap' out ∧ Bl w w' := by
  have hbig := hS.big
  refine entr (vs := [.slice a l.length cap]) [0, 2, 3, 4, 5, 9, 42, 45] tabok Tryz.func84 (by kernel_rfl) ?_
  refine lp (vals := [.slice none 0 0]) [3] [(0, .slice a l.length cap)] (fun m vals w' => ∃ out a3 c3, m = left l out ∧ vals = [.slice a3 out.length c3] ∧ (out.map toL).Pairwise (· < ·) ∧ (∀ x ∈ out, x ∈ l) ∧ (∀ x ∈ l, x ∈ out ∨ Cand out x) ∧ out.length + left l out ≤ l.length ∧ OwP 1 encStr w' w.heap.size 9 a3 c3 out ∧ Bl w w') ⟨rfl, trivial⟩
    ⟨[], none, 0, rfl, rfl, List.Pairwise.nil, by simp, fun x _ => .inr (by intro y hy; cases hy), by unfold left; have := List.countP_le_length (l := l) (p := fun x => decide (Cand [] x)); simpa using this, Ow.nil .., Bl.refl _⟩ ?_
  rintro m vals w1 ⟨out, a3, c3, rfl, rfl, hs, hsub, hall, hlen, hO, hB⟩ ih
  have hS1 := hS.bl hB
  refine lpk l.length 5 [4] [(0, .slice a l.length cap), (3, .slice a3 out.length c3)] (fun k vals w' => ∃ p, vals = [I p] ∧ Lst l out k p ∧ Bl w1 w') ⟨-1, rfl, .inl ⟨rfl, fun i x hi => by omega⟩, Bl.refl _⟩ ?_
  rintro k vals w2 hk ⟨p, rfl, hL, hB2⟩ ih2
  by_cases hlt : k < l.length
  · refine brT ?_
    obtain ⟨x, bx, ox, cs, hx, rfl, _, hAx, rfl⟩ := at_some (hS1.bl hB2) hlt
    refine ds fun w3 h3 => ?_
    have B13 := hB2.trans h3.bl
    have hAx3 := hAx.bl h3.bl
    have hS3 := (hS1.bl hB2).bl h3.bl
    have hO3 := hO.bl B13
    by_cases ho : out.length = 0
    · have hc : Cand out x := by
        rw [List.eq_nil_of_length_eq_zero ho]; intro y hy; cases hy
      have ho' : ((out.length : Nat) : Int) = 0 := by omega
      refine spn (.pointer none) ?_
      refine spn (.string ⟨#[]⟩) ?_
      refine spn (.pointer none) ?_
      refine spn (.string ⟨#[]⟩) ?_
      refine spn (.bool false) ?_
      rcases hL with ⟨rfl, hno⟩ | ⟨n, y, rfl, hn, hy, hcy, hmin⟩
      · have hL : Lst l out k (-1) := .inl ⟨rfl, hno⟩
        refine spn2 (.pointer none) ?_
        refine spn2 (.string ⟨#[]⟩) ?_
        refine spn2 (.pointer none) ?_
        refine spn2 (.string ⟨#[]⟩) ?_
        refine spn2 (.bool false) ?_
        refine brt ?_ (hp := by simp [List.eq_nil_of_length_eq_zero ho])
        exact ih2 hlt ⟨k, rfl, hL.take hx hc (fun n y e => by omega), B13⟩
      · have hL : Lst l out k ((n : Nat) : Int) := .inr ⟨n, y, rfl, hn, hy, hcy, hmin⟩
        obtain ⟨y2, b2, o2, cs, hy2, e2, _, hA2, rfl⟩ := at_some hS3 (i := n) (by omega)
        rw [hy] at hy2
        obtain rfl := Option.some.inj hy2
        obtain ⟨rfl, rfl⟩ : b2 = bx ∧ o2 = ox := by simp only [Option.some.injEq, Addr.mk.injEq, and_true] at e2; exact ⟨e2.1.symm, e2.2.symm⟩
        have q0 : ¬ ((n : Nat) : Int) < 0 := by omega
        refine spt2 (.pointer none) ?_
        refine ix ?_
        refine spt (.string ⟨#[]⟩) ?_
        refine ld (hAx3 0 _ rfl) ?_
        refine spt (.pointer none) ?_
        refine ix ?_
        refine spt (.string ⟨#[]⟩) ?_
        refine ld (hA2 0 _ rfl) ?_
        refine spt (.bool false) ?_
        refine sop lss_run ?_
        refine br (t := decide (toL x < toL y)) (fun h => ?_) (fun h => ?_)
        · exact ih2 hlt ⟨k, rfl, hL.take hx hc (fun m z e hz => by
            obtain rfl : n = m := by omega
            rw [hy] at hz
            obtain rfl := Option.some.inj hz
            exact of_decide_eq_true h), B13⟩
        · exact ih2 hlt ⟨(n : Nat), rfl, hL.pass hx hy (of_decide_eq_false h), B13⟩
    · have ho' : ¬ ((out.length : Nat) : Int) = 0 := by omega
      have hSo : Sl eStr T w3 a3 out := owp_sl (enc := encStr) hO3 (by omega) fun _ _ => trivial
      obtain ⟨z, bz, oz, cs, hz, rfl, _, hAz, rfl⟩ := at_some hSo (i := out.length - 1) (by omega)
      refine spt (.pointer none) ?_ (hb := decide_eq_false ho')
      refine ix ?_
      refine spt (.string ⟨#[]⟩) ?_
      refine ld (hAx3 0 _ rfl) ?_
      refine spt (.pointer none) ?_
      refine ix (j := out.length - 1) ?_ (hij := by rw [wrap_fit (by omega) (by omega)]; omega)
      refine spt (.string ⟨#[]⟩) ?_
      refine ld (hAz 0 _ rfl) ?_
      refine spt (.bool false) ?_
      refine sop gtr_run ?_
      by_cases hzx : toL z < toL x
      · have hc : Cand out x := (cand_last hs hz).2 hzx
        rcases hL with ⟨rfl, hno⟩ | ⟨n, y, rfl, hn, hy, hcy, hmin⟩
        · have hL : Lst l out k (-1) := .inl ⟨rfl, hno⟩
          refine spn2 (.pointer none) ?_
          refine spn2 (.string ⟨#[]⟩) ?_
          refine spn2 (.pointer none) ?_
          refine spn2 (.string ⟨#[]⟩) ?_
          refine spn2 (.bool false) ?_
          refine brt ?_ (hp := by simp [hzx])
          exact ih2 hlt ⟨k, rfl, hL.take hx hc (fun n y e => by omega), B13⟩
        · have hL : Lst l out k ((n : Nat) : Int) := .inr ⟨n, y, rfl, hn, hy, hcy, hmin⟩
          obtain ⟨y2, b2, o2, cs, hy2, e2, _, hA2, rfl⟩ := at_some hS3 (i := n) (by omega)
          rw [hy] at hy2
          obtain rfl := Option.some.inj hy2
          obtain ⟨rfl, rfl⟩ : b2 = bx ∧ o2 = ox := by simp only [Option.some.injEq, Addr.mk.injEq, and_true] at e2; exact ⟨e2.1.symm, e2.2.symm⟩
          have q0 : ¬ ((n : Nat) : Int) < 0 := by omega
          refine spt2 (.pointer none) ?_
          refine ix ?_
          refine spt (.string ⟨#[]⟩) ?_
          refine ld (hAx3 0 _ rfl) ?_
          refine spt (.pointer none) ?_
          refine ix ?_
          refine spt (.string ⟨#[]⟩) ?_
          refine ld (hA2 0 _ rfl) ?_
          refine spt (.bool false) ?_
          refine sop lss_run ?_
          refine br (t := decide (toL x < toL y)) (fun h => ?_) (fun h => ?_)
          · exact ih2 hlt ⟨k, rfl, hL.take hx hc (fun m z e hz => by
              obtain rfl : n = m := by omega
              rw [hy] at hz
              obtain rfl := Option.some.inj hz
              exact of_decide_eq_true h), B13⟩
          · exact ih2 hlt ⟨(n : Nat), rfl, hL.pass hx hy (of_decide_eq_false h), B13⟩
      · have hc : ¬ Cand out x := fun h => hzx ((cand_last hs hz).1 h)
        refine spn2 (.pointer none) ?_ (hn := fun q => hzx (of_decide_eq_true (by have := q.1; rw [Bool.false_or] at this; exact this)))
        refine spn2 (.string ⟨#[]⟩) ?_ (hn := fun q => hzx (of_decide_eq_true (by have := q.1; rw [Bool.false_or] at this; exact this)))
        refine spn2 (.pointer none) ?_ (hn := fun q => hzx (of_decide_eq_true (by have := q.1; rw [Bool.false_or] at this; exact this)))
        refine spn2 (.string ⟨#[]⟩) ?_ (hn := fun q => hzx (of_decide_eq_true (by have := q.1; rw [Bool.false_or] at this; exact this)))
        refine spn2 (.bool false) ?_ (hn := fun q => hzx (of_decide_eq_true (by have := q.1; rw [Bool.false_or] at this; exact this)))
        refine brf ?_ (hp := by rw [decide_eq_false hzx]; rfl)
        exact ih2 hlt ⟨p, rfl, hL.skip hx hc, B13⟩
  refine brF ?_
  obtain rfl : k = l.length := by omega
  clear ih2
  rcases hL with ⟨rfl, hno⟩ | ⟨n, y, rfl, hn, hy, hcy, hmin⟩
  · refine brT ?_ (hp := by decide)
    refine rt1 ⟨out, a3, c3, rfl, ⟨hs, fun x => ⟨hsub x, fun hx => ?_⟩⟩, by omega, hO.bl hB2, hB.trans hB2⟩
    rcases hall x hx with q | q
    · exact q
    · obtain ⟨i, hi, rfl⟩ := List.getElem_of_mem hx
      exact absurd q (hno i _ hi (List.getElem?_eq_getElem hi))
  · refine brF ?_
    obtain ⟨y2, by', oy, cs, hy2, rfl, _, hAy, rfl⟩ := at_some (hS1.bl hB2) (i := n) hn
    rw [hy] at hy2
    obtain rfl := Option.some.inj hy2
    have hyl := List.mem_of_getElem? hy
    have hpos : 0 < left l out := by
      unfold left
      rw [List.countP_pos_iff]
      exact ⟨y, hyl, decide_eq_true hcy⟩
    have hdec : left l (out ++ [y]) < left l out := by
      unfold left
      refine countP_lt (y := y) (fun x _ h => decide_eq_true fun z hz => of_decide_eq_true h z (List.mem_append_left _ hz)) hyl (decide_eq_true hcy) (decide_eq_false fun h => ?_)
      exact List.lt_irrefl _ (h y (by simp))
    refine ix ?_
    refine ld (hAy 0 _ rfl) ?_
    refine bs fun b4 w4 h4 => ?_
    have hB4 := (hB.trans hB2).trans h4.bl
    have hO4 := (hO.bl hB2).bl h4.bl
    refine apl (enc := encStr) (base := w.heap.size) (l0 := out) (l1 := [y]) hO4 (.inr ⟨b4, 0, rfl, h4.box.at⟩) hB4.size (fun a5 c5 w5 hO5 hA5 hf5 => ?_) (hb := by simp only [List.length_cons, List.length_nil]; omega)
    refine again (ih _ _ _ _ hdec ⟨rfl, trivial⟩ rfl ⟨out ++ [y], a5, c5, rfl, rfl, ?_, ?_, ?_, ?_, hO5, Eng.Ow.below hO4 hA5 hB4 hB4.size⟩)
    · rw [List.map_append, List.pairwise_append]
      refine ⟨hs, by simp, fun x hx z hz => ?_⟩
      obtain ⟨x', hx', rfl⟩ := List.mem_map.1 hx
      simp only [List.map_cons, List.map_nil, List.mem_singleton] at hz
      rw [hz]; exact hcy x' hx'
    · intro x hx
      rcases List.mem_append.1 hx with q | q
      · exact hsub x q
      · rw [List.mem_singleton.1 q]; exact hyl
    · intro x hx
      rcases hall x hx with q | q
      · exact .inl (List.mem_append_left _ q)
      · obtain ⟨i, hi, rfl⟩ := List.getElem_of_mem hx
        have h1 := hmin i _ hi (List.getElem?_eq_getElem hi) q
        by_cases e : toL y = toL l[i]
        · exact .inl (List.mem_append_right _ (by rw [ba_ext e]; simp))
        · refine .inr fun z hz => ?_
          rcases List.mem_append.1 hz with hz | hz
          · exact q z hz
          · rw [List.mem_singleton.1 hz]; exact le_lt_of_ne h1 e
    · rw [List.length_append, List.length_cons, List.length_nil]; omega
end Go.Proofs.YtopjmiklpnejmaaGreatDoor

/- Walks: what a unit defines, in the program and in the document. Printed by wip/tools/mkdf.py. -/
namespace Go.Proofs.YtopjmiklpnejmaaGreatDoor
open Eng Go.RowKit
/-- a list of texts in ascending order, each once, or an error -/
def TellR (e : Int) (l : List ByteArray) (w : World) (v : Value) (w' : World) : Prop :=
  if e = 0 then ∃ out a' c', v = .tuple #[.slice a' out.length c', I 0] ∧ Asc l out ∧ out.length ≤ 4194304 ∧ OwP 1 encStr w' w.heap.size 9 a' c' out ∧ Bl w w' else v = .tuple #[.slice none 0 0, I e] ∧ Bl w w'
theorem tell_err {e : Int} {l : List ByteArray} {w w' : World} (h : ¬ e = 0) (hB : Bl w w') : TellR e l w (.tuple #[.slice none 0 0, I e]) w' := by
  unfold TellR; rw [if_neg h]; exact ⟨rfl, hB⟩
theorem tell_ok {e : Int} {l : List ByteArray} {w w' : World} (h : e = 0) {out : List ByteArray} {a' : Option Addr} {c' : Nat} (h1 : Asc l out) (h2 : out.length ≤ 4194304) (h3 : OwP 1 encStr w' w.heap.size 9 a' c' out) (hB : Bl w w') : TellR e l w (.tuple #[.slice a' out.length c', I 0]) w' := by
  unfold TellR; rw [if_pos h]; exact ⟨out, a', c', rfl, h1, h2, h3, hB⟩
def defCl (u : Unt) (c : Cls) : List ByteArray := dots u.name (nm u c.name) :: c.fields.map fun f => dots (dots u.name (nm u c.name)) (nm u f.name)
def defM (u : Unt) (m : Mth) : List ByteArray := if m.cls = -1 then [dots u.name (nm u m.name)] else []
theorem defL_eq (u : Unt) : defL u = u.classes.flatMap (defCl u) ++ u.statics.map (fun s => dots u.name (nm u s.name)) ++ u.methods.flatMap (defM u) := by
  unfold defL
  congr 1
  induction u.methods with
  | nil => rfl
  | cons m l ih =>
    rw [List.flatMap_cons, ← ih]
    unfold defM
    by_cases h : m.cls = -1 <;> simp [h]
theorem cl_len {u : Unt} {c : Cls} (h : c.fields.length ≤ 7) : (defCl u c).length ≤ 8 := by unfold defCl; simp; omega
theorem cls_len {u : Unt} (hL : Lim u) (k : Nat) (hk : k ≤ u.classes.length) : ((u.classes.take k).flatMap (defCl u)).length ≤ 80 := by
  have := flatMap_take_le (f := defCl u) (l := u.classes) (B := 8) (fun c hc => cl_len (hL.flds c hc)) hk
  have := hL.cls
  omega
theorem mth_len {u : Unt} (hL : Lim u) (k : Nat) (hk : k ≤ u.methods.length) : ((u.methods.take k).flatMap (defM u)).length ≤ 16 := by
  have := flatMap_take_le (f := defM u) (l := u.methods) (B := 1) (fun m _ => by unfold defM; split <;> simp) hk
  have := hL.mth
  omega
theorem dots_size (x y : ByteArray) : (dots x y).size = x.size + 1 + y.size := by
  rw [← ba_len, toL_dots, List.length_append, List.length_cons, ba_len, ba_len]; omega
set_option maxHeartbeats 1000000 in
theorem u_Defines (u : Unt) (a : UA) (w : World) (hU : UnR T w u a) (hG : Gl w) : Ret Tryz.prog 31 #[.agg (ucells u a).toArray] w (TellR (checkE u) (defL u) w) := by
  refine entr (vs := [.agg (ucells u a).toArray]) [0, 1, 2, 3, 4, 5, 7, 9, 11, 13, 17, 20, 21, 22, 23, 38, 39, 40, 41, 60, 61, 62, 63, 79, 80, 81, 82, 87] tabok Tryz.func31 (by kernel_rfl) ?_
  refine bx (cs := ucells u a) fun b1 w1 h1 => ?_
  refine lda h1.box.at ?_
  refine cl (u_Check u a w1 (hU.bl h1.bl) (hG.bl h1.bl)) ?_
  rintro _ w2 ⟨rfl, B12⟩
  have B02 := h1.bl.trans B12
  have z1 := h1.size
  have z2 := B12.size
  have y1 := h1.blk
  refine br (t := decide (¬ checkE u = 0)) (fun h => ?_) (fun h => ?_)
  · exact rt2 (tell_err (of_decide_eq_true h) B02)
  have h0 : checkE u = 0 := Classical.not_not.1 (of_decide_eq_false h)
  have hC := (ckU_iff u).1 h0
  have hL := lim_of hC.lim
  have hP := plc_of hC.pl
  have n1 := hL.cls
  have n2 := hL.sta
  have n3 := hL.mth
  have hx2 := Bl.box B12 h1.box
  have hz1 : (⟨#[46]⟩ : ByteArray).size = 1 := rfl
  have hnz := hU.nm
  have np : ∀ {i : Int}, inP u i → (nm u i).size ≤ 1048576 := fun h => by obtain ⟨_, _, _, _, _, hz, _⟩ := pool_at hU h; exact hz
  refine ld (hx2.cell rfl) ?_
  refine lpk u.classes.length 22 [5] [(1, .pointer (some ⟨b1, 0, none⟩)), (20, .slice a.a2 u.classes.length a.c2), (21, I u.classes.length)] (fun k vals w' => ∃ a5 c5, vals = [.slice a5 ((u.classes.take k).flatMap (defCl u)).length c5] ∧ OwP 1 encStr w' w1.heap.size 9 a5 c5 ((u.classes.take k).flatMap (defCl u)) ∧ Bl w1 w') ⟨none, 0, rfl, Ow.nil .., B12⟩ ?_
  rintro k vals w3 hk ⟨a5, c5, rfl, hO, B13⟩ ih
  have B03 := h1.bl.trans B13
  have z3 := B13.size
  have dl := cls_len hL k hk
  by_cases hlt : k < u.classes.length
  · refine brT ?_
    obtain ⟨c, b, o, cs, hc, e2, _, hAt, af, cf, rfl, hF⟩ := at_some hU.cls hlt
    have hcm := List.mem_of_getElem? hc
    have nf := hL.flds c hcm
    rw [e2]
    refine ix ?_
    refine lda (hAt.bl B03) ?_
    refine al fun b7 w4 h4 => ?_
    refine sta h4.box fun w5 k5 y5 => ?_
    have B35 := h4.wr k5
    have z4 := h4.size
    have z5 := k5.size
    have y4 := h4.blk
    refine dh (fun i => i < w1.heap.size ∨ i = b7) (List.range 12) fun w6 h6 => ?_
    have B36 := B35.trans h6.bl
    have x6 := Bl.box (B13.trans B36) h1.box
    refine ld (x6.cell rfl) ?_
    refine cat ?_
    refine ld ((h6.box y5).cell rfl) ?_ (hm := by exact Or.inr rfl)
    refine bs fun b8 w8 h8 => ?_
    have B38 := B36.trans h8.bl
    refine cl (named1 u a b1 c.name T h8 (hU.bl (B03.trans B38)) ((Bl.box (B13.trans B38) h1.box).at) (hP.cn c hcm)) ?_ (hm := fun _ _ r => mdW_bl r.2)
    rintro _ w9 ⟨rfl, B89⟩
    have hnc := np (hP.cn c hcm)
    refine cat ?_ (hab := by rw [ByteArray.size_append, hz1]; omega)
    refine bs fun b10 w10 h10 => ?_
    have B310 := (B38.trans B89).trans h10.bl
    have z10 := B310.size
    have hO10 := hO.bl B310
    refine apl (enc := encStr) (l1 := [dots u.name (nm u c.name)]) hO10 (.inr ⟨b10, 0, rfl, h10.box.at⟩) (by omega) (fun a11 c11 w11 hO11 hA11 hf11 => ?_) (hb := by simp only [List.length_cons, List.length_nil]; omega) (hm := apS (S := fun i => i < w1.heap.size ∨ i = b7) fun g hg => by have := hO.lt hg; omega)
    have B111 : Bl w1 w11 := Eng.Ow.below hO10 hA11 (B13.trans B310) (by omega)
    have z510 := (((h6.bl.trans h8.bl).trans B89).trans h10.bl).size
    have y11 := hA11.box (Bl.box (((h6.bl.trans h8.bl).trans B89).trans h10.bl) y5) (fun e => by have := (hO.lt e).2; omega)
    have z11 := hA11.size
    refine ld (y11.cell rfl) ?_
    refine lpk c.fields.length 40 [5] [(1, .pointer (some ⟨b1, 0, none⟩)), (20, .slice (some ⟨b, o, none⟩) u.classes.length a.c2), (21, I u.classes.length), (22, I k), (7, .pointer (some ⟨b7, 0, none⟩)), (38, .slice af c.fields.length cf), (39, I c.fields.length)]
      (fun i vals w' => ∃ a5 c5, vals = [.slice a5 ((u.classes.take k).flatMap (defCl u) ++ (dots u.name (nm u c.name) :: (c.fields.take i).map fun f => dots (dots u.name (nm u c.name)) (nm u f.name))).length c5] ∧ OwP 1 encStr w' w1.heap.size 9 a5 c5 ((u.classes.take k).flatMap (defCl u) ++ (dots u.name (nm u c.name) :: (c.fields.take i).map fun f => dots (dots u.name (nm u c.name)) (nm u f.name))) ∧
        Box w' b7 58 (ccells c af cf) ∧ w11.heap.size ≤ w'.heap.size ∧ Bl w1 w' ∧ ∀ g, a5 = some ⟨g, 0, none⟩ → g ≠ b7) ⟨a11, c11, rfl, hO11, y11, Nat.le_refl _, B111, fun g hg => by
          rcases hf11 g hg with e | e
          · have := (hO.lt e).2; omega
          · omega⟩ ?_
    rintro i vals w12 hi ⟨a12, c12, rfl, hO12, y12, z12, B112, hn12⟩ ih2
    have B012 := h1.bl.trans B112
    by_cases hlt2 : i < c.fields.length
    · refine brT ?_
      obtain ⟨f, bf, off, cs, hf, rfl, _, hAtf, rfl⟩ := at_some hF hlt2
      have hfm := List.mem_of_getElem? hf
      have dl2 : ((u.classes.take k).flatMap (defCl u) ++ (dots u.name (nm u c.name) :: (c.fields.take i).map fun f => dots (dots u.name (nm u c.name)) (nm u f.name))).length ≤ 100 := by
        rw [List.length_append, List.length_cons, List.length_map, List.length_take]; omega
      refine ix ?_
      refine lda (hAtf.bl B012) ?_
      refine al fun b13 w13 h13 => ?_
      refine sta h13.box fun w14 k14 y14 => ?_
      have B1214 := h13.wr k14
      have z13 := h13.size
      have z14 := k14.size
      have y13 := h13.blk
      have z112 := B112.size
      have l7 := y12.lt
      refine dh (fun i => i < w1.heap.size ∨ i = b7 ∨ i = b13) (List.range 14) fun w15 h15 => ?_
      have B1215 := B1214.trans h15.bl
      refine ld ((Bl.box (B112.trans B1215) h1.box).cell rfl) ?_
      refine cat ?_
      refine ld ((Bl.box B1215 y12).cell rfl) ?_ (hm := by exact Or.inr (Or.inl rfl))
      refine ld ((h15.box y14).cell rfl) ?_ (hm := by exact Or.inr (Or.inr rfl))
      refine bs fun b16 w16 h16 => ?_
      have B1216 := B1215.trans h16.bl
      refine cl (named2 u a b1 c.name f.name T h16 (hU.bl (B012.trans B1216)) ((Bl.box (B112.trans B1216) h1.box).at) (hP.cn c hcm) (hP.fn c hcm f hfm)) ?_ (hm := fun _ _ r => mdW_bl r.2)
      rintro _ w17 ⟨rfl, B1617⟩
      have hnf := np (hP.fn c hcm f hfm)
      refine cat ?_ (hab := by rw [ByteArray.size_append, hz1, dots_size]; omega)
      rw [show (u.name ++ ⟨#[46]⟩ ++ dots (nm u c.name) (nm u f.name) : ByteArray) = dots (dots u.name (nm u c.name)) (nm u f.name) from (dots_assoc _ _ _).symm]
      refine bs fun b18 w18 h18 => ?_
      have B1218 := (B1216.trans B1617).trans h18.bl
      have z18 := B1218.size
      have hO18 := hO12.bl B1218
      refine apl (enc := encStr) (l1 := [dots (dots u.name (nm u c.name)) (nm u f.name)]) hO18 (.inr ⟨b18, 0, rfl, h18.box.at⟩) (by omega) (fun a19 c19 w19 hO19 hA19 hf19 => ?_) (hb := by rw [List.length_singleton]; omega) (hn := by rw [List.length_singleton]; omega) (hm := apS (S := fun i => i < w1.heap.size ∨ i = b7 ∨ i = b13) fun g hg => by have := hO12.lt hg; have := hn12 g hg; omega)
      have e3 : (u.classes.take k).flatMap (defCl u) ++ (dots u.name (nm u c.name) :: (c.fields.take (i + 1)).map fun f => dots (dots u.name (nm u c.name)) (nm u f.name)) = (u.classes.take k).flatMap (defCl u) ++ (dots u.name (nm u c.name) :: (c.fields.take i).map fun f => dots (dots u.name (nm u c.name)) (nm u f.name)) ++ [dots (dots u.name (nm u c.name)) (nm u f.name)] := by
        rw [take_succ_some hf, List.map_append]; simp
      refine ih2 hlt2 ⟨a19, c19, by rw [e3], by rw [e3]; exact hO19, hA19.box (Bl.box B1218 y12) (fun e => hn12 b7 e rfl), by have := hA19.size; omega, Eng.Ow.below hO18 hA19 (B112.trans B1218) (by omega), fun g hg => ?_⟩
      rcases hf19 g hg with e | e
      · exact hn12 g e
      · omega
    · refine brF ?_
      obtain rfl : i = c.fields.length := by omega
      rw [List.take_length] at hO12 ⊢
      have e3 : (u.classes.take (k + 1)).flatMap (defCl u) = (u.classes.take k).flatMap (defCl u) ++ (dots u.name (nm u c.name) :: c.fields.map fun f => dots (dots u.name (nm u c.name)) (nm u f.name)) := flatMap_snoc hc
      exact ih hlt ⟨a12, c12, by rw [e3], by rw [e3]; exact hO12, B112⟩ (hsub := by simp only [e2]; repeat (first | exact True.intro | (refine ⟨rfl, ?_⟩)))
  refine brF ?_
  obtain rfl : k = u.classes.length := by omega
  clear ih
  rw [List.take_length] at hO dl ⊢
  have x3 := Bl.box B13 h1.box
  refine ld (x3.cell rfl) ?_
  refine lpk (vals := [.slice a5 (u.classes.flatMap (defCl u)).length c5]) u.statics.length 62 [5] [(1, .pointer (some ⟨b1, 0, none⟩)), (60, .slice a.a3 u.statics.length a.c3), (61, I u.statics.length)] (fun k vals w' => ∃ a5 c5, vals = [.slice a5 (u.classes.flatMap (defCl u) ++ (u.statics.take k).map fun s => dots u.name (nm u s.name)).length c5] ∧ OwP 1 encStr w' w1.heap.size 9 a5 c5 (u.classes.flatMap (defCl u) ++ (u.statics.take k).map fun s => dots u.name (nm u s.name)) ∧ Bl w1 w') ⟨a5, c5, by simp, by simpa using hO, B13⟩ ?_
  clear hO x3 z3 B03 B13 hk hlt
  rintro k vals w3 hk ⟨a5, c5, rfl, hO, B13⟩ ih
  have B03 := h1.bl.trans B13
  have z3 := B13.size
  have dl3 : (u.classes.flatMap (defCl u) ++ (u.statics.take k).map fun s => dots u.name (nm u s.name)).length ≤ 90 := by rw [List.length_append, List.length_map, List.length_take]; omega
  by_cases hlt : k < u.statics.length
  · refine brT ?_
    obtain ⟨c, b, o, cs, hc, e2, _, hAt, rfl⟩ := at_some hU.sta hlt
    have hcm := List.mem_of_getElem? hc
    rw [e2]
    refine ix ?_
    refine lda (hAt.bl B03) ?_
    refine al fun b7 w4 h4 => ?_
    refine sta h4.box fun w5 k5 y5 => ?_
    have B35 := h4.wr k5
    have z4 := h4.size
    have z5 := k5.size
    have y4 := h4.blk
    refine dh (fun i => i < w1.heap.size ∨ i = b7) (List.range 12) fun w6 h6 => ?_
    have B36 := B35.trans h6.bl
    have x6 := Bl.box (B13.trans B36) h1.box
    refine ld (x6.cell rfl) ?_
    refine cat ?_
    refine ld ((h6.box y5).cell rfl) ?_ (hm := by exact Or.inr rfl)
    refine bs fun b8 w8 h8 => ?_
    have B38 := B36.trans h8.bl
    refine cl (named1 u a b1 c.name T h8 (hU.bl (B03.trans B38)) ((Bl.box (B13.trans B38) h1.box).at) (hP.sn c hcm)) ?_ (hm := fun _ _ r => mdW_bl r.2)
    rintro _ w9 ⟨rfl, B89⟩
    have hnc := np (hP.sn c hcm)
    refine cat ?_ (hab := by rw [ByteArray.size_append, hz1]; omega)
    refine bs fun b10 w10 h10 => ?_
    have B310 := (B38.trans B89).trans h10.bl
    have z10 := B310.size
    have hO10 := hO.bl B310
    refine apl (enc := encStr) (l1 := [dots u.name (nm u c.name)]) hO10 (.inr ⟨b10, 0, rfl, h10.box.at⟩) (by omega) (fun a11 c11 w11 hO11 hA11 hf11 => ?_) (hb := by rw [List.length_singleton]; omega) (hn := by rw [List.length_singleton]; omega) (hm := apS (S := fun i => i < w1.heap.size ∨ i = b7) fun g hg => by have := hO.lt hg; omega)
    have B111 : Bl w1 w11 := Eng.Ow.below hO10 hA11 (B13.trans B310) (by omega)
    have e3 : u.classes.flatMap (defCl u) ++ ((u.statics.take (k + 1)).map fun s => dots u.name (nm u s.name)) = u.classes.flatMap (defCl u) ++ ((u.statics.take k).map fun s => dots u.name (nm u s.name)) ++ [dots u.name (nm u c.name)] := by
      rw [take_succ_some hc, List.map_append]; simp
    exact ih hlt ⟨a11, c11, by rw [e3], by rw [e3]; exact hO11, B111⟩ (hsub := by simp only [e2]; repeat (first | exact True.intro | (refine ⟨rfl, ?_⟩)))
  refine brF ?_
  obtain rfl : k = u.statics.length := by omega
  clear ih
  rw [List.take_length] at hO dl3 ⊢
  have x3 := Bl.box B13 h1.box
  refine ld (x3.cell rfl) ?_
  generalize hD : (u.classes.flatMap (defCl u) ++ u.statics.map fun s => dots u.name (nm u s.name)) = D at *
  refine lpk (vals := [.slice a5 D.length c5]) u.methods.length 81 [5] [(1, .pointer (some ⟨b1, 0, none⟩)), (79, .slice a.a4 u.methods.length a.c4), (80, I u.methods.length)] (fun k vals w' => ∃ a5 c5, vals = [.slice a5 (D ++ (u.methods.take k).flatMap (defM u)).length c5] ∧ OwP 1 encStr w' w1.heap.size 9 a5 c5 (D ++ (u.methods.take k).flatMap (defM u)) ∧ Bl w1 w') ⟨a5, c5, by simp, by simpa using hO, B13⟩ ?_
  clear hO x3 z3 B03 B13 hk hlt
  rintro k vals w3 hk ⟨a5, c5, rfl, hO, B13⟩ ih
  have B03 := h1.bl.trans B13
  have z3 := B13.size
  have ml := mth_len hL k hk
  have dl4 : (D ++ (u.methods.take k).flatMap (defM u)).length ≤ 110 := by rw [List.length_append]; omega
  by_cases hlt : k < u.methods.length
  · refine brT ?_
    obtain ⟨c, b, o, cs, hc, e2, _, hAt, q1, s1, q2, s2, q3, s3, rfl, f1, f2, f3⟩ := at_some hU.mth hlt
    have hcm := List.mem_of_getElem? hc
    rw [e2]
    refine ix ?_
    refine lda (hAt.bl B03) ?_
    refine al fun b7 w4 h4 => ?_
    refine sta h4.box fun w5 k5 y5 => ?_
    have B35 := h4.wr k5
    have z4 := h4.size
    have z5 := k5.size
    have y4 := h4.blk
    refine ld (y5.cell rfl) ?_
    refine br (t := decide (c.cls < 0)) (fun h => ?_) (fun h => ?_)
    · have hm1 : c.cls = -1 := by
        rcases hP.mc c hcm with q | q
        · exact q
        · have := of_decide_eq_true h; have := q.1; omega
      refine dh (fun i => i < w1.heap.size ∨ i = b7) (List.range 12) fun w6 h6 => ?_
      have B36 := B35.trans h6.bl
      have x6 := Bl.box (B13.trans B36) h1.box
      refine ld (x6.cell rfl) ?_
      refine cat ?_
      refine ld ((h6.box y5).cell rfl) ?_ (hm := by exact Or.inr rfl)
      refine bs fun b8 w8 h8 => ?_
      have B38 := B36.trans h8.bl
      refine cl (named1 u a b1 c.name T h8 (hU.bl (B03.trans B38)) ((Bl.box (B13.trans B38) h1.box).at) (hP.mn c hcm)) ?_ (hm := fun _ _ r => mdW_bl r.2)
      rintro _ w9 ⟨rfl, B89⟩
      have hnc := np (hP.mn c hcm)
      refine cat ?_ (hab := by rw [ByteArray.size_append, hz1]; omega)
      refine bs fun b10 w10 h10 => ?_
      have B310 := (B38.trans B89).trans h10.bl
      have z10 := B310.size
      have hO10 := hO.bl B310
      refine apl (enc := encStr) (l1 := [dots u.name (nm u c.name)]) hO10 (.inr ⟨b10, 0, rfl, h10.box.at⟩) (by omega) (fun a11 c11 w11 hO11 hA11 hf11 => ?_) (hb := by rw [List.length_singleton]; omega) (hn := by rw [List.length_singleton]; omega) (hm := apS (S := fun i => i < w1.heap.size ∨ i = b7) fun g hg => by have := hO.lt hg; omega)
      have B111 : Bl w1 w11 := Eng.Ow.below hO10 hA11 (B13.trans B310) (by omega)
      have e4 : defM u c = [dots u.name (nm u c.name)] := by unfold defM; rw [if_pos hm1]
      have e3 : D ++ (u.methods.take (k + 1)).flatMap (defM u) = D ++ (u.methods.take k).flatMap (defM u) ++ [dots u.name (nm u c.name)] := by
        rw [flatMap_snoc hc, e4, List.append_assoc]
      exact ih hlt ⟨a11, c11, by rw [e3], by rw [e3]; exact hO11, B111⟩ (hsub := by simp only [e2]; repeat (first | exact True.intro | (refine ⟨rfl, ?_⟩)))
    · have hm1 : ¬ c.cls = -1 := fun e => by have := of_decide_eq_false h; omega
      have e4 : defM u c = [] := by unfold defM; rw [if_neg hm1]
      have e3 : D ++ (u.methods.take (k + 1)).flatMap (defM u) = D ++ (u.methods.take k).flatMap (defM u) := by
        rw [flatMap_snoc hc, e4, List.append_nil]
      exact ih hlt ⟨a5, c5, by rw [e3], by rw [e3]; exact hO.bl B35, B13.trans B35⟩ (hsub := by simp only [e2]; repeat (first | exact True.intro | (refine ⟨rfl, ?_⟩)))
  refine brF ?_
  obtain rfl : k = u.methods.length := by omega
  clear ih
  rw [List.take_length] at hO dl4 ⊢
  have eL : D ++ u.methods.flatMap (defM u) = defL u := by rw [defL_eq, hD]
  rw [eL] at hO dl4 ⊢
  refine cl (c_SortS (defL u) w1.heap.size a5 c5 w3 hO (by omega)) ?_
  rintro _ w9 ⟨hO9, hA9⟩
  have e9 : ((srt (defL u)).map ofL).length = (defL u).length := by unfold srt; rw [List.length_map, List.length_mergeSort, List.length_map]
  have := tell_ok (w := w) (w' := w9) (e := checkE u) h0 (out := (srt (defL u)).map ofL) (a' := a5) (c' := c5) (srt_asc (def_nodup hC)) (by omega) (by
    unfold OwP; rw [e9, flat_ofL]; exact hO9.base (by omega)) (h1.bl.trans (Eng.Ow.below hO hA9 B13 (by omega)))
  rw [e9] at this
  rw [h0] at this ⊢
  exact rt2 this
set_option maxHeartbeats 1000000 in
theorem r_Defines (u : Unt) (a : UA) (w : World) (hU : UnR T w u a) : Ret Tryz.prog 32 #[.agg (ucells u a).toArray] w (TellR (checkE u) (defL u) w) := by
  refine entr (vs := [.agg (ucells u a).toArray]) [0, 1, 2, 3, 4, 5, 6, 7, 8, 9, 10, 14, 20, 49, 76, 100, 109] tabok Tryz.func32 (by kernel_rfl) ?_
  refine bx (cs := ucells u a) fun b1 w1 h1 => ?_
  refine lda h1.box.at ?_
  refine cl (r_Check u a w1 (hU.bl h1.bl)) ?_
  rintro _ w2 ⟨rfl, B12⟩
  have B02 := h1.bl.trans B12
  have z1 := h1.size
  have z2 := B12.size
  have y1 := h1.blk
  refine br (t := decide (¬ checkE u = 0)) (fun h => ?_) (fun h => ?_)
  · exact rt2 (tell_err (of_decide_eq_true h) B02)
  have h0 : checkE u = 0 := Classical.not_not.1 (of_decide_eq_false h)
  have hC := (ckU_iff u).1 h0
  have hL := lim_of hC.lim
  have hP := plc_of hC.pl
  have n1 := hL.cls
  have n2 := hL.sta
  have n3 := hL.mth
  have hz1 : (⟨#[46]⟩ : ByteArray).size = 1 := rfl
  have hnz := hU.nm
  have U1 : UnR (· < w1.heap.size) w1 u a := (hU.bl h1.bl).lt
  have np : ∀ {i : Int}, inP u i → (nm u i).size ≤ 1048576 := fun h => by obtain ⟨_, _, _, _, _, hz, _⟩ := pool_at hU h; exact hz
  refine lpk u.classes.length 6 [5] [(1, .pointer (some ⟨b1, 0, none⟩))] (fun k vals w' => ∃ a5 c5, vals = [.slice a5 ((u.classes.take k).flatMap (defCl u)).length c5] ∧ OwP 1 encStr w' w1.heap.size 9 a5 c5 ((u.classes.take k).flatMap (defCl u)) ∧ Bl w1 w') ⟨none, 0, rfl, Ow.nil .., B12⟩ ?_
  rintro k vals w3 hk ⟨a5, c5, rfl, hO, B13⟩ ih
  have z3 := B13.size
  have dl := cls_len hL k hk
  have x3 := Bl.box B13 h1.box
  refine ld (x3.cell rfl) ?_
  by_cases hlt : k < u.classes.length
  · refine brT ?_
    obtain ⟨c, b, o, cs, hc, e2, hSb, hAt, af, cf, rfl, hF⟩ := at_some U1.cls hlt
    have hcm := List.mem_of_getElem? hc
    have nf := hL.flds c hcm
    obtain ⟨b9, o9, e9, hS9, hc9, hz9, hi9, hp9⟩ := pool_at U1 (hP.cn c hcm)
    refine ds fun w4 h4 => ?_
    have B14 := B13.trans h4.bl
    have x4 := h4.box x3
    refine ld (x4.cell rfl) ?_
    refine cat ?_
    refine ld (x4.cell rfl) ?_
    refine ld (x4.cell rfl) ?_
    rw [e2]
    refine ix ?_
    refine ld ((hAt.bl B14) 0 _ rfl) ?_
    rw [e9]
    refine ix (hij := hi9) ?_
    refine ld (B14.kp T _ _ _ trivial hc9) ?_
    refine cat ?_ (hab := by rw [ByteArray.size_append, hz1]; omega)
    refine bs fun b5 w5 h5 => ?_
    have B15 := B14.trans h5.bl
    have B35 := h4.bl.trans h5.bl
    have hO5 := hO.bl B35
    refine apl (enc := encStr) (l1 := [dots u.name (nm u c.name)]) hO5 (.inr ⟨b5, 0, rfl, h5.box.at⟩) B15.size (fun a6 c6 w6 hO6 hA6 hf6 => ?_) (hb := by rw [List.length_singleton]; omega) (hn := by rw [List.length_singleton]; omega)
    have B16 : Bl w1 w6 := Eng.Ow.below hO5 hA6 B15 B15.size
    refine lpk c.fields.length 8 [5] [(1, .pointer (some ⟨b1, 0, none⟩)), (6, I k), (7, .string (dots u.name (nm u c.name)))]
      (fun i vals w' => ∃ a5 c5, vals = [.slice a5 ((u.classes.take k).flatMap (defCl u) ++ (dots u.name (nm u c.name) :: (c.fields.take i).map fun f => dots (dots u.name (nm u c.name)) (nm u f.name))).length c5] ∧ OwP 1 encStr w' w1.heap.size 9 a5 c5 ((u.classes.take k).flatMap (defCl u) ++ (dots u.name (nm u c.name) :: (c.fields.take i).map fun f => dots (dots u.name (nm u c.name)) (nm u f.name))) ∧ Bl w1 w') ⟨a6, c6, rfl, hO6, B16⟩ ?_
    clear hO6 hA6 hf6 B16 x3
    rintro i vals w6 hi ⟨a6, c6, rfl, hO6, B16⟩ ih2
    have x6 := Bl.box B16 h1.box
    refine ld (x6.cell rfl) ?_
    rw [e2]
    refine ix ?_
    refine ld ((hAt.bl B16) 2 _ rfl) ?_
    by_cases hlt2 : i < c.fields.length
    · refine brT ?_
      obtain ⟨f, bf, off, cs, hf, ef, hSf, hAtf, rfl⟩ := at_some hF hlt2
      have hfm := List.mem_of_getElem? hf
      have hnc := np (hP.cn c hcm)
      have hds := dots_size u.name (nm u c.name)
      obtain ⟨b9, o9, e9, hS9, hc9, hz9, hi9, hp9⟩ := pool_at U1 (hP.fn c hcm f hfm)
      have dl2 : ((u.classes.take k).flatMap (defCl u) ++ (dots u.name (nm u c.name) :: (c.fields.take i).map fun f => dots (dots u.name (nm u c.name)) (nm u f.name))).length ≤ 100 := by
        rw [List.length_append, List.length_cons, List.length_map, List.length_take]; omega
      refine dh (fun i => i < w1.heap.size) (List.range 21) fun w7 h7 => ?_
      have B17 := B16.trans h7.bl
      have x7 := Bl.box B17 h1.box
      have z7 := B17.size
      refine cat ?_ (hab := by rw [hds, hz1]; omega)
      refine ld (x7.cell rfl) ?_
      refine ld (x7.cell rfl) ?_
      rw [e2]
      refine ix ?_
      refine ld ((hAt.bl B17) 2 _ rfl) ?_
      rw [ef]
      refine ix ?_
      refine ld ((hAtf.bl B17) 0 _ rfl) ?_
      rw [e9]
      refine ix (hij := hi9) ?_
      refine ld (B17.kp T _ _ _ trivial hc9) ?_
      refine cat ?_ (hab := by rw [ByteArray.size_append, hz1]; rw [hds]; omega)
      refine bs fun b8 w8 h8 => ?_
      have B78 := h7.bl.trans h8.bl
      have B18 := B16.trans B78
      have z8 := B18.size
      have hO8 := hO6.bl B78
      refine apl (enc := encStr) (l1 := [dots (dots u.name (nm u c.name)) (nm u f.name)]) hO8 (.inr ⟨b8, 0, rfl, h8.box.at⟩) z8 (fun a11 c11 w11 hO11 hA11 hf11 => ?_) (hb := by rw [List.length_singleton]; omega) (hn := by rw [List.length_singleton]; omega) (hm := apS (S := fun i => i < w1.heap.size) fun g hg => by have := (hO6.lt hg).1; omega)
      have B111 : Bl w1 w11 := Eng.Ow.below hO8 hA11 B18 z8
      have e3 : (u.classes.take k).flatMap (defCl u) ++ (dots u.name (nm u c.name) :: (c.fields.take (i + 1)).map fun f => dots (dots u.name (nm u c.name)) (nm u f.name)) = (u.classes.take k).flatMap (defCl u) ++ (dots u.name (nm u c.name) :: (c.fields.take i).map fun f => dots (dots u.name (nm u c.name)) (nm u f.name)) ++ [dots (dots u.name (nm u c.name)) (nm u f.name)] := by
        rw [take_succ_some hf, List.map_append]; simp
      exact ih2 hlt2 ⟨a11, c11, by rw [e3], by rw [e3]; exact hO11, B111⟩
    · refine brF ?_
      obtain rfl : i = c.fields.length := by omega
      rw [List.take_length] at hO6 ⊢
      have e3 : (u.classes.take (k + 1)).flatMap (defCl u) = (u.classes.take k).flatMap (defCl u) ++ (dots u.name (nm u c.name) :: c.fields.map fun f => dots (dots u.name (nm u c.name)) (nm u f.name)) := flatMap_snoc hc
      exact ih hlt ⟨a6, c6, by rw [e3], by rw [e3]; exact hO6, B16⟩
  refine brF ?_
  obtain rfl : k = u.classes.length := by omega
  clear ih
  rw [List.take_length] at hO dl ⊢
  refine lpk (vals := [.slice a5 (u.classes.flatMap (defCl u)).length c5]) u.statics.length 9 [5] [(1, .pointer (some ⟨b1, 0, none⟩))] (fun k vals w' => ∃ a5 c5, vals = [.slice a5 (u.classes.flatMap (defCl u) ++ (u.statics.take k).map fun s => dots u.name (nm u s.name)).length c5] ∧ OwP 1 encStr w' w1.heap.size 9 a5 c5 (u.classes.flatMap (defCl u) ++ (u.statics.take k).map fun s => dots u.name (nm u s.name)) ∧ Bl w1 w') ⟨a5, c5, by simp, by simpa using hO, B13⟩ ?_
  clear hO x3 z3 B13 hk hlt
  rintro k vals w3 hk ⟨a5, c5, rfl, hO, B13⟩ ih
  have z3 := B13.size
  have x3 := Bl.box B13 h1.box
  have dl3 : (u.classes.flatMap (defCl u) ++ (u.statics.take k).map fun s => dots u.name (nm u s.name)).length ≤ 90 := by rw [List.length_append, List.length_map, List.length_take]; omega
  refine ld (x3.cell rfl) ?_
  by_cases hlt : k < u.statics.length
  · refine brT ?_
    obtain ⟨c, b, o, cs, hc, e2, hSb, hAt, rfl⟩ := at_some U1.sta hlt
    have hcm := List.mem_of_getElem? hc
    obtain ⟨b9, o9, e9, hS9, hc9, hz9, hi9, hp9⟩ := pool_at U1 (hP.sn c hcm)
    refine dh (fun i => i < w1.heap.size) (List.range 18) fun w7 h7 => ?_
    have B17 := B13.trans h7.bl
    have x7 := Bl.box B17 h1.box
    have z7 := B17.size
    refine ld (x7.cell rfl) ?_
    refine cat ?_
    refine ld (x7.cell rfl) ?_
    refine ld (x7.cell rfl) ?_
    rw [e2]
    refine ix ?_
    refine ld ((hAt.bl B17) 0 _ rfl) ?_
    rw [e9]
    refine ix (hij := hi9) ?_
    refine ld (B17.kp T _ _ _ trivial hc9) ?_
    refine cat ?_ (hab := by rw [ByteArray.size_append, hz1]; omega)
    refine bs fun b8 w8 h8 => ?_
    have B78 := h7.bl.trans h8.bl
    have B18 := B13.trans B78
    have z8 := B18.size
    have hO8 := hO.bl B78
    refine apl (enc := encStr) (l1 := [dots u.name (nm u c.name)]) hO8 (.inr ⟨b8, 0, rfl, h8.box.at⟩) z8 (fun a11 c11 w11 hO11 hA11 hf11 => ?_) (hb := by rw [List.length_singleton]; omega) (hn := by rw [List.length_singleton]; omega) (hm := apS (S := fun i => i < w1.heap.size) fun g hg => by have := (hO.lt hg).1; omega)
    have B111 : Bl w1 w11 := Eng.Ow.below hO8 hA11 B18 z8
    have e3 : u.classes.flatMap (defCl u) ++ ((u.statics.take (k + 1)).map fun s => dots u.name (nm u s.name)) = u.classes.flatMap (defCl u) ++ ((u.statics.take k).map fun s => dots u.name (nm u s.name)) ++ [dots u.name (nm u c.name)] := by
      rw [take_succ_some hc, List.map_append]; simp
    exact ih hlt ⟨a11, c11, by rw [e3], by rw [e3]; exact hO11, B111⟩
  refine brF ?_
  obtain rfl : k = u.statics.length := by omega
  clear ih
  rw [List.take_length] at hO dl3 ⊢
  generalize hD : (u.classes.flatMap (defCl u) ++ u.statics.map fun s => dots u.name (nm u s.name)) = D at *
  refine lpk (vals := [.slice a5 D.length c5]) u.methods.length 10 [5] [(1, .pointer (some ⟨b1, 0, none⟩))] (fun k vals w' => ∃ a5 c5, vals = [.slice a5 (D ++ (u.methods.take k).flatMap (defM u)).length c5] ∧ OwP 1 encStr w' w1.heap.size 9 a5 c5 (D ++ (u.methods.take k).flatMap (defM u)) ∧ Bl w1 w') ⟨a5, c5, by simp, by simpa using hO, B13⟩ ?_
  clear hO x3 z3 B13 hk hlt
  rintro k vals w3 hk ⟨a5, c5, rfl, hO, B13⟩ ih
  have z3 := B13.size
  have x3 := Bl.box B13 h1.box
  have ml := mth_len hL k hk
  have dl4 : (D ++ (u.methods.take k).flatMap (defM u)).length ≤ 110 := by rw [List.length_append]; omega
  refine ld (x3.cell rfl) ?_
  by_cases hlt : k < u.methods.length
  · refine brT ?_
    obtain ⟨c, b, o, cs, hc, e2, hSb, hAt, q1, s1, q2, s2, q3, s3, rfl, f1, f2, f3⟩ := at_some U1.mth hlt
    have hcm := List.mem_of_getElem? hc
    refine ld (x3.cell rfl) ?_
    rw [e2]
    refine ix ?_
    refine ld ((hAt.bl B13) 1 _ rfl) ?_
    refine br (t := decide (c.cls = -1)) (fun h => ?_) (fun h => ?_)
    · have hm1 := of_decide_eq_true h
      obtain ⟨b9, o9, e9, hS9, hc9, hz9, hi9, hp9⟩ := pool_at U1 (hP.mn c hcm)
      have e4 : defM u c = [dots u.name (nm u c.name)] := by unfold defM; rw [if_pos hm1]
      refine dh (fun i => i < w1.heap.size) (List.range 18) fun w7 h7 => ?_
      have B17 := B13.trans h7.bl
      have x7 := Bl.box B17 h1.box
      have z7 := B17.size
      refine ld (x7.cell rfl) ?_
      refine cat ?_
      refine ld (x7.cell rfl) ?_
      refine ld (x7.cell rfl) ?_
      rw [e2]
      refine ix ?_
      refine ld ((hAt.bl B17) 0 _ rfl) ?_
      rw [e9]
      refine ix (hij := hi9) ?_
      refine ld (B17.kp T _ _ _ trivial hc9) ?_
      refine cat ?_ (hab := by rw [ByteArray.size_append, hz1]; omega)
      refine bs fun b8 w8 h8 => ?_
      have B78 := h7.bl.trans h8.bl
      have B18 := B13.trans B78
      have z8 := B18.size
      have hO8 := hO.bl B78
      refine apl (enc := encStr) (l1 := [dots u.name (nm u c.name)]) hO8 (.inr ⟨b8, 0, rfl, h8.box.at⟩) z8 (fun a11 c11 w11 hO11 hA11 hf11 => ?_) (hb := by rw [List.length_singleton]; omega) (hn := by rw [List.length_singleton]; omega) (hm := apS (S := fun i => i < w1.heap.size) fun g hg => by have := (hO.lt hg).1; omega)
      have B111 : Bl w1 w11 := Eng.Ow.below hO8 hA11 B18 z8
      have e3 : D ++ (u.methods.take (k + 1)).flatMap (defM u) = D ++ (u.methods.take k).flatMap (defM u) ++ [dots u.name (nm u c.name)] := by
        rw [flatMap_snoc hc, e4, List.append_assoc]
      exact ih hlt ⟨a11, c11, by rw [e3], by rw [e3]; exact hO11, B111⟩
    · have hm1 := of_decide_eq_false h
      have e4 : defM u c = [] := by unfold defM; rw [if_neg hm1]
      have e3 : D ++ (u.methods.take (k + 1)).flatMap (defM u) = D ++ (u.methods.take k).flatMap (defM u) := by
        rw [flatMap_snoc hc, e4, List.append_nil]
      exact ih hlt ⟨a5, c5, by rw [e3], by rw [e3]; exact hO, B13⟩
  refine brF ?_
  obtain rfl : k = u.methods.length := by omega
  clear ih
  rw [List.take_length] at hO dl4 ⊢
  have eL : D ++ u.methods.flatMap (defM u) = defL u := by rw [defL_eq, hD]
  rw [eL] at hO dl4 ⊢
  refine cl (r_Sorted (defL u) a5 c5 T w3 (owp_sl (enc := encStr) hO (by omega) fun _ _ => trivial)) ?_
  rintro _ w9 ⟨out, a9, c9, rfl, hA, hlen, hO9, B39⟩
  have := tell_ok (w := w) (w' := w9) (e := checkE u) h0 hA hlen (hO9.base (base' := w.heap.size) (by omega)) ((h1.bl.trans B13).trans B39)
  rw [h0] at this ⊢
  exact rt2 this
end Go.Proofs.YtopjmiklpnejmaaGreatDoor

/- Walks: what a unit uses and needs, in the program. -/
namespace Go.Proofs.YtopjmiklpnejmaaGreatDoor
open Eng Go.RowKit
theorem useP_snoc (pre : List Rf) (r : Rf) (u : Unt) : useP (pre ++ [r]) u = useP pre u ++ if (decide (¬ r.parts = 1) && decide (0 ≤ r.at')) = true then [nm u r.at'] else [] := by
  unfold useP
  rw [List.filter_append, List.map_append]
  congr 1
  by_cases h : (decide (¬ r.parts = 1) && decide (0 ≤ r.at')) = true
  · rw [if_pos h, List.filter_eq_self.2 (fun x hx => by rw [List.mem_singleton.1 hx]; exact h)]; rfl
  · rw [if_neg h, List.filter_eq_nil_iff.2 (fun x hx => by rw [List.mem_singleton.1 hx]; exact h)]; rfl
theorem useP_len (pre : List Rf) (u : Unt) : (useP pre u).length ≤ pre.length := by
  unfold useP; rw [List.length_map]; exact List.length_filter_le _ _
/-- what the visitor of Uses keeps: all but one cell stays; this has the texts -/
structure UseJ (u : Unt) (bo : Nat) (w00 w0 : World) (pre : List Rf) (w : World) : Prop where
  cp : CpS w00 w0 bo w
  out : ∃ a c, Box w bo 25 [.slice a (useP pre u).length c] ∧ OwP 1 encStr w w0.heap.size 9 a c (useP pre u)
abbrev useS (bo : Nat) (w0 : World) : Nat → Prop := fun i => i < w0.heap.size ∧ i ≠ bo
theorem UseJ.bl {u : Unt} {bo : Nat} {w00 w0 : World} {pre : List Rf} {w w' : World} (h : UseJ u bo w00 w0 pre w) (k : Bl w w') : UseJ u bo w00 w0 pre w' := by
  obtain ⟨hc, a, c, hb, hO⟩ := h
  exact ⟨hc.bl k, a, c, Bl.box k hb, hO.bl k⟩
theorem v_use (u : Unt) (a : UA) (b1 bo : Nat) (hne : b1 ≠ bo) (w00 w0 : World) (hb1 : b1 < w0.heap.size) (hbo : bo < w0.heap.size) (hU : UnR (useS bo w0) w0 u a) (hx : At w0 b1 0 (ucells u a)) (N : Nat) (hN : N ≤ 4194304) :
    EachC (useS bo w0) w0 86 [.pointer (some ⟨bo, 0, none⟩), .pointer (some ⟨b1, 0, none⟩)] (UseJ u bo w00 w0) (fun r => 0 ≤ r.at' → inP u r.at') N := by
  refine ⟨fun pre w h => h.cp.kp, fun pre w w' k h => h.bl k, fun pre r b o w hlt hP hSb hJ hc => ?_⟩
  have hb1S : useS bo w0 b1 := ⟨hb1, hne⟩
  show Ret Tryz.prog 86 #[.agg #[.pointer (some ⟨b, o, none⟩), I r.parts, .bool r.opt], .pointer (some ⟨bo, 0, none⟩), .pointer (some ⟨b1, 0, none⟩)] w _
  refine entr (vs := [.agg #[.pointer (some ⟨b, o, none⟩), I r.parts, .bool r.opt], .pointer (some ⟨bo, 0, none⟩), .pointer (some ⟨b1, 0, none⟩)]) [0, 1, 2, 3, 13] tabok Tryz.func86 (by kernel_rfl) ?_
  refine bx (cs := [.pointer (some ⟨b, o, none⟩), I r.parts, .bool r.opt]) fun b4 w1 h1 => ?_
  have hJ1 := hJ.bl h1.bl
  refine ld (h1.box.cell rfl) ?_
  refine ldg (fun _ => h1.box.cell rfl) ?_
  refine ldg (fun _ => h1.bl.kp T _ _ _ trivial hc) ?_
  have e1 := useP_snoc pre r u
  refine br (t := decide (¬ r.parts = 1) && decide (0 ≤ r.at')) (fun h => ?_) (fun h => ?_)
  · rw [if_pos h] at e1
    simp only [Bool.and_eq_true, decide_eq_true_eq] at h
    have hin := hP h.2
    obtain ⟨b9, o9, e9, hS9, hc9, hz9, hi9, hp9⟩ := pool_at hU hin
    have hl := useP_len pre u
    have hz1 := hJ.cp.sz
    have hk1 := h1.blk
    refine dht 1 (fun i => i < w0.heap.size ∨ i = b4) (List.range 11) fun w2 h2 => ?_
    have hc2 := (h1.bl.trans h2.bl).kp T _ _ _ trivial hc
    obtain ⟨cp0, a2, c2, y0, hO0⟩ := hJ
    have hlt2 : ∀ g, a2 = some ⟨g, 0, none⟩ → g < w.heap.size := fun g hg => (hO0.lt hg).2
    have B02 := h1.bl.trans h2.bl
    have cp2 := cp0.bl B02
    have y2 := Bl.box B02 y0
    have hO2 := hO0.bl B02
    refine ld (y2.cell rfl) ?_
    refine ld ((hx.kp cp2.kp hb1S) 1 _ rfl) ?_
    refine ld ((h2.box h1.box).cell rfl) ?_ (hm := by exact Or.inr rfl)
    refine ld hc2 ?_ (hm := by exact Or.inl hSb.1)
    rw [e9]
    refine ix (hij := hi9) ?_
    refine ld (cp2.kp _ _ _ hS9 hc9) ?_ (hm := by exact Or.inl hS9.1)
    refine bs fun b3 w3 h3 => ?_
    have z3 := cp2.sz
    have z4 := h3.size
    have hO3 := hO2.bl h3.bl
    have hlo : ∀ g, a2 = some ⟨g, 0, none⟩ → w0.heap.size ≤ g := fun g hg => (hO2.lt hg).1
    refine apl (enc := encStr) (l1 := [nm u r.at']) hO3 (.inr ⟨b3, 0, rfl, h3.box.at⟩) (by omega) (fun a4 c4 w4 hO4 hA4 hf4 => ?_) (hb := by rw [List.length_singleton]; omega) (hn := by rw [List.length_singleton]; omega) (hm := apS (S := fun i => i < w0.heap.size ∨ i = b4) fun g hg => by have := hlo g hg; have := hlt2 g hg; omega)
    have y4 := hA4.box (Bl.box h3.bl y2) (fun e => by have := hlo _ e; omega)
    refine st y4 fun w5 k5 y5 => ?_
    refine en (vs := []) ⟨((cp2.bl h3.bl).ap hA4 hlo).wr k5 (.inl rfl), a4, c4, ?_, ?_⟩
    · rw [e1]; exact y5
    · rw [e1]; exact hO4.wr k5 fun g hg e => by
        rcases hf4 g hg with q | q
        · have := hlo g q; omega
        · omega
  · rw [if_neg (by rw [h]; simp), List.append_nil] at e1
    refine en (vs := []) ?_
    obtain ⟨cp1, q⟩ := hJ1
    exact ⟨cp1, by rw [e1]; exact q⟩
theorem ways_len {u : Unt} (hL : Lim u) (hc : ∀ m ∈ u.methods, m.code.length ≤ 120) : (waysU u).length ≤ 4000 := by
  have t : ∀ t : Ty, (tyU t).length ≤ 1 := fun t => by unfold tyU; split <;> simp
  have f : ∀ f : Fld, (fldU f).length ≤ 2 := fun x => by have := t x.ty; simp only [fldU, List.length_cons]; omega
  have c : ∀ c ∈ u.classes, (clsU c).length ≤ 16 := fun x hx => by
    have := flatMap_le (f := fldU) (B := 2) (l := x.fields) fun y _ => f y
    have := hL.flds x hx
    simp only [clsU, List.length_cons]; omega
  have o : ∀ i : Ins, (opU i).length ≤ 1 := fun i => by unfold opU; repeat (first | split | simp)
  have m : ∀ m ∈ u.methods, (mthU m).length ≤ 40 := fun x hx => by
    have h1 := flatMap_le (f := tyU) (B := 1) (l := x.params) fun y _ => t y
    have h2 := flatMap_le (f := tyU) (B := 1) (l := x.locals) fun y _ => t y
    have h3 := t x.result
    have h4 := hL.locs x hx
    simp only [mthU, List.length_cons, List.length_append, List.flatMap_cons, List.flatMap_nil, List.length_nil]; omega
  have h1 := flatMap_le (f := clsU) (B := 16) c
  have h2 := flatMap_le (f := fldU) (B := 2) (l := u.statics) fun y _ => f y
  have h3 := flatMap_le (f := mthU) (B := 40) m
  have h4 := flatMap_le (f := fun m : Mth => m.code.flatMap opU) (B := 120) (l := u.methods) fun x hx => by
    have := flatMap_le (f := opU) (B := 1) (l := x.code) fun y _ => o y
    have := hc x hx
    omega
  have := hL.cls
  have := hL.sta
  have := hL.mth
  unfold waysU headsU
  simp only [List.length_append]
  omega
theorem ways_in {u : Unt} (hC : CkU u) : ∀ r ∈ waysU u, 0 ≤ r.at' → inP u r.at' := fun r hr h0 => by
  have e := ways_any hC (p := fun q => decide (0 ≤ q.at') && decide ((u.pool.length : Int) ≤ q.at')) (fun q h => by simp [h]) (fun q s h1 h2 => by simp only [h1])
  rcases Int.lt_or_le r.at' u.pool.length with hi | hi
  · exact ⟨h0, hi⟩
  · have h1 : (waysU u).any (fun q => decide (0 ≤ q.at') && decide ((u.pool.length : Int) ≤ q.at')) = true := List.any_eq_true.2 ⟨r, hr, by simp [h0, hi]⟩
    rw [e, List.any_eq_true] at h1
    obtain ⟨q, hq, h2⟩ := h1
    simp only [Bool.and_eq_true, decide_eq_true_eq] at h2
    have := (all_in hC hq h2.1).1
    omega
theorem code_len {u : Unt} (hC : CkU u) : ∀ m ∈ u.methods, m.code.length ≤ 120 := fun m hm => by
  have := mErr_zero hC.me m hm
  unfold codeE at this
  split at this
  · cases this
  · omega
set_option maxHeartbeats 1000000 in
theorem u_Uses (u : Unt) (a : UA) (w : World) (hU : UnR T w u a) (hG : Gl w) : Ret Tryz.prog 33 #[.agg (ucells u a).toArray] w (TellR (checkE u) (useL u) w) := by
  refine entr (vs := [.agg (ucells u a).toArray]) [0, 1, 2, 3, 4, 5, 9] tabok Tryz.func33 (by kernel_rfl) ?_
  refine bx (cs := ucells u a) fun b1 w1 h1 => ?_
  refine lda h1.box.at ?_
  refine cl (u_Check u a w1 (hU.bl h1.bl) (hG.bl h1.bl)) ?_
  rintro _ w2 ⟨rfl, B12⟩
  have B02 := h1.bl.trans B12
  have z1 := h1.size
  have z2 := B12.size
  have y1 := h1.blk
  refine br (t := decide (¬ checkE u = 0)) (fun h => ?_) (fun h => ?_)
  · exact rt2 (tell_err (of_decide_eq_true h) B02)
  have h0 : checkE u = 0 := Classical.not_not.1 (of_decide_eq_false h)
  have hC := (ckU_iff u).1 h0
  refine al fun bo w3 h3 => ?_
  have z3 := h3.size
  have yo := h3.blk
  have B03 := B02.trans h3.bl
  have x3 := Bl.box (B12.trans h3.bl) h1.box
  have U3 : UnR (useS bo w3) w3 u a := ((hU.lt).bl B03).sub fun i hi => ⟨by omega, by omega⟩
  have hwl := ways_len (lim_of hC.lim) (code_len hC)
  have hE := v_use u a b1 bo (by omega) w w3 x3.lt (by omega) U3 x3.at (waysU u).length (by omega)
  have hJ3 : UseJ u bo w w3 [] w3 := ⟨CpS.refl B03 (by omega), none, 0, h3.box, Ow.nil ..⟩
  refine cl (h_uses hE u (ways_in hC) a U3 b1 0 ⟨x3.lt, by omega⟩ x3.at [] w3 hJ3 (by rw [List.length_nil, Nat.zero_add]; exact Nat.le_refl _)) ?_
  rintro v4 w4 hJ4
  rw [List.nil_append] at hJ4
  obtain ⟨cp4, a4, c4, y4, hO4⟩ := hJ4
  have hl := useP_len (waysU u) u
  have hlo : ∀ g, a4 = some ⟨g, 0, none⟩ → w3.heap.size ≤ g := fun g hg => (hO4.lt hg).1
  refine ld (y4.cell rfl) ?_
  refine cl (c_SortS (useP (waysU u) u) w3.heap.size a4 c4 w4 hO4 (by omega)) ?_
  rintro v5 w5 ⟨hO5, hA5⟩
  have y5 := hA5.box y4 (fun e => by have := hlo _ e; omega)
  refine ld (y5.cell rfl) ?_
  have e5 : (srt (useP (waysU u) u)).length = (useP (waysU u) u).length := by unfold srt; rw [List.length_mergeSort, List.length_map]
  rw [← e5] at hO5
  have hc := c_CompactS (srt (useP (waysU u) u)) w3.heap.size a4 c4 w5 hO5 (by omega) (sorted_le _)
  rw [e5] at hc
  refine cl hc ?_
  rintro _ w6 ⟨rfl, hO6, hA6⟩
  have hle := (compact_len (zs := srt (useP (waysU u) u)) (sorted_le _)).2
  have hcp6 := (cp4.ap hA5 hlo).ap hA6 hlo
  have ha := srt_compact (useP (waysU u) u)
  have e6 : ((Lib.compact (srt (useP (waysU u) u))).map ofL).length = (Lib.compact (srt (useP (waysU u) u))).length := List.length_map ..
  have := tell_ok (w := w) (w' := w6) (e := checkE u) (l := useL u) h0 (out := (Lib.compact (srt (useP (waysU u) u))).map ofL) (a' := a4) (c' := c4) ⟨ha.lt, fun x => (ha.mem x).trans (use_mem hC x)⟩ (by omega) (by
    unfold OwP; rw [e6, flat_ofL]; exact hO6.base (by omega)) hcp6.below
  rw [e6] at this
  rw [h0] at this ⊢
  exact rt2 this
theorem useL_mem {u : Unt} {x : ByteArray} (h : x ∈ useL u) : x ∈ u.pool := by
  simp only [useL, pickM, List.mem_map, List.mem_filter, List.mem_range] at h
  obtain ⟨i, ⟨h1, _⟩, rfl⟩ := h
  exact List.mem_of_getElem? (getD_at (l := u.pool) (i := i) h1)
theorem needP_snoc {u : Unt} {l : List ByteArray} {k : Nat} {x : ByteArray} (h : l[k]? = some x) : needP u (l.take (k + 1)) = needP u (l.take k) ++ if fstP x = u.name then [] else [fstP x] := by
  unfold needP
  rw [take_succ_some h, List.map_append, List.filter_append]
  congr 1
  by_cases e : fstP x = u.name <;> simp [e]
theorem needP_len (u : Unt) (l : List ByteArray) : (needP u l).length ≤ l.length := by
  unfold needP; exact Nat.le_trans (List.length_filter_le _ _) (by simp)
set_option maxHeartbeats 1000000 in
theorem u_Needs (u : Unt) (a : UA) (w : World) (hU : UnR T w u a) (hG : Gl w) : Ret Tryz.prog 35 #[.agg (ucells u a).toArray] w (TellR (checkE u) (needP u (useL u)) w) := by
  refine entr (vs := [.agg (ucells u a).toArray]) [0, 1, 2, 3, 4, 5, 6, 8, 9, 16, 18, 19, 20, 21, 29] tabok Tryz.func35 (by kernel_rfl) ?_
  refine bx (cs := ucells u a) fun b1 w1 h1 => ?_
  refine lda h1.box.at ?_
  refine cl (u_Uses u a w1 (hU.bl h1.bl) (hG.bl h1.bl)) ?_
  intro v w2 hT
  have z1 := h1.size
  have y1 := h1.blk
  by_cases h0 : checkE u = 0
  · unfold TellR at hT
    rw [if_pos h0] at hT
    obtain ⟨out, ao, co, rfl, hA, hlen, hO, B12⟩ := hT
    refine brF ?_ (hp := by simp)
    have hx2 := Bl.box B12 h1.box
    have hS : Sl eStr T w2 ao out := owp_sl (enc := encStr) hO hlen fun _ _ => trivial
    have hsz : ∀ x ∈ out, x.size ≤ 1048576 := fun x hx => hU.ps x (useL_mem ((hA.mem x).1 hx))
    refine lpk out.length 20 [6] [(1, .pointer (some ⟨b1, 0, none⟩)), (18, .slice ao out.length co), (19, I out.length)] (fun k vals w' => ∃ a6 c6, vals = [.slice a6 (needP u (out.take k)).length c6] ∧ OwP 1 encStr w' w2.heap.size 9 a6 c6 (needP u (out.take k)) ∧ Bl w2 w') ⟨none, 0, rfl, Ow.nil .., Bl.refl _⟩ ?_
    rintro k vals w3 hk ⟨a6, c6, rfl, hO3, B23⟩ ih
    have hle := needP_len u (out.take k)
    rw [List.length_take] at hle
    have z23 := B23.size
    by_cases hlt : k < out.length
    · refine brT ?_
      obtain ⟨x, b, o, cs, hx, e2, _, hAt, rfl⟩ := at_some (hS.bl B23) hlt
      have e1 := needP_snoc (u := u) hx
      rw [e2]
      refine ix ?_
      refine ld (hAt 0 _ rfl) ?_
      refine cl (u_first x w3 (hsz x (List.mem_of_getElem? hx)) (hG.bl ((h1.bl.trans B12).trans B23))) ?_
      rintro _ w4 ⟨rfl, B34⟩
      refine ld ((Bl.box (B23.trans B34) hx2).cell rfl) ?_
      refine br (t := decide (¬ fstP x = u.name)) (fun h => ?_) (fun h => ?_)
      · rw [if_neg (of_decide_eq_true h)] at e1
        refine bs fun b5 w5 h5 => ?_
        have B35 := B34.trans h5.bl
        have hO5 := hO3.bl B35
        refine apl (enc := encStr) (l1 := [fstP x]) hO5 (.inr ⟨b5, 0, rfl, h5.box.at⟩) (by have := B35.size; omega) (fun a7 c7 w7 hO7 hA7 hf7 => ?_) (hb := by rw [List.length_singleton]; omega) (hn := by rw [List.length_singleton]; omega)
        exact ih hlt ⟨a7, c7, by rw [e1], by rw [e1]; exact hO7, Eng.Ow.below hO5 hA7 (B23.trans B35) (by have := B35.size; omega)⟩ (hsub := by simp only [e2]; repeat (first | exact True.intro | (refine ⟨rfl, ?_⟩)))
      · rw [if_pos (Classical.not_not.1 (of_decide_eq_false h)), List.append_nil] at e1
        exact ih hlt ⟨a6, c6, by rw [e1], by rw [e1]; exact hO3.bl B34, B23.trans B34⟩ (hsub := by simp only [e2]; repeat (first | exact True.intro | (refine ⟨rfl, ?_⟩)))
    refine brF ?_
    obtain rfl : k = out.length := by omega
    clear ih
    rw [List.take_length] at hO3 hle ⊢
    refine cl (c_SortS (needP u out) w2.heap.size a6 c6 w3 hO3 (by omega)) ?_
    rintro v5 w5 ⟨hO5, hA5⟩
    have e5 : (srt (needP u out)).length = (needP u out).length := by unfold srt; rw [List.length_mergeSort, List.length_map]
    rw [← e5] at hO5
    have hc := c_CompactS (srt (needP u out)) w2.heap.size a6 c6 w5 hO5 (by omega) (sorted_le _)
    rw [e5] at hc
    refine cl hc ?_
    rintro _ w6 ⟨rfl, hO6, hA6⟩
    have hle6 := (compact_len (zs := srt (needP u out)) (sorted_le _)).2
    have ha := srt_compact (needP u out)
    have e6 : ((Lib.compact (srt (needP u out))).map ofL).length = (Lib.compact (srt (needP u out))).length := List.length_map ..
    have hlo : ∀ g, a6 = some ⟨g, 0, none⟩ → w2.heap.size ≤ g := fun g hg => (hO3.lt hg).1
    have B35 : Below w2.heap.size w3 w5 := hA5.below z23 hlo
    have B56 : Below w2.heap.size w5 w6 := hA6.below (Nat.le_trans z23 hA5.size) hlo
    have B26 : Bl w2 w6 := Below.trans (Below.trans B23 B35) B56
    have := tell_ok (w := w) (w' := w6) (e := checkE u) (l := needP u (useL u)) h0 (out := (Lib.compact (srt (needP u out))).map ofL) (a' := a6) (c' := c6) ⟨ha.lt, fun x => (ha.mem x).trans (need_mem hA.mem x)⟩ (by omega) (by
      unfold OwP; rw [e6, flat_ofL]; exact hO6.base (by have := B12.size; omega)) ((h1.bl.trans B12).trans B26)
    rw [e6] at this
    rw [h0] at this ⊢
    exact rt2 this
  · unfold TellR at hT
    rw [if_neg h0] at hT
    obtain ⟨rfl, B12⟩ := hT
    refine brT ?_ (hp := h0)
    exact rt2 (tell_err h0 (h1.bl.trans B12))
end Go.Proofs.YtopjmiklpnejmaaGreatDoor

/- Walks: what a unit uses and needs, in the document. -/
namespace Go.Proofs.YtopjmiklpnejmaaGreatDoor
open Eng Go.RowKit
/-- which places of a pool of n texts these name -/
def mkL (n : Nat) (rs : List Rf) : List Bool := (List.range n).map fun i : Nat => rs.any fun r => decide (r.at' = (i : Int))
theorem mkL_len (n : Nat) (rs : List Rf) : (mkL n rs).length = n := by unfold mkL; simp
theorem mkL_neg {n : Nat} {rs : List Rf} {r : Rf} (h : r.at' < 0) : mkL n (rs ++ [r]) = mkL n rs := by
  unfold mkL
  refine List.map_congr_left fun i _ => ?_
  rw [List.any_append]
  have : ¬ r.at' = (i : Int) := by omega
  simp [this]
theorem mkL_set {n : Nat} {rs : List Rf} {r : Rf} (h : 0 ≤ r.at') : (mkL n rs).set r.at'.toNat true = mkL n (rs ++ [r]) := by
  refine List.ext_getElem? fun i => ?_
  rw [List.getElem?_set, mkL_len]
  unfold mkL
  rw [List.getElem?_map, List.getElem?_map]
  rcases Nat.lt_or_ge i n with hi | hi
  · rw [List.getElem?_range hi]
    by_cases e : r.at'.toNat = i
    · have : r.at' = (i : Int) := by omega
      simp [this, hi]
    · have : ¬ r.at' = (i : Int) := by omega
      simp [e, this]
  · rw [List.getElem?_eq_none (by simpa using hi)]
    split
    · split
      · omega
      · rfl
    · rfl
theorem flat_bool {l : List Bool} {i : Nat} {b : Bool} : (l.flatMap encBool).set i (.bool b) = (l.set i b).flatMap encBool := by
  have e : ∀ l : List Bool, l.flatMap encBool = l.map Value.bool := fun l => by
    induction l with
    | nil => rfl
    | cons x l ih => rw [List.flatMap_cons, ih]; rfl
  rw [e, e, List.map_set]
theorem mkL_nil (n : Nat) : mkL n [] = List.replicate n false := by
  unfold mkL
  refine List.ext_getElem? fun i => ?_
  rw [List.getElem?_map, List.getElem?_replicate]
  split
  · rename_i h; rw [List.getElem?_range h]; rfl
  · rename_i h; rw [List.getElem?_eq_none (by simpa using h)]; rfl
theorem mkL_zero (n : Nat) : (mkL n []).flatMap encBool = rep n [.bool false] := by
  induction n with
  | zero => rfl
  | succ n ih =>
    have e : List.replicate (n + 1) false = List.replicate n false ++ [false] := List.replicate_succ' ..
    rw [mkL_nil] at ih ⊢
    rw [e, List.flatMap_append, ih]; rfl
theorem cref_len7 {u : Unt} (hL : Lim u) : (refs u).length ≤ 4000 := by
  have f : ∀ f : Fld, (fref f).length = 2 := fun x => by simp [fref]
  have c : ∀ c ∈ u.classes, (cref c).length ≤ 16 := fun x hx => by
    have := flatMap_le (f := fref) (B := 2) (l := x.fields) fun y _ => Nat.le_of_eq (f y)
    have := hL.flds x hx
    simp only [cref, List.length_cons, List.length_append, List.length_nil]; omega
  have m : ∀ m ∈ u.methods, (mref m).length ≤ 40 := fun x hx => by
    have h4 := hL.locs x hx
    simp only [mref, List.length_cons, List.length_append, List.length_map, List.length_nil]; omega
  have h1 := flatMap_le (f := cref) (B := 16) c
  have h2 := flatMap_le (f := fref) (B := 2) (l := u.statics) fun y _ => Nat.le_of_eq (f y)
  have h3 := flatMap_le (f := mref) (B := 40) m
  have := hL.cls
  have := hL.sta
  have := hL.mth
  unfold refs
  simp only [List.length_append]
  omega
def opR (i : Ins) : List Rf := if 0 < (operand i).2 then [⟨(operand i).1, (operand i).2, false⟩] else []
/-- a mark is set -/
theorem mark_set {w w' : World} {base g n c : Nat} {rs : List Rf} {r : Rf} (hO : OwP 1 encBool w base 4 (some ⟨g, 0, none⟩) c (mkL n rs)) {cur : List Value} (hb : Box w g 4 cur) (hb' : Box w' g 4 (cur.set r.at'.toNat (.bool true))) (h : 0 ≤ r.at') : OwP 1 encBool w' base 4 (some ⟨g, 0, none⟩) c (mkL n (rs ++ [r])) := by
  have := Eng.Ow.set hO hb hb'
  rw [flat_bool, mkL_set h] at this
  unfold OwP
  rw [mkL_len] at this ⊢
  exact this
set_option maxHeartbeats 1000000 in
theorem r_marks (u : Unt) (a : UA) (w : World) (hU : UnR T w u a) (hC : CkU u) : Ret Tryz.prog 88 #[.agg (ucells u a).toArray] w fun v w' => ∃ a' c, v = .slice a' u.pool.length c ∧ Sl eBool T w' a' (mkL u.pool.length (allRefs u)) ∧ Bl w w' := by
  have hL := lim_of hC.lim
  have hp := hL.pool
  have n3 := hU.mth.big
  have n4 := cref_len7 hL
  refine entr (vs := [.agg (ucells u a).toArray]) [0, 1, 2, 3, 4, 5, 6, 7, 8, 9, 19, 27, 39, 50, 67] tabok Tryz.func88 (by kernel_rfl) ?_
  refine bx (cs := ucells u a) fun b1 w1 h1 => ?_
  have z1 := h1.size
  have y1 := h1.blk
  refine ld (h1.box.cell rfl) ?_
  refine mk fun b3 w3 h3 => ?_
  have z3 := h3.size
  have y3 := h3.blk
  have B13 := h3.bl
  have hx3 := Bl.box h3.bl h1.box
  refine lda hx3.at ?_
  refine cl (r_Refs u a w3 (hU.bl (h1.bl.trans B13)) hL) ?_
  rintro _ w4 ⟨a4, c4, rfl, hR, B34⟩
  have z4 := B34.size
  have hO4 : OwP 1 encBool w4 w1.heap.size 4 (some ⟨b3, 0, none⟩) u.pool.length (mkL u.pool.length []) := by
    have := (Ow.made (n := u.pool.length) h3 (by rw [rep_length]) (by omega)).base (base' := w1.heap.size) (by omega)
    unfold OwP
    rw [mkL_len, mkL_zero]
    exact this.bl B34
  refine lpk (refs u).length 5 [] [(1, .pointer (some ⟨b1, 0, none⟩)), (3, .slice (some ⟨b3, 0, none⟩) u.pool.length u.pool.length), (4, .slice a4 (refs u).length c4)] (fun k vals w' => vals = [] ∧ OwP 1 encBool w' w1.heap.size 4 (some ⟨b3, 0, none⟩) u.pool.length (mkL u.pool.length ((refs u).take k)) ∧ CpS w w4 b3 w') ⟨rfl, hO4, CpS.refl ((h1.bl.trans B13).trans B34) (by omega)⟩ ?_
  rintro k vals w5 hk ⟨rfl, hO5, S5⟩ ih
  by_cases hlt : k < (refs u).length
  · refine brT ?_
    obtain ⟨r, b, o, cs, hr, e2, hSb, hAt, rfl⟩ := at_some hR hlt
    have hlb : b < w4.heap.size := cell_lt (hAt 0 _ rfl)
    have hAt5 := hAt.kp S5.kp ⟨hlb, by omega⟩
    have hrm := List.mem_of_getElem? hr
    rw [e2]
    refine ix ?_
    refine ld (hAt5 0 _ rfl) ?_
    refine br (t := decide (0 ≤ r.at')) (fun h => ?_) (fun h => ?_)
    · have h0 := of_decide_eq_true h
      have hin := (all_in hC (List.mem_append_left _ hrm) h0).1
      refine ix ?_
      refine ld (hAt5 0 _ rfl) ?_
      refine ix (hij := int_nat h0) ?_
      obtain ⟨cur, hb, hcl, _, _, hcl2⟩ := Eng.Ow.box hO5
      rw [mkL_len] at hcl2
      refine stx hb (fun w6 k6 hb6 => ?_) (ho := by omega)
      refine ih hlt ⟨rfl, ?_, S5.wr k6 (.inl rfl)⟩ (hsub := by simp only [e2]; repeat (first | exact True.intro | (refine ⟨rfl, ?_⟩)))
      rw [take_succ_some hr]
      exact mark_set hO5 hb (by simpa using hb6) h0
    · have h0 : r.at' < 0 := by have := of_decide_eq_false h; omega
      refine ih hlt ⟨rfl, ?_, S5⟩ (hsub := by simp only [e2]; repeat (first | exact True.intro | (refine ⟨rfl, ?_⟩)))
      rw [take_succ_some hr, mkL_neg h0]; exact hO5
  refine brF ?_
  obtain rfl : k = (refs u).length := by omega
  rw [List.take_length] at hO5
  clear ih
  have hx4 := Bl.box B34 hx3
  have U4 : UnR (fun b => b < w4.heap.size ∧ b ≠ b3) w4 u a := ((hU.lt).bl ((h1.bl.trans B13).trans B34)).sub fun i hi => ⟨by omega, by omega⟩
  have hb14 : b1 < w4.heap.size ∧ b1 ≠ b3 := ⟨by omega, by omega⟩
  refine lpk u.methods.length 6 [] [(1, .pointer (some ⟨b1, 0, none⟩)), (3, .slice (some ⟨b3, 0, none⟩) u.pool.length u.pool.length)] (fun k vals w' => vals = [] ∧ OwP 1 encBool w' w1.heap.size 4 (some ⟨b3, 0, none⟩) u.pool.length (mkL u.pool.length (refs u ++ (u.methods.take k).flatMap fun m => m.code.flatMap opR)) ∧ CpS w w4 b3 w') ⟨rfl, by simpa using hO5, S5⟩ ?_
  clear hO5 S5 hlt hk
  rintro k vals w5 hk ⟨rfl, hO5, S5⟩ ih
  have X : ∀ {w'}, CpS w w4 b3 w' → At w' b1 0 (ucells u a) := fun h => (hx4.at).kp h.kp hb14
  refine ld (X S5 4 _ rfl) ?_
  by_cases hlt : k < u.methods.length
  · refine brT ?_
    obtain ⟨m, b, o, cs, hm, e2, hSb, hAt, q1, s1, q2, s2, q3, s3, rfl, f1, f2, f3⟩ := at_some U4.mth hlt
    have hmm := List.mem_of_getElem? hm
    have ncod := f3.big
    refine lpk m.code.length 7 [] [(1, .pointer (some ⟨b1, 0, none⟩)), (3, .slice (some ⟨b3, 0, none⟩) u.pool.length u.pool.length), (6, I k)] (fun j vals w' => vals = [] ∧ OwP 1 encBool w' w1.heap.size 4 (some ⟨b3, 0, none⟩) u.pool.length (mkL u.pool.length (refs u ++ (u.methods.take k).flatMap (fun m => m.code.flatMap opR) ++ (m.code.take j).flatMap opR)) ∧ CpS w w4 b3 w') ⟨rfl, by simpa using hO5, S5⟩ ?_
    clear hO5 S5
    rintro j vals w6 hj ⟨rfl, hO6, S6⟩ ih2
    have hAt6 := hAt.kp S6.kp hSb
    refine ld (X S6 4 _ rfl) ?_
    rw [e2]
    refine ix ?_
    refine ld (hAt6 6 _ rfl) ?_
    by_cases hlt2 : j < m.code.length
    · refine brT ?_
      obtain ⟨i, b9, o9, cs, hi, e9, hS9, hAt9, rfl⟩ := at_some f3 hlt2
      have him := List.mem_of_getElem? hi
      refine ld (X S6 4 _ rfl) ?_
      rw [e2]
      refine ix ?_
      refine ld (hAt6 6 _ rfl) ?_
      rw [e9]
      refine ix ?_
      refine lda (hAt9.kp S6.kp hS9) ?_
      refine cl (r_Operand i w6) ?_
      rintro _ w7 ⟨rfl, B67⟩
      have hO7 := hO6.bl B67
      have S7 := S6.bl B67
      refine br (t := decide (0 < (operand i).2)) (fun h => ?_) (fun h => ?_)
      · have hp := of_decide_eq_true h
        have hr : (⟨(operand i).1, (operand i).2, false⟩ : Rf) ∈ allRefs u := List.mem_append_right _ (List.mem_flatMap.2 ⟨m, hmm, List.mem_flatMap.2 ⟨i, him, by rw [if_pos hp]; exact List.mem_singleton.2 rfl⟩⟩)
        have h0 : 0 ≤ (operand i).1 := operand_ge i (code_valid hC hmm him) hp
        have hin : (operand i).1 < u.pool.length := (all_in hC hr h0).1
        refine ix (hij := int_nat h0) ?_
        obtain ⟨cur, hb, hcl, _, _, hcl2⟩ := Eng.Ow.box hO7
        rw [mkL_len] at hcl2
        refine stx hb (fun w8 k8 hb8 => ?_) (ho := by omega)
        refine ih2 hlt2 ⟨rfl, ?_, S7.wr k8 (.inl rfl)⟩
        rw [flatMap_snoc hi, ← List.append_assoc]
        have eo : opR i = [⟨(operand i).1, (operand i).2, false⟩] := by unfold opR; rw [if_pos hp]
        rw [eo]
        exact mark_set hO7 hb (by simpa using hb8) h0
      · have hp := of_decide_eq_false h
        refine ih2 hlt2 ⟨rfl, ?_, S7⟩
        have eo : opR i = [] := by unfold opR; rw [if_neg hp]
        rw [flatMap_snoc hi, eo, List.append_nil]
        exact hO7
    · refine brF ?_
      obtain rfl : j = m.code.length := by omega
      rw [List.take_length] at hO6
      refine ih hlt ⟨rfl, ?_, S6⟩
      rw [flatMap_snoc hm, ← List.append_assoc]
      exact hO6
  refine brF ?_
  obtain rfl : k = u.methods.length := by omega
  rw [List.take_length] at hO5
  refine rt1 ⟨some ⟨b3, 0, none⟩, u.pool.length, rfl, owp_sl (enc := encBool) hO5 (by rw [mkL_len]; omega) (fun _ _ => trivial), S5.below⟩
theorem mkL_at {u : Unt} {i : Nat} {b : Bool} (h : (mkL u.pool.length (allRefs u))[i]? = some b) : b = mkd u i := by
  unfold mkL at h
  rw [List.getElem?_map] at h
  obtain ⟨j, hj, rfl⟩ := Option.map_eq_some_iff.1 h
  have hlt := (List.getElem?_eq_some_iff.1 hj).1
  rw [List.length_range] at hlt
  rw [List.getElem?_range hlt] at hj
  obtain rfl := Option.some.inj hj
  rfl
def pickK (u : Unt) (q : Nat → Bool) (k : Nat) : List ByteArray := ((List.range k).filter q).map fun i : Nat => nm u (i : Int)
theorem pickK_succ (u : Unt) (q : Nat → Bool) (k : Nat) : pickK u q (k + 1) = pickK u q k ++ if q k = true then [nm u (k : Int)] else [] := by
  unfold pickK
  rw [List.range_succ, List.filter_append, List.map_append]
  congr 1
  by_cases h : q k = true <;> simp [h]
theorem pickK_len (u : Unt) (q : Nat → Bool) (k : Nat) : (pickK u q k).length ≤ k := by
  unfold pickK; rw [List.length_map]; exact Nat.le_trans (List.length_filter_le _ _) (by simp)
abbrev useQ (u : Unt) (i : Nat) : Bool := mkd u i && decide (1 < path (nm u (i : Int)))
set_option maxHeartbeats 1000000 in
theorem r_Uses (u : Unt) (a : UA) (w : World) (hU : UnR T w u a) : Ret Tryz.prog 34 #[.agg (ucells u a).toArray] w (TellR (checkE u) (useL u) w) := by
  have hbig := hU.pool.big
  refine entr (vs := [.agg (ucells u a).toArray]) [0, 1, 2, 3, 4, 5, 6, 7, 11, 19, 34] tabok Tryz.func34 (by kernel_rfl) ?_
  refine bx (cs := ucells u a) fun b1 w1 h1 => ?_
  refine lda h1.box.at ?_
  refine cl (r_Check u a w1 (hU.bl h1.bl)) ?_
  rintro _ w2 ⟨rfl, B12⟩
  have B02 := h1.bl.trans B12
  have z1 := h1.size
  have z2 := B12.size
  have y1 := h1.blk
  refine br (t := decide (¬ checkE u = 0)) (fun h => ?_) (fun h => ?_)
  · exact rt2 (tell_err (of_decide_eq_true h) B02)
  have h0 : checkE u = 0 := Classical.not_not.1 (of_decide_eq_false h)
  have hC := (ckU_iff u).1 h0
  have hx2 := Bl.box B12 h1.box
  refine lda hx2.at ?_
  refine cl (r_marks u a w2 (hU.bl B02) hC) ?_
  rintro _ w3 ⟨a3, c3, rfl, hM, B23⟩
  have hx3 := Bl.box B23 hx2
  have z3 := B23.size
  have hm3 := mkL_len u.pool.length (allRefs u)
  refine lpk u.pool.length 7 [6] [(1, .pointer (some ⟨b1, 0, none⟩)), (5, .slice a3 u.pool.length c3)] (fun k vals w' => ∃ a6 c6, vals = [.slice a6 (pickK u (useQ u) k).length c6] ∧ OwP 1 encStr w' w3.heap.size 9 a6 c6 (pickK u (useQ u) k) ∧ Bl w3 w') ⟨none, 0, rfl, Ow.nil .., Bl.refl _⟩ ?_
  rintro k vals w4 hk ⟨a6, c6, rfl, hO4, B34⟩ ih
  have hle := pickK_len u (useQ u) k
  have z34 := B34.size
  have X4 := Bl.box B34 hx3
  refine ld (X4.cell rfl) ?_
  by_cases hlt : k < u.pool.length
  · refine brT ?_
    obtain ⟨fl, b, o, cs, hf, e2, _, hAt, rfl⟩ := at_some (hM.bl B34) (i := k) (by omega)
    obtain rfl := mkL_at hf
    obtain ⟨s, b5, o5, cs, hs, e5, _, hAt5, rfl⟩ := at_some (hU.bl ((B02.trans B23).trans B34)).pool hlt
    have es : nm u (k : Int) = s := nm_at hs
    have e1 := pickK_succ u (useQ u) k
    rw [e2]
    refine ix ?_
    refine ld (hAt 0 _ rfl) ?_
    cases hm : mkd u k with
    | true =>
      refine spt (.slice none 0 0) ?_
      refine ld (X4.cell rfl) ?_
      rw [e5]
      refine spt (.pointer none) ?_
      refine ix ?_
      refine spt (.string ⟨#[]⟩) ?_
      refine ld (hAt5 0 _ rfl) ?_
      refine spt (I 0) ?_
      refine cl (r_Path s w4 (hU.ps s (List.mem_of_getElem? hs))) ?_
      rintro _ w5 ⟨rfl, B45⟩
      refine br (t := true && decide ((1 : Int) < path s)) (fun h => ?_) (fun h => ?_)
      · have hp : 1 < path s := by simp at h; omega
        rw [if_pos (by simp [useQ, hm, es, hp]), es] at e1
        refine ld ((Bl.box B45 X4).cell rfl) ?_
        rw [e5]
        refine ix ?_
        refine ld ((hAt5.bl B45) 0 _ rfl) ?_
        refine bs fun b7 w7 h7 => ?_
        have B47 := B45.trans h7.bl
        have hO7 := hO4.bl B47
        refine apl (enc := encStr) (l1 := [s]) hO7 (.inr ⟨b7, 0, rfl, h7.box.at⟩) (by have := B47.size; omega) (fun a8 c8 w8 hO8 hA8 hf8 => ?_) (hb := by rw [List.length_singleton]; omega) (hn := by rw [List.length_singleton]; omega)
        exact ih hlt ⟨a8, c8, by rw [e1], by rw [e1]; exact hO8, Eng.Ow.below hO7 hA8 (B34.trans B47) (by have := B47.size; omega)⟩ (hsub := by simp only [e2]; repeat (first | exact True.intro | (refine ⟨rfl, ?_⟩)))
      · have hp : ¬ 1 < path s := by simp at h; omega
        rw [if_neg (by simp [useQ, hm, es, hp]), List.append_nil] at e1
        exact ih hlt ⟨a6, c6, by rw [e1], by rw [e1]; exact hO4.bl B45, B34.trans B45⟩ (hsub := by simp only [e2]; repeat (first | exact True.intro | (refine ⟨rfl, ?_⟩)))
    | false =>
      rw [if_neg (by simp [useQ, hm]), List.append_nil] at e1
      refine spn (.slice none 0 0) ?_
      refine spn (.pointer none) ?_
      refine spn (.string ⟨#[]⟩) ?_
      refine spn (I 0) ?_
      refine brf ?_
      exact ih hlt ⟨a6, c6, by rw [e1], by rw [e1]; exact hO4, B34⟩ (hsub := by simp only [e2]; repeat (first | exact True.intro | (refine ⟨rfl, ?_⟩)))
  refine brF ?_
  obtain rfl : k = u.pool.length := by omega
  clear ih
  have eL : pickK u (useQ u) u.pool.length = useL u := rfl
  rw [eL] at hO4 hle ⊢
  refine cl (r_Sorted (useL u) a6 c6 T w4 (owp_sl (enc := encStr) hO4 (by omega) fun _ _ => trivial)) ?_
  rintro _ w5 ⟨out, a5, c5, rfl, hA, hlen, hO5, B45⟩
  have := tell_ok (w := w) (w' := w5) (e := checkE u) h0 hA hlen (hO5.base (base' := w.heap.size) (by omega)) (((B02.trans B23).trans B34).trans B45)
  rw [h0] at this ⊢
  exact rt2 this
set_option maxHeartbeats 1000000 in
theorem r_Needs (u : Unt) (a : UA) (w : World) (hU : UnR T w u a) : Ret Tryz.prog 36 #[.agg (ucells u a).toArray] w (TellR (checkE u) (needP u (useL u)) w) := by
  refine entr (vs := [.agg (ucells u a).toArray]) [0, 1, 2, 3, 4, 5, 6, 7, 8, 15, 20, 33] tabok Tryz.func36 (by kernel_rfl) ?_
  refine bx (cs := ucells u a) fun b1 w1 h1 => ?_
  refine lda h1.box.at ?_
  refine cl (r_Uses u a w1 (hU.bl h1.bl)) ?_
  intro v w2 hT
  have z1 := h1.size
  have y1 := h1.blk
  by_cases h0 : checkE u = 0
  · unfold TellR at hT
    rw [if_pos h0] at hT
    obtain ⟨out, ao, co, rfl, hA, hlen, hO, B12⟩ := hT
    refine brF ?_ (hp := by simp)
    have hx2 := Bl.box B12 h1.box
    have hS : Sl eStr T w2 ao out := owp_sl (enc := encStr) hO hlen fun _ _ => trivial
    have hsz : ∀ x ∈ out, x.size ≤ 1048576 := fun x hx => hU.ps x (useL_mem ((hA.mem x).1 hx))
    refine lpk out.length 7 [6] [(1, .pointer (some ⟨b1, 0, none⟩)), (4, .slice ao out.length co)] (fun k vals w' => ∃ a6 c6, vals = [.slice a6 (needP u (out.take k)).length c6] ∧ OwP 1 encStr w' w2.heap.size 9 a6 c6 (needP u (out.take k)) ∧ Bl w2 w') ⟨none, 0, rfl, Ow.nil .., Bl.refl _⟩ ?_
    rintro k vals w3 hk ⟨a6, c6, rfl, hO3, B23⟩ ih
    have hle := needP_len u (out.take k)
    rw [List.length_take] at hle
    have z23 := B23.size
    by_cases hlt : k < out.length
    · refine brT ?_
      obtain ⟨x, b, o, cs, hx, e2, _, hAt, rfl⟩ := at_some (hS.bl B23) hlt
      have e1 := needP_snoc (u := u) hx
      rw [e2]
      refine ix ?_
      refine ld (hAt 0 _ rfl) ?_
      refine cl (r_Parts x w3 (hsz x (List.mem_of_getElem? hx))) ?_
      rintro _ w4 ⟨ap, cp, rfl, hP, B34⟩
      have hpos : 0 < (partsB x).length := by
        unfold partsB
        rw [List.length_map]
        exact List.length_pos_iff.2 (cutDot_ne _)
      obtain ⟨p0, b0, o0, cs0, hs0, e0, _, hAt0, rfl⟩ := at_some hP (i := 0) hpos
      have ep : p0 = fstP x := by
        unfold fstP
        cases hq : partsB x with
        | nil => rw [hq] at hpos; cases hpos
        | cons y l => rw [hq] at hs0; simpa using hs0.symm
      subst ep
      rw [e0]
      refine ix (j := 0) ?_
      refine ld (hAt0 0 _ rfl) ?_
      refine ld ((Bl.box (B23.trans B34) hx2).cell rfl) ?_
      refine br (t := decide (¬ fstP x = u.name)) (fun h => ?_) (fun h => ?_)
      · rw [if_neg (of_decide_eq_true h)] at e1
        refine bs fun b5 w5 h5 => ?_
        have B35 := B34.trans h5.bl
        have hO5 := hO3.bl B35
        refine apl (enc := encStr) (l1 := [fstP x]) hO5 (.inr ⟨b5, 0, rfl, h5.box.at⟩) (by have := B35.size; omega) (fun a7 c7 w7 hO7 hA7 hf7 => ?_) (hb := by rw [List.length_singleton]; omega) (hn := by rw [List.length_singleton]; omega)
        exact ih hlt ⟨a7, c7, by rw [e1], by rw [e1]; exact hO7, Eng.Ow.below hO5 hA7 (B23.trans B35) (by have := B35.size; omega)⟩ (hsub := by simp only [e2]; repeat (first | exact True.intro | (refine ⟨rfl, ?_⟩)))
      · rw [if_pos (Classical.not_not.1 (of_decide_eq_false h)), List.append_nil] at e1
        exact ih hlt ⟨a6, c6, by rw [e1], by rw [e1]; exact hO3.bl B34, B23.trans B34⟩ (hsub := by simp only [e2]; repeat (first | exact True.intro | (refine ⟨rfl, ?_⟩)))
    refine brF ?_
    obtain rfl : k = out.length := by omega
    clear ih
    rw [List.take_length] at hO3 hle ⊢
    refine cl (r_Sorted (needP u out) a6 c6 T w3 (owp_sl (enc := encStr) hO3 (by omega) fun _ _ => trivial)) ?_
    rintro _ w5 ⟨out2, a5, c5, rfl, hA2, hlen2, hO5, B35⟩
    have := tell_ok (w := w) (w' := w5) (e := checkE u) (l := needP u (useL u)) h0 ⟨hA2.lt, fun x => (hA2.mem x).trans (need_mem hA.mem x)⟩ hlen2 (hO5.base (base' := w.heap.size) (by have := B12.size; omega)) (((h1.bl.trans B12).trans B23).trans B35)
    rw [h0] at this ⊢
    exact rt2 this
  · unfold TellR at hT
    rw [if_neg h0] at hT
    obtain ⟨rfl, B12⟩ := hT
    refine brT ?_ (hp := h0)
    exact rt2 (tell_err h0 (h1.bl.trans B12))
end Go.Proofs.YtopjmiklpnejmaaGreatDoor

/- Walks: the law UnitTells. -/
namespace Go.Proofs.YtopjmiklpnejmaaGreatDoor
open Eng Go.RowKit
theorem tell_any {e : Int} {l : List ByteArray} {w w' : World} {v : Value} (h : TellR e l w v w') : ∃ out a c, v = .tuple #[.slice a out.length c, I e] ∧ Sl eStr T w' a out ∧ Bl w w' ∧ if e = 0 then Asc l out else out = [] := by
  unfold TellR at h
  split at h
  · rename_i h0
    obtain ⟨out, a, c, rfl, hA, hl, hO, hB⟩ := h
    exact ⟨out, a, c, by rw [h0], owp_sl (enc := encStr) hO hl fun _ _ => trivial, hB, by rw [if_pos h0]; exact hA⟩
  · rename_i h0
    obtain ⟨rfl, hB⟩ := h
    exact ⟨[], none, 0, rfl, Sl.nil .., hB, by rw [if_neg h0]⟩
theorem tell_eq {e : Int} {l : List ByteArray} {x y : List ByteArray} (h1 : if e = 0 then Asc l x else x = []) (h2 : if e = 0 then Asc l y else y = []) : x = y := by
  split at h1
  · rename_i h0
    rw [if_pos h0] at h2
    exact h1.eq h2 fun _ => Iff.rfl
  · rename_i h0
    rw [if_neg h0] at h2
    rw [h1, h2]
theorem l_Tells (u : Unt) (a : UA) (w : World) (hU : UnR T w u a) (hG : Gl w) : Ret Tryz.prog 8 #[.agg (ucells u a).toArray] w fun x w' => x = .bool true ∧ Bl w w' := by
  refine entr (vs := [.agg (ucells u a).toArray]) [0, 1, 2, 3, 4, 5, 6, 7, 8, 9, 10, 11, 12, 13, 14, 16] tabok Tryz.func8 (by kernel_rfl) ?_
  refine bx (cs := ucells u a) fun b1 w1 h1 => ?_
  have B01 := h1.bl
  refine lda h1.box.at ?_
  refine cl (l_heavy u a w1 (hU.bl B01)) ?_
  rintro _ w2 ⟨hv, rfl, B12⟩
  have B02 := B01.trans B12
  have x2 := Bl.box B12 h1.box
  cases hv with
  | true =>
    refine br (fun _ => ?_) (fun q => ?_)
    · refine cl (l_sane w2 (hG.bl B02)) ?_
      rintro _ w3 ⟨rfl, h3⟩
      exact rt1 ⟨rfl, B02.trans h3⟩
    · cases q
  | false =>
  refine br (fun q => ?_) (fun _ => ?_)
  · cases q
  refine lda x2.at ?_
  refine cl (u_Defines u a w2 (hU.bl B02) (hG.bl B02)) ?_
  intro v w3 hT
  obtain ⟨o1, a1, c1, rfl, S1, B23, A1⟩ := tell_any hT
  clear hT
  have B03 := B02.trans B23
  have x3 := Bl.box B23 x2
  refine lda x3.at ?_
  refine cl (r_Defines u a w3 (hU.bl B03)) ?_
  intro v w4 hT
  obtain ⟨o2, a2, c2, rfl, S2, B34, A2⟩ := tell_any hT
  clear hT
  obtain rfl := tell_eq A1 A2
  have B04 := B03.trans B34
  have x4 := Bl.box B34 x3
  refine lda x4.at ?_
  refine cl (u_Uses u a w4 (hU.bl B04) (hG.bl B04)) ?_
  intro v w5 hT
  obtain ⟨o3, a3, c3, rfl, S3, B45, A3⟩ := tell_any hT
  clear hT
  have B05 := B04.trans B45
  have x5 := Bl.box B45 x4
  refine lda x5.at ?_
  refine cl (r_Uses u a w5 (hU.bl B05)) ?_
  intro v w6 hT
  obtain ⟨o4, a4, c4, rfl, S4, B56, A4⟩ := tell_any hT
  clear hT
  obtain rfl := tell_eq A3 A4
  have B06 := B05.trans B56
  have x6 := Bl.box B56 x5
  refine lda x6.at ?_
  refine cl (u_Needs u a w6 (hU.bl B06) (hG.bl B06)) ?_
  intro v w7 hT
  obtain ⟨o5, a5, c5, rfl, S5, B67, A5⟩ := tell_any hT
  clear hT
  have B07 := B06.trans B67
  have x7 := Bl.box B67 x6
  refine lda x7.at ?_
  refine cl (r_Needs u a w7 (hU.bl B07)) ?_
  intro v w8 hT
  obtain ⟨o6, a6, c6, rfl, S6, B78, A6⟩ := tell_any hT
  clear hT
  obtain rfl := tell_eq A5 A6
  have B08 := B07.trans B78
  have T38 := ((B34.trans B45).trans (B56.trans B67)).trans B78
  have T48 := (B45.trans (B56.trans B67)).trans B78
  have T58 := (B56.trans B67).trans B78
  have T68 := B67.trans B78
  refine spt (.bool false) ?_
  refine cl (r_SameStrings o1 o1 a1 a2 c1 c2 w8 (S1.bl T38) (S2.bl T48)) ?_
  rintro _ w9 ⟨rfl, B89⟩
  have B09 := B08.trans B89
  refine spt (.bool false) ?_
  refine cl (r_SameStrings o3 o3 a3 a4 c3 c4 w9 ((S3.bl T58).bl B89) ((S4.bl T68).bl B89)) ?_
  rintro _ w10 ⟨rfl, B910⟩
  have B010 := B09.trans B910
  refine spt (.bool false) ?_
  refine cl (r_SameStrings o5 o5 a5 a6 c5 c6 w10 (((S5.bl B78).bl B89).bl B910) ((S6.bl B89).bl B910)) ?_
  rintro _ w11 ⟨rfl, B1011⟩
  have B011 := B010.trans B1011
  refine spt (.bool false) ?_
  refine cl (l_sane w11 (hG.bl B011)) ?_
  rintro _ w12 ⟨rfl, B1112⟩
  refine rt1 ⟨vb ?_, B011.trans B1112⟩
  simp
end Go.Proofs.YtopjmiklpnejmaaGreatDoor

/- A unit whose lists lie in rows of the call's own, each in a block of its own. -/
namespace Go.Proofs.YtopjmiklpnejmaaGreatDoor
open Eng Go.RowKit
theorem Eng.Wr.ap {w w' : World} {b : Nat} (h : Wr w b w') : Ap w (some ⟨b, 0, none⟩) w' := ⟨h.os, h.tape, h.output, by rw [h.size]; exact Nat.le_refl _, fun k _ hn => h.block k fun e => hn (by rw [e])⟩
theorem Eng.Ap.of_bl {w w' : World} (h : Bl w w') (a : Option Addr) : Ap w a w' := ⟨h.os, h.tape, h.output, h.size, fun k hk _ => h.block k hk⟩
/-- a row -/
structure Rw where
  e : Nat
  sz : Nat
  a : Option Addr
  n : Nat
  cap : Nat
  cs : List Value
def Rw.no (e sz : Nat) : Rw := ⟨e, sz, none, 0, 0, []⟩
def Rw.ok (r : Rw) (w : World) (base : Nat) : Prop := Ow w base r.e r.sz r.a r.n r.cap r.cs
/-- which list -/
inductive Key where
  | pool | cls | sta | mth
  | fld (i : Nat) | prm (i : Nat) | loc (i : Nat) | cod (i : Nat)
  deriving DecidableEq
def setR (R : Key → Rw) (k : Key) (r : Rw) : Key → Rw := fun j => if j = k then r else R j
structure SepR (w : World) (base : Nat) (R : Key → Rw) : Prop where
  own : ∀ k, (R k).ok w base
  dis : ∀ k j g, k ≠ j → (R k).a = some ⟨g, 0, none⟩ → (R j).a ≠ some ⟨g, 0, none⟩
theorem SepR.lt {w : World} {base : Nat} {R : Key → Rw} (h : SepR w base R) {k : Key} {g : Nat} (hg : (R k).a = some ⟨g, 0, none⟩) : base ≤ g ∧ g < w.heap.size := Ow.lt (h.own k) hg
/-- what is elsewhere may turn -/
theorem SepR.ap {w w' : World} {base : Nat} {R : Key → Rw} {a : Option Addr} (h : SepR w base R) (hA : Ap w a w') (hn : ∀ k g, (R k).a = some ⟨g, 0, none⟩ → a ≠ some ⟨g, 0, none⟩) : SepR w' base R :=
  ⟨fun k => (show Ow .. from h.own k).same fun g hg => hA.block g (h.lt hg).2 (hn k g hg), h.dis⟩
theorem SepR.bl {w w' : World} {base : Nat} {R : Key → Rw} (h : SepR w base R) (hB : Bl w w') : SepR w' base R := h.ap (Ap.of_bl hB none) fun _ _ _ => nn
theorem SepR.wr {w w' : World} {base b : Nat} {R : Key → Rw} (h : SepR w base R) (hW : Wr w b w') (hb : b < base) : SepR w' base R := h.ap hW.ap fun k g hg e => by
  have := (h.lt hg).1
  simp only [Option.some.injEq, Addr.mk.injEq, and_true] at e
  omega
/-- one row turns: where it lies, or to a new block -/
theorem SepR.upd {w w' : World} {base : Nat} {R : Key → Rw} (h : SepR w base R) (k : Key) {r : Rw} (hA : Ap w (R k).a w') (hO : r.ok w' base) (hf : ∀ g, r.a = some ⟨g, 0, none⟩ → (R k).a = some ⟨g, 0, none⟩ ∨ w.heap.size ≤ g) : SepR w' base (setR R k r) := by
  refine ⟨fun j => ?_, fun j i g hne hg e => ?_⟩
  · unfold setR
    by_cases hj : j = k
    · rw [if_pos hj]; exact hO
    · rw [if_neg hj]
      exact (show Ow .. from h.own j).same fun g hg => hA.block g (h.lt hg).2 (h.dis j k g hj hg)
  · unfold setR at hg e
    by_cases hj : j = k
    · rw [if_pos hj] at hg
      by_cases hi : i = k
      · exact hne (hj.trans hi.symm)
      · rw [if_neg hi] at e
        rcases hf g hg with q | q
        · exact h.dis k i g (fun e => hi e.symm) q e
        · have := (h.lt e).2; omega
    · rw [if_neg hj] at hg
      by_cases hi : i = k
      · rw [if_pos hi] at e
        rcases hf g e with q | q
        · exact h.dis j k g hj hg q
        · have := (h.lt hg).2; omega
      · rw [if_neg hi] at e
        exact h.dis j i g hne hg e
theorem SepR.base {w : World} {base base' : Nat} {R : Key → Rw} (h : SepR w base R) (hb : base' ≤ base) : SepR w base' R := ⟨fun k => Ow.base (h.own k) hb, h.dis⟩
theorem SepR.no (w : World) (base : Nat) (R : Key → Rw) (h : ∀ k, ∃ e sz, R k = Rw.no e sz) : SepR w base R := by
  refine ⟨fun k => ?_, fun k j g _ hg => ?_⟩
  · obtain ⟨e, sz, h2⟩ := h k
    rw [h2]; exact Ow.nil ..
  · obtain ⟨e, sz, h2⟩ := h k
    rw [h2] at hg; cases hg
structure ClR where
  c : Cls
  a : Option Addr
  q : Nat
structure MtR where
  m : Mth
  a1 : Option Addr
  c1 : Nat
  a2 : Option Addr
  c2 : Nat
  a3 : Option Addr
  c3 : Nat
abbrev encC (x : ClR) : List Value := ccells x.c x.a x.q
abbrev encM (x : MtR) : List Value := mcells x.m x.a1 x.c1 x.a2 x.c2 x.a3 x.c3
def eC : El ClR := plainEl 3 encC (fun _ => rfl)
def eM : El MtR := plainEl 7 encM (fun _ => rfl)
/-- a unit, and where its lists lie -/
structure UX where
  name : ByteArray
  a1 : Option Addr
  c1 : Nat
  pool : List ByteArray
  a2 : Option Addr
  c2 : Nat
  cl : List ClR
  a3 : Option Addr
  c3 : Nat
  sta : List Fld
  a4 : Option Addr
  c4 : Nat
  ml : List MtR
def UX.u (X : UX) : Unt := ⟨X.name, X.pool, X.cl.map (·.c), X.sta, X.ml.map (·.m)⟩
def UX.a (X : UX) : UA := ⟨X.a1, X.c1, X.a2, X.c2, X.a3, X.c3, X.a4, X.c4⟩
/-- the unit's five cells -/
def UX.cells (X : UX) : List Value := [.string X.name, .slice X.a1 X.pool.length X.c1, .slice X.a2 X.cl.length X.c2, .slice X.a3 X.sta.length X.c3, .slice X.a4 X.ml.length X.c4]
theorem UX.cells_eq (X : UX) : ucells X.u X.a = X.cells := by simp only [ucells, UX.u, UX.a, UX.cells, List.length_map]
def rwF (x : ClR) : Rw := ⟨86, 3, x.a, x.c.fields.length, x.q, x.c.fields.flatMap encFld⟩
def rwP (x : MtR) : Rw := ⟨61, 2, x.a1, x.m.params.length, x.c1, x.m.params.flatMap encTy⟩
def rwL (x : MtR) : Rw := ⟨61, 2, x.a2, x.m.locals.length, x.c2, x.m.locals.flatMap encTy⟩
def rwI (x : MtR) : Rw := ⟨89, 3, x.a3, x.m.code.length, x.c3, x.m.code.flatMap encIns⟩
/-- the rows of the first i classes' fields, the first j methods' lists -/
def rowN (X : UX) (i j : Nat) : Key → Rw
  | .pool => ⟨9, 1, X.a1, X.pool.length, X.c1, X.pool.flatMap encStr⟩
  | .cls => ⟨58, 3, X.a2, X.cl.length, X.c2, X.cl.flatMap encC⟩
  | .sta => ⟨86, 3, X.a3, X.sta.length, X.c3, X.sta.flatMap encFld⟩
  | .mth => ⟨64, 7, X.a4, X.ml.length, X.c4, X.ml.flatMap encM⟩
  | .fld k => (((X.cl.take i)[k]?).map rwF).getD (Rw.no 0 0)
  | .prm k => (((X.ml.take j)[k]?).map rwP).getD (Rw.no 0 0)
  | .loc k => (((X.ml.take j)[k]?).map rwL).getD (Rw.no 0 0)
  | .cod k => (((X.ml.take j)[k]?).map rwI).getD (Rw.no 0 0)
def UX.row (X : UX) : Key → Rw := rowN X X.cl.length X.ml.length
/-- a unit in rows of its own -/
def SepU (w : World) (base : Nat) (X : UX) : Prop := SepR w base X.row
theorem rows_of {α β : Type} {E : El α} {sz : Nat} {enc : β → List Value} (hl : ∀ x, (enc x).length = sz) (he : E.sz = sz) {S : Nat → Prop} {w : World} {a : Option Addr} {l : List α} (hS : Sl E S w a l) (f : β → α) (q : β → Prop)
    (h : ∀ cs x, E.rel S w cs x → ∃ y, f y = x ∧ cs = enc y ∧ q y) : ∃ xs : List β, xs.map f = l ∧ Sl (plainEl sz enc hl) S w a xs ∧ ∀ x ∈ xs, q x := by
  obtain ⟨xs, h1, h2⟩ := list_of (n := l.length) (p := fun i (y : β) => l[i]? = some (f y) ∧ q y ∧ ∃ b o, a = some ⟨b, o, none⟩ ∧ S b ∧ At w b (o + i * sz) (enc y)) fun i hi => by
    obtain ⟨x, b, o, cs, hx, e, hb, hA, hr⟩ := at_some hS hi
    obtain ⟨y, rfl, rfl, hq⟩ := h cs x hr
    exact ⟨y, hx, hq, b, o, e, hb, by rw [he] at hA; exact hA⟩
  refine ⟨xs, ?_, ⟨by rw [h1]; exact hS.big, fun i x hx => ?_⟩, fun x hx => ?_⟩
  · refine List.ext_getElem? fun i => ?_
    rw [List.getElem?_map]
    rcases Nat.lt_or_ge i xs.length with hi | hi
    · rw [List.getElem?_eq_getElem hi]
      exact (h2 i _ (List.getElem?_eq_getElem hi)).1.symm
    · rw [List.getElem?_eq_none hi, List.getElem?_eq_none (by omega)]; rfl
  · obtain ⟨_, _, b, o, e, hb, hA⟩ := h2 i x hx
    exact ⟨b, o, enc x, e, hb, hA, rfl⟩
  · obtain ⟨i, hi⟩ := List.mem_iff_getElem?.1 hx
    exact (h2 i x hi).2.1
theorem cls_rows {S : Nat → Prop} {w : World} {a : Option Addr} {l : List Cls} (hS : Sl eCls S w a l) : ∃ xs : List ClR, xs.map (·.c) = l ∧ Sl eC S w a xs ∧ ∀ x ∈ xs, Sl eFld S w x.a x.c.fields :=
  rows_of (E := eCls) (enc := encC) (fun _ => rfl) rfl hS (·.c) (fun x => Sl eFld S w x.a x.c.fields) fun cs c h => by
    obtain ⟨a, q, rfl, h⟩ := h
    exact ⟨⟨c, a, q⟩, rfl, rfl, h⟩
theorem mth_rows {S : Nat → Prop} {w : World} {a : Option Addr} {l : List Mth} (hS : Sl eMth S w a l) : ∃ xs : List MtR, xs.map (·.m) = l ∧ Sl eM S w a xs ∧ ∀ x ∈ xs, Sl eTy S w x.a1 x.m.params ∧ Sl eTy S w x.a2 x.m.locals ∧ Sl eIns S w x.a3 x.m.code :=
  rows_of (E := eMth) (enc := encM) (fun _ => rfl) rfl hS (·.m) (fun x => Sl eTy S w x.a1 x.m.params ∧ Sl eTy S w x.a2 x.m.locals ∧ Sl eIns S w x.a3 x.m.code) fun cs c h => by
    obtain ⟨a1, c1, a2, c2, a3, c3, rfl, h⟩ := h
    exact ⟨⟨c, a1, c1, a2, c2, a3, c3⟩, rfl, rfl, h⟩
/-- how large a unit is -/
structure Siz (u : Unt) : Prop where
  nm : u.name.size ≤ 1048576
  ps : ∀ s ∈ u.pool, s.size ≤ 1048576
  pool : u.pool.length ≤ 4194304
  cls : u.classes.length ≤ 4194304
  sta : u.statics.length ≤ 4194304
  mth : u.methods.length ≤ 4194304
  flds : ∀ c ∈ u.classes, c.fields.length ≤ 4194304
  prms : ∀ m ∈ u.methods, m.params.length ≤ 4194304
  locs : ∀ m ∈ u.methods, m.locals.length ≤ 4194304
  cods : ∀ m ∈ u.methods, m.code.length ≤ 4194304
theorem UnR.siz {S : Nat → Prop} {w : World} {u : Unt} {a : UA} (h : UnR S w u a) : Siz u := by
  refine ⟨h.nm, h.ps, h.pool.big, h.cls.big, h.sta.big, h.mth.big, fun c hc => ?_, fun c hc => ?_, fun c hc => ?_, fun c hc => ?_⟩
  · obtain ⟨i, hi⟩ := List.mem_iff_getElem?.1 hc
    obtain ⟨_, _, _, _, _, _, af, cf, rfl, hf⟩ := h.cls.el i c hi
    exact hf.big
  all_goals
    obtain ⟨i, hi⟩ := List.mem_iff_getElem?.1 hc
    obtain ⟨_, _, _, _, _, _, q1, s1, q2, s2, q3, s3, rfl, f1, f2, f3⟩ := h.mth.el i c hi
    first | exact f1.big | exact f2.big | exact f3.big
theorem row_fld {X : UX} {i : Nat} {x : ClR} (h : X.cl[i]? = some x) : X.row (.fld i) = rwF x := by simp only [UX.row, rowN, List.take_length, h, Option.map_some, Option.getD_some]
theorem row_prm {X : UX} {i : Nat} {x : MtR} (h : X.ml[i]? = some x) : X.row (.prm i) = rwP x := by simp only [UX.row, rowN, List.take_length, h, Option.map_some, Option.getD_some]
theorem row_loc {X : UX} {i : Nat} {x : MtR} (h : X.ml[i]? = some x) : X.row (.loc i) = rwL x := by simp only [UX.row, rowN, List.take_length, h, Option.map_some, Option.getD_some]
theorem row_cod {X : UX} {i : Nat} {x : MtR} (h : X.ml[i]? = some x) : X.row (.cod i) = rwI x := by simp only [UX.row, rowN, List.take_length, h, Option.map_some, Option.getD_some]
/-- it can be read -/
theorem SepU.unr {w : World} {base : Nat} {X : UX} (h : SepU w base X) (hz : Siz X.u) : UnR (fun b => base ≤ b ∧ b < w.heap.size) w X.u X.a := by
  have hS : ∀ k g, (X.row k).a = some ⟨g, 0, none⟩ → base ≤ g ∧ g < w.heap.size := fun k g hg => SepR.lt h hg
  have hc : Sl eC (fun b => base ≤ b ∧ b < w.heap.size) w X.a2 X.cl := owp_sl (enc := encC) (h.own .cls) (by simpa [UX.u] using hz.cls) (hS .cls)
  have hm : Sl eM (fun b => base ≤ b ∧ b < w.heap.size) w X.a4 X.ml := owp_sl (enc := encM) (h.own .mth) (by simpa [UX.u] using hz.mth) (hS .mth)
  refine ⟨hz.nm, hz.ps, owp_sl (enc := encStr) (h.own .pool) hz.pool (hS .pool), ⟨hz.cls, fun i c hi => ?_⟩, owp_sl (enc := encFld) (h.own .sta) hz.sta (hS .sta), ⟨hz.mth, fun i m hi => ?_⟩⟩
  · have hcm := List.mem_of_getElem? hi
    simp only [UX.u, List.getElem?_map] at hi
    obtain ⟨x, hx, rfl⟩ := Option.map_eq_some_iff.1 hi
    obtain ⟨b, o, cs, e, hb, hA, rfl⟩ := hc.el i x hx
    refine ⟨b, o, encC x, e, hb, hA, x.a, x.q, rfl, ?_⟩
    have := h.own (.fld i)
    rw [row_fld hx] at this
    exact owp_sl (enc := encFld) this (hz.flds _ hcm) fun g hg => hS (.fld i) g (by rw [row_fld hx]; exact hg)
  · have hmm := List.mem_of_getElem? hi
    simp only [UX.u, List.getElem?_map] at hi
    obtain ⟨x, hx, rfl⟩ := Option.map_eq_some_iff.1 hi
    obtain ⟨b, o, cs, e, hb, hA, rfl⟩ := hm.el i x hx
    refine ⟨b, o, encM x, e, hb, hA, x.a1, x.c1, x.a2, x.c2, x.a3, x.c3, rfl, ?_, ?_, ?_⟩
    · have := h.own (.prm i)
      rw [row_prm hx] at this
      exact owp_sl (enc := encTy) this (hz.prms _ hmm) fun g hg => hS (.prm i) g (by rw [row_prm hx]; exact hg)
    · have := h.own (.loc i)
      rw [row_loc hx] at this
      exact owp_sl (enc := encTy) this (hz.locs _ hmm) fun g hg => hS (.loc i) g (by rw [row_loc hx]; exact hg)
    · have := h.own (.cod i)
      rw [row_cod hx] at this
      exact owp_sl (enc := encIns) this (hz.cods _ hmm) fun g hg => hS (.cod i) g (by rw [row_cod hx]; exact hg)
theorem setR_self (R : Key → Rw) (k : Key) : setR R k (R k) = R := funext fun j => by unfold setR; split <;> simp_all
theorem setR_setR (R : Key → Rw) (k : Key) (r r' : Rw) : setR (setR R k r) k r' = setR R k r' := funext fun j => by unfold setR; split <;> rfl
/-- a row that is not empty lies in a block -/
theorem SepR.box {w : World} {base : Nat} {R : Key → Rw} (h : SepR w base R) (k : Key) (hn : 0 < (R k).n) : ∃ g cur, (R k).a = some ⟨g, 0, none⟩ ∧ Box w g (R k).e cur ∧ (R k).n * (R k).sz ≤ cur.length ∧ At w g 0 (R k).cs ∧ base ≤ g ∧ g < w.heap.size := by
  have ho := h.own k
  unfold Rw.ok at ho
  rcases ho.shape with ⟨_, h0, _⟩ | ⟨g, cur, ea, _⟩
  · omega
  · have hl := ho.lt ea
    have hat := ho.at ea
    rw [ea] at ho
    obtain ⟨cur, h1, h2, h3, h4, h5⟩ := Ow.box ho
    exact ⟨g, cur, ea, h1, h5, hat, hl⟩
/-- one cell of a row is written -/
theorem SepR.set {w w' : World} {base : Nat} {R : Key → Rw} (h : SepR w base R) (k : Key) {g : Nat} (hg : (R k).a = some ⟨g, 0, none⟩) {cur : List Value} (hb : Box w g (R k).e cur) {o : Nat} {v : Value} (hW : Wr w g w') (hb' : Box w' g (R k).e (cur.set o v)) {r : Rw} (hr : r = ⟨(R k).e, (R k).sz, (R k).a, (R k).n, (R k).cap, (R k).cs.set o v⟩) : SepR w' base (setR R k r) := by
  subst hr
  refine h.upd k (by rw [hg]; exact hW.ap) ?_ fun g' hg' => .inl hg'
  have ho := h.own k
  unfold Rw.ok at ho ⊢
  rw [hg] at ho
  show Ow w' base (R k).e (R k).sz (R k).a (R k).n (R k).cap ((R k).cs.set o v)
  rw [hg]
  exact Ow.set ho hb hb'
theorem at_elem {α : Type} {sz : Nat} {enc : α → List Value} {w : World} {g : Nat} {l : List α} (h : At w g 0 (l.flatMap enc)) {k : Nat} {x : α} (hx : l[k]? = some x) (hl : ∀ x, (enc x).length = sz) : At w g (0 + k * sz) (enc x) := fun j v hj => by
  have := h (k * sz + j) v (by rw [flat_get hl hx j (by rw [← hl x]; exact (List.getElem?_eq_some_iff.1 hj).1)]; exact hj)
  rw [← Nat.add_assoc] at this; exact this
end Go.Proofs.YtopjmiklpnejmaaGreatDoor

/- Walks: a pool takes in a string, in the program and in the document. -/
namespace Go.Proofs.YtopjmiklpnejmaaGreatDoor
open Eng Go.RowKit
theorem own_shape {w : World} {base e esz n : Nat} {v : Value} {xs : List Value} (h : w.ownsRow base e esz v n xs) : ∃ a cap, v = .slice a n cap ∧ Ow w base e esz a n cap xs := by
  obtain ⟨h1, h2⟩ := h
  rcases h2 with ⟨rfl, rfl⟩ | ⟨g, cap, cur, rfl, h3⟩
  · exact ⟨none, 0, rfl, ⟨h1, .inl ⟨rfl, rfl⟩⟩⟩
  · exact ⟨_, _, rfl, ⟨h1, .inr ⟨g, cap, cur, rfl, h3⟩⟩⟩
theorem str_cells {S : Nat → Prop} {w : World} {a : Option Addr} {x : ByteArray} {l : List ByteArray} (h : Sl eStr S w a (x :: l)) : ∃ b o, a = some ⟨b, o, none⟩ ∧ ∀ j, j < (x :: l).length → w.cell? ⟨b, o + j, none⟩ = some (.string ((x :: l).getD j ByteArray.empty)) := by
  obtain ⟨b, o, cs, e, _, _, _⟩ := h.el 0 x rfl
  refine ⟨b, o, e, fun j hj => ?_⟩
  obtain ⟨y, hy⟩ := some_of_lt hj
  obtain ⟨b', o', cs', e', _, hat, rfl⟩ := h.el j y hy
  rw [e] at e'
  simp only [Option.some.injEq, Addr.mk.injEq, and_true] at e'
  obtain ⟨rfl, rfl⟩ := e'
  have hc := hat 0 _ rfl
  have hd : (x :: l).getD j ByteArray.empty = y := by rw [List.getD_eq_getElem?_getD, hy]; rfl
  rw [hd]
  simpa [eStr, plainEl] using hc
theorem c_CloneStr (l : List ByteArray) (a : Option Addr) (cap : Nat) (S : Nat → Prop) (w : World) (hS : Sl eStr S w a l) :
    Ret Tryz.prog 70 #[.slice a l.length cap] w fun v w' => ∃ a' cap', v = .slice a' l.length cap' ∧ OwP 1 encStr w' w.heap.size 9 a' cap' l ∧ Bl w w' := by
  have hbig := hS.big
  refine ⟨by kernel_rfl, ?_⟩
  cases l with
  | nil =>
    cases a with
    | none =>
      refine (Tryz.slices_Clone_string_nil 0 cap w).mono ?_
      rintro e w' ⟨rfl, rfl⟩
      exact ⟨none, 0, rfl, Ow.nil .., Bl.refl _⟩
    | some a =>
      refine (Tryz.slices_Clone_string_zero a cap w).mono ?_
      rintro e w' ⟨v, rfl, h1, _, h2⟩
      obtain ⟨a', cap', rfl, hO⟩ := own_shape h1
      exact ⟨a', cap', rfl, hO, h2⟩
  | cons x l =>
    obtain ⟨b, o, rfl, hc⟩ := str_cells hS
    refine (Tryz.slices_Clone_string b o (x :: l).length cap (x :: l) w (Nat.le_refl _) (by omega) hc).mono ?_
    rintro e w' ⟨v, rfl, h1, _, h2⟩
    obtain ⟨a', cap', rfl, hO⟩ := own_shape h1
    rw [List.take_length, List.map_eq_flatMap] at hO
    exact ⟨a', cap', rfl, hO, h2⟩
theorem c_IndexStr (l : List ByteArray) (a : Option Addr) (cap : Nat) (s : ByteArray) (S : Nat → Prop) (w : World) (hS : Sl eStr S w a l) :
    Ret Tryz.prog 67 #[.slice a l.length cap, .string s] w fun v w' => v = I (Lib.idxOfS l s) ∧ w' = w := by
  have hbig := hS.big
  refine ⟨by kernel_rfl, ?_⟩
  cases l with
  | nil =>
    refine (Tryz.slices_Index_string_empty a cap s w).mono ?_
    rintro e w' ⟨rfl, rfl⟩
    exact ⟨rfl, rfl⟩
  | cons x l =>
    obtain ⟨b, o, rfl, hc⟩ := str_cells hS
    refine (Tryz.slices_Index_string b o (x :: l).length cap (x :: l) s w (Nat.le_refl _) (by omega) hc).mono ?_
    rintro e w' ⟨rfl, rfl⟩
    rw [List.take_length]
    exact ⟨rfl, rfl⟩
def noP (x : ByteArray) : Bool := decide ((path x : Int) = 0)
def inE (l : List ByteArray) (s : ByteArray) : Int :=
  if (noP s || l.any noP) = true then 8 else if dup l = true then 9 else if 60 < l.length ∨ (Lib.idxOfS l s < 0 ∧ l.length = 60) then 2 else 0
def inL (l : List ByteArray) (s : ByteArray) : List ByteArray := if inE l s = 0 then (if Lib.idxOfS l s < 0 then l ++ [s] else l) else []
def inA (l : List ByteArray) (s : ByteArray) : Int := if inE l s = 0 then (if Lib.idxOfS l s < 0 then (l.length : Int) else Lib.idxOfS l s) else 0
/-- what both give -/
def InR (l : List ByteArray) (s : ByteArray) (w : World) (v : Value) (w' : World) : Prop := ∃ a cap, v = .tuple #[.slice a (inL l s).length cap, I (inA l s), I (inE l s)] ∧ Sl eStr T w' a (inL l s) ∧ Bl w w'
theorem inR_no {l : List ByteArray} {s : ByteArray} {w w' : World} {e : Int} (h : inE l s = e) (h0 : e ≠ 0) (hB : Bl w w') : InR l s w (.tuple #[.slice none 0 0, I 0, I e]) w' := by
  refine ⟨none, 0, ?_, ?_, hB⟩
  · unfold inL inA; rw [h, if_neg h0, if_neg h0]; rfl
  · unfold inL; rw [h, if_neg h0]; exact Sl.nil ..
theorem inR_yes {l m : List ByteArray} {s : ByteArray} {w w' : World} {a : Option Addr} {cap : Nat} {i : Int} (h : inE l s = 0) (hm : m = if Lib.idxOfS l s < 0 then l ++ [s] else l) (hi : i = if Lib.idxOfS l s < 0 then (l.length : Int) else Lib.idxOfS l s) (hS : Sl eStr T w' a m) (hB : Bl w w') :
    InR l s w (.tuple #[.slice a m.length cap, I i, I 0]) w' := by
  have e1 : inL l s = m := by unfold inL; rw [if_pos h, hm]
  have e2 : inA l s = i := by unfold inA; rw [if_pos h, hi]
  exact ⟨a, cap, by rw [e1, e2, h], by rw [e1]; exact hS, hB⟩
theorem u_Intern1 (s : ByteArray) (w : World) (hs : s.size ≤ 1048576) (hG : Gl w) : Ret Tryz.prog 68 #[.string s] w fun v w' => v = .bool (noP s) ∧ Bl w w' := by
  refine entr (vs := [.string s]) [0, 2] tabok Tryz.func68 (by kernel_rfl) ?_
  refine cl (u_Path s w hs hG) ?_
  rintro _ w1 ⟨rfl, h1⟩
  exact rt1 ⟨rfl, h1⟩
theorem u_Intern (l : List ByteArray) (a : Option Addr) (cap : Nat) (s : ByteArray) (w : World) (hS : Sl eStr T w a l) (hl : ∀ x ∈ l, x.size ≤ 1048576) (hs : s.size ≤ 1048576) (hG : Gl w) :
    Ret Tryz.prog 24 #[.slice a l.length cap, .string s] w (InR l s w) := by
  have hbig := hS.big
  refine entr (vs := [.slice a l.length cap, .string s]) [0, 1, 4, 5, 6, 7, 11, 19, 22, 35] tabok Tryz.func24 (by kernel_rfl) ?_
  refine cl (c_IndexStr l a cap s T w hS) ?_
  rintro _ w ⟨rfl, rfl⟩
  refine cl (u_Path s w hs hG) ?_
  rintro _ w1 ⟨rfl, h1⟩
  by_cases hp : (path s : Int) = 0
  · refine sp (.bool true) (fun q => ?_) (fun _ => ?_)
    · exact absurd q (by simp [hp])
    refine brt ?_ (hp := by simp [hp])
    exact rt3 (inR_no (by unfold inE; rw [if_pos (by simp [noP, hp])]) (by decide) h1)
  refine spt (.bool true) ?_ (hb := by rw [decide_eq_false hp])
  refine cl (ContainsFunc_str l a cap 68 [] noP T w1 (hS.bl h1) (fun x cs hx w' hB hr => by
    have e : cs = encStr x := hr
    subst e
    exact u_Intern1 x w' (hl x hx) (hG.bl (h1.trans hB)))) ?_
  rintro _ w2 ⟨rfl, h2⟩
  have h02 := h1.trans h2
  refine br (fun h => ?_) (fun h => ?_)
  · have h' : l.any noP = true := by simpa [hp] using h
    exact rt3 (inR_no (by unfold inE; rw [if_pos (by rw [h']; simp)]) (by decide) h02)
  have h' : l.any noP = false := by simpa [hp] using h
  have hn0 : (noP s || l.any noP) = false := by rw [h', Bool.or_false]; exact decide_eq_false hp
  refine cl (u_twice l a cap T w2 (hS.bl h02)) ?_
  rintro _ w3 ⟨rfl, h3⟩
  have h03 := h02.trans h3
  refine br (fun hd => ?_) (fun hd => ?_)
  · exact rt3 (inR_no (e := 9) (by unfold inE; rw [hn0, hd]; simp) (by decide) h03)
  refine br (fun h => ?_) (fun h => ?_)
  · refine rt3 (inR_no (by unfold inE; rw [hn0, hd, if_neg (by decide), if_neg (by decide), if_pos]; simp only [Bool.or_eq_true, Bool.and_eq_true, decide_eq_true_eq] at h; omega) (by decide) h03)
  have hE : inE l s = 0 := by
    unfold inE
    rw [hn0, hd, if_neg (by decide), if_neg (by decide), if_neg]
    simp only [Bool.or_eq_false_iff, Bool.and_eq_false_iff, decide_eq_false_iff_not] at h
    omega
  refine br (fun hi => ?_) (fun hi => ?_)
  · have hi := of_decide_eq_true hi
    refine cl (c_CloneStr l a cap T w3 (hS.bl h03)) ?_
    rintro _ w4 ⟨a4, cap4, rfl, hO4, h4⟩
    refine bs fun b5 w5 h5 => ?_
    refine apl (enc := encStr) (l0 := l) (l1 := [s]) (hO4.bl h5.bl) (.inr ⟨b5, 0, rfl, h5.box.at⟩) (by have := h4.size; have := h5.size; omega) (fun a6 cap6 w6 hO6 hA6 hf6 => ?_)
    have h36 : Bl w3 w6 := (hO4.bl h5.bl).below hA6 (h4.trans h5.bl) (by have := h4.size; have := h5.size; omega)
    refine rt3 (inR_yes hE (by rw [if_pos hi]) (by rw [if_pos hi]) (owp_sl hO6 (by simp only [List.length_append, List.length_cons, List.length_nil]; simp only [Bool.or_eq_false_iff, Bool.and_eq_false_iff, decide_eq_false_iff_not] at h; omega) fun _ _ => trivial) (h03.trans h36))
  · have hi := of_decide_eq_false hi
    refine cl (c_CloneStr l a cap T w3 (hS.bl h03)) ?_
    rintro _ w4 ⟨a4, cap4, rfl, hO4, h4⟩
    exact rt3 (inR_yes hE (by rw [if_neg hi]) (by rw [if_neg hi]) (owp_sl hO4 hbig fun _ _ => trivial) (h03.trans h4))
theorem last_idx {l : List ByteArray} {s : ByteArray} {i : Int} (hd : dup l = false) (h1 : s ∈ l → 0 ≤ i ∧ l[i.toNat]? = some s) (h2 : s ∉ l → i = -1) : i = Lib.idxOfS l s := by
  by_cases hm : s ∈ l
  · obtain ⟨h0, hi⟩ := h1 hm
    have hlt := (List.getElem?_eq_some_iff.1 hi).1
    have hnd : (l.map toL).Nodup := by
      have h := dup_nodup l
      rw [hd] at h
      simpa using h
    have := Lib.idxOfS_hit l l.length i.toNat s hlt (Nat.le_refl _) (by rw [List.getD_eq_getElem?_getD, hi]; rfl) (fun j hj e => by
      have hjl : j < l.length := by omega
      rw [List.getD_eq_getElem?_getD, List.getElem?_eq_getElem hjl] at e
      have e' : l[j] = s := e
      have hi' : l[i.toNat] = s := (List.getElem?_eq_some_iff.1 hi).2
      have h3 := List.pairwise_iff_getElem.1 hnd j i.toNat (by rw [List.length_map]; exact hjl) (by rw [List.length_map]; exact hlt) hj
      rw [List.getElem_map, List.getElem_map, e', hi'] at h3
      exact h3 rfl)
    rw [List.take_length] at this
    rw [this]; omega
  · rw [h2 hm]
    have := Lib.idxOfS_miss l l.length s (fun j hj e => hm (by
      rw [List.getD_eq_getElem?_getD, List.getElem?_eq_getElem hj] at e
      have e' : l[j] = s := e
      rw [← e']; exact List.getElem_mem hj))
    rw [List.take_length] at this
    exact this.symm
theorem r_Intern (l : List ByteArray) (a : Option Addr) (cap : Nat) (s : ByteArray) (w : World) (hS : Sl eStr T w a l) (hl : ∀ x ∈ l, x.size ≤ 1048576) (hs : s.size ≤ 1048576) :
    Ret Tryz.prog 25 #[.slice a l.length cap, .string s] w (InR l s w) := by
  have hbig := hS.big
  refine entr (vs := [.slice a l.length cap, .string s]) [0, 1, 4, 5, 6, 7, 8, 9, 10, 14, 22, 25, 27, 33, 41, 44, 53] tabok Tryz.func25 (by kernel_rfl) ?_
  refine lpk l.length 7 [] [(0, .slice a l.length cap), (1, .string s)] (fun k vals w' => vals = [] ∧ (l.take k).any noP = false ∧ Bl w w') ⟨rfl, rfl, Bl.refl _⟩ ?_
  rintro k vals w1 hk ⟨rfl, ha, h1⟩ ih
  by_cases hlt : k < l.length
  · refine brT ?_
    obtain ⟨x, b, o, cs, hx, rfl, _, hAt, rfl⟩ := at_some (hS.bl h1) hlt
    refine ix ?_
    refine ld (hAt 0 _ rfl) ?_
    refine cl (r_Path x w1 (hl x (List.mem_of_getElem? hx))) ?_
    rintro _ w2 ⟨rfl, h2⟩
    refine br (fun h => ?_) (fun h => ?_)
    · have : l.any noP = true := any_hit (p := noP) hx h
      exact rt3 (inR_no (by unfold inE; rw [if_pos (by rw [this]; simp)]) (by decide) (h1.trans h2))
    · exact ih hlt ⟨rfl, any_snoc (p := noP) hx ha h, h1.trans h2⟩
  refine brF ?_
  obtain rfl : k = l.length := by omega
  clear ih
  rw [List.take_length] at ha
  refine cl (r_Path s w1 hs) ?_
  rintro _ w2 ⟨rfl, h2⟩
  have h02 := h1.trans h2
  refine br (fun h => ?_) (fun h => ?_)
  · exact rt3 (inR_no (by unfold inE; rw [if_pos (by simp only [noP, h, Bool.true_or])]) (by decide) h02)
  have hn0 : (noP s || l.any noP) = false := by rw [ha]; simp only [noP, h]; rfl
  refine cl (r_twice l a cap T w2 (hS.bl h02)) ?_
  rintro _ w3 ⟨rfl, h3⟩
  have h03 := h02.trans h3
  refine br (fun hd => ?_) (fun hd => ?_)
  · exact rt3 (inR_no (e := 9) (by unfold inE; rw [hn0, hd]; simp) (by decide) h03)
  refine apl (enc := encStr) (base := w3.heap.size) (l0 := []) (l1 := l) (Ow.nil ..) (src_of (hS.bl h03)) (Nat.le_refl _) (fun a4 cap4 w4 hO4 hA4 hf4 => ?_)
  have h34 : Bl w3 w4 := hA4.below (Nat.le_refl _) fun g hg => absurd hg nn
  have h04 := h03.trans h34
  refine lpk l.length 10 [9] [(0, .slice a l.length cap), (1, .string s), (8, .slice a4 l.length cap4)] (fun k vals w' => ∃ i : Int, vals = [I i] ∧ (s ∈ l.take k → 0 ≤ i ∧ l[i.toNat]? = some s) ∧ (s ∉ l.take k → i = -1) ∧ w' = w4) ⟨-1, rfl, by simp, fun _ => rfl, rfl⟩ ?_
  rintro k vals _ hk ⟨i, rfl, hi1, hi2, rfl⟩ ih
  by_cases hlt : k < l.length
  · refine brT ?_
    obtain ⟨x, b, o, cs, hx, rfl, _, hAt, rfl⟩ := at_some (hS.bl h04) hlt
    refine ix ?_
    refine ld (hAt 0 _ rfl) ?_
    refine br (fun h => ?_) (fun h => ?_)
    · have h := of_decide_eq_true h
      refine ih hlt ⟨k, rfl, fun _ => ⟨by omega, ?_⟩, fun hn => absurd ?_ hn, rfl⟩
      · rw [Int.toNat_natCast, hx, h]
      · rw [take_succ_some hx, h]; simp
    · have h := of_decide_eq_false h
      refine ih hlt ⟨i, rfl, fun hm => hi1 ?_, fun hm => hi2 fun hn => hm ?_, rfl⟩
      · rw [take_succ_some hx, List.mem_append] at hm
        rcases hm with hm | hm
        · exact hm
        · exact absurd (List.mem_singleton.1 hm).symm h
      · rw [take_succ_some hx]; exact List.mem_append_left _ hn
  refine brF ?_
  obtain rfl : k = l.length := by omega
  clear ih
  rw [List.take_length] at hi1 hi2
  obtain rfl := last_idx hd hi1 hi2
  have hres : ∀ (hx : 60 < l.length ∨ (Lib.idxOfS l s < 0 ∧ l.length = 60)), inE l s = 2 := fun hx => by
    unfold inE; rw [hn0, hd, if_neg (by decide), if_neg (by decide), if_pos hx]
  have hres0 : ∀ (hx : ¬ (60 < l.length ∨ (Lib.idxOfS l s < 0 ∧ l.length = 60))), inE l s = 0 := fun hx => by
    unfold inE; rw [hn0, hd, if_neg (by decide), if_neg (by decide), if_neg hx]
  refine br (fun hi => ?_) (fun hi => ?_)
  · have hi := of_decide_eq_true hi
    refine bs fun b5 w5 h5 => ?_
    refine apl (enc := encStr) (l0 := l) (l1 := [s]) (Eng.Ow.bl hO4 h5.bl) (.inr ⟨b5, 0, rfl, h5.box.at⟩) (by have := h34.size; have := h5.size; omega) (fun a6 cap6 w6 hO6 hA6 hf6 => ?_)
    have h36 : Bl w3 w6 := (Eng.Ow.bl hO4 h5.bl).below hA6 (h34.trans h5.bl) (by have := h34.size; have := h5.size; omega)
    refine br (fun h => ?_) (fun h => ?_)
    · have h := of_decide_eq_true h
      simp only [List.length_append, List.length_cons, List.length_nil] at h
      exact rt3 (inR_no (hres (by omega)) (by decide) (h03.trans h36))
    · have h := of_decide_eq_false h
      simp only [List.length_append, List.length_cons, List.length_nil] at h
      refine rt3 (inR_yes (hres0 (by omega)) (by rw [if_pos hi]) (by rw [if_pos hi]) (owp_sl hO6 (by simp only [List.length_append, List.length_cons, List.length_nil]; omega) fun _ _ => trivial) (h03.trans h36))
  · have hi := of_decide_eq_false hi
    refine br (fun h => ?_) (fun h => ?_)
    · have h := of_decide_eq_true h
      exact rt3 (inR_no (hres (by have : ([] ++ l).length = l.length := rfl; omega)) (by decide) h04)
    · have h := of_decide_eq_false h
      exact rt3 (inR_yes (hres0 (by have : ([] ++ l).length = l.length := rfl; omega)) (by rw [if_neg hi]; rfl) (by rw [if_neg hi]) (owp_sl hO4 hbig fun _ _ => trivial) h04)
end Go.Proofs.YtopjmiklpnejmaaGreatDoor

/- Walks: slices.Clone at structs (printed by mkcl.py); a unit cloned, in the program. -/
namespace Go.Proofs.YtopjmiklpnejmaaGreatDoor
open Eng Go.RowKit
theorem sl_none {α : Type} {E : El α} {S : Nat → Prop} {w : World} {a : Option Addr} {l : List α} (h : Sl E S w a l) (ha : a.isNone = true) : l = [] := by
  cases l with
  | nil => rfl
  | cons x l =>
    obtain ⟨b, o, cs, e, _⟩ := h.el 0 x rfl
    rw [e] at ha; cases ha
theorem bl_ap {w w' w'' : World} {a : Option Addr} (h : Bl w w') (k : Ap w' a w'') (ha : ∀ g, a = some ⟨g, 0, none⟩ → w.heap.size ≤ g) : Bl w w'' := Below.trans h (k.below h.size ha)
theorem eql_nil {P : Program} {w : World} {t e : TypeId} {a : Option Addr} {n c : Nat} (h : P.underlying t = some (.slice e)) : (binOp .eql t (.slice a n c) (.slice none 0 0)).run P w = .ok (.bool a.isNone) w := by
  have h1 : ∀ d : Nat, (Op.equalIn (d + 1) t (.slice a n c) (.slice none 0 0)).run P w = .ok a.isNone w := fun d => by
    cases a <;> simp [Op.equalIn, run_underlying h]
  have h2 : (Op.equal t (.slice a n c) (.slice none 0 0)).run P w = .ok a.isNone w := h1 9999
  simp [binOp, h2]
/-- a slice against nil -/
theorem Eng.bnil {C : Cx} {s : St} {w : World} {md : Option Md} {ops : Array Oper} {T T' : TypeId} {x y : Operand} {d : Nat} {ty : TypeId} {pos : String} {af : Array Edge} {g : Option (Nat × Bool)} {rest : List Oper} {k : List Item} {l : Env} {c : CEnv} {a : Option Addr} {n cp : Nat} {e esz by' sz : Nat} {ag : Bool} {zr : List Value}
    (h : Wk C (.reg md ops rest k ((d, .bool a.isNone) :: l) c) w)
    (hs : adv C.tab C.n C.ks 400 s = .opn md ops ⟨some d, .binOp .eql T x y T', ty, pos, af, g⟩ rest k l c [] := by rfl) (hx : evc l c [] x = some (.slice a n cp) := by rfl) (hy : evc l c [] y = some (.slice none 0 0) := by rfl) (ht : C.tab.at T = some ⟨.slice e esz by', sz, ag, zr⟩ := by rfl) (hf : fresh d l c [] = true := by rfl) : Wk C s w :=
  rd (p := []) (fun hT _ hA hp w' _ => by
    obtain ⟨dd, x0, z0, hTT⟩ := tiOk_und (tab_at hT ht)
    obtain ⟨rfl, _⟩ := hTT.sl _ _ _ rfl
    simp only [execOp, evc_ok hA.k hA.kc.c hp hx, evc_ok hA.k hA.kc.c hp hy]
    exact run_bind_ok (run_bind_ok (show (eqGuard .eql T x y (.slice a n cp) (.slice none 0 0)).run C.P w' = .ok () w' from rfl) |>.trans (eql_nil hTT.und)) |>.trans rfl) h hs rfl hf (okR_no rfl)
theorem c_CloneCls (l : List ClR) (a : Option Addr) (cap : Nat) (S : Nat → Prop) (w : World) (hS : Sl eC S w a l) :
    Ret Tryz.prog 138 #[.slice a l.length cap] w fun v w' => ∃ a' cap', v = .slice a' l.length cap' ∧ OwP 3 encC w' w.heap.size 58 a' cap' l ∧ Bl w w' := by
  have hbig := hS.big
  refine entr (vs := [.slice a l.length cap]) [0, 2, 4] tabok Tryz.func138 (by kernel_rfl) ?_
  refine bnil ?_
  refine br (t := a.isNone) (fun h => ?_) (fun h => ?_)
  · have hl := sl_none hS h
    subst hl
    exact rt1 ⟨none, 0, rfl, Ow.nil .., Bl.refl _⟩
  refine bs (cs := []) fun b1 w1 h1 => ?_
  refine apl (enc := encC) (base := w.heap.size) (l0 := []) (l1 := l) (Ow.base (Ow.made (n := 0) h1 rfl (by omega)) (by rw [h1.blk]; exact Nat.le_refl _)) (src_of (hS.bl h1.bl)) (by rw [h1.size]; omega) (fun a' cap' w2 hO hA hf => ?_)
  exact rt1 ⟨a', cap', rfl, hO, bl_ap h1.bl hA fun g hg => by
    simp only [Option.some.injEq, Addr.mk.injEq, and_true] at hg
    rw [← hg, h1.blk]; exact Nat.le_refl _⟩
theorem c_CloneFld (l : List Fld) (a : Option Addr) (cap : Nat) (S : Nat → Prop) (w : World) (hS : Sl eFld S w a l) :
    Ret Tryz.prog 139 #[.slice a l.length cap] w fun v w' => ∃ a' cap', v = .slice a' l.length cap' ∧ OwP 3 encFld w' w.heap.size 86 a' cap' l ∧ Bl w w' := by
  have hbig := hS.big
  refine entr (vs := [.slice a l.length cap]) [0, 2, 4] tabok Tryz.func139 (by kernel_rfl) ?_
  refine bnil ?_
  refine br (t := a.isNone) (fun h => ?_) (fun h => ?_)
  · have hl := sl_none hS h
    subst hl
    exact rt1 ⟨none, 0, rfl, Ow.nil .., Bl.refl _⟩
  refine bs (cs := []) fun b1 w1 h1 => ?_
  refine apl (enc := encFld) (base := w.heap.size) (l0 := []) (l1 := l) (Ow.base (Ow.made (n := 0) h1 rfl (by omega)) (by rw [h1.blk]; exact Nat.le_refl _)) (src_of (hS.bl h1.bl)) (by rw [h1.size]; omega) (fun a' cap' w2 hO hA hf => ?_)
  exact rt1 ⟨a', cap', rfl, hO, bl_ap h1.bl hA fun g hg => by
    simp only [Option.some.injEq, Addr.mk.injEq, and_true] at hg
    rw [← hg, h1.blk]; exact Nat.le_refl _⟩
theorem c_CloneMth (l : List MtR) (a : Option Addr) (cap : Nat) (S : Nat → Prop) (w : World) (hS : Sl eM S w a l) :
    Ret Tryz.prog 140 #[.slice a l.length cap] w fun v w' => ∃ a' cap', v = .slice a' l.length cap' ∧ OwP 7 encM w' w.heap.size 64 a' cap' l ∧ Bl w w' := by
  have hbig := hS.big
  refine entr (vs := [.slice a l.length cap]) [0, 2, 4] tabok Tryz.func140 (by kernel_rfl) ?_
  refine bnil ?_
  refine br (t := a.isNone) (fun h => ?_) (fun h => ?_)
  · have hl := sl_none hS h
    subst hl
    exact rt1 ⟨none, 0, rfl, Ow.nil .., Bl.refl _⟩
  refine bs (cs := []) fun b1 w1 h1 => ?_
  refine apl (enc := encM) (base := w.heap.size) (l0 := []) (l1 := l) (Ow.base (Ow.made (n := 0) h1 rfl (by omega)) (by rw [h1.blk]; exact Nat.le_refl _)) (src_of (hS.bl h1.bl)) (by rw [h1.size]; omega) (fun a' cap' w2 hO hA hf => ?_)
  exact rt1 ⟨a', cap', rfl, hO, bl_ap h1.bl hA fun g hg => by
    simp only [Option.some.injEq, Addr.mk.injEq, and_true] at hg
    rw [← hg, h1.blk]; exact Nat.le_refl _⟩
theorem c_CloneTy (l : List Ty) (a : Option Addr) (cap : Nat) (S : Nat → Prop) (w : World) (hS : Sl eTy S w a l) :
    Ret Tryz.prog 141 #[.slice a l.length cap] w fun v w' => ∃ a' cap', v = .slice a' l.length cap' ∧ OwP 2 encTy w' w.heap.size 61 a' cap' l ∧ Bl w w' := by
  have hbig := hS.big
  refine entr (vs := [.slice a l.length cap]) [0, 2, 4] tabok Tryz.func141 (by kernel_rfl) ?_
  refine bnil ?_
  refine br (t := a.isNone) (fun h => ?_) (fun h => ?_)
  · have hl := sl_none hS h
    subst hl
    exact rt1 ⟨none, 0, rfl, Ow.nil .., Bl.refl _⟩
  refine bs (cs := []) fun b1 w1 h1 => ?_
  refine apl (enc := encTy) (base := w.heap.size) (l0 := []) (l1 := l) (Ow.base (Ow.made (n := 0) h1 rfl (by omega)) (by rw [h1.blk]; exact Nat.le_refl _)) (src_of (hS.bl h1.bl)) (by rw [h1.size]; omega) (fun a' cap' w2 hO hA hf => ?_)
  exact rt1 ⟨a', cap', rfl, hO, bl_ap h1.bl hA fun g hg => by
    simp only [Option.some.injEq, Addr.mk.injEq, and_true] at hg
    rw [← hg, h1.blk]; exact Nat.le_refl _⟩
theorem c_CloneIns (l : List Ins) (a : Option Addr) (cap : Nat) (S : Nat → Prop) (w : World) (hS : Sl eIns S w a l) :
    Ret Tryz.prog 142 #[.slice a l.length cap] w fun v w' => ∃ a' cap', v = .slice a' l.length cap' ∧ OwP 3 encIns w' w.heap.size 89 a' cap' l ∧ Bl w w' := by
  have hbig := hS.big
  refine entr (vs := [.slice a l.length cap]) [0, 2, 4] tabok Tryz.func142 (by kernel_rfl) ?_
  refine bnil ?_
  refine br (t := a.isNone) (fun h => ?_) (fun h => ?_)
  · have hl := sl_none hS h
    subst hl
    exact rt1 ⟨none, 0, rfl, Ow.nil .., Bl.refl _⟩
  refine bs (cs := []) fun b1 w1 h1 => ?_
  refine apl (enc := encIns) (base := w.heap.size) (l0 := []) (l1 := l) (Ow.base (Ow.made (n := 0) h1 rfl (by omega)) (by rw [h1.blk]; exact Nat.le_refl _)) (src_of (hS.bl h1.bl)) (by rw [h1.size]; omega) (fun a' cap' w2 hO hA hf => ?_)
  exact rt1 ⟨a', cap', rfl, hO, bl_ap h1.bl hA fun g hg => by
    simp only [Option.some.injEq, Addr.mk.injEq, and_true] at hg
    rw [← hg, h1.blk]; exact Nat.le_refl _⟩
theorem flat_set {α : Type} {sz : Nat} {enc : α → List Value} (h : ∀ x, (enc x).length = sz) : ∀ {l : List α} {i : Nat} {x y : α} {j : Nat} {v : Value}, l[i]? = some x → j < sz → enc y = (enc x).set j v → (l.flatMap enc).set (i * sz + j) v = (l.set i y).flatMap enc
  | [], i, x, y, j, v, hx, _, _ => by simp at hx
  | z :: l, 0, x, y, j, v, hx, hj, he => by
    simp at hx; subst hx
    rw [Nat.zero_mul, Nat.zero_add, List.flatMap_cons, List.set_append_left _ _ (by rw [h]; exact hj), ← he]
    rfl
  | z :: l, i + 1, x, y, j, v, hx, hj, he => by
    have ih := flat_set h (l := l) (i := i) (by simpa using hx) hj he
    rw [List.flatMap_cons, List.set_append_right _ _ (by rw [h, Nat.succ_mul]; omega), h, show (i + 1) * sz + j - sz = i * sz + j by rw [Nat.succ_mul]; omega, ih]
    rfl
theorem row_keys {R R' : Key → Rw} (h : ∀ k, R k = R' k) : R = R' := funext h
theorem take_set_get {α : Type} {l : List α} {k : Nat} (hk : k < l.length) (y : α) (i : Nat) : ((l.set k y).take (k + 1))[i]? = if i = k then some y else (l.take k)[i]? := by
  rw [List.getElem?_take, List.getElem?_take, List.getElem?_set]
  by_cases h : i = k
  · subst h; simp [hk]
  · rcases Nat.lt_or_ge i k with q | q
    · simp [h, q, show i < k + 1 by omega, Ne.symm h]
    · simp [h, show ¬ i < k + 1 by omega, show ¬ i < k by omega]
/-- a class's fields lie in a row of their own now -/
theorem rowN_fld {X : UX} {k j : Nat} {x : ClR} {a' : Option Addr} {q' : Nat} (hx : X.cl[k]? = some x) : setR (setR (rowN X k j) (.fld k) (rwF ⟨x.c, a', q'⟩)) .cls ⟨58, 3, X.a2, (X.cl.set k ⟨x.c, a', q'⟩).length, X.c2, (X.cl.set k ⟨x.c, a', q'⟩).flatMap encC⟩ = rowN { X with cl := X.cl.set k ⟨x.c, a', q'⟩ } (k + 1) j := by
  have hk := (List.getElem?_eq_some_iff.1 hx).1
  funext key
  cases key with
  | fld i =>
    simp only [setR, rowN, reduceCtorEq, if_false, Key.fld.injEq, take_set_get hk]
    by_cases h : i = k
    · rw [if_pos h, if_pos h]; rfl
    · rw [if_neg h, if_neg h]
  | _ => simp [setR, rowN]
theorem rowN_mth {X : UX} {i k : Nat} {x : MtR} {a1 a2 a3 : Option Addr} {c1 c2 c3 : Nat} (hx : X.ml[k]? = some x) : setR (setR (setR (setR (rowN X i k) (.prm k) (rwP ⟨x.m, a1, c1, a2, c2, a3, c3⟩)) (.loc k) (rwL ⟨x.m, a1, c1, a2, c2, a3, c3⟩)) (.cod k) (rwI ⟨x.m, a1, c1, a2, c2, a3, c3⟩)) .mth ⟨64, 7, X.a4, (X.ml.set k ⟨x.m, a1, c1, a2, c2, a3, c3⟩).length, X.c4, (X.ml.set k ⟨x.m, a1, c1, a2, c2, a3, c3⟩).flatMap encM⟩ = rowN { X with ml := X.ml.set k ⟨x.m, a1, c1, a2, c2, a3, c3⟩ } i (k + 1) := by
  have hk := (List.getElem?_eq_some_iff.1 hx).1
  have key3 : ∀ (j : Nat) (f : MtR → Rw), (if j = k then f ⟨x.m, a1, c1, a2, c2, a3, c3⟩ else (((X.ml.take k)[j]?).map f).getD (Rw.no 0 0)) = ((((X.ml.set k ⟨x.m, a1, c1, a2, c2, a3, c3⟩).take (k + 1))[j]?).map f).getD (Rw.no 0 0) := fun j f => by
    rw [take_set_get hk]
    by_cases h : j = k
    · rw [if_pos h, if_pos h]; rfl
    · rw [if_neg h, if_neg h]
  funext key
  cases key with
  | prm j => simpa [setR, rowN] using key3 j rwP
  | loc j => simpa [setR, rowN] using key3 j rwL
  | cod j => simpa [setR, rowN] using key3 j rwI
  | _ => simp [setR, rowN]
/-- a unit cloned: in rows of its own -/
theorem u_clone (u : Unt) (a : UA) (w : World) (hU : UnR T w u a) : Ret Tryz.prog 80 #[.agg (ucells u a).toArray] w fun v w' => ∃ X, v = .agg X.cells.toArray ∧ X.u = u ∧ SepU w' w.heap.size X ∧ Bl w w' := by
  obtain ⟨xs0, hxs, hC, hF⟩ := cls_rows hU.cls
  obtain ⟨ms0, hms, hM, hP⟩ := mth_rows hU.mth
  have hz := hU.siz
  have n2 : xs0.length = u.classes.length := by rw [← hxs, List.length_map]
  have n4 : ms0.length = u.methods.length := by rw [← hms, List.length_map]
  have m1 := hz.pool
  have m2 := hz.cls
  have m3 := hz.sta
  have m4 := hz.mth
  refine entr (vs := [.agg (ucells u a).toArray]) [0, 1, 2, 3, 4, 5, 24, 25, 26, 43, 44, 45] tabok Tryz.func80 (by kernel_rfl) ?_
  refine bx (cs := ucells u a) fun b1 w1 h1 => ?_
  refine al fun b2 w2 h2 => ?_
  have B02 := h1.bl.trans h2.bl
  have hx1 := Bl.box h2.bl h1.box
  have hx2 := h2.box
  have z1 := h1.size
  have z2 := h2.size
  have y1 := h1.blk
  have y2 := h2.blk
  refine dht 7 T [0, 1, 3, 4, 6, 7, 9, 10, 2, 12, 5, 8, 11] fun w3 h3 => ?_
  have B03 := B02.trans h3.bl
  replace hx1 := Bl.box h3.bl hx1
  replace hx2 := Bl.box h3.bl hx2
  have z3 : w3.heap.size = w2.heap.size := by rw [h3.heap]
  refine ld (hx1.cell rfl) ?_ (hm := trivial)
  refine ld (hx1.cell rfl) ?_ (hm := trivial)
  refine ld (hx1.cell rfl) ?_ (hm := trivial)
  refine ld (hx1.cell rfl) ?_ (hm := trivial)
  refine cl (c_CloneStr u.pool a.a1 a.c1 T w3 (hU.bl B03).pool) ?_ (hm := fun _ _ r => by obtain ⟨_, _, _, _, hB⟩ := r; exact mdW_bl hB)
  rintro _ w4 ⟨a1, c1, rfl, hO1, B34⟩
  have B04 := B03.trans B34
  have k2 := c_CloneCls xs0 a.a2 a.c2 T w4 (hC.bl B04)
  rw [n2] at k2
  refine cl k2 ?_ (hm := fun _ _ r => by obtain ⟨_, _, _, _, hB⟩ := r; exact mdW_bl hB)
  rintro _ w5 ⟨a2, c2, rfl, hO2, B45⟩
  have B05 := B04.trans B45
  refine cl (c_CloneFld u.statics a.a3 a.c3 T w5 (hU.bl B05).sta) ?_ (hm := fun _ _ r => by obtain ⟨_, _, _, _, hB⟩ := r; exact mdW_bl hB)
  rintro _ w6 ⟨a3, c3, rfl, hO3, B56⟩
  have B06 := B05.trans B56
  have k4 := c_CloneMth ms0 a.a4 a.c4 T w6 (hM.bl B06)
  rw [n4] at k4
  refine cl k4 ?_ (hm := fun _ _ r => by obtain ⟨_, _, _, _, hB⟩ := r; exact mdW_bl hB)
  rintro _ w7 ⟨a4, c4, rfl, hO4, B67⟩
  have B07 := B06.trans B67
  have s4 := B34.size
  have s5 := B45.size
  have s6 := B56.size
  have s7 := B67.size
  have hx17 := Bl.box (((B34.trans B45).trans B56).trans B67) hx1
  refine st hx17 fun w8 k8 hx8 => ?_
  refine st hx8 fun w9 k9 hx9 => ?_
  refine st hx9 fun w10 k10 hx10 => ?_
  refine st hx10 fun w11 k11 hx11 => ?_
  have K := ((k8.trans k9).trans k10).trans k11
  clear k8 k9 k10 hx8 hx9 hx10 hx17
  have hS7 : SepR w7 w3.heap.size (rowN ⟨u.name, a1, c1, u.pool, a2, c2, xs0, a3, c3, u.statics, a4, c4, ms0⟩ 0 0) := by
    have q0 : SepR w3 w3.heap.size fun _ => Rw.no 0 0 := SepR.no _ _ _ fun _ => ⟨0, 0, rfl⟩
    have q1 := q0.upd .pool (r := ⟨9, 1, a1, u.pool.length, c1, u.pool.flatMap encStr⟩) (Ap.of_bl B34 _) hO1 fun g hg => .inr (Ow.lt hO1 hg).1
    have q2 := q1.upd .cls (r := ⟨58, 3, a2, xs0.length, c2, xs0.flatMap encC⟩) (Ap.of_bl B45 _) (Ow.base hO2 s4) fun g hg => .inr (Ow.lt hO2 hg).1
    have q3 := q2.upd .sta (r := ⟨86, 3, a3, u.statics.length, c3, u.statics.flatMap encFld⟩) (Ap.of_bl B56 _) (Ow.base hO3 (Nat.le_trans s4 s5)) fun g hg => .inr (Ow.lt hO3 hg).1
    have q4 := q3.upd .mth (r := ⟨64, 7, a4, ms0.length, c4, ms0.flatMap encM⟩) (Ap.of_bl B67 _) (Ow.base hO4 (Nat.le_trans s4 (Nat.le_trans s5 s6))) fun g hg => .inr (Ow.lt hO4 hg).1
    refine cast (congrArg (SepR w7 w3.heap.size) (row_keys fun k => ?_)) q4
    cases k <;> simp [setR, rowN]
  have hS11 := hS7.wr K (by omega)
  have hx21 := K.box (Bl.box (((B34.trans B45).trans B56).trans B67) hx2) (by omega)
  have B11 : Bl w w11 := B07.trans_wr K (by omega)
  refine ld (hx11.cell rfl) ?_
  refine lpk u.classes.length 25 [] [(1, .pointer (some ⟨b1, 0, none⟩)), (2, .pointer (some ⟨b2, 0, none⟩)), (24, I u.classes.length)] (fun k vals w' => vals = [] ∧ ∃ xs : List ClR, xs.map (·.c) = u.classes ∧ (∀ i, k ≤ i → xs[i]? = xs0[i]?) ∧ SepR w' w3.heap.size (rowN ⟨u.name, a1, c1, u.pool, a2, c2, xs, a3, c3, u.statics, a4, c4, ms0⟩ k 0) ∧
    Box w' b1 30 [.string u.name, .slice a1 u.pool.length c1, .slice a2 u.classes.length c2, .slice a3 u.statics.length c3, .slice a4 u.methods.length c4] ∧ Box w' b2 30 [.string ⟨#[]⟩, .slice none 0 0, .slice none 0 0, .slice none 0 0, .slice none 0 0] ∧ Bl w w') ⟨rfl, xs0, hxs, fun _ _ => rfl, hS11, hx11, hx21, B11⟩ ?_
  rintro k vals w12 hk ⟨rfl, xs, hxk, hold, hS, hy1, hy2, B12⟩ ih
  have lxs : xs.length = u.classes.length := by have := congrArg List.length hxk; rw [List.length_map] at this; exact this
  by_cases hlt : k < u.classes.length
  · refine brT ?_
    obtain ⟨x, hx⟩ := some_of_lt (l := xs) (k := k) (by omega)
    have hx0 : xs0[k]? = some x := by rw [← hold k (Nat.le_refl _)]; exact hx
    obtain ⟨g, cur, ea, hgb, hln, hAt, hg⟩ := hS.box .cls (by show 0 < xs.length; omega)
    obtain rfl : a2 = some ⟨g, 0, none⟩ := ea
    have hln : xs.length * 3 ≤ cur.length := hln
    have hAx := at_elem (sz := 3) (enc := encC) hAt hx fun _ => rfl
    have hfx := (hF x (List.mem_of_getElem? hx0)).bl B12
    refine dht 3 T [0, 1, 2, 3, 4, 5, 6, 7, 8, 9] fun w13 h13 => ?_
    refine ld ((h13.box hy1).cell rfl) ?_ (hm := trivial)
    refine ld ((h13.box hy1).cell rfl) ?_ (hm := trivial)
    refine ix ?_
    refine ld ((hAx.bl h13.bl) 2 _ rfl) ?_ (hm := trivial)
    refine cl (c_CloneFld x.c.fields x.a x.q T w13 (hfx.bl h13.bl)) ?_ (hm := fun _ _ r => by obtain ⟨_, _, _, _, hB⟩ := r; exact mdW_bl hB)
    rintro _ w14 ⟨a', q', rfl, hO, hB14⟩
    have B1214 := h13.bl.trans hB14
    have z13 : w13.heap.size = w12.heap.size := by rw [h13.heap]
    have z14 := B1214.size
    have q1 := hS.upd (.fld k) (r := rwF ⟨x.c, a', q'⟩) (Ap.of_bl B1214 _) (Ow.base hO (by omega)) fun g hg => .inr (by have := (Ow.lt hO hg).1; omega)
    refine ix ?_
    refine stx (Bl.box B1214 hgb) (fun w15 k15 hb15 => ?_) (ho := by omega)
    have q2 := q1.set .cls (g := g) rfl (Bl.box B1214 hgb) k15 hb15 (r := ⟨58, 3, some ⟨g, 0, none⟩, (xs.set k ⟨x.c, a', q'⟩).length, c2, (xs.set k ⟨x.c, a', q'⟩).flatMap encC⟩) (by
      rw [← flat_set (sz := 3) (enc := encC) (fun _ => rfl) hx (j := 2) (v := .slice a' x.c.fields.length q') (by omega) rfl, List.length_set, Nat.zero_add]; rfl)
    have hr := rowN_fld (X := ⟨u.name, a1, c1, u.pool, some ⟨g, 0, none⟩, c2, xs, a3, c3, u.statics, a4, c4, ms0⟩) (k := k) (j := 0) (a' := a') (q' := q') hx
    refine ih hlt ⟨rfl, xs.set k ⟨x.c, a', q'⟩, ?_, fun i hi => ?_, ?_, k15.box (Bl.box B1214 hy1) (by omega), k15.box (Bl.box B1214 hy2) (by omega), (B12.trans B1214).trans_wr k15 (by omega)⟩
    · rw [List.map_set, hxk]
      refine List.ext_getElem? fun i => ?_
      rw [List.getElem?_set]
      split
      · rename_i e
        subst e
        have : u.classes[k]? = some x.c := by rw [← hxk, List.getElem?_map, hx]; rfl
        rw [this]
      · rfl
    · rw [List.getElem?_set, if_neg (by omega)]
      exact hold i (by omega)
    · rw [← hr]; exact q2
  refine brF ?_
  obtain rfl : k = u.classes.length := by omega
  clear ih hS11 hx11 hx21
  refine ld (hy1.cell rfl) ?_
  refine lpk u.methods.length 44 [] [(1, .pointer (some ⟨b1, 0, none⟩)), (2, .pointer (some ⟨b2, 0, none⟩)), (43, I u.methods.length)] (fun k vals w' => vals = [] ∧ ∃ ms : List MtR, ms.map (·.m) = u.methods ∧ (∀ i, k ≤ i → ms[i]? = ms0[i]?) ∧ SepR w' w3.heap.size (rowN ⟨u.name, a1, c1, u.pool, a2, c2, xs, a3, c3, u.statics, a4, c4, ms⟩ u.classes.length k) ∧
    Box w' b1 30 [.string u.name, .slice a1 u.pool.length c1, .slice a2 u.classes.length c2, .slice a3 u.statics.length c3, .slice a4 u.methods.length c4] ∧ Box w' b2 30 [.string ⟨#[]⟩, .slice none 0 0, .slice none 0 0, .slice none 0 0, .slice none 0 0] ∧ Bl w w') ⟨rfl, ms0, hms, fun _ _ => rfl, hS, hy1, hy2, B12⟩ ?_
  clear hS hy1 hy2 B12
  rintro k vals w20 hk ⟨rfl, ms, hmk, hold2, hS, hy1, hy2, B20⟩ ih
  have lms : ms.length = u.methods.length := by have := congrArg List.length hmk; rw [List.length_map] at this; exact this
  by_cases hlt : k < u.methods.length
  · refine brT ?_
    obtain ⟨x, hx⟩ := some_of_lt (l := ms) (k := k) (by omega)
    have hx0 : ms0[k]? = some x := by rw [← hold2 k (Nat.le_refl _)]; exact hx
    obtain ⟨g, cur, ea, hgb, hln, hAt, hg⟩ := hS.box .mth (by show 0 < ms.length; omega)
    obtain rfl : a4 = some ⟨g, 0, none⟩ := ea
    have hln : ms.length * 7 ≤ cur.length := hln
    have hAx := at_elem (sz := 7) (enc := encM) hAt hx fun _ => rfl
    obtain ⟨f1, f2, f3⟩ := hP x (List.mem_of_getElem? hx0)
    refine ld (hy1.cell rfl) ?_
    refine ix ?_
    refine dht 9 T [0, 1, 2, 3, 4, 5, 6, 8, 9, 10, 11, 13, 14, 15, 16, 7, 12, 17] fun w21 h21 => ?_
    have B021 := B20.trans h21.bl
    refine ld ((hAx.bl h21.bl) 2 _ rfl) ?_ (hm := trivial)
    refine ld ((hAx.bl h21.bl) 3 _ rfl) ?_ (hm := trivial)
    refine ld ((hAx.bl h21.bl) 6 _ rfl) ?_ (hm := trivial)
    refine cl (c_CloneTy x.m.params x.a1 x.c1 T w21 (f1.bl B021)) ?_ (hm := fun _ _ r => by obtain ⟨_, _, _, _, hB⟩ := r; exact mdW_bl hB)
    rintro _ w22 ⟨p1, d1, rfl, hO1, hB22⟩
    refine cl (c_CloneTy x.m.locals x.a2 x.c2 T w22 (f2.bl (B021.trans hB22))) ?_ (hm := fun _ _ r => by obtain ⟨_, _, _, _, hB⟩ := r; exact mdW_bl hB)
    rintro _ w23 ⟨p2, d2, rfl, hO2, hB23⟩
    refine cl (c_CloneIns x.m.code x.a3 x.c3 T w23 (f3.bl ((B021.trans hB22).trans hB23))) ?_ (hm := fun _ _ r => by obtain ⟨_, _, _, _, hB⟩ := r; exact mdW_bl hB)
    rintro _ w24 ⟨p3, d3, rfl, hO3, hB24⟩
    have B2024 := ((h21.bl.trans hB22).trans hB23).trans hB24
    have z21 : w21.heap.size = w20.heap.size := by rw [h21.heap]
    have z22 := hB22.size
    have z23 := hB23.size
    have z24 := hB24.size
    have zz : w3.heap.size ≤ w20.heap.size := by omega
    have q1 := hS.upd (.prm k) (r := rwP ⟨x.m, p1, d1, p2, d2, p3, d3⟩) (Ap.of_bl (h21.bl.trans hB22) _) (Ow.base hO1 (by omega)) fun g hg => .inr (by have := (Ow.lt hO1 hg).1; omega)
    have q2 := q1.upd (.loc k) (r := rwL ⟨x.m, p1, d1, p2, d2, p3, d3⟩) (Ap.of_bl hB23 _) (Ow.base hO2 (by omega)) fun g hg => .inr (by have := (Ow.lt hO2 hg).1; omega)
    have q3 := q2.upd (.cod k) (r := rwI ⟨x.m, p1, d1, p2, d2, p3, d3⟩) (Ap.of_bl hB24 _) (Ow.base hO3 (by omega)) fun g hg => .inr (by have := (Ow.lt hO3 hg).1; omega)
    have hb24 := Bl.box B2024 hgb
    refine stx hb24 (fun w25 k25 hb25 => ?_) (ho := by omega)
    refine stx hb25 (fun w26 k26 hb26 => ?_) (ho := by rw [List.length_set]; omega)
    refine stx hb26 (fun w27 k27 hb27 => ?_) (ho := by rw [List.length_set, List.length_set]; omega)
    have s1 := q3.set .mth (g := g) rfl hb24 k25 hb25 (r := ⟨64, 7, some ⟨g, 0, none⟩, ms.length, c4, (ms.flatMap encM).set (0 + k * 7 + 2) (.slice p1 x.m.params.length d1)⟩) rfl
    have s2 := s1.set .mth (g := g) rfl hb25 k26 hb26 (r := ⟨64, 7, some ⟨g, 0, none⟩, ms.length, c4, ((ms.flatMap encM).set (0 + k * 7 + 2) (.slice p1 x.m.params.length d1)).set (0 + k * 7 + 3) (.slice p2 x.m.locals.length d2)⟩) rfl
    have s3 := s2.set .mth (g := g) rfl hb26 k27 hb27 (r := ⟨64, 7, some ⟨g, 0, none⟩, (ms.set k ⟨x.m, p1, d1, p2, d2, p3, d3⟩).length, c4, (ms.set k ⟨x.m, p1, d1, p2, d2, p3, d3⟩).flatMap encM⟩) (by
      have g1 := flat_set (sz := 7) (enc := encM) (fun _ => rfl) hx (y := ⟨x.m, p1, d1, x.a2, x.c2, x.a3, x.c3⟩) (j := 2) (v := .slice p1 x.m.params.length d1) (by omega) rfl
      have g2 := flat_set (sz := 7) (enc := encM) (fun _ => rfl) (l := ms.set k ⟨x.m, p1, d1, x.a2, x.c2, x.a3, x.c3⟩) (i := k) (x := ⟨x.m, p1, d1, x.a2, x.c2, x.a3, x.c3⟩) (y := ⟨x.m, p1, d1, p2, d2, x.a3, x.c3⟩) (by rw [List.getElem?_set_self (by omega)]) (j := 3) (v := .slice p2 x.m.locals.length d2) (by omega) rfl
      have g3 := flat_set (sz := 7) (enc := encM) (fun _ => rfl) (l := ms.set k ⟨x.m, p1, d1, p2, d2, x.a3, x.c3⟩) (i := k) (x := ⟨x.m, p1, d1, p2, d2, x.a3, x.c3⟩) (y := ⟨x.m, p1, d1, p2, d2, p3, d3⟩) (by rw [List.getElem?_set_self (by omega)]) (j := 6) (v := .slice p3 x.m.code.length d3) (by omega) rfl
      rw [List.set_set] at g2 g3
      rw [← g3, ← g2, ← g1, List.length_set]
      simp only [Nat.zero_add]; rfl)
    rw [setR_setR, setR_setR, rowN_mth (X := ⟨u.name, a1, c1, u.pool, a2, c2, xs, a3, c3, u.statics, some ⟨g, 0, none⟩, c4, ms⟩) (i := u.classes.length) hx] at s3
    have K := (k25.trans k26).trans k27
    refine ih hlt ⟨rfl, ms.set k ⟨x.m, p1, d1, p2, d2, p3, d3⟩, ?_, fun i hi => ?_, s3, K.box (Bl.box B2024 hy1) (by omega), K.box (Bl.box B2024 hy2) (by omega), (B20.trans B2024).trans_wr K (by omega)⟩
    · rw [List.map_set, hmk]
      refine List.ext_getElem? fun i => ?_
      rw [List.getElem?_set]
      split
      · rename_i e
        subst e
        have : u.methods[k]? = some x.m := by rw [← hmk, List.getElem?_map, hx]; rfl
        rw [this]
      · rfl
    · rw [List.getElem?_set, if_neg (by omega)]
      exact hold2 i (by omega)
  refine brF ?_
  obtain rfl : k = u.methods.length := by omega
  refine lda hy1.at ?_
  refine sta hy2 fun wB kB hxB => ?_
  refine rtc hxB.at ⟨⟨u.name, a1, c1, u.pool, a2, c2, xs, a3, c3, u.statics, a4, c4, ms⟩, ?_, ?_, ?_, B20.trans_wr kB (by omega)⟩
  · simp only [UX.cells, lxs, lms]
  · simp only [UX.u, hxk, hmk]
  · unfold SepU UX.row
    rw [lxs, lms]
    exact (hS.wr kB (by omega)).base (by omega)
end Go.Proofs.YtopjmiklpnejmaaGreatDoor

/- Walks: the program's ways through a unit in rows of its own, where each index is put elsewhere. -/
namespace Go.Proofs.YtopjmiklpnejmaaGreatDoor
open Eng Go.RowKit
/-- the first k turned -/
def mixL {α : Type} (f : α → α) (l : List α) (k : Nat) : List α := (l.take k).map f ++ l.drop k
theorem mixL_len {α : Type} (f : α → α) (l : List α) (k : Nat) : (mixL f l k).length = l.length := by unfold mixL; simp; omega
theorem mixL_zero {α : Type} (f : α → α) (l : List α) : mixL f l 0 = l := by simp [mixL]
theorem mixL_end {α : Type} (f : α → α) (l : List α) : mixL f l l.length = l.map f := by simp [mixL]
theorem mixL_get {α : Type} (f : α → α) {l : List α} {k : Nat} {x : α} (h : l[k]? = some x) : (mixL f l k)[k]? = some x := by
  have hk := (List.getElem?_eq_some_iff.1 h).1
  unfold mixL
  rw [List.getElem?_append_right (by simp [List.length_take]; omega)]
  simp [List.length_take, Nat.min_eq_left (Nat.le_of_lt hk), h]
theorem mixL_set {α : Type} (f : α → α) {l : List α} {k : Nat} {x : α} (h : l[k]? = some x) : (mixL f l k).set k (f x) = mixL f l (k + 1) := by
  obtain ⟨hk, rfl⟩ := List.getElem?_eq_some_iff.1 h
  have hl : ((l.take k).map f).length = k := by rw [List.length_map, List.length_take]; omega
  unfold mixL
  rw [List.set_append_right _ _ (by omega), hl, Nat.sub_self, List.drop_eq_getElem_cons hk, List.set_cons_zero, List.take_succ_eq_append_getElem hk, List.map_append]
  simp
/-- a function that is handed a cell with an index: it puts another there -/
structure EachM (Q : Nat → Prop) (g : FuncId) (caps : List Value) (f : Int → Int) (Pok : Rf → Prop) (Inv : World → Prop) : Prop where
  bl : ∀ w w', Inv w → Bl w w' → Inv w'
  run : ∀ r b o e cur w, Q b → Pok r → Inv w → Box w b e cur → cur[o]? = some (I r.at') →
    Ret Tryz.prog g ([Value.agg #[.pointer (some ⟨b, o, none⟩), I r.parts, .bool r.opt]] ++ caps).toArray w fun _ w' => Inv w' ∧ Ap w (some ⟨b, 0, none⟩) w' ∧ Box w' b e (cur.set o (I (f r.at')))
theorem row_cell {α : Type} {sz : Nat} {enc : α → List Value} (hl : ∀ x, (enc x).length = sz) {cur : List Value} {l : List α} (hc : cur.take (l.length * sz) = l.flatMap enc) {k j : Nat} {x : α} {v : Value} (hx : l[k]? = some x) (hj : (enc x)[j]? = some v) : cur[0 + k * sz + j]? = some v := by
  have hjl := (List.getElem?_eq_some_iff.1 hj).1
  rw [hl] at hjl
  have hk := (List.getElem?_eq_some_iff.1 hx).1
  have h := flat_get hl hx j hjl
  rw [← hc] at h
  have hlt : k * sz + j < l.length * sz := by
    have : (k + 1) * sz ≤ l.length * sz := Nat.mul_le_mul_right _ hk
    rw [Nat.add_mul, Nat.one_mul] at this; omega
  rw [List.getElem?_take, if_pos hlt] at h
  rw [Nat.zero_add, h, hj]
theorem row_set {α : Type} {sz : Nat} {enc : α → List Value} (hl : ∀ x, (enc x).length = sz) {w w' : World} {base e cap b : Nat} {l : List α} {k j : Nat} {x y : α} {v : Value} {cur : List Value} (hO : OwP sz enc w base e (some ⟨b, 0, none⟩) cap l) (hb : Box w b e cur) (hx : l[k]? = some x) (hj : j < sz) (hy : enc y = (enc x).set j v)
    (hb' : Box w' b e (cur.set (0 + k * sz + j) v)) : OwP sz enc w' base e (some ⟨b, 0, none⟩) cap (l.set k y) := by
  have h := Eng.Ow.set hO hb hb'
  rw [Nat.zero_add, flat_set hl hx hj hy] at h
  unfold OwP
  rw [List.length_set]
  exact h
theorem ow_some {w : World} {base e esz n cap : Nat} {a : Option Addr} {xs : List Value} (h : Ow w base e esz a n cap xs) (hn : 0 < n) : ∃ b, a = some ⟨b, 0, none⟩ := by
  rcases h.shape with ⟨_, h0, _⟩ | ⟨g, cur, rfl, _⟩
  · omega
  · exact ⟨g, rfl⟩
section
variable {Q : Nat → Prop} {g : FuncId} {caps : List Value} {f : Int → Int} {Pok : Rf → Prop} {Inv : World → Prop}
theorem EachM.cell (hE : EachM Q g caps f Pok Inv) {α : Type} {sz : Nat} {enc : α → List Value} (hl : ∀ x, (enc x).length = sz) {w : World} {base e cap b : Nat} {a : Option Addr} {l : List α} {k : Nat} {x : α} (hO : OwP sz enc w base e a cap l) (ea : a = some ⟨b, 0, none⟩) (hQ : Q b) (hI : Inv w) (hx : l[k]? = some x) (r : Rf) (j : Nat) (hj : (enc x)[j]? = some (I r.at')) (hP : Pok r) :
    Ret Tryz.prog g ([Value.agg #[.pointer (some ⟨b, 0 + k * sz + j, none⟩), I r.parts, .bool r.opt]] ++ caps).toArray w fun _ w' => Inv w' ∧ Ap w a w' ∧ ∀ y, enc y = (enc x).set j (I (f r.at')) → OwP sz enc w' base e a cap (l.set k y) := by
  subst ea
  obtain ⟨cur, h1, h2, h3, h4, h5⟩ := Eng.Ow.box hO
  refine (hE.run r b _ e cur w hQ hP hI h1 (row_cell hl h3 hx hj)).mono fun v w' h => ⟨h.1, h.2.1, fun y hy => ?_⟩
  exact row_set hl hO h1 hx (by rw [← hl x]; exact (List.getElem?_eq_some_iff.1 hj).1) hy h.2.2
theorem m_types (hE : EachM Q g caps f Pok Inv) (t : Ty) (ht : ∀ u ∈ tyU t, Pok u) (b o e : Nat) (cur : List Value) (w : World) (hb : Q b) (hB : Box w b e cur) (h0 : cur[o]? = some (I t.kind)) (h1 : cur[o + 1]? = some (I t.cls)) (hI : Inv w) :
    Ret Tryz.prog 123 #[.pointer (some ⟨b, o, none⟩), .func (.func g) #[] caps.toArray] w fun _ w' => Inv w' ∧ Ap w (some ⟨b, 0, none⟩) w' ∧ Box w' b e (cur.set (o + 1) (I (mvTy f t).cls)) := by
  refine entr (vs := [.pointer (some ⟨b, o, none⟩), .func (.func g) #[] caps.toArray]) [0, 1, 15] tabok Tryz.func123 (by kernel_rfl) ?_
  refine ld (hB.cell h0) ?_
  refine ldg (fun _ => hB.cell h0) ?_
  refine br (t := tcls t) (fun h => ?_) (fun h => ?_)
  · have e2 : tyU t = [⟨t.cls, 2, false⟩] := by unfold tyU; rw [if_pos h]
    refine bd ?_
    refine cl (hE.run ⟨t.cls, 2, false⟩ b (o + 1) e cur w hb (ht _ (by rw [e2]; simp)) hI hB h1) ?_
    rintro v w' hJ
    exact en (vs := []) (by unfold mvTy; rw [if_pos h]; exact hJ)
  · refine en (vs := []) ⟨hI, Ap.of_bl (Below.refl _ _) _, ?_⟩
    unfold mvTy
    rw [if_neg (by rw [h]; simp)]
    obtain ⟨hk, e3⟩ := List.getElem?_eq_some_iff.1 h1
    rw [← e3, List.set_getElem_self]; exact hB
theorem EachM.typ (hE : EachM Q g caps f Pok Inv) {α : Type} {sz : Nat} {enc : α → List Value} (hl : ∀ x, (enc x).length = sz) {w : World} {base e cap b : Nat} {a : Option Addr} {l : List α} {k : Nat} {x : α} (hO : OwP sz enc w base e a cap l) (ea : a = some ⟨b, 0, none⟩) (hQ : Q b) (hI : Inv w) (hx : l[k]? = some x) (t : Ty) (j : Nat) (hj : (enc x)[j]? = some (I t.kind)) (hj1 : (enc x)[j + 1]? = some (I t.cls)) (hP : ∀ u ∈ tyU t, Pok u) :
    Ret Tryz.prog 123 #[.pointer (some ⟨b, 0 + k * sz + j, none⟩), .func (.func g) #[] caps.toArray] w fun _ w' => Inv w' ∧ Ap w a w' ∧ ∀ y, enc y = (enc x).set (j + 1) (I (mvTy f t).cls) → OwP sz enc w' base e a cap (l.set k y) := by
  subst ea
  obtain ⟨cur, h1, h2, h3, h4, h5⟩ := Eng.Ow.box hO
  refine (m_types hE t hP b _ e cur w hQ h1 (row_cell hl h3 hx hj) (row_cell hl h3 hx hj1) hI).mono fun v w' h => ⟨h.1, h.2.1, fun y hy => ?_⟩
  exact row_set hl hO h1 hx (by rw [← hl x]; exact (List.getElem?_eq_some_iff.1 hj1).1) hy h.2.2
theorem m_fields (hE : EachM Q g caps f Pok Inv) (l : List Fld) (hl : ∀ x ∈ l, ∀ u ∈ fldU x, Pok u) (a : Option Addr) (cap base : Nat) (w : World) (hO : OwP 3 encFld w base 86 a cap l) (hQ : ∀ g, a = some ⟨g, 0, none⟩ → Q g) (hbig : l.length ≤ 4194304) (hI : Inv w) :
    Ret Tryz.prog 122 #[.slice a l.length cap, .func (.func g) #[] caps.toArray] w fun _ w' => Inv w' ∧ Ap w a w' ∧ OwP 3 encFld w' base 86 a cap (l.map (mvFld f)) := by
  refine entr (vs := [.slice a l.length cap, .func (.func g) #[] caps.toArray]) [0, 1, 4, 6, 7, 8] tabok Tryz.func122 (by kernel_rfl) ?_
  refine lpk l.length 7 [] [(0, .slice a l.length cap), (1, .func (.func g) #[] caps.toArray), (6, I l.length)] (fun k vals w' => vals = [] ∧ Inv w' ∧ Ap w a w' ∧ OwP 3 encFld w' base 86 a cap (mixL (mvFld f) l k)) ⟨rfl, hI, Ap.of_bl (Below.refl _ _) _, by rw [mixL_zero]; exact hO⟩ ?_
  rintro k vals w1 hk ⟨rfl, I1, A1, O1⟩ ih
  by_cases hlt : k < l.length
  · refine brT ?_
    obtain ⟨x, hx⟩ := some_of_lt hlt
    have hm := List.mem_of_getElem? hx
    obtain ⟨b, rfl⟩ := ow_some O1 (by rw [mixL_len]; omega)
    have hQb := hQ b rfl
    have hxk := mixL_get (mvFld f) hx
    refine ix ?_
    refine bd ?_
    refine cl (hE.cell (enc := encFld) (fun _ => rfl) O1 rfl hQb I1 hxk ⟨x.name, 1, false⟩ 0 rfl (hl x hm _ (by simp [fldU]))) ?_
    rintro v w2 ⟨I2, A2, O2⟩
    have O2 := O2 ⟨f x.name, x.ty⟩ rfl
    have hx2 : ((mixL (mvFld f) l k).set k ⟨f x.name, x.ty⟩)[k]? = some ⟨f x.name, x.ty⟩ := List.getElem?_set_self (by rw [mixL_len]; exact hlt)
    refine ix ?_
    refine cl (hE.typ (enc := encFld) (fun _ => rfl) O2 rfl hQb I2 hx2 x.ty 1 rfl rfl (fun u hu => hl x hm u (by simp [fldU, hu]))) ?_
    rintro v3 w3 ⟨I3, A3, O3⟩
    have O3 := O3 (mvFld f x) (by unfold mvFld encFld; simp only [List.set_cons_succ, List.set_cons_zero, kind_mv])
    rw [List.set_set, mixL_set (mvFld f) hx] at O3
    exact ih hlt ⟨rfl, I3, (A1.trans A2).trans A3, O3⟩
  · refine brF ?_
    obtain rfl : k = l.length := by omega
    exact en (vs := []) ⟨I1, A1, by rw [mixL_end] at O1; exact O1⟩
end
end Go.Proofs.YtopjmiklpnejmaaGreatDoor

/- Walks: the program's ways through a unit in rows of its own, where each index is put elsewhere: the code, the heads, the whole. -/
namespace Go.Proofs.YtopjmiklpnejmaaGreatDoor
open Eng Go.RowKit
section
variable {Q : Nat → Prop} {g : FuncId} {caps : List Value} {f : Int → Int} {Pok : Rf → Prop} {Inv : World → Prop}
set_option maxHeartbeats 1000000 in
theorem m_operands (hE : EachM Q g caps f Pok Inv) (l : List Ins) (hl : ∀ i ∈ l, ∀ r ∈ opU i, Pok r) (hv : ∀ i ∈ l, validI i true = true) (a : Option Addr) (cap base : Nat) (w : World) (hO : OwP 3 encIns w base 89 a cap l) (hQ : ∀ g, a = some ⟨g, 0, none⟩ → Q g) (hbig : l.length ≤ 4194304) (hI : Inv w) :
    Ret Tryz.prog 56 #[.slice a l.length cap, .func (.func g) #[] caps.toArray] w fun _ w' => Inv w' ∧ Ap w a w' ∧ OwP 3 encIns w' base 89 a cap (l.map (mvIns f)) := by
  refine entr (vs := [.slice a l.length cap, .func (.func g) #[] caps.toArray]) [0, 1, 4, 5, 7, 8, 9, 17, 18, 27, 39, 47, 53, 60] tabok Tryz.func56 (by kernel_rfl) ?_
  refine lpk l.length 8 [] [(0, .slice a l.length cap), (1, .func (.func g) #[] caps.toArray), (7, I l.length)] (fun k vals w' => vals = [] ∧ Inv w' ∧ Ap w a w' ∧ OwP 3 encIns w' base 89 a cap (mixL (mvIns f) l k)) ⟨rfl, hI, Ap.of_bl (Below.refl _ _) _, by rw [mixL_zero]; exact hO⟩ ?_
  rintro k vals w1 hk ⟨rfl, I1, A1, O1⟩ ih
  by_cases hlt : k < l.length
  · refine brT ?_
    obtain ⟨x, hx⟩ := some_of_lt hlt
    have hm := List.mem_of_getElem? hx
    obtain ⟨b, rfl⟩ := ow_some O1 (by rw [mixL_len]; omega)
    have hQb := hQ b rfl
    have hxk := mixL_get (mvIns f) hx
    have hAt := at_elem (enc := encIns) (sz := 3) (O1.at rfl) hxk (fun _ => rfl)
    have hv := hv x hm
    have hl := hl x hm
    have nxt : ∀ {w2}, OwP 3 encIns w2 base 89 (some ⟨b, 0, none⟩) cap ((mixL (mvIns f) l k).set k (mvIns f x)) → OwP 3 encIns w2 base 89 (some ⟨b, 0, none⟩) cap (mixL (mvIns f) l (k + 1)) := fun h => by rw [← mixL_set (mvIns f) hx]; exact h
    have stay : mvIns f x = x → OwP 3 encIns w1 base 89 (some ⟨b, 0, none⟩) cap (mixL (mvIns f) l (k + 1)) := fun e => by
      rw [← mixL_set (mvIns f) hx, e]
      obtain ⟨hk, e3⟩ := List.getElem?_eq_some_iff.1 hxk
      have e4 : (mixL (mvIns f) l k).set k x = mixL (mvIns f) l k := by
        have := @List.set_getElem_self _ (mixL (mvIns f) l k) k hk
        rw [e3] at this; exact this
      rw [e4]; exact O1
    refine ix ?_
    refine ld (hAt.three.1) ?_
    obtain ⟨op, A, B⟩ := x
    by_cases e17 : op = 17
    · subst e17
      refine brT ?_ (hp := rfl)
      refine brT ?_ (hp := rfl)
      refine bd ?_
      refine cl (hE.cell (enc := encIns) (fun _ => rfl) O1 rfl hQb I1 hxk ⟨A, 3, false⟩ 1 rfl (hl _ (by simp [opU]))) ?_
      rintro v2 w2 ⟨I2, A2, O2⟩
      exact ih hlt ⟨rfl, I2, A1.trans A2, nxt (O2 _ (by simp [mvIns, named, encIns]))⟩
    by_cases e18 : op = 18
    · subst e18
      refine brF ?_ (hp := by show ¬ ((18 : Int) = 17); decide)
      refine brT ?_ (hp := rfl)
      refine bd ?_
      refine cl (hE.cell (enc := encIns) (fun _ => rfl) O1 rfl hQb I1 hxk ⟨A, 3, false⟩ 1 rfl (hl _ (by simp [opU]))) ?_
      rintro v2 w2 ⟨I2, A2, O2⟩
      exact ih hlt ⟨rfl, I2, A1.trans A2, nxt (O2 _ (by simp [mvIns, named, encIns]))⟩
    by_cases e14 : op = 14
    · subst e14
      refine brF ?_ (hp := by show ¬ ((14 : Int) = 17); decide)
      refine brF ?_ (hp := by show ¬ ((14 : Int) = 18); decide)
      refine brT ?_ (hp := rfl)
      refine brT ?_ (hp := rfl)
      refine bd ?_
      refine cl (hE.cell (enc := encIns) (fun _ => rfl) O1 rfl hQb I1 hxk ⟨A, 2, false⟩ 1 rfl (hl _ (by simp [opU]))) ?_
      rintro v2 w2 ⟨I2, A2, O2⟩
      exact ih hlt ⟨rfl, I2, A1.trans A2, nxt (O2 _ (by simp [mvIns, named, encIns]))⟩
    by_cases e24 : op = 24
    · subst e24
      refine brF ?_ (hp := by show ¬ ((24 : Int) = 17); decide)
      refine brF ?_ (hp := by show ¬ ((24 : Int) = 18); decide)
      refine brF ?_ (hp := by show ¬ ((24 : Int) = 14); decide)
      refine brT ?_ (hp := rfl)
      refine brT ?_ (hp := rfl)
      refine bd ?_
      refine cl (hE.cell (enc := encIns) (fun _ => rfl) O1 rfl hQb I1 hxk ⟨A, 2, false⟩ 1 rfl (hl _ (by simp [opU]))) ?_
      rintro v2 w2 ⟨I2, A2, O2⟩
      exact ih hlt ⟨rfl, I2, A1.trans A2, nxt (O2 _ (by simp [mvIns, named, encIns]))⟩
    by_cases e22 : op = 22
    · subst e22
      refine brF ?_ (hp := by show ¬ ((22 : Int) = 17); decide)
      refine brF ?_ (hp := by show ¬ ((22 : Int) = 18); decide)
      refine brF ?_ (hp := by show ¬ ((22 : Int) = 14); decide)
      refine brF ?_ (hp := by show ¬ ((22 : Int) = 24); decide)
      refine brT ?_ (hp := rfl)
      refine brT ?_ (hp := rfl)
      refine bd ?_
      refine cl (hE.cell (enc := encIns) (fun _ => rfl) O1 rfl hQb I1 hxk ⟨A, 2, false⟩ 1 rfl (hl _ (by simp [opU]))) ?_
      rintro v2 w2 ⟨I2, A2, O2⟩
      exact ih hlt ⟨rfl, I2, A1.trans A2, nxt (O2 _ (by simp [mvIns, named, encIns]))⟩
    by_cases e23 : op = 23
    · subst e23
      refine brF ?_ (hp := by show ¬ ((23 : Int) = 17); decide)
      refine brF ?_ (hp := by show ¬ ((23 : Int) = 18); decide)
      refine brF ?_ (hp := by show ¬ ((23 : Int) = 14); decide)
      refine brF ?_ (hp := by show ¬ ((23 : Int) = 24); decide)
      refine brF ?_ (hp := by show ¬ ((23 : Int) = 22); decide)
      refine brT ?_ (hp := rfl)
      refine brT ?_ (hp := rfl)
      refine bd ?_
      refine cl (hE.cell (enc := encIns) (fun _ => rfl) O1 rfl hQb I1 hxk ⟨A, 2, false⟩ 1 rfl (hl _ (by simp [opU]))) ?_
      rintro v2 w2 ⟨I2, A2, O2⟩
      exact ih hlt ⟨rfl, I2, A1.trans A2, nxt (O2 _ (by simp [mvIns, named, encIns]))⟩
    by_cases e25 : op = 25
    · subst e25
      refine brF ?_ (hp := by show ¬ ((25 : Int) = 17); decide)
      refine brF ?_ (hp := by show ¬ ((25 : Int) = 18); decide)
      refine brF ?_ (hp := by show ¬ ((25 : Int) = 14); decide)
      refine brF ?_ (hp := by show ¬ ((25 : Int) = 24); decide)
      refine brF ?_ (hp := by show ¬ ((25 : Int) = 22); decide)
      refine brF ?_ (hp := by show ¬ ((25 : Int) = 23); decide)
      refine brT ?_ (hp := rfl)
      refine bd ?_
      refine cl (hE.cell (enc := encIns) (fun _ => rfl) O1 rfl hQb I1 hxk ⟨A, 2, false⟩ 1 rfl (hl _ (by simp [opU]))) ?_
      rintro v2 w2 ⟨I2, A2, O2⟩
      exact ih hlt ⟨rfl, I2, A1.trans A2, nxt (O2 _ (by simp [mvIns, named, encIns]))⟩
    by_cases e16 : op = 16
    · subst e16
      refine brF ?_ (hp := by show ¬ ((16 : Int) = 17); decide)
      refine brF ?_ (hp := by show ¬ ((16 : Int) = 18); decide)
      refine brF ?_ (hp := by show ¬ ((16 : Int) = 14); decide)
      refine brF ?_ (hp := by show ¬ ((16 : Int) = 24); decide)
      refine brF ?_ (hp := by show ¬ ((16 : Int) = 22); decide)
      refine brF ?_ (hp := by show ¬ ((16 : Int) = 23); decide)
      refine brF ?_ (hp := by show ¬ ((16 : Int) = 25); decide)
      refine brT ?_ (hp := rfl)
      refine bd ?_
      refine cl (hE.cell (enc := encIns) (fun _ => rfl) O1 rfl hQb I1 hxk ⟨B, 2, false⟩ 2 rfl (hl _ (by simp [opU]))) ?_
      rintro v2 w2 ⟨I2, A2, O2⟩
      exact ih hlt ⟨rfl, I2, A1.trans A2, nxt (O2 _ (by simp [mvIns, named, encIns]))⟩
    by_cases e26 : op = 26
    · subst e26
      refine brF ?_ (hp := by show ¬ ((26 : Int) = 17); decide)
      refine brF ?_ (hp := by show ¬ ((26 : Int) = 18); decide)
      refine brF ?_ (hp := by show ¬ ((26 : Int) = 14); decide)
      refine brF ?_ (hp := by show ¬ ((26 : Int) = 24); decide)
      refine brF ?_ (hp := by show ¬ ((26 : Int) = 22); decide)
      refine brF ?_ (hp := by show ¬ ((26 : Int) = 23); decide)
      refine brF ?_ (hp := by show ¬ ((26 : Int) = 25); decide)
      refine brF ?_ (hp := by show ¬ ((26 : Int) = 16); decide)
      refine brF ?_ (hp := by show ¬ ((26 : Int) = 12); decide)
      refine brT ?_ (hp := rfl)
      refine bd ?_
      refine cl (hE.cell (enc := encIns) (fun _ => rfl) O1 rfl hQb I1 hxk ⟨A, 1, false⟩ 1 rfl (hl _ (by simp [opU]))) ?_
      rintro v2 w2 ⟨I2, A2, O2⟩
      exact ih hlt ⟨rfl, I2, A1.trans A2, nxt (O2 _ (by simp [mvIns, named, encIns]))⟩
    by_cases e12 : op = 12
    · subst e12
      refine brF ?_ (hp := by show ¬ ((12 : Int) = 17); decide)
      refine brF ?_ (hp := by show ¬ ((12 : Int) = 18); decide)
      refine brF ?_ (hp := by show ¬ ((12 : Int) = 14); decide)
      refine brF ?_ (hp := by show ¬ ((12 : Int) = 24); decide)
      refine brF ?_ (hp := by show ¬ ((12 : Int) = 22); decide)
      refine brF ?_ (hp := by show ¬ ((12 : Int) = 23); decide)
      refine brF ?_ (hp := by show ¬ ((12 : Int) = 25); decide)
      refine brF ?_ (hp := by show ¬ ((12 : Int) = 16); decide)
      refine brT ?_ (hp := rfl)
      refine ld (hAt 1 _ rfl) ?_
      by_cases h3 : A = 3
      · refine brF ?_ (hp := by exact fun h => h h3)
        exact ih hlt ⟨rfl, I1, A1, stay (by subst h3; simp [mvIns, named])⟩
      · refine brT ?_ (hp := by exact h3)
        have h24 : A = 2 ∨ A = 4 := by
          simp [validI, inR, rngs, isPool] at hv
          omega
        refine bd ?_
        refine cl (hE.cell (enc := encIns) (fun _ => rfl) O1 rfl hQb I1 hxk ⟨B, 2, false⟩ 2 rfl (hl _ (by simp [opU, h3]))) ?_
        rintro v2 w2 ⟨I2, A2, O2⟩
        exact ih hlt ⟨rfl, I2, A1.trans A2, nxt (O2 _ (by simp [mvIns, named, encIns, h24]))⟩
    refine brF ?_ (hp := e17)
    refine brF ?_ (hp := e18)
    refine brF ?_ (hp := e14)
    refine brF ?_ (hp := e24)
    refine brF ?_ (hp := e22)
    refine brF ?_ (hp := e23)
    refine brF ?_ (hp := e25)
    refine brF ?_ (hp := e16)
    refine brF ?_ (hp := e12)
    refine brF ?_ (hp := e26)
    exact ih hlt ⟨rfl, I1, A1, stay (by simp [mvIns, named, e17, e18, e14, e24, e22, e23, e25, e16, e12, e26])⟩
  · refine brF ?_
    obtain rfl : k = l.length := by omega
    exact en (vs := []) ⟨I1, A1, by rw [mixL_end] at O1; exact O1⟩
end
end Go.Proofs.YtopjmiklpnejmaaGreatDoor

/- Walks: the program's ways through a whole unit in rows of its own, where each index is put elsewhere. -/
namespace Go.Proofs.YtopjmiklpnejmaaGreatDoor
open Eng Go.RowKit
theorem rw_fld (X : UX) (k : Nat) : X.row (.fld k) = ((X.cl[k]?).map rwF).getD (Rw.no 0 0) := by simp only [UX.row, rowN, List.take_length]
theorem rw_prm (X : UX) (k : Nat) : X.row (.prm k) = ((X.ml[k]?).map rwP).getD (Rw.no 0 0) := by simp only [UX.row, rowN, List.take_length]
theorem rw_loc (X : UX) (k : Nat) : X.row (.loc k) = ((X.ml[k]?).map rwL).getD (Rw.no 0 0) := by simp only [UX.row, rowN, List.take_length]
theorem rw_cod (X : UX) (k : Nat) : X.row (.cod k) = ((X.ml[k]?).map rwI).getD (Rw.no 0 0) := by simp only [UX.row, rowN, List.take_length]
theorem set_keep {α β : Type} (q : α → β) {l : List α} {i : Nat} {x y : α} (hx : l[i]? = some x) (h : q y = q x) (k : Nat) : ((l.set i y)[k]?).map q = (l[k]?).map q := by
  rw [List.getElem?_set]
  by_cases e : i = k
  · subst e
    rw [if_pos rfl, if_pos (List.getElem?_eq_some_iff.1 hx).1, hx, Option.map_some, Option.map_some, h]
  · rw [if_neg e]
theorem set_turn {α β : Type} (q : α → β) {l : List α} {i : Nat} {x y : α} (hx : l[i]? = some x) {k : Nat} : ((l.set i y)[k]?).map q = if k = i then some (q y) else (l[k]?).map q := by
  rw [List.getElem?_set]
  by_cases e : i = k
  · subst e
    rw [if_pos rfl, if_pos (List.getElem?_eq_some_iff.1 hx).1, if_pos rfl]; rfl
  · rw [if_neg e, if_neg (fun h => e h.symm)]
theorem flat_keep {α β : Type} (q : α → List β) {l : List α} {i : Nat} {x y : α} (hx : l[i]? = some x) (h : q y = q x) : (l.set i y).flatMap q = l.flatMap q := by
  have : (l.set i y).map q = l.map q := by
    refine List.ext_getElem? fun k => ?_
    rw [List.getElem?_map, List.getElem?_map, set_keep q hx h]
  rw [List.flatMap_def, List.flatMap_def, this]
theorem SepU.setC {w w' : World} {base : Nat} {X : UX} {i : Nat} {x y : ClR} (h : SepU w base X) (hx : X.cl[i]? = some x) (hr : rwF y = rwF x) (hA : Ap w X.a2 w') (hO : OwP 3 encC w' base 58 X.a2 X.c2 (X.cl.set i y)) : SepU w' base { X with cl := X.cl.set i y } := by
  have e : ({ X with cl := X.cl.set i y } : UX).row = setR X.row .cls ⟨58, 3, X.a2, (X.cl.set i y).length, X.c2, (X.cl.set i y).flatMap encC⟩ := funext fun k => by
    unfold setR
    cases k with
    | fld j => rw [if_neg (by simp), rw_fld, rw_fld, set_keep rwF hx hr]
    | cls => rfl
    | _ => rfl
  unfold SepU
  rw [e]
  exact SepR.upd h .cls hA hO fun g hg => .inl hg
theorem SepU.setF {w w' : World} {base : Nat} {X : UX} {i : Nat} {x y : ClR} (h : SepU w base X) (hx : X.cl[i]? = some x) (hr : encC y = encC x) (ha : y.a = x.a) (hA : Ap w x.a w') (hO : OwP 3 encFld w' base 86 y.a y.q y.c.fields) : SepU w' base { X with cl := X.cl.set i y } := by
  have e : ({ X with cl := X.cl.set i y } : UX).row = setR X.row (.fld i) (rwF y) := funext fun k => by
    unfold setR
    cases k with
    | fld j =>
      rw [rw_fld]
      simp only [set_turn rwF hx]
      by_cases e : j = i
      · subst e; rw [if_pos rfl, if_pos rfl]; rfl
      · rw [if_neg e, if_neg (by simp [e]), rw_fld]
    | cls => simp only [UX.row, rowN, flat_keep encC hx hr, List.length_set]; rfl
    | _ => rfl
  unfold SepU
  rw [e]
  have hk := row_fld hx
  exact SepR.upd h (.fld i) (by rw [hk]; exact hA) hO fun g hg => .inl (by rw [hk]; show x.a = _; rw [← ha]; exact hg)
theorem SepU.setS {w w' : World} {base : Nat} {X : UX} {s : List Fld} (h : SepU w base X) (hA : Ap w X.a3 w') (hO : OwP 3 encFld w' base 86 X.a3 X.c3 s) : SepU w' base { X with sta := s } := by
  have e : ({ X with sta := s } : UX).row = setR X.row .sta ⟨86, 3, X.a3, s.length, X.c3, s.flatMap encFld⟩ := funext fun k => by
    unfold setR
    cases k <;> rfl
  unfold SepU
  rw [e]
  exact SepR.upd h .sta hA hO fun g hg => .inl hg
theorem SepU.setM {w w' : World} {base : Nat} {X : UX} {i : Nat} {x y : MtR} (h : SepU w base X) (hx : X.ml[i]? = some x) (h1 : rwP y = rwP x) (h2 : rwL y = rwL x) (h3 : rwI y = rwI x) (hA : Ap w X.a4 w') (hO : OwP 7 encM w' base 64 X.a4 X.c4 (X.ml.set i y)) : SepU w' base { X with ml := X.ml.set i y } := by
  have e : ({ X with ml := X.ml.set i y } : UX).row = setR X.row .mth ⟨64, 7, X.a4, (X.ml.set i y).length, X.c4, (X.ml.set i y).flatMap encM⟩ := funext fun k => by
    unfold setR
    cases k with
    | prm j => rw [if_neg (by simp), rw_prm, rw_prm, set_keep rwP hx h1]
    | loc j => rw [if_neg (by simp), rw_loc, rw_loc, set_keep rwL hx h2]
    | cod j => rw [if_neg (by simp), rw_cod, rw_cod, set_keep rwI hx h3]
    | mth => rfl
    | _ => rfl
  unfold SepU
  rw [e]
  exact SepR.upd h .mth hA hO fun g hg => .inl hg
theorem SepU.setP {w w' : World} {base : Nat} {X : UX} {i : Nat} {x y : MtR} (h : SepU w base X) (hx : X.ml[i]? = some x) (hr : encM y = encM x) (h2 : rwL y = rwL x) (h3 : rwI y = rwI x) (ha : y.a1 = x.a1) (hA : Ap w x.a1 w') (hO : OwP 2 encTy w' base 61 y.a1 y.c1 y.m.params) : SepU w' base { X with ml := X.ml.set i y } := by
  have e : ({ X with ml := X.ml.set i y } : UX).row = setR X.row (.prm i) (rwP y) := funext fun k => by
    unfold setR
    cases k with
    | prm j =>
      rw [rw_prm]
      simp only [set_turn rwP hx]
      by_cases e : j = i
      · subst e; rw [if_pos rfl, if_pos rfl]; rfl
      · rw [if_neg e, if_neg (by simp [e]), rw_prm]
    | loc j => rw [if_neg (by simp), rw_loc, rw_loc, set_keep rwL hx h2]
    | cod j => rw [if_neg (by simp), rw_cod, rw_cod, set_keep rwI hx h3]
    | mth => simp only [UX.row, rowN, flat_keep encM hx hr, List.length_set]; rfl
    | _ => rfl
  unfold SepU
  rw [e]
  have hk := row_prm hx
  exact SepR.upd h (.prm i) (by rw [hk]; exact hA) hO fun g hg => .inl (by rw [hk]; show x.a1 = _; rw [← ha]; exact hg)
theorem SepU.setL {w w' : World} {base : Nat} {X : UX} {i : Nat} {x y : MtR} (h : SepU w base X) (hx : X.ml[i]? = some x) (hr : encM y = encM x) (h2 : rwP y = rwP x) (h3 : rwI y = rwI x) (ha : y.a2 = x.a2) (hA : Ap w x.a2 w') (hO : OwP 2 encTy w' base 61 y.a2 y.c2 y.m.locals) : SepU w' base { X with ml := X.ml.set i y } := by
  have e : ({ X with ml := X.ml.set i y } : UX).row = setR X.row (.loc i) (rwL y) := funext fun k => by
    unfold setR
    cases k with
    | loc j =>
      rw [rw_loc]
      simp only [set_turn rwL hx]
      by_cases e : j = i
      · subst e; rw [if_pos rfl, if_pos rfl]; rfl
      · rw [if_neg e, if_neg (by simp [e]), rw_loc]
    | prm j => rw [if_neg (by simp), rw_prm, rw_prm, set_keep rwP hx h2]
    | cod j => rw [if_neg (by simp), rw_cod, rw_cod, set_keep rwI hx h3]
    | mth => simp only [UX.row, rowN, flat_keep encM hx hr, List.length_set]; rfl
    | _ => rfl
  unfold SepU
  rw [e]
  have hk := row_loc hx
  exact SepR.upd h (.loc i) (by rw [hk]; exact hA) hO fun g hg => .inl (by rw [hk]; show x.a2 = _; rw [← ha]; exact hg)
theorem SepU.setI {w w' : World} {base : Nat} {X : UX} {i : Nat} {x y : MtR} (h : SepU w base X) (hx : X.ml[i]? = some x) (hr : encM y = encM x) (h2 : rwP y = rwP x) (h3 : rwL y = rwL x) (ha : y.a3 = x.a3) (hA : Ap w x.a3 w') (hO : OwP 3 encIns w' base 89 y.a3 y.c3 y.m.code) : SepU w' base { X with ml := X.ml.set i y } := by
  have e : ({ X with ml := X.ml.set i y } : UX).row = setR X.row (.cod i) (rwI y) := funext fun k => by
    unfold setR
    cases k with
    | cod j =>
      rw [rw_cod]
      simp only [set_turn rwI hx]
      by_cases e : j = i
      · subst e; rw [if_pos rfl, if_pos rfl]; rfl
      · rw [if_neg e, if_neg (by simp [e]), rw_cod]
    | prm j => rw [if_neg (by simp), rw_prm, rw_prm, set_keep rwP hx h2]
    | loc j => rw [if_neg (by simp), rw_loc, rw_loc, set_keep rwL hx h3]
    | mth => simp only [UX.row, rowN, flat_keep encM hx hr, List.length_set]; rfl
    | _ => rfl
  unfold SepU
  rw [e]
  have hk := row_cod hx
  exact SepR.upd h (.cod i) (by rw [hk]; exact hA) hO fun g hg => .inl (by rw [hk]; show x.a3 = _; rw [← ha]; exact hg)
def mvC (f : Int → Int) (x : ClR) : ClR := { x with c := mvCls f x.c }
def mvH (f : Int → Int) (x : MtR) : MtR := { x with m := { mvMth f x.m with code := x.m.code } }
def mvD (f : Int → Int) (x : MtR) : MtR := { x with m := { x.m with code := x.m.code.map (mvIns f) } }
/-- the heads moved, the whole moved -/
def headX (f : Int → Int) (X : UX) : UX := { X with cl := X.cl.map (mvC f), sta := X.sta.map (mvFld f), ml := X.ml.map (mvH f) }
def mvX (f : Int → Int) (X : UX) : UX := { headX f X with ml := (X.ml.map (mvH f)).map (mvD f) }
theorem mvX_u (f : Int → Int) (X : UX) : (mvX f X).u = mvU f X.name X.pool X.u := by
  simp only [mvX, headX, UX.u, mvU, List.map_map]
  rfl
end Go.Proofs.YtopjmiklpnejmaaGreatDoor

/- Walks: the program's ways through a whole unit in rows of its own, where each index is put elsewhere: heads and uses. -/
namespace Go.Proofs.YtopjmiklpnejmaaGreatDoor
open Eng Go.RowKit
section
variable {Q : Nat → Prop} {g : FuncId} {caps : List Value} {f : Int → Int} {Pok : Rf → Prop} {Inv : World → Prop}
set_option maxHeartbeats 2000000 in
theorem m_heads (hE : EachM Q g caps f Pok Inv) (X : UX) (base : Nat) (hP : ∀ r ∈ headsU X.u, Pok r) (hQ : ∀ k g, (X.row k).a = some ⟨g, 0, none⟩ → Q g) (hz : Siz X.u) (b0 o0 : Nat) (hX : ∀ w, Inv w → At w b0 o0 X.cells) (w : World) (hI : Inv w) (hS : SepU w base X) :
    Ret Tryz.prog 52 #[.pointer (some ⟨b0, o0, none⟩), .func (.func g) #[] caps.toArray] w fun _ w' => Inv w' ∧ SepU w' base (headX f X) := by
  have n1 : X.cl.length ≤ 4194304 := by simpa [UX.u] using hz.cls
  have n2 : X.sta.length ≤ 4194304 := hz.sta
  have n3 : X.ml.length ≤ 4194304 := by simpa [UX.u] using hz.mth
  refine entr (vs := [.pointer (some ⟨b0, o0, none⟩), .func (.func g) #[] caps.toArray]) [0, 1, 4, 5, 6, 7, 9, 10, 15, 16, 17, 54, 55, 56, 84, 85, 86, 89, 90, 91] tabok Tryz.func52 (by kernel_rfl) ?_
  refine ld (hX _ hI 2 _ rfl) ?_
  refine lpk X.cl.length 16 [] [(0, .pointer (some ⟨b0, o0, none⟩)), (1, .func (.func g) #[] caps.toArray), (15, I X.cl.length)] (fun k vals w' => vals = [] ∧ Inv w' ∧ SepU w' base { X with cl := mixL (mvC f) X.cl k }) ⟨rfl, hI, by rw [mixL_zero]; exact hS⟩ ?_
  rintro k vals w1 hk ⟨rfl, I1, S1⟩ ih
  by_cases hlt : k < X.cl.length
  · refine brT ?_
    refine ld (hX _ I1 2 _ rfl) ?_
    obtain ⟨x, hx⟩ := some_of_lt hlt
    have hm : x.c ∈ X.u.classes := List.mem_map.2 ⟨x, List.mem_of_getElem? hx, rfl⟩
    have hPc : ∀ r ∈ clsU x.c, Pok r := fun r hr => hP r (by simp only [headsU, List.mem_append, List.mem_flatMap]; exact .inl (.inl ⟨_, hm, hr⟩))
    have hx1 := mixL_get (mvC f) hx
    have hln : ∀ y, k < ((mixL (mvC f) X.cl k).set k y).length := fun y => by rw [List.length_set, mixL_len]; exact hlt
    have O1 : OwP 3 encC w1 base 58 X.a2 X.c2 (mixL (mvC f) X.cl k) := S1.own .cls
    obtain ⟨b, ea⟩ := ow_some O1 (by rw [mixL_len]; omega)
    have hQb := hQ .cls b ea
    rw [ea]
    refine ix ?_
    refine bd ?_
    refine cl (hE.cell (enc := encC) (fun _ => rfl) O1 ea hQb I1 hx1 ⟨x.c.name, 1, false⟩ 0 rfl (hPc _ (by simp [clsU]))) ?_
    rintro v2 w2 ⟨I2, A2, O2⟩
    obtain ⟨y2, ey2⟩ : ∃ y : ClR, y = ⟨⟨f x.c.name, x.c.super, x.c.fields⟩, x.a, x.q⟩ := ⟨_, rfl⟩
    have O2 := O2 y2 (by subst ey2; rfl)
    have S2 := SepU.setC (X := { X with cl := mixL (mvC f) X.cl k }) S1 hx1 (by subst ey2; rfl) A2 O2
    have hgs : ∀ y, ((mixL (mvC f) X.cl k).set k y)[k]? = some y := fun y => List.getElem?_set_self (by rw [mixL_len]; exact hlt)
    refine bd ?_
    refine cl (hE.cell (enc := encC) (fun _ => rfl) O2 ea hQb I2 (hgs y2) ⟨x.c.super, 2, true⟩ 1 (by subst ey2; rfl) (hPc _ (by simp [clsU]))) ?_
    rintro v3 w3 ⟨I3, A3, O3⟩
    obtain ⟨y3, ey3⟩ : ∃ y : ClR, y = ⟨⟨f x.c.name, f x.c.super, x.c.fields⟩, x.a, x.q⟩ := ⟨_, rfl⟩
    have O3 := O3 y3 (by subst ey2 ey3; rfl)
    have S3 := SepU.setC (X := { X with cl := (mixL (mvC f) X.cl k).set k y2 }) S2 (hgs y2) (by subst ey2 ey3; rfl) A3 O3
    rw [List.set_set] at O3
    simp only [List.set_set] at S3
    have hAt3 := at_elem (enc := encC) (sz := 3) (O3.at ea) (hgs y3) (fun _ => rfl)
    refine ld (hAt3 2 (.slice x.a x.c.fields.length x.q) (by subst ey3; rfl)) ?_
    have OF : OwP 3 encFld w3 base 86 x.a x.q x.c.fields := by
      have := S3.own (.fld k)
      rw [row_fld (X := { X with cl := (mixL (mvC f) X.cl k).set k y3 }) (hgs y3)] at this
      subst ey3; exact this
    refine cl (m_fields hE x.c.fields (fun y hy r hr => hPc r (by simp only [clsU, List.mem_cons, List.mem_flatMap]; exact .inr (.inr ⟨y, hy, hr⟩))) x.a x.q base w3 OF (fun g hg => hQ (.fld k) g (by rw [row_fld hx]; exact hg)) (hz.flds _ hm) I3) ?_
    rintro v4 w4 ⟨I4, A4, O4⟩
    have S4 := SepU.setF (X := { X with cl := (mixL (mvC f) X.cl k).set k y3 }) (y := mvC f x) S3 (hgs y3) (by subst ey3; simp [encC, ccells, mvC, mvCls]) (by subst ey3; rfl) (by subst ey3; exact A4) (by simpa [mvC, mvCls] using O4)
    simp only [List.set_set, mixL_set (mvC f) hx] at S4
    exact ih hlt ⟨rfl, I4, S4⟩
  refine brF ?_
  obtain rfl : k = X.cl.length := by omega
  clear ih
  rw [mixL_end] at S1
  refine ld (hX _ I1 3 _ rfl) ?_
  refine cl (m_fields hE X.sta (fun y hy r hr => hP r (by simp only [headsU, List.mem_append, List.mem_flatMap]; exact .inl (.inr ⟨y, hy, hr⟩))) X.a3 X.c3 base w1 (S1.own .sta) (hQ .sta) n2 I1) ?_
  rintro v5 w5 ⟨I5, A5, O5⟩
  have S5 := S1.setS (X := { X with cl := X.cl.map (mvC f) }) A5 O5
  refine ld (hX _ I5 4 _ rfl) ?_
  refine lpk X.ml.length 55 [] [(0, .pointer (some ⟨b0, o0, none⟩)), (1, .func (.func g) #[] caps.toArray), (54, I X.ml.length)] (fun k vals w' => vals = [] ∧ Inv w' ∧ SepU w' base { X with cl := X.cl.map (mvC f), sta := X.sta.map (mvFld f), ml := mixL (mvH f) X.ml k }) ⟨rfl, I5, by rw [mixL_zero]; exact S5⟩ ?_
  rintro k vals w6 hk ⟨rfl, I6, S6⟩ ih
  by_cases hlt : k < X.ml.length
  · refine brT ?_
    refine ld (hX _ I6 4 _ rfl) ?_
    obtain ⟨x, hx⟩ := some_of_lt hlt
    have hm : x.m ∈ X.u.methods := List.mem_map.2 ⟨x, List.mem_of_getElem? hx, rfl⟩
    have hPm : ∀ r ∈ mthU x.m, Pok r := fun r hr => hP r (by simp only [headsU, List.mem_append, List.mem_flatMap]; exact .inr ⟨_, hm, hr⟩)
    have hx6 := mixL_get (mvH f) hx
    have hgs : ∀ y, ((mixL (mvH f) X.ml k).set k y)[k]? = some y := fun y => List.getElem?_set_self (by rw [mixL_len]; exact hlt)
    have O6 : OwP 7 encM w6 base 64 X.a4 X.c4 (mixL (mvH f) X.ml k) := S6.own .mth
    obtain ⟨b, ea⟩ := ow_some O6 (by rw [mixL_len]; omega)
    have hQb := hQ .mth b ea
    rw [ea]
    refine ix ?_
    refine bd ?_
    refine cl (hE.cell (enc := encM) (fun _ => rfl) O6 ea hQb I6 hx6 ⟨x.m.name, 1, false⟩ 0 rfl (hPm _ (by simp [mthU]))) ?_
    rintro v7 w7 ⟨I7, A7, O7⟩
    obtain ⟨y7, ey7⟩ : ∃ y : MtR, y = { x with m := { x.m with name := f x.m.name } } := ⟨_, rfl⟩
    have O7 := O7 y7 (by subst ey7; rfl)
    have S7 := S6.setM (X := { X with cl := _, sta := _, ml := mixL (mvH f) X.ml k }) hx6 (by subst ey7; rfl) (by subst ey7; rfl) (by subst ey7; rfl) A7 O7
    refine bd ?_
    refine cl (hE.cell (enc := encM) (fun _ => rfl) O7 ea hQb I7 (hgs y7) ⟨x.m.cls, 2, true⟩ 1 (by subst ey7; rfl) (hPm _ (by simp [mthU]))) ?_
    rintro v8 w8 ⟨I8, A8, O8⟩
    obtain ⟨y8, ey8⟩ : ∃ y : MtR, y = { x with m := { x.m with name := f x.m.name, cls := f x.m.cls } } := ⟨_, rfl⟩
    have O8 := O8 y8 (by subst ey7 ey8; rfl)
    have S8 := S7.setM (X := { X with cl := _, sta := _, ml := _ }) (hgs y7) (by subst ey7 ey8; rfl) (by subst ey7 ey8; rfl) (by subst ey7 ey8; rfl) A8 O8
    rw [List.set_set] at O8
    simp only [List.set_set] at S8
    refine ds fun w9 h9 => ?_
    have I9 := hE.bl _ _ I8 h9.bl
    have S9 := SepR.bl S8 h9.bl
    have O9 : OwP 7 encM w9 base 64 X.a4 X.c4 ((mixL (mvH f) X.ml k).set k y8) := S9.own .mth
    have hAt9 := at_elem (enc := encM) (sz := 7) (O9.at ea) (hgs y8) (fun _ => rfl)
    have c2 : (encM y8)[2]? = some (.slice x.a1 x.m.params.length x.c1) := by subst ey8; rfl
    have c3 : (encM y8)[3]? = some (.slice x.a2 x.m.locals.length x.c2) := by subst ey8; rfl
    refine ld (hAt9 2 _ c2) ?_
    refine ld (hAt9 3 _ c3) ?_
    refine bda ?_
    let yj : Nat → MtR := fun j => { y8 with m := { y8.m with params := if 0 < j then x.m.params.map (mvTy f) else x.m.params, locals := if 1 < j then x.m.locals.map (mvTy f) else x.m.locals } }
    let St : Nat → World → Prop := fun j w' => Inv w' ∧ SepU w' base { X with cl := X.cl.map (mvC f), sta := X.sta.map (mvFld f), ml := (mixL (mvH f) X.ml k).set k (yj j) }
    have hL : ∀ j, j < 2 → ∀ w', St j w' → ∃ aL cL L, [Value.slice x.a1 x.m.params.length x.c1, .slice x.a2 x.m.locals.length x.c2][j * 1]? = some (.slice aL (List.length L) cL) ∧ OwP 2 encTy w' base 61 aL cL L ∧ (∀ g, aL = some ⟨g, 0, none⟩ → Q g) ∧ L.length ≤ 4194304 ∧ (∀ t ∈ L, ∀ r ∈ tyU t, Pok r) ∧
        ∀ w'', Inv w'' → Ap w' aL w'' → OwP 2 encTy w'' base 61 aL cL (L.map (mvTy f)) → St (j + 1) w'' := fun j hj w' hs => by
      obtain ⟨_, hs⟩ := hs
      rcases j with _ | _ | j
      · refine ⟨x.a1, x.c1, x.m.params, rfl, ?_, fun g hg => hQ (.prm k) g (by rw [row_prm hx]; exact hg), hz.prms _ hm, fun t ht r hr => hPm r ?_, fun w'' hi ha ho => ⟨hi, ?_⟩⟩
        · have := hs.own (.prm k)
          rw [row_prm (X := { X with cl := _, sta := _, ml := _ }) (hgs (yj 0))] at this
          subst ey8; exact this
        · exact List.mem_cons_of_mem _ (List.mem_cons_of_mem _ (List.mem_append_left _ (List.mem_flatMap.2 ⟨_, .head _, List.mem_flatMap.2 ⟨t, ht, hr⟩⟩)))
        · have := hs.setP (X := { X with cl := _, sta := _, ml := _ }) (y := yj 1) (hgs (yj 0)) (by subst ey8; simp [encM, mcells, yj]) rfl rfl rfl (by subst ey8; exact ha) (by subst ey8; exact ho)
          simp only [List.set_set] at this
          exact this
      · refine ⟨x.a2, x.c2, x.m.locals, rfl, ?_, fun g hg => hQ (.loc k) g (by rw [row_loc hx]; exact hg), hz.locs _ hm, fun t ht r hr => hPm r ?_, fun w'' hi ha ho => ⟨hi, ?_⟩⟩
        · have := hs.own (.loc k)
          rw [row_loc (X := { X with cl := _, sta := _, ml := _ }) (hgs (yj 1))] at this
          subst ey8; exact this
        · exact List.mem_cons_of_mem _ (List.mem_cons_of_mem _ (List.mem_append_left _ (List.mem_flatMap.2 ⟨_, .tail _ (.head _), List.mem_flatMap.2 ⟨t, ht, hr⟩⟩)))
        · have := hs.setL (X := { X with cl := _, sta := _, ml := _ }) (y := yj 2) (hgs (yj 1)) (by subst ey8; simp [encM, mcells, yj]) rfl rfl rfl (by subst ey8; exact ha) (by subst ey8; exact ho)
          simp only [List.set_set] at this
          exact this
      · omega
    have hy0 : yj 0 = y8 := by subst ey8; rfl
    refine lpk 2 85 [] [(0, .pointer (some ⟨b0, o0, none⟩)), (1, .func (.func g) #[] caps.toArray), (54, I X.ml.length), (55, I k), (7, .pointer (some ⟨b, 0 + k * 7, none⟩)), (84, .agg #[.slice x.a1 x.m.params.length x.c1, .slice x.a2 x.m.locals.length x.c2])]
      (fun j vals w' => vals = [] ∧ St j w') ⟨rfl, I9, by rw [hy0]; exact S9⟩ ?_
    rintro j vals w10 hj ⟨rfl, hJ10⟩ ih2
    by_cases hlt2 : j < 2
    · refine brT ?_
      obtain ⟨aL, cL, L, hv, OL, hQL, hbL, hPL, hn⟩ := hL j hlt2 w10 hJ10
      refine ixv (cs := [Value.slice x.a1 x.m.params.length x.c1, .slice x.a2 x.m.locals.length x.c2]) hv ?_
      refine lpk L.length 90 [] [(0, .pointer (some ⟨b0, o0, none⟩)), (1, .func (.func g) #[] caps.toArray), (54, I X.ml.length), (55, I k), (7, .pointer (some ⟨b, 0 + k * 7, none⟩)), (84, .agg #[.slice x.a1 x.m.params.length x.c1, .slice x.a2 x.m.locals.length x.c2]), (85, I j), (9, .slice aL L.length cL), (89, I L.length)]
        (fun i vals w' => vals = [] ∧ Inv w' ∧ Ap w10 aL w' ∧ OwP 2 encTy w' base 61 aL cL (mixL (mvTy f) L i)) ⟨rfl, hJ10.1, Ap.of_bl (Below.refl _ _) _, by rw [mixL_zero]; exact OL⟩ ?_
      rintro i vals w11 hi ⟨rfl, I11, A11, O11⟩ ih3
      by_cases hlt3 : i < L.length
      · refine brT ?_
        obtain ⟨t, ht⟩ := some_of_lt hlt3
        obtain ⟨bt, rfl⟩ := ow_some O11 (by rw [mixL_len]; omega)
        refine ix ?_
        refine cl (hE.typ (enc := encTy) (fun _ => rfl) O11 rfl (hQL bt rfl) I11 (mixL_get (mvTy f) ht) t 0 rfl rfl (hPL t (List.mem_of_getElem? ht))) ?_
        rintro v12 w12 ⟨I12, A12, O12⟩
        have O12 := O12 (mvTy f t) (by simp only [encTy, kind_mv, List.set_cons_succ, List.set_cons_zero])
        rw [mixL_set (mvTy f) ht] at O12
        exact ih3 hlt3 ⟨rfl, I12, A11.trans A12, O12⟩
      · refine brF ?_
        obtain rfl : i = L.length := by omega
        rw [mixL_end] at O11
        exact ih2 hlt2 ⟨rfl, hn w11 I11 A11 O11⟩
    refine brF ?_
    obtain rfl : j = 2 := by omega
    obtain ⟨I10, S10⟩ := hJ10
    have O10 : OwP 7 encM w10 base 64 X.a4 X.c4 ((mixL (mvH f) X.ml k).set k (yj 2)) := S10.own .mth
    refine cl (hE.typ (enc := encM) (fun _ => rfl) O10 ea hQb I10 (hgs (yj 2)) x.m.result 4 (by subst ey8; rfl) (by subst ey8; rfl) (fun r hr => hPm r (by simp [mthU, hr]))) ?_
    rintro v13 w13 ⟨I13, A13, O13⟩
    have O13 := O13 (mvH f x) (by subst ey8; simp [encM, mcells, mvH, mvMth, yj, kind_mv])
    have S13 := S10.setM (X := { X with cl := _, sta := _, ml := _ }) (hgs (yj 2)) (by subst ey8; simp [rwP, mvH, mvMth, yj]) (by subst ey8; simp [rwL, mvH, mvMth, yj]) (by subst ey8; rfl) A13 O13
    simp only [List.set_set, mixL_set (mvH f) hx] at S13
    exact ih hlt ⟨rfl, I13, S13⟩
  · refine brF ?_
    obtain rfl : k = X.ml.length := by omega
    rw [mixL_end] at S6
    exact en (vs := []) ⟨I6, S6⟩
theorem m_uses (hE : EachM Q g caps f Pok Inv) (X : UX) (base : Nat) (hP : ∀ r ∈ waysU X.u, Pok r) (hv : ∀ m ∈ X.u.methods, ∀ i ∈ m.code, validI i true = true) (hQ : ∀ k g, (X.row k).a = some ⟨g, 0, none⟩ → Q g) (hz : Siz X.u) (b0 o0 : Nat) (hX : ∀ w, Inv w → At w b0 o0 X.cells) (w : World) (hI : Inv w) (hS : SepU w base X) :
    Ret Tryz.prog 85 #[.pointer (some ⟨b0, o0, none⟩), .func (.func g) #[] caps.toArray] w fun _ w' => Inv w' ∧ SepU w' base (mvX f X) := by
  have n3 : X.ml.length ≤ 4194304 := by simpa [UX.u] using hz.mth
  refine entr (vs := [.pointer (some ⟨b0, o0, none⟩), .func (.func g) #[] caps.toArray]) [0, 1, 4, 12, 13, 14] tabok Tryz.func85 (by kernel_rfl) ?_
  refine cl (m_heads hE X base (fun r hr => hP r (List.mem_append_left _ hr)) hQ hz b0 o0 hX w hI hS) ?_
  rintro v1 w1 ⟨I1, S1⟩
  refine ld (hX _ I1 4 _ rfl) ?_
  refine lpk X.ml.length 13 [] [(0, .pointer (some ⟨b0, o0, none⟩)), (1, .func (.func g) #[] caps.toArray), (12, I X.ml.length)] (fun k vals w' => vals = [] ∧ Inv w' ∧ SepU w' base { headX f X with ml := mixL (mvD f) (X.ml.map (mvH f)) k }) ⟨rfl, I1, by rw [mixL_zero]; exact S1⟩ ?_
  rintro k vals w2 hk ⟨rfl, I2, S2⟩ ih
  by_cases hlt : k < X.ml.length
  · refine brT ?_
    refine ld (hX _ I2 4 _ rfl) ?_
    obtain ⟨x, hx⟩ := some_of_lt hlt
    have hm : x.m ∈ X.u.methods := List.mem_map.2 ⟨x, List.mem_of_getElem? hx, rfl⟩
    have hx1 : (X.ml.map (mvH f))[k]? = some (mvH f x) := by rw [List.getElem?_map, hx]; rfl
    have hx2 := mixL_get (mvD f) hx1
    have O2 : OwP 7 encM w2 base 64 X.a4 X.c4 (mixL (mvD f) (X.ml.map (mvH f)) k) := S2.own .mth
    obtain ⟨b, ea⟩ := ow_some O2 (by rw [mixL_len, List.length_map]; omega)
    have hAt := at_elem (enc := encM) (sz := 7) (O2.at ea) hx2 (fun _ => rfl)
    rw [ea]
    refine ix ?_
    refine ld (hAt 6 _ rfl) ?_
    have OI : OwP 3 encIns w2 base 89 x.a3 x.c3 x.m.code := by
      have := S2.own (.cod k)
      rw [row_cod (X := { headX f X with ml := mixL (mvD f) (X.ml.map (mvH f)) k }) hx2] at this
      exact this
    refine cl (m_operands hE x.m.code (fun i hi r hr => hP r (List.mem_append_right _ (List.mem_flatMap.2 ⟨_, hm, List.mem_flatMap.2 ⟨i, hi, hr⟩⟩))) (hv _ hm) x.a3 x.c3 base w2 OI (fun g hg => hQ (.cod k) g (by rw [row_cod hx]; exact hg)) (hz.cods _ hm) I2) ?_
    rintro v3 w3 ⟨I3, A3, O3⟩
    have S3 := S2.setI (X := { headX f X with ml := _ }) (y := mvD f (mvH f x)) hx2 (by simp [encM, mcells, mvD]) rfl rfl rfl A3 O3
    simp only [mixL_set (mvD f) hx1] at S3
    exact ih hlt ⟨rfl, I3, S3⟩
  · refine brF ?_
    obtain rfl : k = X.ml.length := by omega
    have e : mixL (mvD f) (X.ml.map (mvH f)) X.ml.length = (X.ml.map (mvH f)).map (mvD f) := by
      have := mixL_end (mvD f) (X.ml.map (mvH f))
      rw [List.length_map] at this; exact this
    rw [e] at S2
    exact en (vs := []) ⟨I2, S2⟩
end
end Go.Proofs.YtopjmiklpnejmaaGreatDoor

/- A unit stripped: it passes Check, defines and uses the same, and twice is once. No program stands here. -/
namespace Go.Proofs.YtopjmiklpnejmaaGreatDoor
open Eng Go.RowKit
def cntM (u : Unt) (i : Nat) : Nat := ((List.range i).filter (mkd u)).length
def plcU (u : Unt) (i : Int) : Int := if 0 ≤ i ∧ i < u.pool.length then (cntM u i.toNat : Int) else i
def strP (u : Unt) : List ByteArray := pickM u (mkd u)
def strU (u : Unt) : Unt := mvU (plcU u) u.name (strP u) u
theorem plc_neg (u : Unt) (i : Int) : plcU u i = -1 ↔ i = -1 := by
  unfold plcU
  split
  · constructor <;> intro h <;> omega
  · exact Iff.rfl
theorem filter_at {q : Nat → Bool} {i n : Nat} (hi : i < n) (hq : q i = true) : ((List.range n).filter q)[((List.range i).filter q).length]? = some i := by
  obtain ⟨k, rfl⟩ : ∃ k, n = i + (k + 1) := ⟨n - i - 1, by omega⟩
  rw [List.range_add, List.filter_append, List.getElem?_append_right (Nat.le_refl _), Nat.sub_self, List.range_succ_eq_map, List.map_cons, List.filter_cons_of_pos (by simpa using hq)]
  rfl
theorem cnt_len {u : Unt} {i : Nat} (hi : i < u.pool.length) (hm : mkd u i = true) : (strP u)[cntM u i]? = some (nm u (i : Int)) := by
  unfold strP pickM cntM
  rw [List.getElem?_map, filter_at hi hm]; rfl
theorem all_mkd {u : Unt} {r : Rf} (hr : r ∈ allRefs u) (h0 : 0 ≤ r.at') : mkd u r.at'.toNat = true := by
  unfold mkd
  rw [List.any_eq_true]
  exact ⟨r, hr, decide_eq_true (Int.toNat_of_nonneg h0).symm⟩
theorem plc_at {u : Unt} (hC : CkU u) {r : Rf} (hr : r ∈ allRefs u) (h0 : 0 ≤ r.at') : 0 ≤ plcU u r.at' ∧ plcU u r.at' < (strP u).length ∧ (strP u).getD (plcU u r.at').toNat ⟨#[]⟩ = nm u r.at' := by
  have hl := (all_in hC hr h0).1
  have e : plcU u r.at' = (cntM u r.at'.toNat : Int) := by unfold plcU; rw [if_pos ⟨h0, hl⟩]
  have ha := cnt_len (i := r.at'.toNat) (by omega) (all_mkd hr h0)
  rw [Int.toNat_of_nonneg h0] at ha
  have hlt := (List.getElem?_eq_some_iff.1 ha).1
  rw [e]
  refine ⟨by omega, by omega, ?_⟩
  rw [show ((cntM u r.at'.toNat : Nat) : Int).toNat = cntM u r.at'.toNat from rfl, List.getD_eq_getElem?_getD, ha]; rfl
theorem strP_mem {u : Unt} {x : ByteArray} (h : x ∈ strP u) : x ∈ u.pool := by
  simp only [strP, pickM, List.mem_map, List.mem_filter, List.mem_range] at h
  obtain ⟨i, ⟨h1, _⟩, rfl⟩ := h
  exact List.mem_of_getElem? (getD_at (l := u.pool) (i := i) h1)
theorem strP_len (u : Unt) : (strP u).length ≤ u.pool.length := by
  unfold strP pickM
  rw [List.length_map]
  exact Nat.le_trans (List.length_filter_le _ _) (by simp)
theorem pool_map (u : Unt) : (List.range u.pool.length).map (fun i : Nat => nm u (i : Int)) = u.pool := by
  refine List.ext_getElem? fun i => ?_
  rw [List.getElem?_map]
  rcases Nat.lt_or_ge i u.pool.length with h | h
  · rw [List.getElem?_range h, getD_at h]; rfl
  · rw [List.getElem?_eq_none (by simpa using h), List.getElem?_eq_none h]; rfl
theorem strP_dup {u : Unt} (hC : CkU u) : dup (strP u) = false := by
  rw [dup_iff_nodup]
  have hd := hC.db
  simp only [doubled, Bool.or_eq_false_iff] at hd
  have := (dup_iff_nodup _).1 hd.1.1.1
  rw [← pool_map u] at this
  exact List.Pairwise.sublist (List.Sublist.map _ List.filter_sublist) this
theorem mv_str {u : Unt} (hC : CkU u) : Mv (plcU u) u.name (strP u) u := by
  refine ⟨plc_neg u, hC.nm, ?_, fun s hs => ?_, strP_dup hC, fun r hr h0 => ⟨(plc_at hC hr h0).1, (plc_at hC hr h0).2.1⟩, fun r hr h0 => by rw [(plc_at hC hr h0).2.2], fun r hr q hq h0 h1 e => ?_⟩
  · have := strP_len u
    have := (lim_of hC.lim).pool
    omega
  · exact of_decide_eq_true (List.all_eq_true.1 hC.ps s (strP_mem hs))
  · rw [(plc_at hC hr h0).2.2, (plc_at hC hq h1).2.2] at e; exact e
theorem str_check {u : Unt} (h : checkE u = 0) : checkE (strU u) = 0 := checkE_mv (mv_str ((ckU_iff u).1 h)) h
theorem allRefs_mv (f : Int → Int) (hf : f (-1) = -1) (name : ByteArray) (pool : List ByteArray) (u : Unt) (hC : CkU u) : allRefs (mvU f name pool u) = (allRefs u).map (mvRf f) := by
  unfold allRefs
  rw [refs_mv f hf name pool u hC.cl, List.map_append]
  congr 1
  simp only [opRefs, mvU, List.flatMap_map, List.map_flatMap]
  refine flatMap_congr' fun m hm => ?_
  simp only [mvMth, List.flatMap_map]
  refine flatMap_congr' fun i hi => ?_
  obtain ⟨h1, h2⟩ := operand_mv f i
  rw [h1]
  by_cases h : 0 < (operand i).2
  · rw [if_pos h, if_pos h, h2 h]; rfl
  · rw [if_neg h, if_neg h]; rfl
theorem str_use {u : Unt} (h : checkE u = 0) (x : ByteArray) : x ∈ useL (strU u) ↔ x ∈ useL u := by
  have hC := (ckU_iff u).1 h
  have hC2 := (ckU_iff _).1 (str_check h)
  rw [useL_iff hC, useL_iff hC2, show allRefs (strU u) = _ from allRefs_mv _ ((plc_neg u (-1)).2 rfl) _ _ u hC]
  simp only [List.mem_map]
  have neg : ∀ i : Int, i < 0 → plcU u i = i := fun i hi => by unfold plcU; rw [if_neg (by omega)]
  constructor
  · rintro ⟨_, ⟨r, hr, rfl⟩, h1, h2, h3⟩
    have h0 : 0 ≤ r.at' := by
      rcases Classical.em (r.at' < 0) with q | q
      · simp only [mvRf, neg _ q] at h2; omega
      · omega
    exact ⟨r, hr, h1, h0, by rw [← (plc_at hC hr h0).2.2]; exact h3⟩
  · rintro ⟨r, hr, h1, h0, h3⟩
    exact ⟨mvRf (plcU u) r, ⟨r, hr, rfl⟩, h1, (plc_at hC hr h0).1, by rw [← h3]; exact (plc_at hC hr h0).2.2⟩
theorem str_def {u : Unt} (h : checkE u = 0) : defL (strU u) = defL u := by
  have hC := (ckU_iff u).1 h
  have key : ∀ {i : Int}, (⟨i, 1, false⟩ : Rf) ∈ refs u → nm (strU u) (plcU u i) = nm u i := fun hi => (plc_at hC (List.mem_append_left _ hi) (name_in hC hi).1).2.2
  have e1 : (strU u).name = u.name := rfl
  unfold defL
  rw [e1]
  have ec : (strU u).classes = u.classes.map (mvCls (plcU u)) := rfl
  have es : (strU u).statics = u.statics.map (mvFld (plcU u)) := rfl
  have em : (strU u).methods = u.methods.map (mvMth (plcU u)) := rfl
  rw [ec, es, em, filter_mv _ (plc_neg u), List.flatMap_map, List.map_map, List.map_map]
  congr 1
  · congr 1
    · refine flatMap_congr' fun c hc => ?_
      have hr : ∀ r ∈ cref c, r ∈ refs u := fun r hr => List.mem_append_left _ (List.mem_append_left _ (List.mem_flatMap.2 ⟨c, hc, hr⟩))
      simp only [mvCls, List.map_map]
      rw [key (hr ⟨c.name, 1, false⟩ (by simp [cref]))]
      congr 1
      refine List.map_congr_left fun f hf => ?_
      simp only [Function.comp, mvFld]
      rw [key (hr ⟨f.name, 1, false⟩ (List.mem_append_right _ (List.mem_flatMap.2 ⟨f, hf, by simp [fref]⟩)))]
    · refine List.map_congr_left fun f hf => ?_
      simp only [Function.comp, mvFld]
      rw [key (List.mem_append_left _ (List.mem_append_right _ (List.mem_flatMap.2 ⟨f, hf, by simp [fref]⟩)))]
  · refine List.map_congr_left fun m hm => ?_
    simp only [Function.comp, mvMth]
    rw [key (List.mem_append_right _ (List.mem_flatMap.2 ⟨m, (List.mem_filter.1 hm).1, by simp [mref]⟩))]
/-- twice is once -/
theorem str_twice {u : Unt} (h : checkE u = 0) : strU (strU u) = strU u := by
  have hC := (ckU_iff u).1 h
  have ea : allRefs (strU u) = _ := allRefs_mv _ ((plc_neg u (-1)).2 rfl) _ _ u hC
  have hlen : (strP u).length = ((List.range u.pool.length).filter (mkd u)).length := by unfold strP pickM; rw [List.length_map]
  have hall : ∀ i, i < (strU u).pool.length → mkd (strU u) i = true := fun i hi => by
    have hi' : i < ((List.range u.pool.length).filter (mkd u)).length := by rw [← hlen]; exact hi
    obtain ⟨j, hj⟩ : ∃ j, ((List.range u.pool.length).filter (mkd u))[i]? = some j := ⟨_, List.getElem?_eq_getElem hi'⟩
    have hjm := List.mem_of_getElem? hj
    rw [List.mem_filter, List.mem_range] at hjm
    have h2 := filter_at hjm.1 hjm.2
    have hn : ((List.range u.pool.length).filter (mkd u)).Nodup := List.Pairwise.sublist List.filter_sublist List.nodup_range
    have e : cntM u j = i := (List.getElem?_inj (List.getElem?_eq_some_iff.1 h2).1 hn).1 (h2.trans hj.symm)
    have hm := hjm.2
    unfold mkd at hm
    rw [List.any_eq_true] at hm
    obtain ⟨r, hr, hr2⟩ := hm
    have hr2 := of_decide_eq_true hr2
    unfold mkd
    rw [List.any_eq_true, ea]
    refine ⟨_, List.mem_map.2 ⟨r, hr, rfl⟩, decide_eq_true ?_⟩
    show plcU u r.at' = i
    unfold plcU
    rw [if_pos (by omega), hr2, show ((j : Nat) : Int).toNat = j from rfl, e]
  have hfil : ∀ n, n ≤ (strU u).pool.length → (List.range n).filter (mkd (strU u)) = List.range n := fun n hn => List.filter_eq_self.2 fun i hi => hall i (by have := List.mem_range.1 hi; omega)
  have ef : plcU (strU u) = id := funext fun i => by
    unfold plcU
    split
    · unfold cntM
      rw [hfil _ (by omega), List.length_range]
      simp only [id]; omega
    · rfl
  have ep : strP (strU u) = (strU u).pool := by
    unfold strP pickM
    rw [hfil _ (Nat.le_refl _), pool_map]
  conv => lhs; unfold strU
  rw [show (mvU (plcU u) u.name (strP u) u) = strU u from rfl, ef, ep, mvU_id]
def strE (u : Unt) : Unt := if checkE u = 0 then strU u else u00
end Go.Proofs.YtopjmiklpnejmaaGreatDoor

/- Walks: the two visitors of Strip: one marks, one puts another index. -/
namespace Go.Proofs.YtopjmiklpnejmaaGreatDoor
open Eng Go.RowKit
/-- all but the blocks in Q stays -/
structure Qf (Q : Nat → Prop) (w w' : World) : Prop where
  os : w'.os = w.os
  tape : w'.tape = w.tape
  output : w'.output = w.output
  size : w.heap.size ≤ w'.heap.size
  blk : ∀ k, k < w.heap.size → ¬ Q k → w'.heap[k]? = w.heap[k]?
theorem Qf.refl (Q : Nat → Prop) (w : World) : Qf Q w w := ⟨rfl, rfl, rfl, Nat.le_refl _, fun _ _ _ => rfl⟩
theorem Qf.ap {Q : Nat → Prop} {w w' w'' : World} {a : Option Addr} (h : Qf Q w w') (k : Ap w' a w'') (hb : ∀ b, a = some ⟨b, 0, none⟩ → Q b ∨ w.heap.size ≤ b) : Qf Q w w'' :=
  ⟨k.os.trans h.os, k.tape.trans h.tape, k.output.trans h.output, Nat.le_trans h.size k.size, fun i hi hn => (k.block i (Nat.lt_of_lt_of_le hi h.size) fun e => by
    rcases hb i e with q | q
    · exact hn q
    · omega).trans (h.blk i hi hn)⟩
theorem Qf.bl {Q : Nat → Prop} {w w' w'' : World} (h : Qf Q w w') (k : Bl w' w'') : Qf Q w w'' := h.ap (Ap.of_bl k none) fun _ e => by cases e
theorem Qf.box {Q : Nat → Prop} {w w' : World} (h : Qf Q w w') {b : Nat} {t : TypeId} {cs : List Value} (hb : Box w b t cs) (hn : ¬ Q b) : Box w' b t cs := by unfold Box; rw [h.blk b hb.lt hn]; exact hb
theorem Qf.below {Q : Nat → Prop} {w w' : World} (h : Qf Q w w') {B : Nat} (hB : B ≤ w.heap.size) (hQ : ∀ b, Q b → B ≤ b) : Below B w w' :=
  ⟨h.os, h.tape, h.output, h.size, fun k hk => h.blk k (by omega) fun q => by have := hQ k q; omega⟩
theorem Qf.ow {Q : Nat → Prop} {w w' : World} {base e esz n cap : Nat} {a : Option Addr} {xs : List Value} (h : Qf Q w w') (hO : Ow w base e esz a n cap xs) (hn : ∀ g, a = some ⟨g, 0, none⟩ → ¬ Q g) : Ow w' base e esz a n cap xs := hO.same fun g hg => h.blk g (hO.lt hg).2 (hn g hg)
theorem v_mark (n : Nat) (w00 w0 : World) (bn bd : Nat) (hne : bn ≠ bd) (_hbd : bd < w0.heap.size) (xn : Box w0 bn 97 [.slice (some ⟨bd, 0, none⟩) n n]) (base N : Nat) :
    EachC (useS bd w0) w0 112 [.pointer (some ⟨bn, 0, none⟩)] (fun pre w => CpS w00 w0 bd w ∧ OwP 1 encBool w base 4 (some ⟨bd, 0, none⟩) n (mkL n pre)) (fun r => 0 ≤ r.at' → r.at' < n) N := by
  refine ⟨fun pre w h => h.1.kp, fun pre w w' k h => ⟨h.1.bl k, h.2.bl k⟩, fun pre r b o w hlt hP hSb hJ hc => ?_⟩
  show Ret Tryz.prog 112 #[.agg #[.pointer (some ⟨b, o, none⟩), I r.parts, .bool r.opt], .pointer (some ⟨bn, 0, none⟩)] w _
  refine entr (vs := [.agg #[.pointer (some ⟨b, o, none⟩), I r.parts, .bool r.opt], .pointer (some ⟨bn, 0, none⟩)]) [0, 1, 2, 7] tabok Tryz.func112 (by kernel_rfl) ?_
  refine bx (cs := [.pointer (some ⟨b, o, none⟩), I r.parts, .bool r.opt]) fun b4 w1 h1 => ?_
  have hc1 := h1.bl.kp T _ _ _ trivial hc
  refine ld (h1.box.cell rfl) ?_
  refine ld hc1 ?_
  refine br (t := decide (0 ≤ r.at')) (fun h => ?_) (fun h => ?_)
  · have h0 := of_decide_eq_true h
    have hin := hP h0
    refine dt 1 fun w2 h2 => ?_
    have B02 := h1.bl.trans h2.bl
    have cp2 := hJ.1.bl B02
    have O2 : OwP 1 encBool w2 base 4 (some ⟨bd, 0, none⟩) n (mkL n pre) := hJ.2.bl B02
    refine ld ((cp2.box xn hne).cell rfl) ?_
    refine ld ((Bl.box h2.bl h1.box).cell rfl) ?_
    refine ld (h2.bl.kp T _ _ _ trivial hc1) ?_
    refine ix (hij := int_nat h0) ?_
    obtain ⟨cur, hb, hcl, _, _, hcl2⟩ := Eng.Ow.box O2
    rw [mkL_len] at hcl2
    refine stx hb (fun w6 k6 hb6 => ?_) (ho := by omega)
    exact en (vs := []) ⟨cp2.wr k6 (.inl rfl), mark_set O2 hb (by simpa using hb6) h0⟩
  · have h0 : r.at' < 0 := by have := of_decide_eq_false h; omega
    exact en (vs := []) ⟨hJ.1.bl h1.bl, by rw [mkL_neg h0]; exact hJ.2.bl h1.bl⟩
theorem v_put (Q : Nat → Prop) (w0 : World) (bp bq n : Nat) (P : List Int) (hbp : ¬ Q bp) (hbq : ¬ Q bq) (_hQw : ∀ b, Q b → b < w0.heap.size) (xp : Box w0 bp 129 [.slice (some ⟨bq, 0, none⟩) n n]) (xq : At w0 bq 0 (P.flatMap encInt)) (hlq : bq < w0.heap.size) (f : Int → Int)
    (hf : ∀ i : Int, 0 ≤ i → i < n → P[i.toNat]? = some (f i)) (hg : ∀ i : Int, i < 0 → f i = i) :
    EachM Q 113 [.pointer (some ⟨bp, 0, none⟩)] f (fun r => 0 ≤ r.at' → r.at' < n) (Qf Q w0) := by
  refine ⟨fun w w' h k => h.bl k, fun r b o e cur w hQb hP hI hB hc => ?_⟩
  show Ret Tryz.prog 113 #[.agg #[.pointer (some ⟨b, o, none⟩), I r.parts, .bool r.opt], .pointer (some ⟨bp, 0, none⟩)] w _
  refine entr (vs := [.agg #[.pointer (some ⟨b, o, none⟩), I r.parts, .bool r.opt], .pointer (some ⟨bp, 0, none⟩)]) [0, 1, 2, 7] tabok Tryz.func113 (by kernel_rfl) ?_
  refine bx (cs := [.pointer (some ⟨b, o, none⟩), I r.parts, .bool r.opt]) fun b4 w1 h1 => ?_
  have hB1 := Bl.box h1.bl hB
  have z1 := h1.size
  have y1 := h1.blk
  have hlb := hB.lt
  refine ld (h1.box.cell rfl) ?_
  refine ld (hB1.cell hc) ?_
  refine br (t := decide (0 ≤ r.at')) (fun h => ?_) (fun h => ?_)
  · have h0 := of_decide_eq_true h
    have hin := hP h0
    refine dt 1 fun w2 h2 => ?_
    have B02 := h1.bl.trans h2.bl
    have I2 := hI.bl B02
    have hB2 := Bl.box B02 hB
    have x4 := Bl.box h2.bl h1.box
    refine ld (x4.cell rfl) ?_
    refine ld ((I2.box xp hbp).cell rfl) ?_
    refine ld (x4.cell rfl) ?_
    refine ld (hB2.cell hc) ?_
    refine ix (hij := int_nat h0) ?_
    have hAq : At w2 bq 0 (P.flatMap encInt) := xq.kp (S := fun i => i < w0.heap.size ∧ ¬ Q i) (fun b o v s x => by rw [World.cell?_of_block (w := w0) (I2.blk b s.1 s.2)]; exact x) ⟨hlq, hbq⟩
    refine ld (at_elem (sz := 1) (enc := encInt) hAq (hf _ h0 hin) (fun _ => rfl) 0 _ rfl) ?_
    refine stx hB2 (fun w6 k6 hb6 => ?_) (ho := (List.getElem?_eq_some_iff.1 hc).1)
    refine en (vs := []) ⟨I2.ap (Ap.wr k6) fun b e => ?_, (Ap.of_bl B02 _).trans (Ap.wr k6), hb6⟩
    simp only [Option.some.injEq, Addr.mk.injEq, and_true] at e
    subst e; exact .inl hQb
  · have h0 : r.at' < 0 := by have := of_decide_eq_false h; omega
    refine en (vs := []) ⟨hI.bl h1.bl, Ap.of_bl h1.bl _, ?_⟩
    rw [hg _ h0]
    obtain ⟨hk, e3⟩ := List.getElem?_eq_some_iff.1 hc
    rw [← e3, List.set_getElem_self]; exact hB1
end Go.Proofs.YtopjmiklpnejmaaGreatDoor

/- Walks: a unit renamed, in the program. -/
namespace Go.Proofs.YtopjmiklpnejmaaGreatDoor
open Eng Go.RowKit
def preB (p s : ByteArray) : Bool := p.data.toList.isPrefixOf s.data.toList
theorem pre_take {p s : ByteArray} : preB p s = decide (p.size ≤ s.size ∧ s.extract 0 p.size = p) := by
  have e : (s.extract 0 p.size).data.toList = s.data.toList.take p.size := by rw [Lib.extract_data]; simp
  rw [Bool.eq_iff_iff, decide_eq_true_eq]
  unfold preB
  rw [List.isPrefixOf_iff_prefix, List.prefix_iff_eq_take, ba_len]
  constructor
  · intro h
    have hl := congrArg List.length h
    rw [List.length_take, ba_len, ba_len] at hl
    exact ⟨by omega, ba_ext (by rw [e, ← h])⟩
  · rintro ⟨_, h⟩
    rw [← e, h]
theorem c_HasPrefix (s p : ByteArray) (w : World) : Ret Tryz.prog 186 #[.string s, .string p] w fun v w' => v = .bool (preB p s) ∧ w' = w := by
  refine entr (vs := [.string s, .string p]) [0, 1, 4] tabok Tryz.func186 (by kernel_rfl) ?_
  refine sp (.string ⟨#[]⟩) (fun q => ?_) (fun q => ?_)
  · have q' : p.size ≤ s.size := by simpa using q
    refine sls 0 p.size ?_
    refine rt1 ⟨vb ?_, rfl⟩
    rw [pre_take]
    simp [q']
  · have q' : ¬ p.size ≤ s.size := by simpa using q
    refine rt1 ⟨vb ?_, rfl⟩
    rw [pre_take]
    simp [q']
def cutS (p s : ByteArray) : ByteArray := if preB p s = true then s.extract p.size s.size else s
theorem cutS_size (p s : ByteArray) : (cutS p s).size ≤ s.size := by
  unfold cutS
  split
  · rw [← ba_len, Lib.extract_data, List.length_take, List.length_drop, ba_len]; omega
  · exact Nat.le_refl _
theorem c_CutPrefix (s p : ByteArray) (w : World) : Ret Tryz.prog 81 #[.string s, .string p] w fun v w' => v = .tuple #[.string (cutS p s), .bool (preB p s)] ∧ w' = w := by
  refine entr (vs := [.string s, .string p]) [0, 1, 4, 5] tabok Tryz.func81 (by kernel_rfl) ?_
  refine cl (R := fun v w' => v = .tuple #[.string (cutS p s), .bool (preB p s)] ∧ w' = w) ?_ ?_
  · refine entr (vs := [.string s, .string p]) [0, 1, 4, 5, 9] tabok Tryz.func143 (by kernel_rfl) ?_
    refine cl (c_HasPrefix s p w) ?_
    rintro _ _ ⟨rfl, rfl⟩
    refine br (t := !preB p s) (fun h => ?_) (fun h => ?_)
    · have h' : preB p s = false := by simpa using h
      exact rt2 ⟨by unfold cutS; rw [h'], rfl⟩
    · have h' : preB p s = true := by simpa using h
      have hle : p.size ≤ s.size := by rw [pre_take] at h'; exact (of_decide_eq_true h').1
      refine sls p.size s.size ?_
      exact rt2 ⟨by unfold cutS; rw [h'], rfl⟩
  rintro _ _ ⟨rfl, rfl⟩
  exact rt2 ⟨rfl, rfl⟩
theorem ren_cut (n m s : ByteArray) : ren n m s = if preB (n ++ ⟨#[46]⟩) s = true then (m ++ ⟨#[46]⟩) ++ cutS (n ++ ⟨#[46]⟩) s else s := by
  have e1 : (n ++ ⟨#[46]⟩ : ByteArray).data.toList = n.data.toList ++ [46] := by rw [ByteArray.data_append]; simp
  have e2 : (m ++ ⟨#[46]⟩ : ByteArray).data.toList = m.data.toList ++ [46] := by rw [ByteArray.data_append]; simp
  apply ba_ext
  unfold ren
  rw [toL_ofL]
  unfold renL
  have ep : preB (n ++ ⟨#[46]⟩) s = (n.data.toList ++ [46]).isPrefixOf s.data.toList := by unfold preB; rw [e1]
  rw [ep]
  by_cases h : (n.data.toList ++ [46]).isPrefixOf s.data.toList = true
  · rw [if_pos h, if_pos h]
    rw [Joins.data_append, e2]
    have : (cutS (n ++ ⟨#[46]⟩) s).data.toList = s.data.toList.drop (n.data.toList.length + 1) := by
      unfold cutS
      rw [ep, if_pos h, Lib.extract_data]
      have hs : (n ++ ⟨#[46]⟩ : ByteArray).size = n.data.toList.length + 1 := by rw [← ba_len, e1]; simp
      rw [hs]
      exact List.take_of_length_le (by rw [List.length_drop, ba_len]; exact Nat.le_refl _)
    rw [this]; simp
  · rw [if_neg h, if_neg h]
theorem unr_nil (S : Nat → Prop) (w : World) : UnR S w u00 ⟨none, 0, none, 0, none, 0, none, 0⟩ :=
  ⟨by decide, by simp [u00], ⟨by decide, by simp [u00]⟩, ⟨by decide, by simp [u00]⟩, ⟨by decide, by simp [u00]⟩, ⟨by decide, by simp [u00]⟩⟩
/-- what Rename answers -/
def RenR (u : Unt) (name : ByteArray) (w : World) (v : Value) (w' : World) : Prop := ∃ a', v = .tuple #[.agg (ucells (renU u name) a').toArray, I (renE u name)] ∧ UnR (fun b => w.heap.size ≤ b) w' (renU u name) a' ∧ Bl w w'
theorem ren_err {u : Unt} {name : ByteArray} {w w' : World} {e : Int} (he : renE u name = e) (h0 : ¬ e = 0) (hB : Bl w w') : RenR u name w (.tuple #[.agg (ucells u00 ⟨none, 0, none, 0, none, 0, none, 0⟩).toArray, I e]) w' := by
  have hu : renU u name = u00 := by unfold renU; rw [he, if_neg h0]
  exact ⟨⟨none, 0, none, 0, none, 0, none, 0⟩, by rw [hu, he], by rw [hu]; exact unr_nil _ _, hB⟩
/-- the pool of a unit in rows of its own, other texts in it -/
theorem SepU.pool {w : World} {base : Nat} {X : UX} {P : List ByteArray} (h : SepR w base (setR X.row .pool ⟨9, 1, X.a1, P.length, X.c1, P.flatMap encStr⟩)) (name : ByteArray) : SepU w base { X with name := name, pool := P } := by
  refine cast (congrArg (SepR w base) (funext fun k => ?_)) h
  cases k <;> simp [setR, UX.row, rowN]
/-- the first k texts renamed -/
def renK (u : Unt) (name : ByteArray) (k : Nat) : List ByteArray := (u.pool.take k).map (ren u.name name) ++ u.pool.drop k
theorem renK_len (u : Unt) (name : ByteArray) (k : Nat) : (renK u name k).length = u.pool.length := by unfold renK; simp; omega
theorem renK_set {u : Unt} {name s : ByteArray} {k : Nat} (h : u.pool[k]? = some s) : (renK u name k)[k]? = some s ∧ (renK u name k).set k (ren u.name name s) = renK u name (k + 1) := by
  obtain ⟨hk, rfl⟩ := List.getElem?_eq_some_iff.1 h
  have hl : ((u.pool.take k).map (ren u.name name)).length = k := by simp; omega
  unfold renK
  constructor
  · rw [List.getElem?_append_right (by omega), hl, Nat.sub_self, List.drop_eq_getElem_cons hk]; rfl
  · rw [List.set_append_right _ _ (by omega), hl, Nat.sub_self, List.drop_eq_getElem_cons hk, take_succ_some h, List.map_append]
    simp only [List.set_cons_zero, List.map_cons, List.map_nil, List.append_assoc, List.singleton_append]
theorem renK_end (u : Unt) (name : ByteArray) : renK u name u.pool.length = renPool u name := by unfold renK renPool; simp
theorem renK_zero (u : Unt) (name : ByteArray) : renK u name 0 = u.pool := by unfold renK; simp
theorem ren_size {n m s : ByteArray} (hn : simple n = true) (hm : simple m = true) (hs : path s ≠ 0) : (ren n m s).size ≤ 38 := path_size (by rw [path_ren hn hm]; exact hs)
set_option maxHeartbeats 1000000 in
theorem u_Rename (u : Unt) (a : UA) (name : ByteArray) (w : World) (hU : UnR T w u a) (hs : name.size ≤ 1048576) (hG : Gl w) : Ret Tryz.prog 28 #[.agg (ucells u a).toArray, .string name] w (RenR u name w) := by
  refine entr (vs := [.agg (ucells u a).toArray, .string name]) [0, 1, 2, 4, 5, 6, 7, 8, 9, 10, 14, 19, 24, 25, 26, 27, 39, 51] tabok Tryz.func28 (by kernel_rfl) ?_
  refine bx (cs := ucells u a) fun b1 w1 h1 => ?_
  refine al fun b2 w2 h2 => ?_
  have B02 := h1.bl.trans h2.bl
  have z1 := h1.size
  have z2 := h2.size
  have y1 := h1.blk
  have y2 := h2.blk
  have hx1 := Bl.box h2.bl h1.box
  have hx2 := h2.box
  refine lda hx1.at ?_
  refine cl (u_Check u a w2 (hU.bl B02) (hG.bl B02)) ?_
  rintro _ w3 ⟨rfl, B23⟩
  have B03 := B02.trans B23
  replace hx1 := Bl.box B23 hx1
  replace hx2 := Bl.box B23 hx2
  have z3 := B23.size
  refine br (t := decide (¬ checkE u = 0)) (fun h => ?_) (fun h => ?_)
  · have h0 := of_decide_eq_true h
    refine bd ?_
    refine sta hx2 fun w4 k4 hx4 => ?_
    exact rtc2 hx4.at (ren_err (by unfold renE; rw [if_neg h0]) h0 (B03.trans_wr k4 (by omega)))
  have h0 : checkE u = 0 := Classical.not_not.1 (of_decide_eq_false h)
  have hC := (ckU_iff u).1 h0
  refine cl (u_Simple name w3 hs) ?_
  rintro _ w3 ⟨rfl, rfl⟩
  refine br (t := !simple name) (fun h => ?_) (fun h => ?_)
  · have h1 : simple name = false := by simpa using h
    refine bd ?_
    refine sta hx2 fun w4 k4 hx4 => ?_
    exact rtc2 hx4.at (ren_err (by unfold renE; rw [if_pos h0, if_pos h1]) (by decide) (B03.trans_wr k4 (by omega)))
  have h1 : simple name = true := by simpa using h
  have hns : name.size ≤ 12 := by
    have := simpleL_len (l := name.data.toList) h1
    rw [ba_len] at this; exact this.2
  have hus : u.name.size ≤ 12 := by
    have := simpleL_len (l := u.name.data.toList) hC.nm
    rw [ba_len] at this; exact this.2
  refine lda hx1.at ?_
  refine cl (u_clone u a w3 (hU.bl B03)) ?_
  rintro _ w4 ⟨X, rfl, hXu, hS4, B34⟩
  have B04 := B03.trans B34
  replace hx1 := Bl.box B34 hx1
  replace hx2 := Bl.box B34 hx2
  have z4 := B34.size
  have hpX : X.pool = u.pool := congrArg Unt.pool hXu
  have hnX : X.name = u.name := congrArg Unt.name hXu
  refine sta (cs' := X.cells) hx1 fun w5 k5 hx5 => ?_
  have z5 := k5.size
  have B05 := B04.trans_wr k5 (by omega)
  have hx25 := k5.box hx2 (by omega)
  have hS5 := hS4.wr k5 (by omega)
  refine ld (hx5.cell rfl) ?_
  have hpl := (lim_of hC.lim).pool
  have hpl2 : X.pool.length ≤ 60 := by rw [hpX]; omega
  refine lpk X.pool.length 26 [] [(1, .string name), (2, .pointer (some ⟨b1, 0, none⟩)), (4, .pointer (some ⟨b2, 0, none⟩)), (24, .slice X.a1 X.pool.length X.c1), (25, I X.pool.length)] (fun k vals w' => vals = [] ∧ SepR w' w3.heap.size (setR X.row .pool ⟨9, 1, X.a1, (renK u name k).length, X.c1, (renK u name k).flatMap encStr⟩) ∧
    Box w' b1 30 X.cells ∧ Box w' b2 30 [.string ⟨#[]⟩, .slice none 0 0, .slice none 0 0, .slice none 0 0, .slice none 0 0] ∧ Bl w w') ⟨rfl, by rw [renK_zero, ← hpX]; exact (setR_self X.row .pool).symm ▸ hS5, hx5, hx25, B05⟩ ?_
  rintro k vals w6 hk ⟨rfl, hS6, hx6, hx26, B06⟩ ih
  by_cases hlt : k < X.pool.length
  · refine brT ?_
    obtain ⟨s, hs1⟩ := some_of_lt (l := u.pool) (k := k) (by rw [← hpX]; exact hlt)
    obtain ⟨hk1, hk2⟩ := renK_set (name := name) hs1
    have hps : path s ≠ 0 := fun e => by
      have := of_decide_eq_true (List.all_eq_true.1 hC.ps s (List.mem_of_getElem? hs1))
      omega
    have hss := path_size hps
    have hcs := cutS_size (X.name ++ ⟨#[46]⟩) s
    have hle := renK_len u name k
    obtain ⟨g, cur, ea, hgb, hln, hAt, hg⟩ := hS6.box .pool (by show 0 < (renK u name k).length; rw [hle, ← hpX]; omega)
    have ea : X.a1 = some ⟨g, 0, none⟩ := ea
    have hln : (renK u name k).length * 1 ≤ cur.length := hln
    rw [hle, ← hpX] at hln
    have hAx := at_elem (sz := 1) (enc := encStr) hAt hk1 fun _ => rfl
    have hz : ∀ x y : ByteArray, (x ++ y).size = x.size + y.size := fun x y => ByteArray.size_append
    have h1z : (⟨#[46]⟩ : ByteArray).size = 1 := rfl
    rw [ea]
    refine ix ?_
    refine ld (hAx 0 _ rfl) ?_
    refine ld (hx6.cell rfl) ?_
    refine cat ?_ (hab := by rw [hnX, h1z]; omega)
    refine cl (c_CutPrefix s (X.name ++ ⟨#[46]⟩) w6) ?_
    rintro _ _ ⟨rfl, rfl⟩
    have er := ren_cut u.name name s
    refine br (t := preB (X.name ++ ⟨#[46]⟩) s) (fun h => ?_) (fun h => ?_)
    · refine ld (hx6.cell rfl) ?_
      refine cat ?_ (hab := by rw [h1z]; omega)
      refine cat ?_ (hab := by rw [hz, h1z]; omega)
      rw [ea]
      refine ix ?_
      refine stx hgb (fun w7 k7 hb7 => ?_) (ho := by omega)
      rw [← hnX, if_pos h] at er
      have q := hS6.set .pool (g := g) ea hgb k7 hb7 (r := ⟨9, 1, X.a1, (renK u name (k + 1)).length, X.c1, (renK u name (k + 1)).flatMap encStr⟩) (by
        rw [← hk2, List.length_set, ← flat_set (sz := 1) (enc := encStr) (fun _ => rfl) hk1 (j := 0) (v := .string (ren u.name name s)) (by omega) rfl, ← hnX, er, Nat.zero_add]; rfl)
      rw [setR_setR] at q
      refine ih hlt ⟨rfl, q, k7.box hx6 (by omega), k7.box hx26 (by omega), B06.trans_wr k7 (by omega)⟩ (hsub := by simp only [ea]; repeat (first | exact True.intro | (refine ⟨rfl, ?_⟩)))
    · rw [← hnX, if_neg (by rw [h]; simp)] at er
      have e2 : renK u name (k + 1) = renK u name k := by
        rw [← hk2, ← hnX, er]
        refine List.ext_getElem? fun i => ?_
        rw [List.getElem?_set]
        split
        · rename_i e
          subst e
          rw [hk1, if_pos (by rw [hle, ← hpX]; exact hlt)]
        · rfl
      exact ih hlt ⟨rfl, by rw [e2]; exact hS6, hx6, hx26, B06⟩ (hsub := by simp only [ea]; repeat (first | exact True.intro | (refine ⟨rfl, ?_⟩)))
  refine brF ?_
  obtain rfl : k = X.pool.length := by omega
  clear ih
  rw [hpX, renK_end] at hS6
  have hlen : (renPool u name).length = u.pool.length := by simp [renPool]
  refine ld (hx6.cell rfl) ?_
  have hsl : Sl eStr T w6 X.a1 (renPool u name) := owp_sl (enc := encStr) (hS6.own .pool) (by omega) fun _ _ => trivial
  have hc := u_twice (renPool u name) X.a1 X.c1 T w6 hsl
  rw [hlen, ← hpX] at hc
  refine cl hc ?_
  rintro _ w8 ⟨rfl, B68⟩
  have B08 := B06.trans B68
  have z6 := B06.size
  have z8 := B68.size
  replace hx6 := Bl.box B68 hx6
  replace hx26 := Bl.box B68 hx26
  refine br (t := dup (renPool u name)) (fun h => ?_) (fun h => ?_)
  · refine bd ?_
    refine sta hx26 fun w9 k9 hx9 => ?_
    exact rtc2 hx9.at (ren_err (by unfold renE; rw [if_pos h0, if_neg (by rw [h1]; simp), if_pos h]) (by decide) (B08.trans_wr k9 (by omega)))
  have he : renE u name = 0 := by unfold renE; rw [if_pos h0, if_neg (by rw [h1]; simp), if_neg (by rw [h]; simp)]
  refine st hx6 fun w9 k9 hx9 => ?_
  refine lda hx9.at ?_
  refine sta (k9.box hx26 (by omega)) fun w10 k10 hx10 => ?_
  have eu : renU u name = UX.u { X with name := name, pool := renPool u name } := by
    unfold renU; rw [if_pos he, ← hXu]; rfl
  have B10 := (B08.trans_wr k9 (by omega)).trans_wr k10 (by omega)
  have hS10 : SepU w10 w3.heap.size { X with name := name, pool := renPool u name } := SepU.pool (((hS6.bl B68).wr k9 (by omega)).wr k10 (by omega)) name
  have hz : Siz (renU u name) := by
    have q := hU.siz
    rw [show renU u name = { u with name := name, pool := renPool u name } by unfold renU; rw [if_pos he]]
    exact ⟨hs, fun s hs => by have := renU_size he s hs; omega, by rw [hlen]; exact q.pool, q.cls, q.sta, q.mth, q.flds, q.prms, q.locs, q.cods⟩
  refine rtc2 hx10.at ⟨(UX.mk name X.a1 X.c1 (renPool u name) X.a2 X.c2 X.cl X.a3 X.c3 X.sta X.a4 X.c4 X.ml).a, ?_, ?_, B10⟩
  · rw [eu, he, UX.cells_eq]
    simp only [UX.cells, hlen, hpX]
  · rw [eu] at hz ⊢
    exact (SepU.unr hS10 hz).sub fun i hi => by have := B03.size; omega
end Go.Proofs.YtopjmiklpnejmaaGreatDoor

/- Walks: a unit stripped by the program. -/
namespace Go.Proofs.YtopjmiklpnejmaaGreatDoor
open Eng Go.RowKit
/-- the answer of Strip -/
def StrR (u : Unt) (w : World) (v : Value) (w' : World) : Prop := ∃ a', v = .tuple #[.agg (ucells (strE u) a').toArray, I (checkE u)] ∧ UnR (fun b => w.heap.size ≤ b) w' (strE u) a' ∧ Bl w w'
theorem str_err {u : Unt} {w w' : World} (h0 : ¬ checkE u = 0) (hB : Bl w w') : StrR u w (.tuple #[.agg (ucells u00 ⟨none, 0, none, 0, none, 0, none, 0⟩).toArray, I (checkE u)]) w' := by
  have e : strE u = u00 := by unfold strE; rw [if_neg h0]
  exact ⟨⟨none, 0, none, 0, none, 0, none, 0⟩, by rw [e], by rw [e]; exact unr_nil _ _, hB⟩
/-- where each text of the pool goes: the first k told -/
def plL (u : Unt) (k : Nat) : List Int := (List.range u.pool.length).map fun i => if i < k then (cntM u i : Int) else 0
theorem plL_len (u : Unt) (k : Nat) : (plL u k).length = u.pool.length := by unfold plL; simp
theorem plL_set {u : Unt} {k : Nat} (hk : k < u.pool.length) : (plL u k).set k (cntM u k : Int) = plL u (k + 1) := by
  refine List.ext_getElem? fun i => ?_
  rw [List.getElem?_set, plL_len]
  unfold plL
  rw [List.getElem?_map, List.getElem?_map]
  rcases Nat.lt_or_ge i u.pool.length with hi | hi
  · rw [List.getElem?_range hi]
    by_cases e : k = i
    · subst e; simp [hi]
    · have e2 : (i < k + 1) = (i < k) := by simp; omega
      simp [e, e2]
  · rw [List.getElem?_eq_none (by simpa using hi), if_neg (by omega)]
    rfl
theorem plL_end {u : Unt} {i : Int} (h0 : 0 ≤ i) (hi : i < u.pool.length) : (plL u u.pool.length)[i.toNat]? = some (plcU u i) := by
  unfold plL plcU
  have : i.toNat < u.pool.length := by omega
  rw [List.getElem?_map, List.getElem?_range this, if_pos ⟨h0, hi⟩]
  simp [this]
theorem flat_int {l : List Int} {i : Nat} {b : Int} : (l.flatMap encInt).set i (I b) = (l.set i b).flatMap encInt := by
  have e : ∀ l : List Int, l.flatMap encInt = l.map I := fun l => by
    induction l with
    | nil => rfl
    | cons x l ih => rw [List.flatMap_cons, ih]; rfl
  rw [e, e, List.map_set]
theorem plL_zero (u : Unt) : (plL u 0).flatMap encInt = rep u.pool.length [I 0] := by
  have h : plL u 0 = List.replicate u.pool.length 0 := by
    unfold plL
    refine List.ext_getElem? fun i => ?_
    rw [List.getElem?_map, List.getElem?_replicate]
    split
    · rename_i h; rw [List.getElem?_range h]; simp
    · rename_i h; rw [List.getElem?_eq_none (by simpa using h)]; rfl
  rw [h]
  generalize u.pool.length = n
  induction n with
  | zero => rfl
  | succ n ih =>
    have e : List.replicate (n + 1) (0 : Int) = List.replicate n 0 ++ [0] := List.replicate_succ' ..
    rw [e, List.flatMap_append, ih]; rfl
theorem ways_mkL {u : Unt} (hC : CkU u) {k : Nat} (hk : k < u.pool.length) : (mkL u.pool.length (waysU u))[k]? = some (mkd u k) := by
  unfold mkL mkd
  rw [List.getElem?_map, List.getElem?_range hk, Option.map_some, ways_any hC (fun r h => by rw [h]; simp) (fun r s h _ => by rw [h])]
theorem cnt_pick (u : Unt) (k : Nat) : (pickK u (mkd u) k).length = cntM u k := by unfold pickK cntM; rw [List.length_map]
theorem siz_mv {u : Unt} (h : Siz u) (f : Int → Int) : Siz (mvU f u.name u.pool u) := by
  refine ⟨h.nm, h.ps, h.pool, by simpa [mvU] using h.cls, by simpa [mvU] using h.sta, by simpa [mvU] using h.mth, fun c hc => ?_, fun c hc => ?_, fun c hc => ?_, fun c hc => ?_⟩
  all_goals
    obtain ⟨x, hx, rfl⟩ := List.mem_map.1 hc
  · simpa [mvCls] using h.flds x hx
  · simpa [mvMth] using h.prms x hx
  · simpa [mvMth] using h.locs x hx
  · simpa [mvMth] using h.cods x hx
set_option maxHeartbeats 2000000 in
theorem u_Strip (u : Unt) (a : UA) (w : World) (hU : UnR T w u a) (hG : Gl w) : Ret Tryz.prog 40 #[.agg (ucells u a).toArray] w (StrR u w) := by
  refine entr (vs := [.agg (ucells u a).toArray]) [0, 1, 2, 3, 4, 5, 6, 7, 8, 9, 13, 29, 30, 31, 32, 44] tabok Tryz.func40 (by kernel_rfl) ?_
  refine bx (cs := ucells u a) fun b1 w1 h1 => ?_
  refine al fun b2 w2 h2 => ?_
  have B02 := h1.bl.trans h2.bl
  have z1 := h1.size
  have z2 := h2.size
  have y1 := h1.blk
  have y2 := h2.blk
  have hx1 := Bl.box h2.bl h1.box
  have hx2 := h2.box
  refine lda hx1.at ?_
  refine cl (u_Check u a w2 (hU.bl B02) (hG.bl B02)) ?_
  rintro _ w3 ⟨rfl, B23⟩
  have B03 := B02.trans B23
  replace hx1 := Bl.box B23 hx1
  replace hx2 := Bl.box B23 hx2
  have z3 := B23.size
  refine br (t := decide (¬ checkE u = 0)) (fun h => ?_) (fun h => ?_)
  · have h0 := of_decide_eq_true h
    refine bd ?_
    refine sta hx2 fun w4 k4 hx4 => ?_
    exact rtc2 hx4.at (str_err h0 (B03.trans_wr k4 (by omega)))
  have h0 : checkE u = 0 := Classical.not_not.1 (of_decide_eq_false h)
  have hC := (ckU_iff u).1 h0
  have hzu := hU.siz
  refine lda hx1.at ?_
  refine cl (u_clone u a w3 (hU.bl B03)) ?_
  rintro _ w4 ⟨X, rfl, hXu, hS4, B34⟩
  subst hXu
  have B04 := B03.trans B34
  replace hx1 := Bl.box B34 hx1
  replace hx2 := Bl.box B34 hx2
  have z4 := B34.size
  have hpl := (lim_of hC.lim).pool
  have hpX : X.u.pool = X.pool := rfl
  rw [hpX] at hpl
  refine sta (cs' := X.cells) hx1 fun w5 k5 hx5 => ?_
  have z5 := k5.size
  have B05 := B04.trans_wr k5 (by omega)
  have hx25 := k5.box hx2 (by omega)
  have hS5 := hS4.wr k5 (by omega)
  have U5 := SepU.unr hS5 hzu
  refine ld (hx5.cell rfl) ?_
  refine mk fun bd w6 h6 => ?_
  refine al fun bn w7 h7 => ?_
  refine st h7.box fun w8 k8 hn8 => ?_
  have z6 := h6.size
  have z7 := h7.size
  have z8 := k8.size
  have y6 := h6.blk
  have y7 := h7.blk
  have B58 := h6.bl.trans (h7.wr k8)
  have O8 : OwP 1 encBool w8 w5.heap.size 4 (some ⟨bd, 0, none⟩) X.pool.length (mkL X.pool.length []) := by
    have := (Ow.made (n := X.pool.length) h6 (by rw [rep_length]) (by omega)).base (base' := w5.heap.size) (by omega)
    unfold OwP
    rw [mkL_len, mkL_zero]
    exact this.bl (h7.wr k8)
  have hx8 := Bl.box B58 hx5
  have U8 : UnR (useS bd w8) w8 X.u X.a := (U5.bl B58).sub fun i hi => ⟨by omega, by omega⟩
  have hwl := ways_len (lim_of hC.lim) (code_len hC)
  have hE := v_mark X.pool.length w5 w8 bn bd (by omega) (by omega) hn8 w5.heap.size (waysU X.u).length
  have hat8 : At w8 b1 0 (ucells X.u X.a) := by rw [X.cells_eq]; exact hx8.at
  refine cl (h_uses hE X.u (fun r hr h0 => (ways_in hC r hr h0).2) X.a U8 b1 0 ⟨hx8.lt, by omega⟩ hat8 [] w8 ⟨CpS.refl B58 (by omega), O8⟩ (by rw [List.length_nil, Nat.zero_add]; exact Nat.le_refl _)) ?_
  rintro v9 w9 ⟨cp9, O9⟩
  rw [List.nil_append] at O9
  have z9 := cp9.sz
  have B59 := cp9.below
  have hx9 := Bl.box B59 hx5
  have hn9 := cp9.box hn8 (by omega)
  refine ld (hx9.cell rfl) ?_
  refine mk fun bq w10 h10 => ?_
  refine al fun bp w11 h11 => ?_
  refine st h11.box fun w12 k12 hp12 => ?_
  have z10 := h10.size
  have z11 := h11.size
  have z12 := k12.size
  have y10 := h10.blk
  have y11 := h11.blk
  have B912 := h10.bl.trans (h11.wr k12)
  have B512 := B59.trans (B912.mono (Nat.le_trans B58.size z9))
  have P12 : OwP 1 encInt w12 w9.heap.size 3 (some ⟨bq, 0, none⟩) X.pool.length (plL X.u 0) := by
    have := (Ow.made (n := X.pool.length) h10 (by rw [rep_length]) (by omega)).base (base' := w9.heap.size) (by omega)
    unfold OwP
    rw [plL_len, plL_zero]
    exact this.bl (h11.wr k12)
  have hn12 := Bl.box B912 hn9
  have O12 : OwP 1 encBool w12 w5.heap.size 4 (some ⟨bd, 0, none⟩) X.pool.length (mkL X.pool.length (waysU X.u)) := O9.bl B912
  have hx12 := Bl.box B512 hx5
  refine ld (hx12.cell rfl) ?_
  refine lpk (vals := [.slice none 0 0]) X.pool.length 31 [6] [(1, .pointer (some ⟨b1, 0, none⟩)), (2, .pointer (some ⟨b2, 0, none⟩)), (5, .pointer (some ⟨bn, 0, none⟩)), (7, .pointer (some ⟨bp, 0, none⟩)), (29, .slice X.a1 X.pool.length X.c1), (30, I X.pool.length)] (fun k vals w' => ∃ a6 c6, vals = [.slice a6 (pickK X.u (mkd X.u) k).length c6] ∧ OwP 1 encStr w' w12.heap.size 9 a6 c6 (pickK X.u (mkd X.u) k) ∧ OwP 1 encInt w' w9.heap.size 3 (some ⟨bq, 0, none⟩) X.pool.length (plL X.u k) ∧ CpS w5 w12 bq w') ⟨none, 0, rfl, Ow.nil .., P12, CpS.refl B512 (by omega)⟩ ?_
  rintro k vals w13 hk ⟨a6, c6, rfl, hO13, P13, cp13⟩ ih
  have hle := pickK_len X.u (mkd X.u) k
  have z13 := cp13.sz
  have B513 := cp13.below
  by_cases hlt : k < X.pool.length
  · refine brT ?_
    obtain ⟨s, b, o, cs, hs, e2, _, hAt, rfl⟩ := at_some (U5.bl B513).pool hlt
    have e2 : X.a1 = some ⟨b, o, none⟩ := e2
    have es : nm X.u (k : Int) = s := nm_at hs
    have e1 := pickK_succ X.u (mkd X.u) k
    rw [e2]
    refine ix ?_
    refine ld (hAt 0 _ rfl) ?_
    refine ld ((cp13.box hp12 (by omega)).cell rfl) ?_
    refine ix ?_
    obtain ⟨cur, hb, hcl, _, _, hcl2⟩ := Eng.Ow.box P13
    rw [plL_len, hpX] at hcl2
    refine stx hb (fun w14 k14 hb14 => ?_) (ho := by omega)
    have P14 : OwP 1 encInt w14 w9.heap.size 3 (some ⟨bq, 0, none⟩) X.pool.length (plL X.u (k + 1)) := by
      have := Eng.Ow.set P13 hb hb14
      rw [Nat.zero_add, Nat.mul_one, cnt_pick, flat_int, plL_set hlt] at this
      unfold OwP
      rw [plL_len] at this ⊢
      exact this
    have cp14 := cp13.wr k14 (.inl rfl)
    have hO14 : OwP 1 encStr w14 w12.heap.size 9 a6 c6 (pickK X.u (mkd X.u) k) := hO13.wr k14 fun g hg => by have := (hO13.lt hg).1; omega
    have O14 : OwP 1 encBool w14 w5.heap.size 4 (some ⟨bd, 0, none⟩) X.pool.length (mkL X.pool.length (waysU X.u)) := O12.same fun g hg => cp14.blk g (by cases hg; omega) (by cases hg; omega)
    refine ld ((cp14.box hn12 (by omega)).cell rfl) ?_
    refine ix ?_
    refine ld (at_elem (sz := 1) (enc := encBool) (O14.at rfl) (ways_mkL hC hlt) (fun _ => rfl) 0 _ rfl) ?_
    refine br (t := mkd X.u k) (fun hm => ?_) (fun hm => ?_)
    · rw [if_pos hm, es] at e1
      refine bs fun b15 w15 h15 => ?_
      have z15 := h15.size
      have z14 := k14.size
      refine apl (enc := encStr) (l1 := [s]) (hO14.bl h15.bl) (.inr ⟨b15, 0, rfl, h15.box.at⟩) (by omega) (fun a8 c8 w16 hO16 hA16 hf16 => ?_) (hb := by rw [List.length_singleton]; omega) (hn := by rw [List.length_singleton]; omega)
      have hlo : ∀ g, a6 = some ⟨g, 0, none⟩ → w12.heap.size ≤ g := fun g hg => (hO14.lt hg).1
      refine ih hlt ⟨a8, c8, by rw [e1], by rw [e1]; exact hO16, ?_, (cp14.bl h15.bl).ap hA16 hlo⟩ (hsub := by simp only [e2]; repeat (first | exact True.intro | (refine ⟨rfl, ?_⟩)))
      exact (P14.bl h15.bl).same fun g hg => hA16.block g (by have := ((P14.bl h15.bl).lt hg).2; omega) fun e => by have := hlo g e; cases hg; omega
    · rw [if_neg (by rw [hm]; simp), List.append_nil] at e1
      exact ih hlt ⟨a6, c6, by rw [e1], by rw [e1]; exact hO14, P14, cp14⟩ (hsub := by simp only [e2]; repeat (first | exact True.intro | (refine ⟨rfl, ?_⟩)))
  refine brF ?_
  obtain rfl : k = X.pool.length := by omega
  clear ih
  let Q : Nat → Prop := fun b => w3.heap.size ≤ b ∧ b < w4.heap.size
  have hx13 := Bl.box B513 hx5
  have hx213 := Bl.box B513 hx25
  have hS13 : SepU w13 w3.heap.size X := SepR.bl hS5 B513
  have hM := v_put Q w13 bp bq X.pool.length (plL X.u X.pool.length) (by simp only [Q]; omega) (by simp only [Q]; omega) (fun b hb => by have := hb.2; omega) (cp13.box hp12 (by omega)) (P13.at rfl) (by have := (P13.lt rfl).2; omega) (plcU X.u) (fun i h0 hi => plL_end h0 hi) (fun i hi => by unfold plcU; rw [if_neg (by omega)])
  have hQ : ∀ k g, (X.row k).a = some ⟨g, 0, none⟩ → Q g := fun k g hg => SepR.lt hS4 hg
  refine cl (m_uses hM X w3.heap.size (fun r hr h0 => (ways_in hC r hr h0).2) (fun m hm i hi => code_valid hC hm hi) hQ hzu b1 0 (fun w' h => (h.box hx13 (by simp only [Q]; omega)).at) w13 (Qf.refl _ _) hS13) ?_
  rintro v14 w14 ⟨q14, S14⟩
  have z14 := q14.size
  have hO14 : OwP 1 encStr w14 w12.heap.size 9 a6 c6 (pickK X.u (mkd X.u) X.pool.length) := q14.ow hO13 fun g hg h => by have := (hO13.lt hg).1; have := h.2; omega
  have B514 : Bl w w14 := Below.trans (B05.trans B513) (q14.below (B := w.heap.size) (by have := B05.size; have := B513.size; omega) fun b hb => by have := hb.1; have := B03.size; omega)
  refine st (q14.box hx13 (by simp only [Q]; omega)) fun w15 k15 hx15 => ?_
  refine lda hx15.at ?_
  refine sta (k15.box (q14.box hx213 (by simp only [Q]; omega)) (by omega)) fun w16 k16 hx16 => ?_
  have B016 := (B514.trans_wr k15 (by omega)).trans_wr k16 (by omega)
  have S16 := (S14.wr k15 (by omega)).wr k16 (by omega)
  have hlo : ∀ g, a6 = some ⟨g, 0, none⟩ → w12.heap.size ≤ g := fun g hg => (hO13.lt hg).1
  have hO16 : OwP 1 encStr w16 w12.heap.size 9 a6 c6 (pickK X.u (mkd X.u) X.pool.length) := (hO14.wr k15 fun g hg => by have := hlo g hg; omega).wr k16 fun g hg => by have := hlo g hg; omega
  have hzm : Siz (mvX (plcU X.u) X).u := by rw [mvX_u]; exact siz_mv hzu _
  have U16 := SepU.unr S16 hzm
  rw [mvX_u] at U16
  have eS : strE X.u = strU X.u := by unfold strE; rw [if_pos h0]
  refine rtc2 hx16.at ⟨⟨a6, c6, X.a2, X.c2, X.a3, X.c3, X.a4, X.c4⟩, ?_, ?_, B016⟩
  · rw [eS, h0]
    simp only [ucells, strU, mvU, List.length_map, UX.u]
    rfl
  · rw [eS]
    have hsub : ∀ i, (w3.heap.size ≤ i ∧ i < w16.heap.size) → w.heap.size ≤ i := fun i hi => by have := B03.size; omega
    exact ⟨hzu.nm, fun s hs => hzu.ps s (strP_mem hs), owp_sl (enc := encStr) (l := strP X.u) hO16 (by have := strP_len X.u; rw [hpX] at this; omega) fun g hg => by have := hlo g hg; have := B05.size; have := B512.size; omega, U16.cls.sub hsub, U16.sta.sub hsub, U16.mth.sub hsub⟩
end Go.Proofs.YtopjmiklpnejmaaGreatDoor
