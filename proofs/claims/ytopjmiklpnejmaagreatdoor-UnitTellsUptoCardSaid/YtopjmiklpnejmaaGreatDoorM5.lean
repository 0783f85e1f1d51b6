import Derived.Test.YtopjmiklpnejmaaGreatDoorM4
import Derived.Test.YtopjmiklpnejmaaGreatDoorM2
import Derived.Test.YtopjmiklpnejmaaGreatDoorM3
/- Walks: texts sorted, and each once; the first part of a path. -/
namespace Go.Proofs.YtopjmiklpnejmaaGreatDoor
open Eng Go.RowKit Go.Sort
theorem compact_at {zs : List (List UInt8)} {x : List UInt8} : x ∈ Lib.compact zs ↔ ∃ j, j < zs.length ∧ Lib.keeps zs.toArray j = true ∧ zs.getD j [] = x := by
  unfold Lib.compact Lib.compactUpTo
  simp only [List.mem_map, List.mem_filter, List.mem_range]
  constructor
  · rintro ⟨j, ⟨h1, h2⟩, h3⟩
    exact ⟨j, h1, h2, by simpa [h1] using h3⟩
  · rintro ⟨j, h1, h2, h3⟩
    exact ⟨j, ⟨h1, h2⟩, by simpa [h1] using h3⟩
theorem keeps_iff {zs : List (List UInt8)} {j : Nat} (h : j < zs.length) : Lib.keeps zs.toArray j = true ↔ j = 0 ∨ zs.getD (j - 1) [] ≠ zs.getD j [] := by
  unfold Lib.keeps
  rw [decide_eq_true_eq]
  constructor
  · rintro (h0 | h1)
    · exact .inl h0
    · refine .inr fun e => ?_
      simp [h, show j - 1 < zs.length by omega] at h1 e
      exact h1 e.symm
  · rintro (h0 | h1)
    · exact .inl h0
    · refine .inr ?_
      simp [h, show j - 1 < zs.length by omega] at h1 ⊢
      exact fun e => h1 e.symm
theorem compact_mem {zs : List (List UInt8)} {x : List UInt8} : x ∈ Lib.compact zs ↔ x ∈ zs := by
  rw [compact_at]
  constructor
  · rintro ⟨j, h1, _, rfl⟩
    simp [h1]
  · intro hx
    obtain ⟨i, hi, rfl⟩ := List.getElem_of_mem hx
    have key : ∀ n, n < zs.length → ∃ j, j < zs.length ∧ Lib.keeps zs.toArray j = true ∧ zs.getD j [] = zs.getD n [] := by
      intro n
      induction n with
      | zero => intro h; exact ⟨0, h, (keeps_iff h).2 (.inl rfl), rfl⟩
      | succ n ih =>
        intro h
        by_cases e : zs.getD n [] = zs.getD (n + 1) []
        · obtain ⟨j, h1, h2, h3⟩ := ih (by omega)
          exact ⟨j, h1, h2, h3.trans e⟩
        · exact ⟨n + 1, h, (keeps_iff h).2 (.inr (by simpa using e)), rfl⟩
    obtain ⟨j, h1, h2, h3⟩ := key i hi
    exact ⟨j, h1, h2, by rw [h3]; simp [hi]⟩
theorem compact_lt {zs : List (List UInt8)} (hs : zs.Pairwise (· ≤ ·)) : (Lib.compact zs).Pairwise (· < ·) := by
  have hp : ∀ i j, i ≤ j → j < zs.length → zs.getD i [] ≤ zs.getD j [] := fun i j hij hj => by
    rcases Nat.eq_or_lt_of_le hij with rfl | h
    · exact List.le_refl _
    · have := List.pairwise_iff_getElem.1 hs i j (by omega) hj h
      simpa [hj, show i < zs.length by omega] using this
  unfold Lib.compact Lib.compactUpTo
  rw [List.pairwise_map]
  have hr : ((List.range zs.toArray.size).filter (Lib.keeps zs.toArray)).Pairwise (· < ·) := List.pairwise_lt_range.filter _
  refine List.Pairwise.imp_of_mem (fun {i j} hi hj hij => ?_) hr
  simp only [List.mem_filter, List.mem_range] at hi hj
  have h1 := hp i (j - 1) (by omega) (by omega)
  have h2 := hp (j - 1) j (by omega) hj.1
  have h3 : zs.getD (j - 1) [] ≠ zs.getD j [] := by
    rcases (keeps_iff hj.1).1 hj.2 with q | q
    · omega
    · exact q
  have h4 := le_lt_of_ne h2 h3
  have h5 : zs.getD i [] < zs.getD j [] := by
    by_cases e : zs.getD i [] = zs.getD (j - 1) []
    · rw [e]; exact h4
    · exact List.lt_trans (le_lt_of_ne h1 e) h4
  simpa [hi.1, hj.1] using h5
theorem srt_compact (l : List ByteArray) : Asc l ((Lib.compact (srt l)).map ofL) := by
  refine ⟨?_, mem_ofL fun x => ?_⟩
  · rw [map_toL_ofL]; exact compact_lt (sorted_le _)
  · rw [compact_mem]; exact srt_mem
theorem flat_str (l : List ByteArray) : l.flatMap encStr = (l.map toL).map sEnc := by
  induction l with
  | nil => rfl
  | cons x l ih => rw [List.flatMap_cons, ih, List.map_cons, List.map_cons, sEnc_toL]; rfl
theorem flat_ofL (L : List (List UInt8)) : (L.map ofL).flatMap encStr = L.map sEnc := by rw [flat_str, map_toL_ofL]
theorem ap_grown {w w' : World} {g : Nat} (h : w.grownBy w' (some g)) : Ap w (some ⟨g, 0, none⟩) w' := by
  obtain ⟨q1, q2, q3, q4, q5⟩ := h
  first
    | exact ⟨q1, q2, q3, q4, fun k hk hne => q5 k hk fun e => hne (by cases e; rfl)⟩
    | exact ⟨q1, q3, q2, q4, fun k hk hne => q5 k hk fun e => hne (by cases e; rfl)⟩
theorem c_SortS (l : List ByteArray) (base : Nat) (a : Option Addr) (cap : Nat) (w : World) (hO : OwP 1 encStr w base 9 a cap l) (hl : l.length ≤ 4194304) :
    Ret Tryz.prog 83 #[.slice a l.length cap] w fun _ w' => Ow w' base 9 1 a l.length cap ((srt l).map sEnc) ∧ Ap w a w' := by
  have hlen : (l.map toL).length = l.length := List.length_map ..
  have hsl : (srt l).length = l.length := by unfold srt; rw [List.length_mergeSort, hlen]
  refine ⟨by kernel_rfl, ?_⟩
  have hO' : Ow w base 9 1 a l.length cap ((l.map toL).map sEnc) := by rw [← flat_str]; exact hO
  obtain ⟨_, h2⟩ := hO'.own
  rcases h2 with ⟨h3, h4⟩ | ⟨g, cap', cur, h2, hg, hgb, r1, r2, r3, r4⟩
  · simp only [Value.slice.injEq] at h3
    obtain ⟨rfl, h0, rfl⟩ := h3
    have : l = [] := List.eq_nil_of_length_eq_zero h0
    subst this
    refine (Tryz.slices_Sort_string_none none 0 w).mono ?_
    rintro e w' ⟨rfl, rfl⟩
    have e0 : srt ([] : List ByteArray) = [] := by simp [srt]
    rw [e0]
    exact ⟨Ow.nil .., Ap.bl (Bl.refl _) _⟩
  · simp only [Value.slice.injEq] at h2
    obtain ⟨rfl, _, rfl⟩ := h2
    have hH : Holds sEnc w g 0 (l.map toL).toArray := holds_of_block hgb (by rw [hlen]; simpa using r4)
    have c := Tryz.slices_Sort_string g 0 cap (l.map toL) w hH (Array.getElem?_eq_some_iff.1 hgb).1 (by omega)
    rw [hlen] at c
    refine c.mono ?_
    rintro e w' ⟨rfl, n, os, rfl⟩
    refine ⟨⟨?_⟩, ap_grown (grownBy_sorted _)⟩
    have := ownsRow_sorted (ss := l.map toL) (ts := srt l) (os := os) (n := n) (by rw [hsl, hlen]) hg hgb (by rw [hlen]; exact r1) r2 r3
    rw [hlen] at this
    exact this
theorem c_CompactS (zs : List (List UInt8)) (base : Nat) (a : Option Addr) (cap : Nat) (w : World) (hO : Ow w base 9 1 a zs.length cap (zs.map sEnc)) (hl : zs.length ≤ 4194304) (hs : zs.Pairwise (· ≤ ·)) :
    Ret Tryz.prog 87 #[.slice a zs.length cap] w fun v w' => v = .slice a (Lib.compact zs).length cap ∧ Ow w' base 9 1 a (Lib.compact zs).length cap ((Lib.compact zs).map sEnc) ∧ Ap w a w' := by
  have hle := (compact_len hs).2
  refine ⟨by kernel_rfl, ?_⟩
  obtain ⟨_, h2⟩ := hO.own
  rcases h2 with ⟨h3, h4⟩ | ⟨g, cap', cur, h2, hg, hgb, r1, r2, r3, r4⟩
  · simp only [Value.slice.injEq] at h3
    obtain ⟨rfl, h0, rfl⟩ := h3
    have : zs = [] := List.eq_nil_of_length_eq_zero h0
    subst this
    refine (Tryz.slices_Compact_string_empty none 0 w).mono ?_
    rintro e w' ⟨rfl, rfl⟩
    exact ⟨rfl, Ow.nil .., Ap.bl (Bl.refl _) _⟩
  · simp only [Value.slice.injEq] at h2
    obtain ⟨rfl, _, rfl⟩ := h2
    have hH : Holds sEnc w g 0 zs.toArray := holds_of_block hgb (by simpa using r4)
    refine (Tryz.slices_Compact_string g 0 cap zs w hH (by omega) r1).mono ?_
    rintro e w' ⟨rfl, q, hw⟩
    rw [← Go.Sort.grow_empty (putRow _ _ _ _ _)] at hw
    have e1 : (Lib.compact zs ++ List.replicate (zs.length - (Lib.compact zs).length) []).length = zs.length := by rw [List.length_append, List.length_replicate]; omega
    have hrow := ownsRow_sorted (ss := zs) (ts := Lib.compact zs ++ List.replicate (zs.length - (Lib.compact zs).length) []) (os := #[]) (n := q) e1 hg hgb r1 r2 r3
    rw [← hw] at hrow
    have hO2 : Ow w' base 9 1 (some ⟨g, 0, none⟩) zs.length cap ((Lib.compact zs ++ List.replicate (zs.length - (Lib.compact zs).length) []).map sEnc) := ⟨hrow⟩
    have hO3 := hO2.cut hle
    refine ⟨rfl, ?_, ?_⟩
    · have e2 : ((Lib.compact zs ++ List.replicate (zs.length - (Lib.compact zs).length) []).map sEnc).take ((Lib.compact zs).length * 1) = (Lib.compact zs).map sEnc := by
        rw [Nat.mul_one, List.map_append, List.take_left' (by simp)]
      rw [e2] at hO3; exact hO3
    · rw [hw]; exact ap_grown (grownBy_sorted _)
theorem cut_first (s : ByteArray) : (⟨(Lib.cut s.data.toList [46]).1.toArray⟩ : ByteArray) = fstP s := by
  unfold fstP partsB Lib.cut
  rw [Lib.index_one]
  rcases ib_nat s.data.toList 46 with h | ⟨i, h⟩
  · rw [h, if_neg (by decide), (cut_miss _ h).1]; rfl
  · rw [h, if_pos (by omega), (cut_hit _ i h).1]; rfl
theorem fstP_size (s : ByteArray) : (fstP s).size ≤ s.size := by
  unfold fstP
  cases h : partsB s with
  | nil => exact Nat.zero_le _
  | cons p ps => exact partsB_mem (s := s) (p := p) (by rw [h]; exact List.mem_cons_self ..)
theorem u_first (s : ByteArray) (w : World) (hs : s.size ≤ 1048576) (hG : Gl w) : Ret Tryz.prog 89 #[.string s] w fun v w' => v = .string (fstP s) ∧ Bl w w' := by
  refine entr (vs := [.string s]) [0, 2, 3] tabok Tryz.func89 (by kernel_rfl) ?_
  refine cl (R := fun v w' => ∃ x y, v = .tuple #[.string (fstP s), x, y] ∧ Bl w w') ?_ ?_
  · obtain ⟨m, hm⟩ := hG
    refine ⟨by kernel_rfl, (Tryz.strings_Cut s ⟨#[46]⟩ m w (by omega) hm).mono ?_⟩
    rintro e w' ⟨rfl, n, rfl⟩
    have e1 : (⟨#[46]⟩ : ByteArray).data.toList = [46] := rfl
    rw [e1, cut_first]
    exact ⟨_, _, rfl, below_drewN (Below.refl _ _) n⟩
  rintro _ w1 ⟨x, y, rfl, hB⟩
  exact rt1 ⟨rfl, hB⟩
/-- the model's < on bytes is the lists' own -/
theorem bl_lt : ∀ x y : List UInt8, Op.bytesLess x y = decide (x < y) := by
  intro x
  induction x with
  | nil => intro y; cases y <;> simp [Op.bytesLess]
  | cons a x ih =>
    intro y
    cases y with
    | nil => simp [Op.bytesLess]
    | cons b y =>
      rw [Op.bytesLess, ih, Bool.eq_iff_iff]
      simp only [List.cons_lt_cons_iff, Bool.or_eq_true, Bool.and_eq_true, decide_eq_true_eq, beq_iff_eq]
theorem lss_run {T : TypeId} {a b : ByteArray} : ∀ P w, (binOp .lss T (.string a) (.string b)).run P w = .ok (.bool (decide (toL a < toL b))) w := fun P w => by
  simp [binOp, Op.stringOp, pure, ByteArray.toList_eq, bl_lt]
theorem gtr_run {T : TypeId} {a b : ByteArray} : ∀ P w, (binOp .gtr T (.string a) (.string b)).run P w = .ok (.bool (decide (toL b < toL a))) w := fun P w => by
  have h : (!(decide (toL a < toL b) || (toL a == toL b))) = decide (toL b < toL a) := by
    rw [Bool.eq_iff_iff]
    simp only [Bool.not_eq_true', Bool.or_eq_false_iff, decide_eq_false_iff_not, decide_eq_true_eq, beq_eq_false_iff_ne]
    constructor
    · rintro ⟨h1, h2⟩
      exact le_lt_of_ne (List.not_lt.1 h1) fun e => h2 e.symm
    · intro h
      exact ⟨fun q => List.lt_irrefl _ (List.lt_trans h q), fun e => by rw [e] at h; exact List.lt_irrefl _ h⟩
  simp [binOp, Op.stringOp, pure, ByteArray.toList_eq, bl_lt]
  simpa using h
/-- a comparison of texts whose outcome is given -/
theorem Eng.sop {C : Cx} {s : St} {w : World} {md : Option Md} {ops : Array Oper} {op : BinOp} {T T' : TypeId} {x y : Operand} {d : Nat} {ty : TypeId} {pos : String} {af : Array Edge} {g : Option (Nat × Bool)} {rest : List Oper} {k : List Item} {l : Env} {c : CEnv} {a b : ByteArray} {v : Value}
    (hr : ∀ P w, (binOp op T (.string a) (.string b)).run P w = .ok v w) (h : Wk C (.reg md ops rest k ((d, v) :: l) c) w)
    (hs : adv C.tab C.n C.ks 400 s = .opn md ops ⟨some d, .binOp op T x y T', ty, pos, af, g⟩ rest k l c [] := by rfl) (hx : evc l c [] x = some (.string a) := by rfl) (hy : evc l c [] y = some (.string b) := by rfl) (hf : fresh d l c [] = true := by rfl) : Wk C s w :=
  rd (p := []) (fun _ _ hA hp w' _ => by
    simp only [execOp, evc_ok hA.k hA.kc.c hp hx, evc_ok hA.k hA.kc.c hp hy]
    exact run_bind_ok (run_bind_ok (eqg_str ..) |>.trans (hr C.P w')) |>.trans rfl) h hs rfl hf (okR_no rfl)
/-- a guard of two tests that says no -/
theorem Eng.spn2 {C : Cx} {s : St} {w : World} {md : Option Md} {ops : Array Oper} {o : Oper} {rest : List Oper} {k : List Item} {l : Env} {c : CEnv} {gs gs' : Nat} {gb gt gb' gt' : Bool} {d : Nat} (u : Value)
    (h2 : Wk C (.reg md ops rest k l ((d, [(gs, gb), (gs', gb')], u) :: c)) w)
    (hs : adv C.tab C.n C.ks 400 s = .opn md ops o rest k l c [(gs, gb), (gs', gb')] := by rfl) (hg' : evc l c [] (.tmp gs') = some (.bool gt') := by rfl) (hg : evc l c [(gs', gb')] (.tmp gs) = some (.bool gt) := by rfl) (hd : o.dst = some d := by rfl) (hf : fresh d l c [(gs, gb), (gs', gb')] = true := by rfl) (hn : ¬ (gt' = gb' ∧ gt = gb) := by simp_all) : Wk C s w :=
  sp2 u (fun a b => absurd ⟨a, b⟩ hn) (fun _ => h2) hs hg' hg hd hf
/-- .. that says yes -/
theorem Eng.spt2 {C : Cx} {s : St} {w : World} {md : Option Md} {ops : Array Oper} {o : Oper} {rest : List Oper} {k : List Item} {l : Env} {c : CEnv} {gs gs' : Nat} {gb gt gb' gt' : Bool} {d : Nat} (u : Value)
    (h1 : Wk C (.opn md ops o rest k (bools [(gs, gb), (gs', gb')] (settleL [(gs, gb), (gs', gb')] c l)) (settleC [(gs, gb), (gs', gb')] c) []) w)
    (hs : adv C.tab C.n C.ks 400 s = .opn md ops o rest k l c [(gs, gb), (gs', gb')] := by rfl) (hg' : evc l c [] (.tmp gs') = some (.bool gt') := by rfl) (hg : evc l c [(gs', gb')] (.tmp gs) = some (.bool gt) := by rfl) (hd : o.dst = some d := by rfl) (hf : fresh d l c [(gs, gb), (gs', gb')] = true := by rfl) (hy : gt' = gb' ∧ gt = gb := by simp_all) : Wk C s w :=
  sp2 u (fun _ _ => h1) (fun q => absurd hy q) hs hg' hg hd hf
def Cand (out : List ByteArray) (x : ByteArray) : Prop := ∀ y ∈ out, toL y < toL x
theorem cand_last {out : List ByteArray} (hs : (out.map toL).Pairwise (· < ·)) {y x : ByteArray} (hy : out[out.length - 1]? = some y) : Cand out x ↔ toL y < toL x := by
  constructor
  · intro h; exact h y (List.mem_of_getElem? hy)
  · intro h z hz
    obtain ⟨i, hi, rfl⟩ := List.getElem_of_mem hz
    rcases Nat.eq_or_lt_of_le (show i ≤ out.length - 1 by omega) with e | e
    · have : out[i] = y := by
        subst e
        rw [List.getElem?_eq_getElem hi] at hy
        exact Option.some.inj hy
      rw [this]; exact h
    · have hlt : out.length - 1 < out.length := by omega
      have h2 := List.pairwise_iff_getElem.1 hs i (out.length - 1) (by simpa using hi) (by simpa using hlt) e
      simp only [List.getElem_map] at h2
      rw [List.getElem?_eq_getElem hlt] at hy
      rw [Option.some.inj hy] at h2
      exact List.lt_trans h2 h
theorem countP_lt {α : Type} {p q : α → Bool} : ∀ {l : List α}, (∀ x ∈ l, q x = true → p x = true) → ∀ {y}, y ∈ l → p y = true → q y = false → l.countP q < l.countP p
  | [], _, _, h, _, _ => by cases h
  | x :: l, h, y, hy, hp, hq => by
    have hle : l.countP q ≤ l.countP p := List.countP_mono_left fun z hz => h z (List.mem_cons_of_mem _ hz)
    rw [List.countP_cons, List.countP_cons]
    rcases List.mem_cons.1 hy with rfl | hy
    · rw [hp, hq]; simp; omega
    · have ih := countP_lt (fun z hz => h z (List.mem_cons_of_mem _ hz)) hy hp hq
      have hx := h x (List.mem_cons_self ..)
      by_cases hqx : q x = true
      · rw [hqx, hx hqx]; simp; exact ih
      · simp only [hqx]
        simp
        omega
noncomputable instance (out : List ByteArray) (x : ByteArray) : Decidable (Cand out x) := Classical.propDecidable _
noncomputable def left (l out : List ByteArray) : Nat := l.countP fun x => decide (Cand out x)
/-- what the inner loop has found -/
def Lst (l out : List ByteArray) (k : Nat) (p : Int) : Prop := (p = -1 ∧ ∀ i x, i < k → l[i]? = some x → ¬ Cand out x) ∨ ∃ (n : Nat) (y : ByteArray), p = n ∧ n < k ∧ l[n]? = some y ∧ Cand out y ∧ ∀ i x, i < k → l[i]? = some x → Cand out x → toL y ≤ toL x
theorem Lst.skip {l out : List ByteArray} {k : Nat} {p : Int} {x : ByteArray} (h : Lst l out k p) (hx : l[k]? = some x) (hn : ¬ Cand out x) : Lst l out (k + 1) p := by
  have key : ∀ i z, i < k + 1 → l[i]? = some z → i < k ∨ z = x := fun i z hi hz => by
    rcases Nat.lt_or_ge i k with q | q
    · exact .inl q
    · obtain rfl : i = k := by omega
      rw [hx] at hz; exact .inr (Option.some.inj hz).symm
  rcases h with ⟨h1, h2⟩ | ⟨n, y, h1, h2, h3, h4, h5⟩
  · refine .inl ⟨h1, fun i z hi hz => ?_⟩
    rcases key i z hi hz with q | rfl
    · exact h2 i z q hz
    · exact hn
  · refine .inr ⟨n, y, h1, by omega, h3, h4, fun i z hi hz hc => ?_⟩
    rcases key i z hi hz with q | rfl
    · exact h5 i z q hz hc
    · exact absurd hc hn
theorem Lst.take {l out : List ByteArray} {k : Nat} {p : Int} {x : ByteArray} (h : Lst l out k p) (hx : l[k]? = some x) (hc : Cand out x) (hl : ∀ n y, p = ((n : Nat) : Int) → l[n]? = some y → toL x < toL y) : Lst l out (k + 1) k := by
  refine .inr ⟨k, x, rfl, by omega, hx, hc, fun i z hi hz hcz => ?_⟩
  rcases Nat.lt_or_ge i k with q | q
  · rcases h with ⟨h1, h2⟩ | ⟨n, y, h1, h2, h3, h4, h5⟩
    · exact absurd hcz (h2 i z q hz)
    · exact List.le_trans (List.le_of_lt (hl n y h1 h3)) (h5 i z q hz hcz)
  · obtain rfl : i = k := by omega
    rw [hx] at hz
    rw [Option.some.inj hz]; exact List.le_refl _
theorem Lst.pass {l out : List ByteArray} {k n : Nat} {x y : ByteArray} (h : Lst l out k ((n : Nat) : Int)) (hx : l[k]? = some x) (hy : l[n]? = some y) (hl : ¬ toL x < toL y) : Lst l out (k + 1) ((n : Nat) : Int) := by
  rcases h with ⟨h1, h2⟩ | ⟨n', y', h1, h2, h3, h4, h5⟩
  · omega
  · obtain rfl : n = n' := by omega
    rw [hy] at h3
    obtain rfl := Option.some.inj h3
    refine .inr ⟨n, y, rfl, by omega, hy, h4, fun i z hi hz hc => ?_⟩
    rcases Nat.lt_or_ge i k with q | q
    · exact h5 i z q hz hc
    · obtain rfl : i = k := by omega
      rw [hx] at hz
      rw [← Option.some.inj hz]; exact List.not_lt.1 hl
set_option maxHeartbeats 1000000 in
theorem r_Sorted (l : List ByteArray) (a : Option Addr) (cap : Nat) (S : Nat → Prop) (w : World) (hS : Sl eStr S w a l) : Ret Tryz.prog 84 #[.slice a l.length cap] w fun v w' => ∃ out a' cap', v = .slice a' out.length cap' ∧ Asc l out ∧ out.length ≤ 4194304 ∧ OwP 1 encStr w' w.heap.size 9 a' cap' out ∧ Bl w w' := by
  have hbig := hS.big
  refine entr (vs := [.slice a l.length cap]) [0, 2, 3, 4, 5, 9, 42, 45] tabok Tryz.func84 (by kernel_rfl) ?_
  refine lp (vals := [.slice none 0 0]) [3] [(0, .slice a l.length cap)] (fun m vals w' => ∃ out a3 c3, m = left l out ∧ vals = [.slice a3 out.length c3] ∧ (out.map toL).Pairwise (· < ·) ∧ (∀ x ∈ out, x ∈ l) ∧ (∀ x ∈ l, x ∈ out ∨ Cand out x) ∧ out.length + left l out ≤ l.length ∧ OwP 1 encStr w' w.heap.size 9 a3 c3 out ∧ Bl w w') ⟨rfl, trivial⟩
    ⟨[], none, 0, rfl, rfl, List.Pairwise.nil, by simp, fun x _ => .inr (by intro y hy; cases hy), by unfold left; have := List.countP_le_length (l := l) (p := fun x => decide (Cand [] x)); simpa using this, Ow.nil .., Bl.refl _⟩ ?_
  rintro m vals w1 ⟨out, a3, c3, rfl, rfl, hs, hsub, hall, hlen, hO, hB⟩ ih
  have hS1 := hS.bl hB
  refine lpk l.length 5 [4] [(0, .slice a l.length cap), (3, .slice a3 out.length c3)] (fun k vals w' => ∃ p, vals = [I p] ∧ Lst l out k p ∧ Bl w1 w') ⟨-1, rfl, .inl ⟨rfl, fun i x hi => by omega⟩, Bl.refl _⟩ ?_
  rintro k vals w2 hk ⟨p, rfl, hL, hB2⟩ ih2
  by_cases hlt : k < l.length
  · refine brT ?_
    obtain ⟨x, bx, ox, cs, hx, rfl, _, hAx, rfl⟩ := at_some (hS1.bl hB2) hlt
    refine ds fun w3 h3 => ?_
    have B13 := hB2.trans h3.bl
    have hAx3 := hAx.bl h3.bl
    have hS3 := (hS1.bl hB2).bl h3.bl
    have hO3 := hO.bl B13
    by_cases ho : out.length = 0
    · have hc : Cand out x := by
        rw [List.eq_nil_of_length_eq_zero ho]; intro y hy; cases hy
      have ho' : ((out.length : Nat) : Int) = 0 := by omega
      refine spn (.pointer none) ?_
      refine spn (.string ⟨#[]⟩) ?_
      refine spn (.pointer none) ?_
      refine spn (.string ⟨#[]⟩) ?_
      refine spn (.bool false) ?_
      rcases hL with ⟨rfl, hno⟩ | ⟨n, y, rfl, hn, hy, hcy, hmin⟩
      · have hL : Lst l out k (-1) := .inl ⟨rfl, hno⟩
        refine spn2 (.pointer none) ?_
        refine spn2 (.string ⟨#[]⟩) ?_
        refine spn2 (.pointer none) ?_
        refine spn2 (.string ⟨#[]⟩) ?_
        refine spn2 (.bool false) ?_
        refine brt ?_ (hp := by simp [List.eq_nil_of_length_eq_zero ho])
        exact ih2 hlt ⟨k, rfl, hL.take hx hc (fun n y e => by omega), B13⟩
      · have hL : Lst l out k ((n : Nat) : Int) := .inr ⟨n, y, rfl, hn, hy, hcy, hmin⟩
        obtain ⟨y2, b2, o2, cs, hy2, e2, _, hA2, rfl⟩ := at_some hS3 (i := n) (by omega)
        rw [hy] at hy2
        obtain rfl := Option.some.inj hy2
        obtain ⟨rfl, rfl⟩ : b2 = bx ∧ o2 = ox := by simp only [Option.some.injEq, Addr.mk.injEq, and_true] at e2; exact ⟨e2.1.symm, e2.2.symm⟩
        have q0 : ¬ ((n : Nat) : Int) < 0 := by omega
        refine spt2 (.pointer none) ?_
        refine ix ?_
        refine spt (.string ⟨#[]⟩) ?_
        refine ld (hAx3 0 _ rfl) ?_
        refine spt (.pointer none) ?_
        refine ix ?_
        refine spt (.string ⟨#[]⟩) ?_
        refine ld (hA2 0 _ rfl) ?_
        refine spt (.bool false) ?_
        refine sop lss_run ?_
        refine br (t := decide (toL x < toL y)) (fun h => ?_) (fun h => ?_)
        · exact ih2 hlt ⟨k, rfl, hL.take hx hc (fun m z e hz => by
            obtain rfl : n = m := by omega
            rw [hy] at hz
            obtain rfl := Option.some.inj hz
            exact of_decide_eq_true h), B13⟩
        · exact ih2 hlt ⟨(n : Nat), rfl, hL.pass hx hy (of_decide_eq_false h), B13⟩
    · have ho' : ¬ ((out.length : Nat) : Int) = 0 := by omega
      have hSo : Sl eStr T w3 a3 out := owp_sl (enc := encStr) hO3 (by omega) fun _ _ => trivial
      obtain ⟨z, bz, oz, cs, hz, rfl, _, hAz, rfl⟩ := at_some hSo (i := out.length - 1) (by omega)
      refine spt (.pointer none) ?_ (hb := decide_eq_false ho')
      refine ix ?_
      refine spt (.string ⟨#[]⟩) ?_
      refine ld (hAx3 0 _ rfl) ?_
      refine spt (.pointer none) ?_
      refine ix (j := out.length - 1) ?_ (hij := by rw [wrap_fit (by omega) (by omega)]; omega)
      refine spt (.string ⟨#[]⟩) ?_
      refine ld (hAz 0 _ rfl) ?_
      refine spt (.bool false) ?_
      refine sop gtr_run ?_
      by_cases hzx : toL z < toL x
      · have hc : Cand out x := (cand_last hs hz).2 hzx
        rcases hL with ⟨rfl, hno⟩ | ⟨n, y, rfl, hn, hy, hcy, hmin⟩
        · have hL : Lst l out k (-1) := .inl ⟨rfl, hno⟩
          refine spn2 (.pointer none) ?_
          refine spn2 (.string ⟨#[]⟩) ?_
          refine spn2 (.pointer none) ?_
          refine spn2 (.string ⟨#[]⟩) ?_
          refine spn2 (.bool false) ?_
          refine brt ?_ (hp := by simp [hzx])
          exact ih2 hlt ⟨k, rfl, hL.take hx hc (fun n y e => by omega), B13⟩
        · have hL : Lst l out k ((n : Nat) : Int) := .inr ⟨n, y, rfl, hn, hy, hcy, hmin⟩
          obtain ⟨y2, b2, o2, cs, hy2, e2, _, hA2, rfl⟩ := at_some hS3 (i := n) (by omega)
          rw [hy] at hy2
          obtain rfl := Option.some.inj hy2
          obtain ⟨rfl, rfl⟩ : b2 = bx ∧ o2 = ox := by simp only [Option.some.injEq, Addr.mk.injEq, and_true] at e2; exact ⟨e2.1.symm, e2.2.symm⟩
          have q0 : ¬ ((n : Nat) : Int) < 0 := by omega
          refine spt2 (.pointer none) ?_
          refine ix ?_
          refine spt (.string ⟨#[]⟩) ?_
          refine ld (hAx3 0 _ rfl) ?_
          refine spt (.pointer none) ?_
          refine ix ?_
          refine spt (.string ⟨#[]⟩) ?_
          refine ld (hA2 0 _ rfl) ?_
          refine spt (.bool false) ?_
          refine sop lss_run ?_
          refine br (t := decide (toL x < toL y)) (fun h => ?_) (fun h => ?_)
          · exact ih2 hlt ⟨k, rfl, hL.take hx hc (fun m z e hz => by
              obtain rfl : n = m := by omega
              rw [hy] at hz
              obtain rfl := Option.some.inj hz
              exact of_decide_eq_true h), B13⟩
          · exact ih2 hlt ⟨(n : Nat), rfl, hL.pass hx hy (of_decide_eq_false h), B13⟩
      · have hc : ¬ Cand out x := fun h => hzx ((cand_last hs hz).1 h)
        refine spn2 (.pointer none) ?_ (hn := fun q => hzx (of_decide_eq_true (by have := q.1; rw [Bool.false_or] at this; exact this)))
        refine spn2 (.string ⟨#[]⟩) ?_ (hn := fun q => hzx (of_decide_eq_true (by have := q.1; rw [Bool.false_or] at this; exact this)))
        refine spn2 (.pointer none) ?_ (hn := fun q => hzx (of_decide_eq_true (by have := q.1; rw [Bool.false_or] at this; exact this)))
        refine spn2 (.string ⟨#[]⟩) ?_ (hn := fun q => hzx (of_decide_eq_true (by have := q.1; rw [Bool.false_or] at this; exact this)))
        refine spn2 (.bool false) ?_ (hn := fun q => hzx (of_decide_eq_true (by have := q.1; rw [Bool.false_or] at this; exact this)))
        refine brf ?_ (hp := by rw [decide_eq_false hzx]; rfl)
        exact ih2 hlt ⟨p, rfl, hL.skip hx hc, B13⟩
  refine brF ?_
  obtain rfl : k = l.length := by omega
  clear ih2
  rcases hL with ⟨rfl, hno⟩ | ⟨n, y, rfl, hn, hy, hcy, hmin⟩
  · refine brT ?_ (hp := by decide)
    refine rt1 ⟨out, a3, c3, rfl, ⟨hs, fun x => ⟨hsub x, fun hx => ?_⟩⟩, by omega, hO.bl hB2, hB.trans hB2⟩
    rcases hall x hx with q | q
    · exact q
    · obtain ⟨i, hi, rfl⟩ := List.getElem_of_mem hx
      exact absurd q (hno i _ hi (List.getElem?_eq_getElem hi))
  · refine brF ?_
    obtain ⟨y2, by', oy, cs, hy2, rfl, _, hAy, rfl⟩ := at_some (hS1.bl hB2) (i := n) hn
    rw [hy] at hy2
    obtain rfl := Option.some.inj hy2
    have hyl := List.mem_of_getElem? hy
    have hpos : 0 < left l out := by
      unfold left
      rw [List.countP_pos_iff]
      exact ⟨y, hyl, decide_eq_true hcy⟩
    have hdec : left l (out ++ [y]) < left l out := by
      unfold left
      refine countP_lt (y := y) (fun x _ h => decide_eq_true fun z hz => of_decide_eq_true h z (List.mem_append_left _ hz)) hyl (decide_eq_true hcy) (decide_eq_false fun h => ?_)
      exact List.lt_irrefl _ (h y (by simp))
    refine ix ?_
    refine ld (hAy 0 _ rfl) ?_
    refine bs fun b4 w4 h4 => ?_
    have hB4 := (hB.trans hB2).trans h4.bl
    have hO4 := (hO.bl hB2).bl h4.bl
    refine apl (enc := encStr) (base := w.heap.size) (l0 := out) (l1 := [y]) hO4 (.inr ⟨b4, 0, rfl, h4.box.at⟩) hB4.size (fun a5 c5 w5 hO5 hA5 hf5 => ?_) (hb := by simp only [List.length_cons, List.length_nil]; omega)
    refine again (ih _ _ _ _ hdec ⟨rfl, trivial⟩ rfl ⟨out ++ [y], a5, c5, rfl, rfl, ?_, ?_, ?_, ?_, hO5, Eng.Ow.below hO4 hA5 hB4 hB4.size⟩)
    · rw [List.map_append, List.pairwise_append]
      refine ⟨hs, by simp, fun x hx z hz => ?_⟩
      obtain ⟨x', hx', rfl⟩ := List.mem_map.1 hx
      simp only [List.map_cons, List.map_nil, List.mem_singleton] at hz
      rw [hz]; exact hcy x' hx'
    · intro x hx
      rcases List.mem_append.1 hx with q | q
      · exact hsub x q
      · rw [List.mem_singleton.1 q]; exact hyl
    · intro x hx
      rcases hall x hx with q | q
      · exact .inl (List.mem_append_left _ q)
      · obtain ⟨i, hi, rfl⟩ := List.getElem_of_mem hx
        have h1 := hmin i _ hi (List.getElem?_eq_getElem hi) q
        by_cases e : toL y = toL l[i]
        · exact .inl (List.mem_append_right _ (by rw [ba_ext e]; simp))
        · refine .inr fun z hz => ?_
          rcases List.mem_append.1 hz with hz | hz
          · exact q z hz
          · rw [List.mem_singleton.1 hz]; exact le_lt_of_ne h1 e
    · rw [List.length_append, List.length_cons, List.length_nil]; omega
end Go.Proofs.YtopjmiklpnejmaaGreatDoor

/- Walks: what a unit defines, in the program and in the document. Printed by wip/tools/mkdf.py. -/
namespace Go.Proofs.YtopjmiklpnejmaaGreatDoor
open Eng Go.RowKit
/-- a list of texts in ascending order, each once, or an error -/
def TellR (e : Int) (l : List ByteArray) (w : World) (v : Value) (w' : World) : Prop :=
  if e = 0 then ∃ out a' c', v = .tuple #[.slice a' out.length c', I 0] ∧ Asc l out ∧ out.length ≤ 4194304 ∧ OwP 1 encStr w' w.heap.size 9 a' c' out ∧ Bl w w' else v = .tuple #[.slice none 0 0, I e] ∧ Bl w w'
theorem tell_err {e : Int} {l : List ByteArray} {w w' : World} (h : ¬ e = 0) (hB : Bl w w') : TellR e l w (.tuple #[.slice none 0 0, I e]) w' := by
  unfold TellR; rw [if_neg h]; exact ⟨rfl, hB⟩
theorem tell_ok {e : Int} {l : List ByteArray} {w w' : World} (h : e = 0) {out : List ByteArray} {a' : Option Addr} {c' : Nat} (h1 : Asc l out) (h2 : out.length ≤ 4194304) (h3 : OwP 1 encStr w' w.heap.size 9 a' c' out) (hB : Bl w w') : TellR e l w (.tuple #[.slice a' out.length c', I 0]) w' := by
  unfold TellR; rw [if_pos h]; exact ⟨out, a', c', rfl, h1, h2, h3, hB⟩
def defCl (u : Unt) (c : Cls) : List ByteArray := dots u.name (nm u c.name) :: c.fields.map fun f => dots (dots u.name (nm u c.name)) (nm u f.name)
def defM (u : Unt) (m : Mth) : List ByteArray := if m.cls = -1 then [dots u.name (nm u m.name)] else []
theorem defL_eq (u : Unt) : defL u = u.classes.flatMap (defCl u) ++ u.statics.map (fun s => dots u.name (nm u s.name)) ++ u.methods.flatMap (defM u) := by
  unfold defL
  congr 1
  induction u.methods with
  | nil => rfl
  | cons m l ih =>
    rw [List.flatMap_cons, ← ih]
    unfold defM
    by_cases h : m.cls = -1 <;> simp [h]
theorem cl_len {u : Unt} {c : Cls} (h : c.fields.length ≤ 7) : (defCl u c).length ≤ 8 := by unfold defCl; simp; omega
theorem cls_len {u : Unt} (hL : Lim u) (k : Nat) (hk : k ≤ u.classes.length) : ((u.classes.take k).flatMap (defCl u)).length ≤ 80 := by
  have := flatMap_take_le (f := defCl u) (l := u.classes) (B := 8) (fun c hc => cl_len (hL.flds c hc)) hk
  have := hL.cls
  omega
theorem mth_len {u : Unt} (hL : Lim u) (k : Nat) (hk : k ≤ u.methods.length) : ((u.methods.take k).flatMap (defM u)).length ≤ 16 := by
  have := flatMap_take_le (f := defM u) (l := u.methods) (B := 1) (fun m _ => by unfold defM; split <;> simp) hk
  have := hL.mth
  omega
theorem dots_size (x y : ByteArray) : (dots x y).size = x.size + 1 + y.size := by
  rw [← ba_len, toL_dots, List.length_append, List.length_cons, ba_len, ba_len]; omega
set_option maxHeartbeats 1000000 in
theorem u_Defines (u : Unt) (a : UA) (w : World) (hU : UnR T w u a) (hG : Gl w) : Ret Tryz.prog 31 #[.agg (ucells u a).toArray] w (TellR (checkE u) (defL u) w) := by
  refine entr (vs := [.agg (ucells u a).toArray]) [0, 1, 2, 3, 4, 5, 7, 9, 11, 13, 17, 20, 21, 22, 23, 38, 39, 40, 41, 60, 61, 62, 63, 79, 80, 81, 82, 87] tabok Tryz.func31 (by kernel_rfl) ?_
  refine bx (cs := ucells u a) fun b1 w1 h1 => ?_
  refine lda h1.box.at ?_
  refine cl (u_Check u a w1 (hU.bl h1.bl) (hG.bl h1.bl)) ?_
  rintro _ w2 ⟨rfl, B12⟩
  have B02 := h1.bl.trans B12
  have z1 := h1.size
  have z2 := B12.size
  have y1 := h1.blk
  refine br (t := decide (¬ checkE u = 0)) (fun h => ?_) (fun h => ?_)
  · exact rt2 (tell_err (of_decide_eq_true h) B02)
  have h0 : checkE u = 0 := Classical.not_not.1 (of_decide_eq_false h)
  have hC := (ckU_iff u).1 h0
  have hL := lim_of hC.lim
  have hP := plc_of hC.pl
  have n1 := hL.cls
  have n2 := hL.sta
  have n3 := hL.mth
  have hx2 := Bl.box B12 h1.box
  have hz1 : (⟨#[46]⟩ : ByteArray).size = 1 := rfl
  have hnz := hU.nm
  have np : ∀ {i : Int}, inP u i → (nm u i).size ≤ 1048576 := fun h => by obtain ⟨_, _, _, _, _, hz, _⟩ := pool_at hU h; exact hz
  refine ld (hx2.cell rfl) ?_
  refine lpk u.classes.length 22 [5] [(1, .pointer (some ⟨b1, 0, none⟩)), (20, .slice a.a2 u.classes.length a.c2), (21, I u.classes.length)] (fun k vals w' => ∃ a5 c5, vals = [.slice a5 ((u.classes.take k).flatMap (defCl u)).length c5] ∧ OwP 1 encStr w' w1.heap.size 9 a5 c5 ((u.classes.take k).flatMap (defCl u)) ∧ Bl w1 w') ⟨none, 0, rfl, Ow.nil .., B12⟩ ?_
  rintro k vals w3 hk ⟨a5, c5, rfl, hO, B13⟩ ih
  have B03 := h1.bl.trans B13
  have z3 := B13.size
  have dl := cls_len hL k hk
  by_cases hlt : k < u.classes.length
  · refine brT ?_
    obtain ⟨c, b, o, cs, hc, e2, _, hAt, af, cf, rfl, hF⟩ := at_some hU.cls hlt
    have hcm := List.mem_of_getElem? hc
    have nf := hL.flds c hcm
    rw [e2]
    refine ix ?_
    refine lda (hAt.bl B03) ?_
    refine al fun b7 w4 h4 => ?_
    refine sta h4.box fun w5 k5 y5 => ?_
    have B35 := h4.wr k5
    have z4 := h4.size
    have z5 := k5.size
    have y4 := h4.blk
    refine dh (fun i => i < w1.heap.size ∨ i = b7) (List.range 12) fun w6 h6 => ?_
    have B36 := B35.trans h6.bl
    have x6 := Bl.box (B13.trans B36) h1.box
    refine ld (x6.cell rfl) ?_
    refine cat ?_
    refine ld ((h6.box y5).cell rfl) ?_ (hm := by exact Or.inr rfl)
    refine bs fun b8 w8 h8 => ?_
    have B38 := B36.trans h8.bl
    refine cl (named1 u a b1 c.name T h8 (hU.bl (B03.trans B38)) ((Bl.box (B13.trans B38) h1.box).at) (hP.cn c hcm)) ?_ (hm := fun _ _ r => mdW_bl r.2)
    rintro _ w9 ⟨rfl, B89⟩
    have hnc := np (hP.cn c hcm)
    refine cat ?_ (hab := by rw [ByteArray.size_append, hz1]; omega)
    refine bs fun b10 w10 h10 => ?_
    have B310 := (B38.trans B89).trans h10.bl
    have z10 := B310.size
    have hO10 := hO.bl B310
    refine apl (enc := encStr) (l1 := [dots u.name (nm u c.name)]) hO10 (.inr ⟨b10, 0, rfl, h10.box.at⟩) (by omega) (fun a11 c11 w11 hO11 hA11 hf11 => ?_) (hb := by simp only [List.length_cons, List.length_nil]; omega) (hm := apS (S := fun i => i < w1.heap.size ∨ i = b7) fun g hg => by have := hO.lt hg; omega)
    have B111 : Bl w1 w11 := Eng.Ow.below hO10 hA11 (B13.trans B310) (by omega)
    have z510 := (((h6.bl.trans h8.bl).trans B89).trans h10.bl).size
    have y11 := hA11.box (Bl.box (((h6.bl.trans h8.bl).trans B89).trans h10.bl) y5) (fun e => by have := (hO.lt e).2; omega)
    have z11 := hA11.size
    refine ld (y11.cell rfl) ?_
    refine lpk c.fields.length 40 [5] [(1, .pointer (some ⟨b1, 0, none⟩)), (20, .slice (some ⟨b, o, none⟩) u.classes.length a.c2), (21, I u.classes.length), (22, I k), (7, .pointer (some ⟨b7, 0, none⟩)), (38, .slice af c.fields.length cf), (39, I c.fields.length)]
      (fun i vals w' => ∃ a5 c5, vals = [.slice a5 ((u.classes.take k).flatMap (defCl u) ++ (dots u.name (nm u c.name) :: (c.fields.take i).map fun f => dots (dots u.name (nm u c.name)) (nm u f.name))).length c5] ∧ OwP 1 encStr w' w1.heap.size 9 a5 c5 ((u.classes.take k).flatMap (defCl u) ++ (dots u.name (nm u c.name) :: (c.fields.take i).map fun f => dots (dots u.name (nm u c.name)) (nm u f.name))) ∧
        Box w' b7 58 (ccells c af cf) ∧ w11.heap.size ≤ w'.heap.size ∧ Bl w1 w' ∧ ∀ g, a5 = some ⟨g, 0, none⟩ → g ≠ b7) ⟨a11, c11, rfl, hO11, y11, Nat.le_refl _, B111, fun g hg => by
          rcases hf11 g hg with e | e
          · have := (hO.lt e).2; omega
          · omega⟩ ?_
    rintro i vals w12 hi ⟨a12, c12, rfl, hO12, y12, z12, B112, hn12⟩ ih2
    have B012 := h1.bl.trans B112
    by_cases hlt2 : i < c.fields.length
    · refine brT ?_
      obtain ⟨f, bf, off, cs, hf, rfl, _, hAtf, rfl⟩ := at_some hF hlt2
      have hfm := List.mem_of_getElem? hf
      have dl2 : ((u.classes.take k).flatMap (defCl u) ++ (dots u.name (nm u c.name) :: (c.fields.take i).map fun f => dots (dots u.name (nm u c.name)) (nm u f.name))).length ≤ 100 := by
        rw [List.length_append, List.length_cons, List.length_map, List.length_take]; omega
      refine ix ?_
      refine lda (hAtf.bl B012) ?_
      refine al fun b13 w13 h13 => ?_
      refine sta h13.box fun w14 k14 y14 => ?_
      have B1214 := h13.wr k14
      have z13 := h13.size
      have z14 := k14.size
      have y13 := h13.blk
      have z112 := B112.size
      have l7 := y12.lt
      refine dh (fun i => i < w1.heap.size ∨ i = b7 ∨ i = b13) (List.range 14) fun w15 h15 => ?_
      have B1215 := B1214.trans h15.bl
      refine ld ((Bl.box (B112.trans B1215) h1.box).cell rfl) ?_
      refine cat ?_
      refine ld ((Bl.box B1215 y12).cell rfl) ?_ (hm := by exact Or.inr (Or.inl rfl))
      refine ld ((h15.box y14).cell rfl) ?_ (hm := by exact Or.inr (Or.inr rfl))
      refine bs fun b16 w16 h16 => ?_
      have B1216 := B1215.trans h16.bl
      refine cl (named2 u a b1 c.name f.name T h16 (hU.bl (B012.trans B1216)) ((Bl.box (B112.trans B1216) h1.box).at) (hP.cn c hcm) (hP.fn c hcm f hfm)) ?_ (hm := fun _ _ r => mdW_bl r.2)
      rintro _ w17 ⟨rfl, B1617⟩
      have hnf := np (hP.fn c hcm f hfm)
      refine cat ?_ (hab := by rw [ByteArray.size_append, hz1, dots_size]; omega)
      rw [show (u.name ++ ⟨#[46]⟩ ++ dots (nm u c.name) (nm u f.name) : ByteArray) = dots (dots u.name (nm u c.name)) (nm u f.name) from (dots_assoc _ _ _).symm]
      refine bs fun b18 w18 h18 => ?_
      have B1218 := (B1216.trans B1617).trans h18.bl
      have z18 := B1218.size
      have hO18 := hO12.bl B1218
      refine apl (enc := encStr) (l1 := [dots (dots u.name (nm u c.name)) (nm u f.name)]) hO18 (.inr ⟨b18, 0, rfl, h18.box.at⟩) (by omega) (fun a19 c19 w19 hO19 hA19 hf19 => ?_) (hb := by rw [List.length_singleton]; omega) (hn := by rw [List.length_singleton]; omega) (hm := apS (S := fun i => i < w1.heap.size ∨ i = b7 ∨ i = b13) fun g hg => by have := hO12.lt hg; have := hn12 g hg; omega)
      have e3 : (u.classes.take k).flatMap (defCl u) ++ (dots u.name (nm u c.name) :: (c.fields.take (i + 1)).map fun f => dots (dots u.name (nm u c.name)) (nm u f.name)) = (u.classes.take k).flatMap (defCl u) ++ (dots u.name (nm u c.name) :: (c.fields.take i).map fun f => dots (dots u.name (nm u c.name)) (nm u f.name)) ++ [dots (dots u.name (nm u c.name)) (nm u f.name)] := by
        rw [take_succ_some hf, List.map_append]; simp
      refine ih2 hlt2 ⟨a19, c19, by rw [e3], by rw [e3]; exact hO19, hA19.box (Bl.box B1218 y12) (fun e => hn12 b7 e rfl), by have := hA19.size; omega, Eng.Ow.below hO18 hA19 (B112.trans B1218) (by omega), fun g hg => ?_⟩
      rcases hf19 g hg with e | e
      · exact hn12 g e
      · omega
    · refine brF ?_
      obtain rfl : i = c.fields.length := by omega
      rw [List.take_length] at hO12 ⊢
      have e3 : (u.classes.take (k + 1)).flatMap (defCl u) = (u.classes.take k).flatMap (defCl u) ++ (dots u.name (nm u c.name) :: c.fields.map fun f => dots (dots u.name (nm u c.name)) (nm u f.name)) := flatMap_snoc hc
      exact ih hlt ⟨a12, c12, by rw [e3], by rw [e3]; exact hO12, B112⟩ (hsub := by simp only [e2]; repeat (first | exact True.intro | (refine ⟨rfl, ?_⟩)))
  refine brF ?_
  obtain rfl : k = u.classes.length := by omega
  clear ih
  rw [List.take_length] at hO dl ⊢
  have x3 := Bl.box B13 h1.box
  refine ld (x3.cell rfl) ?_
  refine lpk (vals := [.slice a5 (u.classes.flatMap (defCl u)).length c5]) u.statics.length 62 [5] [(1, .pointer (some ⟨b1, 0, none⟩)), (60, .slice a.a3 u.statics.length a.c3), (61, I u.statics.length)] (fun k vals w' => ∃ a5 c5, vals = [.slice a5 (u.classes.flatMap (defCl u) ++ (u.statics.take k).map fun s => dots u.name (nm u s.name)).length c5] ∧ OwP 1 encStr w' w1.heap.size 9 a5 c5 (u.classes.flatMap (defCl u) ++ (u.statics.take k).map fun s => dots u.name (nm u s.name)) ∧ Bl w1 w') ⟨a5, c5, by simp, by simpa using hO, B13⟩ ?_
  clear hO x3 z3 B03 B13 hk hlt
  rintro k vals w3 hk ⟨a5, c5, rfl, hO, B13⟩ ih
  have B03 := h1.bl.trans B13
  have z3 := B13.size
  have dl3 : (u.classes.flatMap (defCl u) ++ (u.statics.take k).map fun s => dots u.name (nm u s.name)).length ≤ 90 := by rw [List.length_append, List.length_map, List.length_take]; omega
  by_cases hlt : k < u.statics.length
  · refine brT ?_
    obtain ⟨c, b, o, cs, hc, e2, _, hAt, rfl⟩ := at_some hU.sta hlt
    have hcm := List.mem_of_getElem? hc
    rw [e2]
    refine ix ?_
    refine lda (hAt.bl B03) ?_
    refine al fun b7 w4 h4 => ?_
    refine sta h4.box fun w5 k5 y5 => ?_
    have B35 := h4.wr k5
    have z4 := h4.size
    have z5 := k5.size
    have y4 := h4.blk
    refine dh (fun i => i < w1.heap.size ∨ i = b7) (List.range 12) fun w6 h6 => ?_
    have B36 := B35.trans h6.bl
    have x6 := Bl.box (B13.trans B36) h1.box
    refine ld (x6.cell rfl) ?_
    refine cat ?_
    refine ld ((h6.box y5).cell rfl) ?_ (hm := by exact Or.inr rfl)
    refine bs fun b8 w8 h8 => ?_
    have B38 := B36.trans h8.bl
    refine cl (named1 u a b1 c.name T h8 (hU.bl (B03.trans B38)) ((Bl.box (B13.trans B38) h1.box).at) (hP.sn c hcm)) ?_ (hm := fun _ _ r => mdW_bl r.2)
    rintro _ w9 ⟨rfl, B89⟩
    have hnc := np (hP.sn c hcm)
    refine cat ?_ (hab := by rw [ByteArray.size_append, hz1]; omega)
    refine bs fun b10 w10 h10 => ?_
    have B310 := (B38.trans B89).trans h10.bl
    have z10 := B310.size
    have hO10 := hO.bl B310
    refine apl (enc := encStr) (l1 := [dots u.name (nm u c.name)]) hO10 (.inr ⟨b10, 0, rfl, h10.box.at⟩) (by omega) (fun a11 c11 w11 hO11 hA11 hf11 => ?_) (hb := by rw [List.length_singleton]; omega) (hn := by rw [List.length_singleton]; omega) (hm := apS (S := fun i => i < w1.heap.size ∨ i = b7) fun g hg => by have := hO.lt hg; omega)
    have B111 : Bl w1 w11 := Eng.Ow.below hO10 hA11 (B13.trans B310) (by omega)
    have e3 : u.classes.flatMap (defCl u) ++ ((u.statics.take (k + 1)).map fun s => dots u.name (nm u s.name)) = u.classes.flatMap (defCl u) ++ ((u.statics.take k).map fun s => dots u.name (nm u s.name)) ++ [dots u.name (nm u c.name)] := by
      rw [take_succ_some hc, List.map_append]; simp
    exact ih hlt ⟨a11, c11, by rw [e3], by rw [e3]; exact hO11, B111⟩ (hsub := by simp only [e2]; repeat (first | exact True.intro | (refine ⟨rfl, ?_⟩)))
  refine brF ?_
  obtain rfl : k = u.statics.length := by omega
  clear ih
  rw [List.take_length] at hO dl3 ⊢
  have x3 := Bl.box B13 h1.box
  refine ld (x3.cell rfl) ?_
  generalize hD : (u.classes.flatMap (defCl u) ++ u.statics.map fun s => dots u.name (nm u s.name)) = D at *
  refine lpk (vals := [.slice a5 D.length c5]) u.methods.length 81 [5] [(1, .pointer (some ⟨b1, 0, none⟩)), (79, .slice a.a4 u.methods.length a.c4), (80, I u.methods.length)] (fun k vals w' => ∃ a5 c5, vals = [.slice a5 (D ++ (u.methods.take k).flatMap (defM u)).length c5] ∧ OwP 1 encStr w' w1.heap.size 9 a5 c5 (D ++ (u.methods.take k).flatMap (defM u)) ∧ Bl w1 w') ⟨a5, c5, by simp, by simpa using hO, B13⟩ ?_
  clear hO x3 z3 B03 B13 hk hlt
  rintro k vals w3 hk ⟨a5, c5, rfl, hO, B13⟩ ih
  have B03 := h1.bl.trans B13
  have z3 := B13.size
  have ml := mth_len hL k hk
  have dl4 : (D ++ (u.methods.take k).flatMap (defM u)).length ≤ 110 := by rw [List.length_append]; omega
  by_cases hlt : k < u.methods.length
  · refine brT ?_
    obtain ⟨c, b, o, cs, hc, e2, _, hAt, q1, s1, q2, s2, q3, s3, rfl, f1, f2, f3⟩ := at_some hU.mth hlt
    have hcm := List.mem_of_getElem? hc
    rw [e2]
    refine ix ?_
    refine lda (hAt.bl B03) ?_
    refine al fun b7 w4 h4 => ?_
    refine sta h4.box fun w5 k5 y5 => ?_
    have B35 := h4.wr k5
    have z4 := h4.size
    have z5 := k5.size
    have y4 := h4.blk
    refine ld (y5.cell rfl) ?_
    refine br (t := decide (c.cls < 0)) (fun h => ?_) (fun h => ?_)
    · have hm1 : c.cls = -1 := by
        rcases hP.mc c hcm with q | q
        · exact q
        · have := of_decide_eq_true h; have := q.1; omega
      refine dh (fun i => i < w1.heap.size ∨ i = b7) (List.range 12) fun w6 h6 => ?_
      have B36 := B35.trans h6.bl
      have x6 := Bl.box (B13.trans B36) h1.box
      refine ld (x6.cell rfl) ?_
      refine cat ?_
      refine ld ((h6.box y5).cell rfl) ?_ (hm := by exact Or.inr rfl)
      refine bs fun b8 w8 h8 => ?_
      have B38 := B36.trans h8.bl
      refine cl (named1 u a b1 c.name T h8 (hU.bl (B03.trans B38)) ((Bl.box (B13.trans B38) h1.box).at) (hP.mn c hcm)) ?_ (hm := fun _ _ r => mdW_bl r.2)
      rintro _ w9 ⟨rfl, B89⟩
      have hnc := np (hP.mn c hcm)
      refine cat ?_ (hab := by rw [ByteArray.size_append, hz1]; omega)
      refine bs fun b10 w10 h10 => ?_
      have B310 := (B38.trans B89).trans h10.bl
      have z10 := B310.size
      have hO10 := hO.bl B310
      refine apl (enc := encStr) (l1 := [dots u.name (nm u c.name)]) hO10 (.inr ⟨b10, 0, rfl, h10.box.at⟩) (by omega) (fun a11 c11 w11 hO11 hA11 hf11 => ?_) (hb := by rw [List.length_singleton]; omega) (hn := by rw [List.length_singleton]; omega) (hm := apS (S := fun i => i < w1.heap.size ∨ i = b7) fun g hg => by have := hO.lt hg; omega)
      have B111 : Bl w1 w11 := Eng.Ow.below hO10 hA11 (B13.trans B310) (by omega)
      have e4 : defM u c = [dots u.name (nm u c.name)] := by unfold defM; rw [if_pos hm1]
      have e3 : D ++ (u.methods.take (k + 1)).flatMap (defM u) = D ++ (u.methods.take k).flatMap (defM u) ++ [dots u.name (nm u c.name)] := by
        rw [flatMap_snoc hc, e4, List.append_assoc]
      exact ih hlt ⟨a11, c11, by rw [e3], by rw [e3]; exact hO11, B111⟩ (hsub := by simp only [e2]; repeat (first | exact True.intro | (refine ⟨rfl, ?_⟩)))
    · have hm1 : ¬ c.cls = -1 := fun e => by have := of_decide_eq_false h; omega
      have e4 : defM u c = [] := by unfold defM; rw [if_neg hm1]
      have e3 : D ++ (u.methods.take (k + 1)).flatMap (defM u) = D ++ (u.methods.take k).flatMap (defM u) := by
        rw [flatMap_snoc hc, e4, List.append_nil]
      exact ih hlt ⟨a5, c5, by rw [e3], by rw [e3]; exact hO.bl B35, B13.trans B35⟩ (hsub := by simp only [e2]; repeat (first | exact True.intro | (refine ⟨rfl, ?_⟩)))
  refine brF ?_
  obtain rfl : k = u.methods.length := by omega
  clear ih
  rw [List.take_length] at hO dl4 ⊢
  have eL : D ++ u.methods.flatMap (defM u) = defL u := by rw [defL_eq, hD]
  rw [eL] at hO dl4 ⊢
  refine cl (c_SortS (defL u) w1.heap.size a5 c5 w3 hO (by omega)) ?_
  rintro _ w9 ⟨hO9, hA9⟩
  have e9 : ((srt (defL u)).map ofL).length = (defL u).length := by unfold srt; rw [List.length_map, List.length_mergeSort, List.length_map]
  have := tell_ok (w := w) (w' := w9) (e := checkE u) h0 (out := (srt (defL u)).map ofL) (a' := a5) (c' := c5) (srt_asc (def_nodup hC)) (by omega) (by
    unfold OwP; rw [e9, flat_ofL]; exact hO9.base (by omega)) (h1.bl.trans (Eng.Ow.below hO hA9 B13 (by omega)))
  rw [e9] at this
  rw [h0] at this ⊢
  exact rt2 this
set_option maxHeartbeats 1000000 in
theorem r_Defines (u : Unt) (a : UA) (w : World) (hU : UnR T w u a) : Ret Tryz.prog 32 #[.agg (ucells u a).toArray] w (TellR (checkE u) (defL u) w) := by
  refine entr (vs := [.agg (ucells u a).toArray]) [0, 1, 2, 3, 4, 5, 6, 7, 8, 9, 10, 14, 20, 49, 76, 100, 109] tabok Tryz.func32 (by kernel_rfl) ?_
  refine bx (cs := ucells u a) fun b1 w1 h1 => ?_
  refine lda h1.box.at ?_
  refine cl (r_Check u a w1 (hU.bl h1.bl)) ?_
  rintro _ w2 ⟨rfl, B12⟩
  have B02 := h1.bl.trans B12
  have z1 := h1.size
  have z2 := B12.size
  have y1 := h1.blk
  refine br (t := decide (¬ checkE u = 0)) (fun h => ?_) (fun h => ?_)
  · exact rt2 (tell_err (of_decide_eq_true h) B02)
  have h0 : checkE u = 0 := Classical.not_not.1 (of_decide_eq_false h)
  have hC := (ckU_iff u).1 h0
  have hL := lim_of hC.lim
  have hP := plc_of hC.pl
  have n1 := hL.cls
  have n2 := hL.sta
  have n3 := hL.mth
  have hz1 : (⟨#[46]⟩ : ByteArray).size = 1 := rfl
  have hnz := hU.nm
  have U1 : UnR (· < w1.heap.size) w1 u a := (hU.bl h1.bl).lt
  have np : ∀ {i : Int}, inP u i → (nm u i).size ≤ 1048576 := fun h => by obtain ⟨_, _, _, _, _, hz, _⟩ := pool_at hU h; exact hz
  refine lpk u.classes.length 6 [5] [(1, .pointer (some ⟨b1, 0, none⟩))] (fun k vals w' => ∃ a5 c5, vals = [.slice a5 ((u.classes.take k).flatMap (defCl u)).length c5] ∧ OwP 1 encStr w' w1.heap.size 9 a5 c5 ((u.classes.take k).flatMap (defCl u)) ∧ Bl w1 w') ⟨none, 0, rfl, Ow.nil .., B12⟩ ?_
  rintro k vals w3 hk ⟨a5, c5, rfl, hO, B13⟩ ih
  have z3 := B13.size
  have dl := cls_len hL k hk
  have x3 := Bl.box B13 h1.box
  refine ld (x3.cell rfl) ?_
  by_cases hlt : k < u.classes.length
  · refine brT ?_
    obtain ⟨c, b, o, cs, hc, e2, hSb, hAt, af, cf, rfl, hF⟩ := at_some U1.cls hlt
    have hcm := List.mem_of_getElem? hc
    have nf := hL.flds c hcm
    obtain ⟨b9, o9, e9, hS9, hc9, hz9, hi9, hp9⟩ := pool_at U1 (hP.cn c hcm)
    refine ds fun w4 h4 => ?_
    have B14 := B13.trans h4.bl
    have x4 := h4.box x3
    refine ld (x4.cell rfl) ?_
    refine cat ?_
    refine ld (x4.cell rfl) ?_
    refine ld (x4.cell rfl) ?_
    rw [e2]
    refine ix ?_
    refine ld ((hAt.bl B14) 0 _ rfl) ?_
    rw [e9]
    refine ix (hij := hi9) ?_
    refine ld (B14.kp T _ _ _ trivial hc9) ?_
    refine cat ?_ (hab := by rw [ByteArray.size_append, hz1]; omega)
    refine bs fun b5 w5 h5 => ?_
    have B15 := B14.trans h5.bl
    have B35 := h4.bl.trans h5.bl
    have hO5 := hO.bl B35
    refine apl (enc := encStr) (l1 := [dots u.name (nm u c.name)]) hO5 (.inr ⟨b5, 0, rfl, h5.box.at⟩) B15.size (fun a6 c6 w6 hO6 hA6 hf6 => ?_) (hb := by rw [List.length_singleton]; omega) (hn := by rw [List.length_singleton]; omega)
    have B16 : Bl w1 w6 := Eng.Ow.below hO5 hA6 B15 B15.size
    refine lpk c.fields.length 8 [5] [(1, .pointer (some ⟨b1, 0, none⟩)), (6, I k), (7, .string (dots u.name (nm u c.name)))]
      (fun i vals w' => ∃ a5 c5, vals = [.slice a5 ((u.classes.take k).flatMap (defCl u) ++ (dots u.name (nm u c.name) :: (c.fields.take i).map fun f => dots (dots u.name (nm u c.name)) (nm u f.name))).length c5] ∧ OwP 1 encStr w' w1.heap.size 9 a5 c5 ((u.classes.take k).flatMap (defCl u) ++ (dots u.name (nm u c.name) :: (c.fields.take i).map fun f => dots (dots u.name (nm u c.name)) (nm u f.name))) ∧ Bl w1 w') ⟨a6, c6, rfl, hO6, B16⟩ ?_
    clear hO6 hA6 hf6 B16 x3
    rintro i vals w6 hi ⟨a6, c6, rfl, hO6, B16⟩ ih2
    have x6 := Bl.box B16 h1.box
    refine ld (x6.cell rfl) ?_
    rw [e2]
    refine ix ?_
    refine ld ((hAt.bl B16) 2 _ rfl) ?_
    by_cases hlt2 : i < c.fields.length
    · refine brT ?_
      obtain ⟨f, bf, off, cs, hf, ef, hSf, hAtf, rfl⟩ := at_some hF hlt2
      have hfm := List.mem_of_getElem? hf
      have hnc := np (hP.cn c hcm)
      have hds := dots_size u.name (nm u c.name)
      obtain ⟨b9, o9, e9, hS9, hc9, hz9, hi9, hp9⟩ := pool_at U1 (hP.fn c hcm f hfm)
      have dl2 : ((u.classes.take k).flatMap (defCl u) ++ (dots u.name (nm u c.name) :: (c.fields.take i).map fun f => dots (dots u.name (nm u c.name)) (nm u f.name))).length ≤ 100 := by
        rw [List.length_append, List.length_cons, List.length_map, List.length_take]; omega
      refine dh (fun i => i < w1.heap.size) (List.range 21) fun w7 h7 => ?_
      have B17 := B16.trans h7.bl
      have x7 := Bl.box B17 h1.box
      have z7 := B17.size
      refine cat ?_ (hab := by rw [hds, hz1]; omega)
      refine ld (x7.cell rfl) ?_
      refine ld (x7.cell rfl) ?_
      rw [e2]
      refine ix ?_
      refine ld ((hAt.bl B17) 2 _ rfl) ?_
      rw [ef]
      refine ix ?_
      refine ld ((hAtf.bl B17) 0 _ rfl) ?_
      rw [e9]
      refine ix (hij := hi9) ?_
      refine ld (B17.kp T _ _ _ trivial hc9) ?_
      refine cat ?_ (hab := by rw [ByteArray.size_append, hz1]; rw [hds]; omega)
      refine bs fun b8 w8 h8 => ?_
      have B78 := h7.bl.trans h8.bl
      have B18 := B16.trans B78
      have z8 := B18.size
      have hO8 := hO6.bl B78
      refine apl (enc := encStr) (l1 := [dots (dots u.name (nm u c.name)) (nm u f.name)]) hO8 (.inr ⟨b8, 0, rfl, h8.box.at⟩) z8 (fun a11 c11 w11 hO11 hA11 hf11 => ?_) (hb := by rw [List.length_singleton]; omega) (hn := by rw [List.length_singleton]; omega) (hm := apS (S := fun i => i < w1.heap.size) fun g hg => by have := (hO6.lt hg).1; omega)
      have B111 : Bl w1 w11 := Eng.Ow.below hO8 hA11 B18 z8
      have e3 : (u.classes.take k).flatMap (defCl u) ++ (dots u.name (nm u c.name) :: (c.fields.take (i + 1)).map fun f => dots (dots u.name (nm u c.name)) (nm u f.name)) = (u.classes.take k).flatMap (defCl u) ++ (dots u.name (nm u c.name) :: (c.fields.take i).map fun f => dots (dots u.name (nm u c.name)) (nm u f.name)) ++ [dots (dots u.name (nm u c.name)) (nm u f.name)] := by
        rw [take_succ_some hf, List.map_append]; simp
      exact ih2 hlt2 ⟨a11, c11, by rw [e3], by rw [e3]; exact hO11, B111⟩
    · refine brF ?_
      obtain rfl : i = c.fields.length := by omega
      rw [List.take_length] at hO6 ⊢
      have e3 : (u.classes.take (k + 1)).flatMap (defCl u) = (u.classes.take k).flatMap (defCl u) ++ (dots u.name (nm u c.name) :: c.fields.map fun f => dots (dots u.name (nm u c.name)) (nm u f.name)) := flatMap_snoc hc
      exact ih hlt ⟨a6, c6, by rw [e3], by rw [e3]; exact hO6, B16⟩
  refine brF ?_
  obtain rfl : k = u.classes.length := by omega
  clear ih
  rw [List.take_length] at hO dl ⊢
  refine lpk (vals := [.slice a5 (u.classes.flatMap (defCl u)).length c5]) u.statics.length 9 [5] [(1, .pointer (some ⟨b1, 0, none⟩))] (fun k vals w' => ∃ a5 c5, vals = [.slice a5 (u.classes.flatMap (defCl u) ++ (u.statics.take k).map fun s => dots u.name (nm u s.name)).length c5] ∧ OwP 1 encStr w' w1.heap.size 9 a5 c5 (u.classes.flatMap (defCl u) ++ (u.statics.take k).map fun s => dots u.name (nm u s.name)) ∧ Bl w1 w') ⟨a5, c5, by simp, by simpa using hO, B13⟩ ?_
  clear hO x3 z3 B13 hk hlt
  rintro k vals w3 hk ⟨a5, c5, rfl, hO, B13⟩ ih
  have z3 := B13.size
  have x3 := Bl.box B13 h1.box
  have dl3 : (u.classes.flatMap (defCl u) ++ (u.statics.take k).map fun s => dots u.name (nm u s.name)).length ≤ 90 := by rw [List.length_append, List.length_map, List.length_take]; omega
  refine ld (x3.cell rfl) ?_
  by_cases hlt : k < u.statics.length
  · refine brT ?_
    obtain ⟨c, b, o, cs, hc, e2, hSb, hAt, rfl⟩ := at_some U1.sta hlt
    have hcm := List.mem_of_getElem? hc
    obtain ⟨b9, o9, e9, hS9, hc9, hz9, hi9, hp9⟩ := pool_at U1 (hP.sn c hcm)
    refine dh (fun i => i < w1.heap.size) (List.range 18) fun w7 h7 => ?_
    have B17 := B13.trans h7.bl
    have x7 := Bl.box B17 h1.box
    have z7 := B17.size
    refine ld (x7.cell rfl) ?_
    refine cat ?_
    refine ld (x7.cell rfl) ?_
    refine ld (x7.cell rfl) ?_
    rw [e2]
    refine ix ?_
    refine ld ((hAt.bl B17) 0 _ rfl) ?_
    rw [e9]
    refine ix (hij := hi9) ?_
    refine ld (B17.kp T _ _ _ trivial hc9) ?_
    refine cat ?_ (hab := by rw [ByteArray.size_append, hz1]; omega)
    refine bs fun b8 w8 h8 => ?_
    have B78 := h7.bl.trans h8.bl
    have B18 := B13.trans B78
    have z8 := B18.size
    have hO8 := hO.bl B78
    refine apl (enc := encStr) (l1 := [dots u.name (nm u c.name)]) hO8 (.inr ⟨b8, 0, rfl, h8.box.at⟩) z8 (fun a11 c11 w11 hO11 hA11 hf11 => ?_) (hb := by rw [List.length_singleton]; omega) (hn := by rw [List.length_singleton]; omega) (hm := apS (S := fun i => i < w1.heap.size) fun g hg => by have := (hO.lt hg).1; omega)
    have B111 : Bl w1 w11 := Eng.Ow.below hO8 hA11 B18 z8
    have e3 : u.classes.flatMap (defCl u) ++ ((u.statics.take (k + 1)).map fun s => dots u.name (nm u s.name)) = u.classes.flatMap (defCl u) ++ ((u.statics.take k).map fun s => dots u.name (nm u s.name)) ++ [dots u.name (nm u c.name)] := by
      rw [take_succ_some hc, List.map_append]; simp
    exact ih hlt ⟨a11, c11, by rw [e3], by rw [e3]; exact hO11, B111⟩
  refine brF ?_
  obtain rfl : k = u.statics.length := by omega
  clear ih
  rw [List.take_length] at hO dl3 ⊢
  generalize hD : (u.classes.flatMap (defCl u) ++ u.statics.map fun s => dots u.name (nm u s.name)) = D at *
  refine lpk (vals := [.slice a5 D.length c5]) u.methods.length 10 [5] [(1, .pointer (some ⟨b1, 0, none⟩))] (fun k vals w' => ∃ a5 c5, vals = [.slice a5 (D ++ (u.methods.take k).flatMap (defM u)).length c5] ∧ OwP 1 encStr w' w1.heap.size 9 a5 c5 (D ++ (u.methods.take k).flatMap (defM u)) ∧ Bl w1 w') ⟨a5, c5, by simp, by simpa using hO, B13⟩ ?_
  clear hO x3 z3 B13 hk hlt
  rintro k vals w3 hk ⟨a5, c5, rfl, hO, B13⟩ ih
  have z3 := B13.size
  have x3 := Bl.box B13 h1.box
  have ml := mth_len hL k hk
  have dl4 : (D ++ (u.methods.take k).flatMap (defM u)).length ≤ 110 := by rw [List.length_append]; omega
  refine ld (x3.cell rfl) ?_
  by_cases hlt : k < u.methods.length
  · refine brT ?_
    obtain ⟨c, b, o, cs, hc, e2, hSb, hAt, q1, s1, q2, s2, q3, s3, rfl, f1, f2, f3⟩ := at_some U1.mth hlt
    have hcm := List.mem_of_getElem? hc
    refine ld (x3.cell rfl) ?_
    rw [e2]
    refine ix ?_
    refine ld ((hAt.bl B13) 1 _ rfl) ?_
    refine br (t := decide (c.cls = -1)) (fun h => ?_) (fun h => ?_)
    · have hm1 := of_decide_eq_true h
      obtain ⟨b9, o9, e9, hS9, hc9, hz9, hi9, hp9⟩ := pool_at U1 (hP.mn c hcm)
      have e4 : defM u c = [dots u.name (nm u c.name)] := by unfold defM; rw [if_pos hm1]
      refine dh (fun i => i < w1.heap.size) (List.range 18) fun w7 h7 => ?_
      have B17 := B13.trans h7.bl
      have x7 := Bl.box B17 h1.box
      have z7 := B17.size
      refine ld (x7.cell rfl) ?_
      refine cat ?_
      refine ld (x7.cell rfl) ?_
      refine ld (x7.cell rfl) ?_
      rw [e2]
      refine ix ?_
      refine ld ((hAt.bl B17) 0 _ rfl) ?_
      rw [e9]
      refine ix (hij := hi9) ?_
      refine ld (B17.kp T _ _ _ trivial hc9) ?_
      refine cat ?_ (hab := by rw [ByteArray.size_append, hz1]; omega)
      refine bs fun b8 w8 h8 => ?_
      have B78 := h7.bl.trans h8.bl
      have B18 := B13.trans B78
      have z8 := B18.size
      have hO8 := hO.bl B78
      refine apl (enc := encStr) (l1 := [dots u.name (nm u c.name)]) hO8 (.inr ⟨b8, 0, rfl, h8.box.at⟩) z8 (fun a11 c11 w11 hO11 hA11 hf11 => ?_) (hb := by rw [List.length_singleton]; omega) (hn := by rw [List.length_singleton]; omega) (hm := apS (S := fun i => i < w1.heap.size) fun g hg => by have := (hO.lt hg).1; omega)
      have B111 : Bl w1 w11 := Eng.Ow.below hO8 hA11 B18 z8
      have e3 : D ++ (u.methods.take (k + 1)).flatMap (defM u) = D ++ (u.methods.take k).flatMap (defM u) ++ [dots u.name (nm u c.name)] := by
        rw [flatMap_snoc hc, e4, List.append_assoc]
      exact ih hlt ⟨a11, c11, by rw [e3], by rw [e3]; exact hO11, B111⟩
    · have hm1 := of_decide_eq_false h
      have e4 : defM u c = [] := by unfold defM; rw [if_neg hm1]
      have e3 : D ++ (u.methods.take (k + 1)).flatMap (defM u) = D ++ (u.methods.take k).flatMap (defM u) := by
        rw [flatMap_snoc hc, e4, List.append_nil]
      exact ih hlt ⟨a5, c5, by rw [e3], by rw [e3]; exact hO, B13⟩
  refine brF ?_
  obtain rfl : k = u.methods.length := by omega
  clear ih
  rw [List.take_length] at hO dl4 ⊢
  have eL : D ++ u.methods.flatMap (defM u) = defL u := by rw [defL_eq, hD]
  rw [eL] at hO dl4 ⊢
  refine cl (r_Sorted (defL u) a5 c5 T w3 (owp_sl (enc := encStr) hO (by omega) fun _ _ => trivial)) ?_
  rintro _ w9 ⟨out, a9, c9, rfl, hA, hlen, hO9, B39⟩
  have := tell_ok (w := w) (w' := w9) (e := checkE u) h0 hA hlen (hO9.base (base' := w.heap.size) (by omega)) ((h1.bl.trans B13).trans B39)
  rw [h0] at this ⊢
  exact rt2 this
end Go.Proofs.YtopjmiklpnejmaaGreatDoor

/- Walks: what a unit uses and needs, in the program. -/
namespace Go.Proofs.YtopjmiklpnejmaaGreatDoor
open Eng Go.RowKit
theorem useP_snoc (pre : List Rf) (r : Rf) (u : Unt) : useP (pre ++ [r]) u = useP pre u ++ if (decide (¬ r.parts = 1) && decide (0 ≤ r.at')) = true then [nm u r.at'] else [] := by
  unfold useP
  rw [List.filter_append, List.map_append]
  congr 1
  by_cases h : (decide (¬ r.parts = 1) && decide (0 ≤ r.at')) = true
  · rw [if_pos h, List.filter_eq_self.2 (fun x hx => by rw [List.mem_singleton.1 hx]; exact h)]; rfl
  · rw [if_neg h, List.filter_eq_nil_iff.2 (fun x hx => by rw [List.mem_singleton.1 hx]; exact h)]; rfl
theorem useP_len (pre : List Rf) (u : Unt) : (useP pre u).length ≤ pre.length := by
  unfold useP; rw [List.length_map]; exact List.length_filter_le _ _
/-- what the visitor of Uses keeps: all but one cell stays; this has the texts -/
structure UseJ (u : Unt) (bo : Nat) (w00 w0 : World) (pre : List Rf) (w : World) : Prop where
  cp : CpS w00 w0 bo w
  out : ∃ a c, Box w bo 25 [.slice a (useP pre u).length c] ∧ OwP 1 encStr w w0.heap.size 9 a c (useP pre u)
abbrev useS (bo : Nat) (w0 : World) : Nat → Prop := fun i => i < w0.heap.size ∧ i ≠ bo
theorem UseJ.bl {u : Unt} {bo : Nat} {w00 w0 : World} {pre : List Rf} {w w' : World} (h : UseJ u bo w00 w0 pre w) (k : Bl w w') : UseJ u bo w00 w0 pre w' := by
  obtain ⟨hc, a, c, hb, hO⟩ := h
  exact ⟨hc.bl k, a, c, Bl.box k hb, hO.bl k⟩
theorem v_use (u : Unt) (a : UA) (b1 bo : Nat) (hne : b1 ≠ bo) (w00 w0 : World) (hb1 : b1 < w0.heap.size) (hbo : bo < w0.heap.size) (hU : UnR (useS bo w0) w0 u a) (hx : At w0 b1 0 (ucells u a)) (N : Nat) (hN : N ≤ 4194304) :
    EachC (useS bo w0) w0 86 [.pointer (some ⟨bo, 0, none⟩), .pointer (some ⟨b1, 0, none⟩)] (UseJ u bo w00 w0) (fun r => 0 ≤ r.at' → inP u r.at') N := by
  refine ⟨fun pre w h => h.cp.kp, fun pre w w' k h => h.bl k, fun pre r b o w hlt hP hSb hJ hc => ?_⟩
  have hb1S : useS bo w0 b1 := ⟨hb1, hne⟩
  show Ret Tryz.prog 86 #[.agg #[.pointer (some ⟨b, o, none⟩), I r.parts, .bool r.opt], .pointer (some ⟨bo, 0, none⟩), .pointer (some ⟨b1, 0, none⟩)] w _
  refine entr (vs := [.agg #[.pointer (some ⟨b, o, none⟩), I r.parts, .bool r.opt], .pointer (some ⟨bo, 0, none⟩), .pointer (some ⟨b1, 0, none⟩)]) [0, 1, 2, 3, 13] tabok Tryz.func86 (by kernel_rfl) ?_
  refine bx (cs := [.pointer (some ⟨b, o, none⟩), I r.parts, .bool r.opt]) fun b4 w1 h1 => ?_
  have hJ1 := hJ.bl h1.bl
  refine ld (h1.box.cell rfl) ?_
  refine ldg (fun _ => h1.box.cell rfl) ?_
  refine ldg (fun _ => h1.bl.kp T _ _ _ trivial hc) ?_
  have e1 := useP_snoc pre r u
  refine br (t := decide (¬ r.parts = 1) && decide (0 ≤ r.at')) (fun h => ?_) (fun h => ?_)
  · rw [if_pos h] at e1
    simp only [Bool.and_eq_true, decide_eq_true_eq] at h
    have hin := hP h.2
    obtain ⟨b9, o9, e9, hS9, hc9, hz9, hi9, hp9⟩ := pool_at hU hin
    have hl := useP_len pre u
    have hz1 := hJ.cp.sz
    have hk1 := h1.blk
    refine dht 1 (fun i => i < w0.heap.size ∨ i = b4) (List.range 11) fun w2 h2 => ?_
    have hc2 := (h1.bl.trans h2.bl).kp T _ _ _ trivial hc
    obtain ⟨cp0, a2, c2, y0, hO0⟩ := hJ
    have hlt2 : ∀ g, a2 = some ⟨g, 0, none⟩ → g < w.heap.size := fun g hg => (hO0.lt hg).2
    have B02 := h1.bl.trans h2.bl
    have cp2 := cp0.bl B02
    have y2 := Bl.box B02 y0
    have hO2 := hO0.bl B02
    refine ld (y2.cell rfl) ?_
    refine ld ((hx.kp cp2.kp hb1S) 1 _ rfl) ?_
    refine ld ((h2.box h1.box).cell rfl) ?_ (hm := by exact Or.inr rfl)
    refine ld hc2 ?_ (hm := by exact Or.inl hSb.1)
    rw [e9]
    refine ix (hij := hi9) ?_
    refine ld (cp2.kp _ _ _ hS9 hc9) ?_ (hm := by exact Or.inl hS9.1)
    refine bs fun b3 w3 h3 => ?_
    have z3 := cp2.sz
    have z4 := h3.size
    have hO3 := hO2.bl h3.bl
    have hlo : ∀ g, a2 = some ⟨g, 0, none⟩ → w0.heap.size ≤ g := fun g hg => (hO2.lt hg).1
    refine apl (enc := encStr) (l1 := [nm u r.at']) hO3 (.inr ⟨b3, 0, rfl, h3.box.at⟩) (by omega) (fun a4 c4 w4 hO4 hA4 hf4 => ?_) (hb := by rw [List.length_singleton]; omega) (hn := by rw [List.length_singleton]; omega) (hm := apS (S := fun i => i < w0.heap.size ∨ i = b4) fun g hg => by have := hlo g hg; have := hlt2 g hg; omega)
    have y4 := hA4.box (Bl.box h3.bl y2) (fun e => by have := hlo _ e; omega)
    refine st y4 fun w5 k5 y5 => ?_
    refine en (vs := []) ⟨((cp2.bl h3.bl).ap hA4 hlo).wr k5 (.inl rfl), a4, c4, ?_, ?_⟩
    · rw [e1]; exact y5
    · rw [e1]; exact hO4.wr k5 fun g hg e => by
        rcases hf4 g hg with q | q
        · have := hlo g q; omega
        · omega
  · rw [if_neg (by rw [h]; simp), List.append_nil] at e1
    refine en (vs := []) ?_
    obtain ⟨cp1, q⟩ := hJ1
    exact ⟨cp1, by rw [e1]; exact q⟩
theorem ways_len {u : Unt} (hL : Lim u) (hc : ∀ m ∈ u.methods, m.code.length ≤ 120) : (waysU u).length ≤ 4000 := by
  have t : ∀ t : Ty, (tyU t).length ≤ 1 := fun t => by unfold tyU; split <;> simp
  have f : ∀ f : Fld, (fldU f).length ≤ 2 := fun x => by have := t x.ty; simp only [fldU, List.length_cons]; omega
  have c : ∀ c ∈ u.classes, (clsU c).length ≤ 16 := fun x hx => by
    have := flatMap_le (f := fldU) (B := 2) (l := x.fields) fun y _ => f y
    have := hL.flds x hx
    simp only [clsU, List.length_cons]; omega
  have o : ∀ i : Ins, (opU i).length ≤ 1 := fun i => by unfold opU; repeat (first | split | simp)
  have m : ∀ m ∈ u.methods, (mthU m).length ≤ 40 := fun x hx => by
    have h1 := flatMap_le (f := tyU) (B := 1) (l := x.params) fun y _ => t y
    have h2 := flatMap_le (f := tyU) (B := 1) (l := x.locals) fun y _ => t y
    have h3 := t x.result
    have h4 := hL.locs x hx
    simp only [mthU, List.length_cons, List.length_append, List.flatMap_cons, List.flatMap_nil, List.length_nil]; omega
  have h1 := flatMap_le (f := clsU) (B := 16) c
  have h2 := flatMap_le (f := fldU) (B := 2) (l := u.statics) fun y _ => f y
  have h3 := flatMap_le (f := mthU) (B := 40) m
  have h4 := flatMap_le (f := fun m : Mth => m.code.flatMap opU) (B := 120) (l := u.methods) fun x hx => by
    have := flatMap_le (f := opU) (B := 1) (l := x.code) fun y _ => o y
    have := hc x hx
    omega
  have := hL.cls
  have := hL.sta
  have := hL.mth
  unfold waysU headsU
  simp only [List.length_append]
  omega
theorem ways_in {u : Unt} (hC : CkU u) : ∀ r ∈ waysU u, 0 ≤ r.at' → inP u r.at' := fun r hr h0 => by
  have e := ways_any hC (p := fun q => decide (0 ≤ q.at') && decide ((u.pool.length : Int) ≤ q.at')) (fun q h => by simp [h]) (fun q s h1 h2 => by simp only [h1])
  rcases Int.lt_or_le r.at' u.pool.length with hi | hi
  · exact ⟨h0, hi⟩
  · have h1 : (waysU u).any (fun q => decide (0 ≤ q.at') && decide ((u.pool.length : Int) ≤ q.at')) = true := List.any_eq_true.2 ⟨r, hr, by simp [h0, hi]⟩
    rw [e, List.any_eq_true] at h1
    obtain ⟨q, hq, h2⟩ := h1
    simp only [Bool.and_eq_true, decide_eq_true_eq] at h2
    have := (all_in hC hq h2.1).1
    omega
theorem code_len {u : Unt} (hC : CkU u) : ∀ m ∈ u.methods, m.code.length ≤ 120 := fun m hm => by
  have := mErr_zero hC.me m hm
  unfold codeE at this
  split at this
  · cases this
  · omega
set_option maxHeartbeats 1000000 in
theorem u_Uses (u : Unt) (a : UA) (w : World) (hU : UnR T w u a) (hG : Gl w) : Ret Tryz.prog 33 #[.agg (ucells u a).toArray] w (TellR (checkE u) (useL u) w) := by
  refine entr (vs := [.agg (ucells u a).toArray]) [0, 1, 2, 3, 4, 5, 9] tabok Tryz.func33 (by kernel_rfl) ?_
  refine bx (cs := ucells u a) fun b1 w1 h1 => ?_
  refine lda h1.box.at ?_
  refine cl (u_Check u a w1 (hU.bl h1.bl) (hG.bl h1.bl)) ?_
  rintro _ w2 ⟨rfl, B12⟩
  have B02 := h1.bl.trans B12
  have z1 := h1.size
  have z2 := B12.size
  have y1 := h1.blk
  refine br (t := decide (¬ checkE u = 0)) (fun h => ?_) (fun h => ?_)
  · exact rt2 (tell_err (of_decide_eq_true h) B02)
  have h0 : checkE u = 0 := Classical.not_not.1 (of_decide_eq_false h)
  have hC := (ckU_iff u).1 h0
  refine al fun bo w3 h3 => ?_
  have z3 := h3.size
  have yo := h3.blk
  have B03 := B02.trans h3.bl
  have x3 := Bl.box (B12.trans h3.bl) h1.box
  have U3 : UnR (useS bo w3) w3 u a := ((hU.lt).bl B03).sub fun i hi => ⟨by omega, by omega⟩
  have hwl := ways_len (lim_of hC.lim) (code_len hC)
  have hE := v_use u a b1 bo (by omega) w w3 x3.lt (by omega) U3 x3.at (waysU u).length (by omega)
  have hJ3 : UseJ u bo w w3 [] w3 := ⟨CpS.refl B03 (by omega), none, 0, h3.box, Ow.nil ..⟩
  refine cl (h_uses hE u (ways_in hC) a U3 b1 0 ⟨x3.lt, by omega⟩ x3.at [] w3 hJ3 (by rw [List.length_nil, Nat.zero_add]; exact Nat.le_refl _)) ?_
  rintro v4 w4 hJ4
  rw [List.nil_append] at hJ4
  obtain ⟨cp4, a4, c4, y4, hO4⟩ := hJ4
  have hl := useP_len (waysU u) u
  have hlo : ∀ g, a4 = some ⟨g, 0, none⟩ → w3.heap.size ≤ g := fun g hg => (hO4.lt hg).1
  refine ld (y4.cell rfl) ?_
  refine cl (c_SortS (useP (waysU u) u) w3.heap.size a4 c4 w4 hO4 (by omega)) ?_
  rintro v5 w5 ⟨hO5, hA5⟩
  have y5 := hA5.box y4 (fun e => by have := hlo _ e; omega)
  refine ld (y5.cell rfl) ?_
  have e5 : (srt (useP (waysU u) u)).length = (useP (waysU u) u).length := by unfold srt; rw [List.length_mergeSort, List.length_map]
  rw [← e5] at hO5
  have hc := c_CompactS (srt (useP (waysU u) u)) w3.heap.size a4 c4 w5 hO5 (by omega) (sorted_le _)
  rw [e5] at hc
  refine cl hc ?_
  rintro _ w6 ⟨rfl, hO6, hA6⟩
  have hle := (compact_len (zs := srt (useP (waysU u) u)) (sorted_le _)).2
  have hcp6 := (cp4.ap hA5 hlo).ap hA6 hlo
  have ha := srt_compact (useP (waysU u) u)
  have e6 : ((Lib.compact (srt (useP (waysU u) u))).map ofL).length = (Lib.compact (srt (useP (waysU u) u))).length := List.length_map ..
  have := tell_ok (w := w) (w' := w6) (e := checkE u) (l := useL u) h0 (out := (Lib.compact (srt (useP (waysU u) u))).map ofL) (a' := a4) (c' := c4) ⟨ha.lt, fun x => (ha.mem x).trans (use_mem hC x)⟩ (by omega) (by
    unfold OwP; rw [e6, flat_ofL]; exact hO6.base (by omega)) hcp6.below
  rw [e6] at this
  rw [h0] at this ⊢
  exact rt2 this
theorem useL_mem {u : Unt} {x : ByteArray} (h : x ∈ useL u) : x ∈ u.pool := by
  simp only [useL, pickM, List.mem_map, List.mem_filter, List.mem_range] at h
  obtain ⟨i, ⟨h1, _⟩, rfl⟩ := h
  exact List.mem_of_getElem? (getD_at (l := u.pool) (i := i) h1)
theorem needP_snoc {u : Unt} {l : List ByteArray} {k : Nat} {x : ByteArray} (h : l[k]? = some x) : needP u (l.take (k + 1)) = needP u (l.take k) ++ if fstP x = u.name then [] else [fstP x] := by
  unfold needP
  rw [take_succ_some h, List.map_append, List.filter_append]
  congr 1
  by_cases e : fstP x = u.name <;> simp [e]
theorem needP_len (u : Unt) (l : List ByteArray) : (needP u l).length ≤ l.length := by
  unfold needP; exact Nat.le_trans (List.length_filter_le _ _) (by simp)
set_option maxHeartbeats 1000000 in
theorem u_Needs (u : Unt) (a : UA) (w : World) (hU : UnR T w u a) (hG : Gl w) : Ret Tryz.prog 35 #[.agg (ucells u a).toArray] w (TellR (checkE u) (needP u (useL u)) w) := by
  refine entr (vs := [.agg (ucells u a).toArray]) [0, 1, 2, 3, 4, 5, 6, 8, 9, 16, 18, 19, 20, 21, 29] tabok Tryz.func35 (by kernel_rfl) ?_
  refine bx (cs := ucells u a) fun b1 w1 h1 => ?_
  refine lda h1.box.at ?_
  refine cl (u_Uses u a w1 (hU.bl h1.bl) (hG.bl h1.bl)) ?_
  intro v w2 hT
  have z1 := h1.size
  have y1 := h1.blk
  by_cases h0 : checkE u = 0
  · unfold TellR at hT
    rw [if_pos h0] at hT
    obtain ⟨out, ao, co, rfl, hA, hlen, hO, B12⟩ := hT
    refine brF ?_ (hp := by simp)
    have hx2 := Bl.box B12 h1.box
    have hS : Sl eStr T w2 ao out := owp_sl (enc := encStr) hO hlen fun _ _ => trivial
    have hsz : ∀ x ∈ out, x.size ≤ 1048576 := fun x hx => hU.ps x (useL_mem ((hA.mem x).1 hx))
    refine lpk out.length 20 [6] [(1, .pointer (some ⟨b1, 0, none⟩)), (18, .slice ao out.length co), (19, I out.length)] (fun k vals w' => ∃ a6 c6, vals = [.slice a6 (needP u (out.take k)).length c6] ∧ OwP 1 encStr w' w2.heap.size 9 a6 c6 (needP u (out.take k)) ∧ Bl w2 w') ⟨none, 0, rfl, Ow.nil .., Bl.refl _⟩ ?_
    rintro k vals w3 hk ⟨a6, c6, rfl, hO3, B23⟩ ih
    have hle := needP_len u (out.take k)
    rw [List.length_take] at hle
    have z23 := B23.size
    by_cases hlt : k < out.length
    · refine brT ?_
      obtain ⟨x, b, o, cs, hx, e2, _, hAt, rfl⟩ := at_some (hS.bl B23) hlt
      have e1 := needP_snoc (u := u) hx
      rw [e2]
      refine ix ?_
      refine ld (hAt 0 _ rfl) ?_
      refine cl (u_first x w3 (hsz x (List.mem_of_getElem? hx)) (hG.bl ((h1.bl.trans B12).trans B23))) ?_
      rintro _ w4 ⟨rfl, B34⟩
      refine ld ((Bl.box (B23.trans B34) hx2).cell rfl) ?_
      refine br (t := decide (¬ fstP x = u.name)) (fun h => ?_) (fun h => ?_)
      · rw [if_neg (of_decide_eq_true h)] at e1
        refine bs fun b5 w5 h5 => ?_
        have B35 := B34.trans h5.bl
        have hO5 := hO3.bl B35
        refine apl (enc := encStr) (l1 := [fstP x]) hO5 (.inr ⟨b5, 0, rfl, h5.box.at⟩) (by have := B35.size; omega) (fun a7 c7 w7 hO7 hA7 hf7 => ?_) (hb := by rw [List.length_singleton]; omega) (hn := by rw [List.length_singleton]; omega)
        exact ih hlt ⟨a7, c7, by rw [e1], by rw [e1]; exact hO7, Eng.Ow.below hO5 hA7 (B23.trans B35) (by have := B35.size; omega)⟩ (hsub := by simp only [e2]; repeat (first | exact True.intro | (refine ⟨rfl, ?_⟩)))
      · rw [if_pos (Classical.not_not.1 (of_decide_eq_false h)), List.append_nil] at e1
        exact ih hlt ⟨a6, c6, by rw [e1], by rw [e1]; exact hO3.bl B34, B23.trans B34⟩ (hsub := by simp only [e2]; repeat (first | exact True.intro | (refine ⟨rfl, ?_⟩)))
    refine brF ?_
    obtain rfl : k = out.length := by omega
    clear ih
    rw [List.take_length] at hO3 hle ⊢
    refine cl (c_SortS (needP u out) w2.heap.size a6 c6 w3 hO3 (by omega)) ?_
    rintro v5 w5 ⟨hO5, hA5⟩
    have e5 : (srt (needP u out)).length = (needP u out).length := by unfold srt; rw [List.length_mergeSort, List.length_map]
    rw [← e5] at hO5
    have hc := c_CompactS (srt (needP u out)) w2.heap.size a6 c6 w5 hO5 (by omega) (sorted_le _)
    rw [e5] at hc
    refine cl hc ?_
    rintro _ w6 ⟨rfl, hO6, hA6⟩
    have hle6 := (compact_len (zs := srt (needP u out)) (sorted_le _)).2
    have ha := srt_compact (needP u out)
    have e6 : ((Lib.compact (srt (needP u out))).map ofL).length = (Lib.compact (srt (needP u out))).length := List.length_map ..
    have hlo : ∀ g, a6 = some ⟨g, 0, none⟩ → w2.heap.size ≤ g := fun g hg => (hO3.lt hg).1
    have B35 : Below w2.heap.size w3 w5 := hA5.below z23 hlo
    have B56 : Below w2.heap.size w5 w6 := hA6.below (Nat.le_trans z23 hA5.size) hlo
    have B26 : Bl w2 w6 := Below.trans (Below.trans B23 B35) B56
    have := tell_ok (w := w) (w' := w6) (e := checkE u) (l := needP u (useL u)) h0 (out := (Lib.compact (srt (needP u out))).map ofL) (a' := a6) (c' := c6) ⟨ha.lt, fun x => (ha.mem x).trans (need_mem hA.mem x)⟩ (by omega) (by
      unfold OwP; rw [e6, flat_ofL]; exact hO6.base (by have := B12.size; omega)) ((h1.bl.trans B12).trans B26)
    rw [e6] at this
    rw [h0] at this ⊢
    exact rt2 this
  · unfold TellR at hT
    rw [if_neg h0] at hT
    obtain ⟨rfl, B12⟩ := hT
    refine brT ?_ (hp := h0)
    exact rt2 (tell_err h0 (h1.bl.trans B12))
end Go.Proofs.YtopjmiklpnejmaaGreatDoor

/- Walks: what a unit uses and needs, in the document. -/
namespace Go.Proofs.YtopjmiklpnejmaaGreatDoor
open Eng Go.RowKit
/-- which places of a pool of n texts these name -/
def mkL (n : Nat) (rs : List Rf) : List Bool := (List.range n).map fun i : Nat => rs.any fun r => decide (r.at' = (i : Int))
theorem mkL_len (n : Nat) (rs : List Rf) : (mkL n rs).length = n := by unfold mkL; simp
theorem mkL_neg {n : Nat} {rs : List Rf} {r : Rf} (h : r.at' < 0) : mkL n (rs ++ [r]) = mkL n rs := by
  unfold mkL
  refine List.map_congr_left fun i _ => ?_
  rw [List.any_append]
  have : ¬ r.at' = (i : Int) := by omega
  simp [this]
theorem mkL_set {n : Nat} {rs : List Rf} {r : Rf} (h : 0 ≤ r.at') : (mkL n rs).set r.at'.toNat true = mkL n (rs ++ [r]) := by
  refine List.ext_getElem? fun i => ?_
  rw [List.getElem?_set, mkL_len]
  unfold mkL
  rw [List.getElem?_map, List.getElem?_map]
  rcases Nat.lt_or_ge i n with hi | hi
  · rw [List.getElem?_range hi]
    by_cases e : r.at'.toNat = i
    · have : r.at' = (i : Int) := by omega
      simp [this, hi]
    · have : ¬ r.at' = (i : Int) := by omega
      simp [e, this]
  · rw [List.getElem?_eq_none (by simpa using hi)]
    split
    · split
      · omega
      · rfl
    · rfl
theorem flat_bool {l : List Bool} {i : Nat} {b : Bool} : (l.flatMap encBool).set i (.bool b) = (l.set i b).flatMap encBool := by
  have e : ∀ l : List Bool, l.flatMap encBool = l.map Value.bool := fun l => by
    induction l with
    | nil => rfl
    | cons x l ih => rw [List.flatMap_cons, ih]; rfl
  rw [e, e, List.map_set]
theorem mkL_nil (n : Nat) : mkL n [] = List.replicate n false := by
  unfold mkL
  refine List.ext_getElem? fun i => ?_
  rw [List.getElem?_map, List.getElem?_replicate]
  split
  · rename_i h; rw [List.getElem?_range h]; rfl
  · rename_i h; rw [List.getElem?_eq_none (by simpa using h)]; rfl
theorem mkL_zero (n : Nat) : (mkL n []).flatMap encBool = rep n [.bool false] := by
  induction n with
  | zero => rfl
  | succ n ih =>
    have e : List.replicate (n + 1) false = List.replicate n false ++ [false] := List.replicate_succ' ..
    rw [mkL_nil] at ih ⊢
    rw [e, List.flatMap_append, ih]; rfl
theorem cref_len7 {u : Unt} (hL : Lim u) : (refs u).length ≤ 4000 := by
  have f : ∀ f : Fld, (fref f).length = 2 := fun x => by simp [fref]
  have c : ∀ c ∈ u.classes, (cref c).length ≤ 16 := fun x hx => by
    have := flatMap_le (f := fref) (B := 2) (l := x.fields) fun y _ => Nat.le_of_eq (f y)
    have := hL.flds x hx
    simp only [cref, List.length_cons, List.length_append, List.length_nil]; omega
  have m : ∀ m ∈ u.methods, (mref m).length ≤ 40 := fun x hx => by
    have h4 := hL.locs x hx
    simp only [mref, List.length_cons, List.length_append, List.length_map, List.length_nil]; omega
  have h1 := flatMap_le (f := cref) (B := 16) c
  have h2 := flatMap_le (f := fref) (B := 2) (l := u.statics) fun y _ => Nat.le_of_eq (f y)
  have h3 := flatMap_le (f := mref) (B := 40) m
  have := hL.cls
  have := hL.sta
  have := hL.mth
  unfold refs
  simp only [List.length_append]
  omega
def opR (i : Ins) : List Rf := if 0 < (operand i).2 then [⟨(operand i).1, (operand i).2, false⟩] else []
/-- a mark is set -/
theorem mark_set {w w' : World} {base g n c : Nat} {rs : List Rf} {r : Rf} (hO : OwP 1 encBool w base 4 (some ⟨g, 0, none⟩) c (mkL n rs)) {cur : List Value} (hb : Box w g 4 cur) (hb' : Box w' g 4 (cur.set r.at'.toNat (.bool true))) (h : 0 ≤ r.at') : OwP 1 encBool w' base 4 (some ⟨g, 0, none⟩) c (mkL n (rs ++ [r])) := by
  have := Eng.Ow.set hO hb hb'
  rw [flat_bool, mkL_set h] at this
  unfold OwP
  rw [mkL_len] at this ⊢
  exact this
set_option maxHeartbeats 1000000 in
theorem r_marks (u : Unt) (a : UA) (w : World) (hU : UnR T w u a) (hC : CkU u) : Ret Tryz.prog 88 #[.agg (ucells u a).toArray] w fun v w' => ∃ a' c, v = .slice a' u.pool.length c ∧ Sl eBool T w' a' (mkL u.pool.length (allRefs u)) ∧ Bl w w' := by
  have hL := lim_of hC.lim
  have hp := hL.pool
  have n3 := hU.mth.big
  have n4 := cref_len7 hL
  refine entr (vs := [.agg (ucells u a).toArray]) [0, 1, 2, 3, 4, 5, 6, 7, 8, 9, 19, 27, 39, 50, 67] tabok Tryz.func88 (by kernel_rfl) ?_
  refine bx (cs := ucells u a) fun b1 w1 h1 => ?_
  have z1 := h1.size
  have y1 := h1.blk
  refine ld (h1.box.cell rfl) ?_
  refine mk fun b3 w3 h3 => ?_
  have z3 := h3.size
  have y3 := h3.blk
  have B13 := h3.bl
  have hx3 := Bl.box h3.bl h1.box
  refine lda hx3.at ?_
  refine cl (r_Refs u a w3 (hU.bl (h1.bl.trans B13)) hL) ?_
  rintro _ w4 ⟨a4, c4, rfl, hR, B34⟩
  have z4 := B34.size
  have hO4 : OwP 1 encBool w4 w1.heap.size 4 (some ⟨b3, 0, none⟩) u.pool.length (mkL u.pool.length []) := by
    have := (Ow.made (n := u.pool.length) h3 (by rw [rep_length]) (by omega)).base (base' := w1.heap.size) (by omega)
    unfold OwP
    rw [mkL_len, mkL_zero]
    exact this.bl B34
  refine lpk (refs u).length 5 [] [(1, .pointer (some ⟨b1, 0, none⟩)), (3, .slice (some ⟨b3, 0, none⟩) u.pool.length u.pool.length), (4, .slice a4 (refs u).length c4)] (fun k vals w' => vals = [] ∧ OwP 1 encBool w' w1.heap.size 4 (some ⟨b3, 0, none⟩) u.pool.length (mkL u.pool.length ((refs u).take k)) ∧ CpS w w4 b3 w') ⟨rfl, hO4, CpS.refl ((h1.bl.trans B13).trans B34) (by omega)⟩ ?_
  rintro k vals w5 hk ⟨rfl, hO5, S5⟩ ih
  by_cases hlt : k < (refs u).length
  · refine brT ?_
    obtain ⟨r, b, o, cs, hr, e2, hSb, hAt, rfl⟩ := at_some hR hlt
    have hlb : b < w4.heap.size := cell_lt (hAt 0 _ rfl)
    have hAt5 := hAt.kp S5.kp ⟨hlb, by omega⟩
    have hrm := List.mem_of_getElem? hr
    rw [e2]
    refine ix ?_
    refine ld (hAt5 0 _ rfl) ?_
    refine br (t := decide (0 ≤ r.at')) (fun h => ?_) (fun h => ?_)
    · have h0 := of_decide_eq_true h
      have hin := (all_in hC (List.mem_append_left _ hrm) h0).1
      refine ix ?_
      refine ld (hAt5 0 _ rfl) ?_
      refine ix (hij := int_nat h0) ?_
      obtain ⟨cur, hb, hcl, _, _, hcl2⟩ := Eng.Ow.box hO5
      rw [mkL_len] at hcl2
      refine stx hb (fun w6 k6 hb6 => ?_) (ho := by omega)
      refine ih hlt ⟨rfl, ?_, S5.wr k6 (.inl rfl)⟩ (hsub := by simp only [e2]; repeat (first | exact True.intro | (refine ⟨rfl, ?_⟩)))
      rw [take_succ_some hr]
      exact mark_set hO5 hb (by simpa using hb6) h0
    · have h0 : r.at' < 0 := by have := of_decide_eq_false h; omega
      refine ih hlt ⟨rfl, ?_, S5⟩ (hsub := by simp only [e2]; repeat (first | exact True.intro | (refine ⟨rfl, ?_⟩)))
      rw [take_succ_some hr, mkL_neg h0]; exact hO5
  refine brF ?_
  obtain rfl : k = (refs u).length := by omega
  rw [List.take_length] at hO5
  clear ih
  have hx4 := Bl.box B34 hx3
  have U4 : UnR (fun b => b < w4.heap.size ∧ b ≠ b3) w4 u a := ((hU.lt).bl ((h1.bl.trans B13).trans B34)).sub fun i hi => ⟨by omega, by omega⟩
  have hb14 : b1 < w4.heap.size ∧ b1 ≠ b3 := ⟨by omega, by omega⟩
  refine lpk u.methods.length 6 [] [(1, .pointer (some ⟨b1, 0, none⟩)), (3, .slice (some ⟨b3, 0, none⟩) u.pool.length u.pool.length)] (fun k vals w' => vals = [] ∧ OwP 1 encBool w' w1.heap.size 4 (some ⟨b3, 0, none⟩) u.pool.length (mkL u.pool.length (refs u ++ (u.methods.take k).flatMap fun m => m.code.flatMap opR)) ∧ CpS w w4 b3 w') ⟨rfl, by simpa using hO5, S5⟩ ?_
  clear hO5 S5 hlt hk
  rintro k vals w5 hk ⟨rfl, hO5, S5⟩ ih
  have X : ∀ {w'}, CpS w w4 b3 w' → At w' b1 0 (ucells u a) := fun h => (hx4.at).kp h.kp hb14
  refine ld (X S5 4 _ rfl) ?_
  by_cases hlt : k < u.methods.length
  · refine brT ?_
    obtain ⟨m, b, o, cs, hm, e2, hSb, hAt, q1, s1, q2, s2, q3, s3, rfl, f1, f2, f3⟩ := at_some U4.mth hlt
    have hmm := List.mem_of_getElem? hm
    have ncod := f3.big
    refine lpk m.code.length 7 [] [(1, .pointer (some ⟨b1, 0, none⟩)), (3, .slice (some ⟨b3, 0, none⟩) u.pool.length u.pool.length), (6, I k)] (fun j vals w' => vals = [] ∧ OwP 1 encBool w' w1.heap.size 4 (some ⟨b3, 0, none⟩) u.pool.length (mkL u.pool.length (refs u ++ (u.methods.take k).flatMap (fun m => m.code.flatMap opR) ++ (m.code.take j).flatMap opR)) ∧ CpS w w4 b3 w') ⟨rfl, by simpa using hO5, S5⟩ ?_
    clear hO5 S5
    rintro j vals w6 hj ⟨rfl, hO6, S6⟩ ih2
    have hAt6 := hAt.kp S6.kp hSb
    refine ld (X S6 4 _ rfl) ?_
    rw [e2]
    refine ix ?_
    refine ld (hAt6 6 _ rfl) ?_
    by_cases hlt2 : j < m.code.length
    · refine brT ?_
      obtain ⟨i, b9, o9, cs, hi, e9, hS9, hAt9, rfl⟩ := at_some f3 hlt2
      have him := List.mem_of_getElem? hi
      refine ld (X S6 4 _ rfl) ?_
      rw [e2]
      refine ix ?_
      refine ld (hAt6 6 _ rfl) ?_
      rw [e9]
      refine ix ?_
      refine lda (hAt9.kp S6.kp hS9) ?_
      refine cl (r_Operand i w6) ?_
      rintro _ w7 ⟨rfl, B67⟩
      have hO7 := hO6.bl B67
      have S7 := S6.bl B67
      refine br (t := decide (0 < (operand i).2)) (fun h => ?_) (fun h => ?_)
      · have hp := of_decide_eq_true h
        have hr : (⟨(operand i).1, (operand i).2, false⟩ : Rf) ∈ allRefs u := List.mem_append_right _ (List.mem_flatMap.2 ⟨m, hmm, List.mem_flatMap.2 ⟨i, him, by rw [if_pos hp]; exact List.mem_singleton.2 rfl⟩⟩)
        have h0 : 0 ≤ (operand i).1 := operand_ge i (code_valid hC hmm him) hp
        have hin : (operand i).1 < u.pool.length := (all_in hC hr h0).1
        refine ix (hij := int_nat h0) ?_
        obtain ⟨cur, hb, hcl, _, _, hcl2⟩ := Eng.Ow.box hO7
        rw [mkL_len] at hcl2
        refine stx hb (fun w8 k8 hb8 => ?_) (ho := by omega)
        refine ih2 hlt2 ⟨rfl, ?_, S7.wr k8 (.inl rfl)⟩
        rw [flatMap_snoc hi, ← List.append_assoc]
        have eo : opR i = [⟨(operand i).1, (operand i).2, false⟩] := by unfold opR; rw [if_pos hp]
        rw [eo]
        exact mark_set hO7 hb (by simpa using hb8) h0
      · have hp := of_decide_eq_false h
        refine ih2 hlt2 ⟨rfl, ?_, S7⟩
        have eo : opR i = [] := by unfold opR; rw [if_neg hp]
        rw [flatMap_snoc hi, eo, List.append_nil]
        exact hO7
    · refine brF ?_
      obtain rfl : j = m.code.length := by omega
      rw [List.take_length] at hO6
      refine ih hlt ⟨rfl, ?_, S6⟩
      rw [flatMap_snoc hm, ← List.append_assoc]
      exact hO6
  refine brF ?_
  obtain rfl : k = u.methods.length := by omega
  rw [List.take_length] at hO5
  refine rt1 ⟨some ⟨b3, 0, none⟩, u.pool.length, rfl, owp_sl (enc := encBool) hO5 (by rw [mkL_len]; omega) (fun _ _ => trivial), S5.below⟩
theorem mkL_at {u : Unt} {i : Nat} {b : Bool} (h : (mkL u.pool.length (allRefs u))[i]? = some b) : b = mkd u i := by
  unfold mkL at h
  rw [List.getElem?_map] at h
  obtain ⟨j, hj, rfl⟩ := Option.map_eq_some_iff.1 h
  have hlt := (List.getElem?_eq_some_iff.1 hj).1
  rw [List.length_range] at hlt
  rw [List.getElem?_range hlt] at hj
  obtain rfl := Option.some.inj hj
  rfl
def pickK (u : Unt) (q : Nat → Bool) (k : Nat) : List ByteArray := ((List.range k).filter q).map fun i : Nat => nm u (i : Int)
theorem pickK_succ (u : Unt) (q : Nat → Bool) (k : Nat) : pickK u q (k + 1) = pickK u q k ++ if q k = true then [nm u (k : Int)] else [] := by
  unfold pickK
  rw [List.range_succ, List.filter_append, List.map_append]
  congr 1
  by_cases h : q k = true <;> simp [h]
theorem pickK_len (u : Unt) (q : Nat → Bool) (k : Nat) : (pickK u q k).length ≤ k := by
  unfold pickK; rw [List.length_map]; exact Nat.le_trans (List.length_filter_le _ _) (by simp)
abbrev useQ (u : Unt) (i : Nat) : Bool := mkd u i && decide (1 < path (nm u (i : Int)))
set_option maxHeartbeats 1000000 in
theorem r_Uses (u : Unt) (a : UA) (w : World) (hU : UnR T w u a) : Ret Tryz.prog 34 #[.agg (ucells u a).toArray] w (TellR (checkE u) (useL u) w) := by
  have hbig := hU.pool.big
  refine entr (vs := [.agg (ucells u a).toArray]) [0, 1, 2, 3, 4, 5, 6, 7, 11, 19, 34] tabok Tryz.func34 (by kernel_rfl) ?_
  refine bx (cs := ucells u a) fun b1 w1 h1 => ?_
  refine lda h1.box.at ?_
  refine cl (r_Check u a w1 (hU.bl h1.bl)) ?_
  rintro _ w2 ⟨rfl, B12⟩
  have B02 := h1.bl.trans B12
  have z1 := h1.size
  have z2 := B12.size
  have y1 := h1.blk
  refine br (t := decide (¬ checkE u = 0)) (fun h => ?_) (fun h => ?_)
  · exact rt2 (tell_err (of_decide_eq_true h) B02)
  have h0 : checkE u = 0 := Classical.not_not.1 (of_decide_eq_false h)
  have hC := (ckU_iff u).1 h0
  have hx2 := Bl.box B12 h1.box
  refine lda hx2.at ?_
  refine cl (r_marks u a w2 (hU.bl B02) hC) ?_
  rintro _ w3 ⟨a3, c3, rfl, hM, B23⟩
  have hx3 := Bl.box B23 hx2
  have z3 := B23.size
  have hm3 := mkL_len u.pool.length (allRefs u)
  refine lpk u.pool.length 7 [6] [(1, .pointer (some ⟨b1, 0, none⟩)), (5, .slice a3 u.pool.length c3)] (fun k vals w' => ∃ a6 c6, vals = [.slice a6 (pickK u (useQ u) k).length c6] ∧ OwP 1 encStr w' w3.heap.size 9 a6 c6 (pickK u (useQ u) k) ∧ Bl w3 w') ⟨none, 0, rfl, Ow.nil .., Bl.refl _⟩ ?_
  rintro k vals w4 hk ⟨a6, c6, rfl, hO4, B34⟩ ih
  have hle := pickK_len u (useQ u) k
  have z34 := B34.size
  have X4 := Bl.box B34 hx3
  refine ld (X4.cell rfl) ?_
  by_cases hlt : k < u.pool.length
  · refine brT ?_
    obtain ⟨fl, b, o, cs, hf, e2, _, hAt, rfl⟩ := at_some (hM.bl B34) (i := k) (by omega)
    obtain rfl := mkL_at hf
    obtain ⟨s, b5, o5, cs, hs, e5, _, hAt5, rfl⟩ := at_some (hU.bl ((B02.trans B23).trans B34)).pool hlt
    have es : nm u (k : Int) = s := nm_at hs
    have e1 := pickK_succ u (useQ u) k
    rw [e2]
    refine ix ?_
    refine ld (hAt 0 _ rfl) ?_
    cases hm : mkd u k with
    | true =>
      refine spt (.slice none 0 0) ?_
      refine ld (X4.cell rfl) ?_
      rw [e5]
      refine spt (.pointer none) ?_
      refine ix ?_
      refine spt (.string ⟨#[]⟩) ?_
      refine ld (hAt5 0 _ rfl) ?_
      refine spt (I 0) ?_
      refine cl (r_Path s w4 (hU.ps s (List.mem_of_getElem? hs))) ?_
      rintro _ w5 ⟨rfl, B45⟩
      refine br (t := true && decide ((1 : Int) < path s)) (fun h => ?_) (fun h => ?_)
      · have hp : 1 < path s := by simp at h; omega
        rw [if_pos (by simp [useQ, hm, es, hp]), es] at e1
        refine ld ((Bl.box B45 X4).cell rfl) ?_
        rw [e5]
        refine ix ?_
        refine ld ((hAt5.bl B45) 0 _ rfl) ?_
        refine bs fun b7 w7 h7 => ?_
        have B47 := B45.trans h7.bl
        have hO7 := hO4.bl B47
        refine apl (enc := encStr) (l1 := [s]) hO7 (.inr ⟨b7, 0, rfl, h7.box.at⟩) (by have := B47.size; omega) (fun a8 c8 w8 hO8 hA8 hf8 => ?_) (hb := by rw [List.length_singleton]; omega) (hn := by rw [List.length_singleton]; omega)
        exact ih hlt ⟨a8, c8, by rw [e1], by rw [e1]; exact hO8, Eng.Ow.below hO7 hA8 (B34.trans B47) (by have := B47.size; omega)⟩ (hsub := by simp only [e2]; repeat (first | exact True.intro | (refine ⟨rfl, ?_⟩)))
      · have hp : ¬ 1 < path s := by simp at h; omega
        rw [if_neg (by simp [useQ, hm, es, hp]), List.append_nil] at e1
        exact ih hlt ⟨a6, c6, by rw [e1], by rw [e1]; exact hO4.bl B45, B34.trans B45⟩ (hsub := by simp only [e2]; repeat (first | exact True.intro | (refine ⟨rfl, ?_⟩)))
    | false =>
      rw [if_neg (by simp [useQ, hm]), List.append_nil] at e1
      refine spn (.slice none 0 0) ?_
      refine spn (.pointer none) ?_
      refine spn (.string ⟨#[]⟩) ?_
      refine spn (I 0) ?_
      refine brf ?_
      exact ih hlt ⟨a6, c6, by rw [e1], by rw [e1]; exact hO4, B34⟩ (hsub := by simp only [e2]; repeat (first | exact True.intro | (refine ⟨rfl, ?_⟩)))
  refine brF ?_
  obtain rfl : k = u.pool.length := by omega
  clear ih
  have eL : pickK u (useQ u) u.pool.length = useL u := rfl
  rw [eL] at hO4 hle ⊢
  refine cl (r_Sorted (useL u) a6 c6 T w4 (owp_sl (enc := encStr) hO4 (by omega) fun _ _ => trivial)) ?_
  rintro _ w5 ⟨out, a5, c5, rfl, hA, hlen, hO5, B45⟩
  have := tell_ok (w := w) (w' := w5) (e := checkE u) h0 hA hlen (hO5.base (base' := w.heap.size) (by omega)) (((B02.trans B23).trans B34).trans B45)
  rw [h0] at this ⊢
  exact rt2 this
set_option maxHeartbeats 1000000 in
theorem r_Needs (u : Unt) (a : UA) (w : World) (hU : UnR T w u a) : Ret Tryz.prog 36 #[.agg (ucells u a).toArray] w (TellR (checkE u) (needP u (useL u)) w) := by
  refine entr (vs := [.agg (ucells u a).toArray]) [0, 1, 2, 3, 4, 5, 6, 7, 8, 15, 20, 33] tabok Tryz.func36 (by kernel_rfl) ?_
  refine bx (cs := ucells u a) fun b1 w1 h1 => ?_
  refine lda h1.box.at ?_
  refine cl (r_Uses u a w1 (hU.bl h1.bl)) ?_
  intro v w2 hT
  have z1 := h1.size
  have y1 := h1.blk
  by_cases h0 : checkE u = 0
  · unfold TellR at hT
    rw [if_pos h0] at hT
    obtain ⟨out, ao, co, rfl, hA, hlen, hO, B12⟩ := hT
    refine brF ?_ (hp := by simp)
    have hx2 := Bl.box B12 h1.box
    have hS : Sl eStr T w2 ao out := owp_sl (enc := encStr) hO hlen fun _ _ => trivial
    have hsz : ∀ x ∈ out, x.size ≤ 1048576 := fun x hx => hU.ps x (useL_mem ((hA.mem x).1 hx))
    refine lpk out.length 7 [6] [(1, .pointer (some ⟨b1, 0, none⟩)), (4, .slice ao out.length co)] (fun k vals w' => ∃ a6 c6, vals = [.slice a6 (needP u (out.take k)).length c6] ∧ OwP 1 encStr w' w2.heap.size 9 a6 c6 (needP u (out.take k)) ∧ Bl w2 w') ⟨none, 0, rfl, Ow.nil .., Bl.refl _⟩ ?_
    rintro k vals w3 hk ⟨a6, c6, rfl, hO3, B23⟩ ih
    have hle := needP_len u (out.take k)
    rw [List.length_take] at hle
    have z23 := B23.size
    by_cases hlt : k < out.length
    · refine brT ?_
      obtain ⟨x, b, o, cs, hx, e2, _, hAt, rfl⟩ := at_some (hS.bl B23) hlt
      have e1 := needP_snoc (u := u) hx
      rw [e2]
      refine ix ?_
      refine ld (hAt 0 _ rfl) ?_
      refine cl (r_Parts x w3 (hsz x (List.mem_of_getElem? hx))) ?_
      rintro _ w4 ⟨ap, cp, rfl, hP, B34⟩
      have hpos : 0 < (partsB x).length := by
        unfold partsB
        rw [List.length_map]
        exact List.length_pos_iff.2 (cutDot_ne _)
      obtain ⟨p0, b0, o0, cs0, hs0, e0, _, hAt0, rfl⟩ := at_some hP (i := 0) hpos
      have ep : p0 = fstP x := by
        unfold fstP
        cases hq : partsB x with
        | nil => rw [hq] at hpos; cases hpos
        | cons y l => rw [hq] at hs0; simpa using hs0.symm
      subst ep
      rw [e0]
      refine ix (j := 0) ?_
      refine ld (hAt0 0 _ rfl) ?_
      refine ld ((Bl.box (B23.trans B34) hx2).cell rfl) ?_
      refine br (t := decide (¬ fstP x = u.name)) (fun h => ?_) (fun h => ?_)
      · rw [if_neg (of_decide_eq_true h)] at e1
        refine bs fun b5 w5 h5 => ?_
        have B35 := B34.trans h5.bl
        have hO5 := hO3.bl B35
        refine apl (enc := encStr) (l1 := [fstP x]) hO5 (.inr ⟨b5, 0, rfl, h5.box.at⟩) (by have := B35.size; omega) (fun a7 c7 w7 hO7 hA7 hf7 => ?_) (hb := by rw [List.length_singleton]; omega) (hn := by rw [List.length_singleton]; omega)
        exact ih hlt ⟨a7, c7, by rw [e1], by rw [e1]; exact hO7, Eng.Ow.below hO5 hA7 (B23.trans B35) (by have := B35.size; omega)⟩ (hsub := by simp only [e2]; repeat (first | exact True.intro | (refine ⟨rfl, ?_⟩)))
      · rw [if_pos (Classical.not_not.1 (of_decide_eq_false h)), List.append_nil] at e1
        exact ih hlt ⟨a6, c6, by rw [e1], by rw [e1]; exact hO3.bl B34, B23.trans B34⟩ (hsub := by simp only [e2]; repeat (first | exact True.intro | (refine ⟨rfl, ?_⟩)))
    refine brF ?_
    obtain rfl : k = out.length := by omega
    clear ih
    rw [List.take_length] at hO3 hle ⊢
    refine cl (r_Sorted (needP u out) a6 c6 T w3 (owp_sl (enc := encStr) hO3 (by omega) fun _ _ => trivial)) ?_
    rintro _ w5 ⟨out2, a5, c5, rfl, hA2, hlen2, hO5, B35⟩
    have := tell_ok (w := w) (w' := w5) (e := checkE u) (l := needP u (useL u)) h0 ⟨hA2.lt, fun x => (hA2.mem x).trans (need_mem hA.mem x)⟩ hlen2 (hO5.base (base' := w.heap.size) (by have := B12.size; omega)) (((h1.bl.trans B12).trans B23).trans B35)
    rw [h0] at this ⊢
    exact rt2 this
  · unfold TellR at hT
    rw [if_neg h0] at hT
    obtain ⟨rfl, B12⟩ := hT
    refine brT ?_ (hp := h0)
    exact rt2 (tell_err h0 (h1.bl.trans B12))
end Go.Proofs.YtopjmiklpnejmaaGreatDoor

/- Walks: the law UnitTells. -/
namespace Go.Proofs.YtopjmiklpnejmaaGreatDoor
open Eng Go.RowKit
theorem tell_any {e : Int} {l : List ByteArray} {w w' : World} {v : Value} (h : TellR e l w v w') : ∃ out a c, v = .tuple #[.slice a out.length c, I e] ∧ Sl eStr T w' a out ∧ Bl w w' ∧ if e = 0 then Asc l out else out = [] := by
  unfold TellR at h
  split at h
  · rename_i h0
    obtain ⟨out, a, c, rfl, hA, hl, hO, hB⟩ := h
    exact ⟨out, a, c, by rw [h0], owp_sl (enc := encStr) hO hl fun _ _ => trivial, hB, by rw [if_pos h0]; exact hA⟩
  · rename_i h0
    obtain ⟨rfl, hB⟩ := h
    exact ⟨[], none, 0, rfl, Sl.nil .., hB, by rw [if_neg h0]⟩
theorem tell_eq {e : Int} {l : List ByteArray} {x y : List ByteArray} (h1 : if e = 0 then Asc l x else x = []) (h2 : if e = 0 then Asc l y else y = []) : x = y := by
  split at h1
  · rename_i h0
    rw [if_pos h0] at h2
    exact h1.eq h2 fun _ => Iff.rfl
  · rename_i h0
    rw [if_neg h0] at h2
    rw [h1, h2]
theorem l_Tells (u : Unt) (a : UA) (w : World) (hU : UnR T w u a) (hG : Gl w) : Ret Tryz.prog 8 #[.agg (ucells u a).toArray] w fun x w' => x = .bool true ∧ Bl w w' := by
  refine entr (vs := [.agg (ucells u a).toArray]) [0, 1, 2, 3, 4, 5, 6, 7, 8, 9, 10, 11, 12, 13, 14, 16] tabok Tryz.func8 (by kernel_rfl) ?_
  refine bx (cs := ucells u a) fun b1 w1 h1 => ?_
  have B01 := h1.bl
  refine lda h1.box.at ?_
  refine cl (l_heavy u a w1 (hU.bl B01)) ?_
  rintro _ w2 ⟨hv, rfl, B12⟩
  have B02 := B01.trans B12
  have x2 := Bl.box B12 h1.box
  cases hv with
  | true =>
    refine br (fun _ => ?_) (fun q => ?_)
    · refine cl (l_sane w2 (hG.bl B02)) ?_
      rintro _ w3 ⟨rfl, h3⟩
      exact rt1 ⟨rfl, B02.trans h3⟩
    · cases q
  | false =>
  refine br (fun q => ?_) (fun _ => ?_)
  · cases q
  refine lda x2.at ?_
  refine cl (u_Defines u a w2 (hU.bl B02) (hG.bl B02)) ?_
  intro v w3 hT
  obtain ⟨o1, a1, c1, rfl, S1, B23, A1⟩ := tell_any hT
  clear hT
  have B03 := B02.trans B23
  have x3 := Bl.box B23 x2
  refine lda x3.at ?_
  refine cl (r_Defines u a w3 (hU.bl B03)) ?_
  intro v w4 hT
  obtain ⟨o2, a2, c2, rfl, S2, B34, A2⟩ := tell_any hT
  clear hT
  obtain rfl := tell_eq A1 A2
  have B04 := B03.trans B34
  have x4 := Bl.box B34 x3
  refine lda x4.at ?_
  refine cl (u_Uses u a w4 (hU.bl B04) (hG.bl B04)) ?_
  intro v w5 hT
  obtain ⟨o3, a3, c3, rfl, S3, B45, A3⟩ := tell_any hT
  clear hT
  have B05 := B04.trans B45
  have x5 := Bl.box B45 x4
  refine lda x5.at ?_
  refine cl (r_Uses u a w5 (hU.bl B05)) ?_
  intro v w6 hT
  obtain ⟨o4, a4, c4, rfl, S4, B56, A4⟩ := tell_any hT
  clear hT
  obtain rfl := tell_eq A3 A4
  have B06 := B05.trans B56
  have x6 := Bl.box B56 x5
  refine lda x6.at ?_
  refine cl (u_Needs u a w6 (hU.bl B06) (hG.bl B06)) ?_
  intro v w7 hT
  obtain ⟨o5, a5, c5, rfl, S5, B67, A5⟩ := tell_any hT
  clear hT
  have B07 := B06.trans B67
  have x7 := Bl.box B67 x6
  refine lda x7.at ?_
  refine cl (r_Needs u a w7 (hU.bl B07)) ?_
  intro v w8 hT
  obtain ⟨o6, a6, c6, rfl, S6, B78, A6⟩ := tell_any hT
  clear hT
  obtain rfl := tell_eq A5 A6
  have B08 := B07.trans B78
  have T38 := ((B34.trans B45).trans (B56.trans B67)).trans B78
  have T48 := (B45.trans (B56.trans B67)).trans B78
  have T58 := (B56.trans B67).trans B78
  have T68 := B67.trans B78
  refine spt (.bool false) ?_
  refine cl (r_SameStrings o1 o1 a1 a2 c1 c2 w8 (S1.bl T38) (S2.bl T48)) ?_
  rintro _ w9 ⟨rfl, B89⟩
  have B09 := B08.trans B89
  refine spt (.bool false) ?_
  refine cl (r_SameStrings o3 o3 a3 a4 c3 c4 w9 ((S3.bl T58).bl B89) ((S4.bl T68).bl B89)) ?_
  rintro _ w10 ⟨rfl, B910⟩
  have B010 := B09.trans B910
  refine spt (.bool false) ?_
  refine cl (r_SameStrings o5 o5 a5 a6 c5 c6 w10 (((S5.bl B78).bl B89).bl B910) ((S6.bl B89).bl B910)) ?_
  rintro _ w11 ⟨rfl, B1011⟩
  have B011 := B010.trans B1011
  refine spt (.bool false) ?_
  refine cl (l_sane w11 (hG.bl B011)) ?_
  rintro _ w12 ⟨rfl, B1112⟩
  refine rt1 ⟨vb ?_, B011.trans B1112⟩
  simp
end Go.Proofs.YtopjmiklpnejmaaGreatDoor
