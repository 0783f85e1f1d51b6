/- Walks: the program's matching of brackets, and its Check of code. -/
import Derived.Test.YtopjmiklpnejmaaGreatDoorFld
import Derived.Test.YtopjmiklpnejmaaGreatDoorVd
import Derived.Test.YtopjmiklpnejmaaGreatDoorIdx
namespace Go.Proofs.YtopjmiklpnejmaaGreatDoor
open Eng Go.RowKit
/-- blocks that hold just these cells -/
def Has (w : World) (hs : List (Nat × TypeId × List Value)) : Prop := ∀ (i b : Nat) (t : TypeId) (cs : List Value), hs[i]? = some (b, t, cs) → Box w b t cs
theorem Has.bl {w w' : World} {hs : List (Nat × TypeId × List Value)} (h : Has w hs) (k : Bl w w') : Has w' hs := fun i b t cs hi => Bl.box k (h i b t cs hi)
theorem Has.wr {w w' : World} {hs : List (Nat × TypeId × List Value)} (h : Has w hs) (nd : (hs.map (·.1)).Nodup) (i : Nat) {b : Nat} {t : TypeId} {cs cs' : List Value} (hi : hs[i]? = some (b, t, cs)) (hW : Wr w b w') (hb : Box w' b t cs') : Has w' (hs.set i (b, t, cs')) := by
  intro j b' t' c' hj
  by_cases hij : i = j
  · subst hij
    have hl : i < hs.length := (List.getElem?_eq_some_iff.1 hi).1
    rw [List.getElem?_set_self hl] at hj
    simp only [Option.some.injEq, Prod.mk.injEq] at hj
    obtain ⟨rfl, rfl, rfl⟩ := hj; exact hb
  · rw [List.getElem?_set_ne hij] at hj
    refine hW.box (h j b' t' c' hj) fun e => hij ?_
    subst e
    have h1 : (hs.map (·.1))[i]? = some b' := by rw [List.getElem?_map, hi]; rfl
    have h2 : (hs.map (·.1))[j]? = some b' := by rw [List.getElem?_map, hj]; rfl
    obtain ⟨l1, e1⟩ := List.getElem?_eq_some_iff.1 h1
    obtain ⟨l2, e2⟩ := List.getElem?_eq_some_iff.1 h2
    have hp := List.pairwise_iff_getElem.1 nd
    rcases Nat.lt_trichotomy i j with h3 | h3 | h3
    · exact absurd (e1.trans e2.symm) (hp i j l1 l2 h3)
    · exact h3
    · exact absurd (e2.trans e1.symm) (hp j i l2 l1 h3)
theorem Has.ap {w w' : World} {hs : List (Nat × TypeId × List Value)} (h : Has w hs) {a : Option Addr} (k : Ap w a w') (ha : ∀ (i b : Nat) (t : TypeId) (cs : List Value), hs[i]? = some (b, t, cs) → a ≠ some ⟨b, 0, none⟩) : Has w' hs := fun i b t cs hi => k.box (h i b t cs hi) (ha i b t cs hi)
theorem Has.oth {w w' : World} {hs : List (Nat × TypeId × List Value)} (h : Has w hs) {b : Nat} (k : Wr w b w') (hb : b ∉ hs.map (·.1)) : Has w' hs := fun i b' t cs hi => k.box (h i b' t cs hi) fun e => hb (by
  subst e; exact List.mem_map.2 ⟨_, List.mem_of_getElem? hi, rfl⟩)
theorem Has.lt {w : World} {hs : List (Nat × TypeId × List Value)} (h : Has w hs) {i b : Nat} {t : TypeId} {cs : List Value} (hi : hs[i]? = some (b, t, cs)) : b < w.heap.size := (h i b t cs hi).lt
abbrev encNat : Nat → List Value := fun i => [I (i : Int)]
theorem owp_cell {w : World} {base e g cap : Nat} {l : List Nat} (hO : OwP 1 encNat w base e (some ⟨g, 0, none⟩) cap l) {j x : Nat} (hx : l[j]? = some x) : w.cell? ⟨g, j, none⟩ = some (I (x : Int)) := by
  have := flat_get (sz := 1) (enc := encNat) (fun _ => rfl) hx 0 (by decide)
  have h2 := hO.at rfl (j * 1 + 0) (I x) (by rw [this]; rfl)
  simpa using h2
/-- the first elements of an own row -/
theorem Eng.Ow.cut {w : World} {base e esz n cap : Nat} {a : Option Addr} {xs : List Value} (h : Ow w base e esz a n cap xs) {m : Nat} (hm : m ≤ n) : Ow w base e esz a m cap (xs.take (m * esz)) := by
  obtain ⟨h1, h2⟩ := h.own
  have hl : (xs.take (m * esz)).length = m * esz := by rw [List.length_take, h1]; exact Nat.min_eq_left (Nat.mul_le_mul_right _ hm)
  refine ⟨⟨hl, ?_⟩⟩
  rcases h2 with ⟨h2, h3⟩ | ⟨g, cap', cur, h2, h3, h4, h5, h6, h7, h8⟩
  · simp only [Value.slice.injEq] at h2
    obtain ⟨rfl, rfl, rfl⟩ := h2
    have : m = 0 := by omega
    subst this
    exact .inl ⟨rfl, by simp⟩
  · simp only [Value.slice.injEq] at h2
    obtain ⟨rfl, -, rfl⟩ := h2
    exact .inr ⟨g, cap, cur, rfl, h3, h4, by omega, h6, h7, by rw [← h8, List.take_take, Nat.min_eq_left (Nat.mul_le_mul_right _ hm)]⟩
theorem owp_pop {w : World} {base e cap : Nat} {a : Option Addr} {l : List Nat} {x : Nat} (h : OwP 1 encNat w base e a cap (l ++ [x])) : OwP 1 encNat w base e a cap l := by
  have := Eng.Ow.cut h (m := l.length) (by simp)
  have e1 : ((l ++ [x]).flatMap encNat).take (l.length * 1) = l.flatMap encNat := by
    rw [List.flatMap_append, List.take_append_of_le_length (by rw [flat_length (sz := 1) (fun _ => rfl)]; exact Nat.le_refl _), List.take_of_length_le (by rw [flat_length (sz := 1) (fun _ => rfl)]; exact Nat.le_refl _)]
  rw [e1] at this; exact this
theorem rep_ints (n : Nat) : rep n [I 0] = (List.replicate n (0 : Int)).map I := by
  induction n with
  | zero => rfl
  | succ n ih => rw [rep, ih, List.replicate_succ']; simp
theorem runB_app : ∀ (c c' : List Int) (s : List (Int × Bool)) (d : Nat), runB (c ++ c') s d = (match runB c s d with
  | some (s', d') => runB c' s' d'
  | none => none)
  | [], c', s, d => rfl
  | op :: c, c', s, d => by
    simp only [List.cons_append, runB]
    cases stepB s d op with
    | none => rfl
    | some sd => exact runB_app c c' sd.1 sd.2
theorem runB_step {c : List Int} {k : Nat} {op : Int} (hk : c[k]? = some op) {s : List (Int × Bool)} {d : Nat} (h : runB (c.take k) [] 0 = some (s, d)) : runB (c.take (k + 1)) [] 0 = stepB s d op := by
  rw [take_succ_some hk, runB_app, h]
  simp only [runB]
  cases stepB s d op with
  | none => rfl
  | some sd => rfl
theorem okB_fail {c : List Int} {k : Nat} (h : runB (c.take k) [] 0 = none) : okB c = false := by
  have : runB c [] 0 = none := by
    rw [← List.take_append_drop k c, runB_app, h]
  unfold okB; rw [this]
/-- the stack as the program keeps it: indexes, and a row of else's -/
def stk (c : List Int) (E : List Int) (idx : List Nat) : List (Int × Bool) := idx.reverse.map fun o => (c.getD o 0, decide (0 ≤ E.getD o (-1)))
theorem stk_push (c E : List Int) (idx : List Nat) (o : Nat) : stk c E (idx ++ [o]) = (c.getD o 0, decide (0 ≤ E.getD o (-1))) :: stk c E idx := by simp [stk]
theorem stk_set {c E : List Int} {idx : List Nat} {k : Nat} {v : Int} (h : k ∉ idx) : stk c (E.set k v) idx = stk c E idx := by
  unfold stk
  apply List.map_congr_left
  intro o ho
  have : k ≠ o := fun e => h (by rw [e]; exact List.mem_reverse.1 ho)
  rw [List.getD_eq_getElem?_getD (l := E.set k v), List.getElem?_set_ne this, ← List.getD_eq_getElem?_getD]
theorem stk_length (c E : List Int) (idx : List Nat) : (stk c E idx).length = idx.length := by simp [stk]
theorem set_getD {E : List Int} {k : Nat} {v : Int} (h : k < E.length) : (E.set k v).getD k (-1) = v := by rw [List.getD_eq_getElem?_getD, List.getElem?_set_self h]; rfl
theorem stepB_open {op : Int} {s : List (Int × Bool)} {d : Nat} (h : opensB op = true) : stepB s d op = some ((op, false) :: s, max d (s.length + 1)) := by simp [stepB, h]
theorem stepB_plain {op : Int} {s : List (Int × Bool)} {d : Nat} (h1 : opensB op = false) (h2 : op ≠ 34) (h3 : op ≠ 35) : stepB s d op = some (s, d) := by simp [stepB, h1, h2, h3]
theorem stepB_else {o : Int} {e : Bool} {s : List (Int × Bool)} {d : Nat} : stepB ((o, e) :: s) d 34 = if e = false ∧ (o = 29 ∨ o = 33) then some ((o, true) :: s, d) else none := by
  cases e
  · by_cases h : o = 29 ∨ o = 33 <;> simp [stepB, opensB, h]
  · simp [stepB, opensB]
theorem stepB_end {o : Int} {e : Bool} {s : List (Int × Bool)} {d : Nat} : stepB ((o, e) :: s) d 35 = if o = 33 ∧ e = false then none else some (s, d) := by simp [stepB, opensB]
theorem stepB_top {op : Int} {d : Nat} (h : op = 34 ∨ op = 35) : stepB [] d op = none := by rcases h with rfl | rfl <;> simp [stepB, opensB]
end Go.Proofs.YtopjmiklpnejmaaGreatDoor
/- Walks: the program's matching of brackets. -/
namespace Go.Proofs.YtopjmiklpnejmaaGreatDoor
open Eng Go.RowKit
abbrev slv (b n : Nat) : Value := .slice (some ⟨b, 0, none⟩) n n
def shRows (b1 b3 b5 b7 b4 b2 n : Nat) (cO cN cD : List Value) (E : List Int) (D : Nat) : List (Nat × TypeId × List Value) :=
  [(b1, 3, cO), (b3, 3, E.map I), (b5, 3, cN), (b7, 3, cD), (b4, 151, [slv b1 n, slv b3 n, slv b5 n, slv b7 n, I D, .bool true]), (b2, 151, [.slice none 0 0, .slice none 0 0, .slice none 0 0, .slice none 0 0, I 0, .bool false])]
structure ShI (c : List Int) (n b1 b3 b5 b7 b4 b2 B : Nat) (w0 : World) (k : Nat) (a : Option Addr) (cap : Nat) (idx : List Nat) (cO cN cD : List Value) (E : List Int) (D : Nat) (w : World) : Prop where
  own : OwP 1 encNat w B 3 a cap idx
  has : Has w (shRows b1 b3 b5 b7 b4 b2 n cO cN cD E D)
  lO : cO.length = n
  lN : cN.length = n
  lD : cD.length = n
  lE : E.length = n
  lt : ∀ o ∈ idx, o < k
  nd : idx.Nodup
  len : idx.length ≤ k
  run : runB (c.take k) [] 0 = some (stk c E idx, D)
  db : D ≤ k
  bl : Bl w0 w
  sz : B ≤ w.heap.size
theorem cut_addr {a : Option Addr} {n cap esz base : Nat} {xs : List Value} {w : World} {e : Nat} (h : (a = none ∧ n = 0 ∧ cap = 0 ∧ xs = []) ∨ ∃ g cur, a = some ⟨g, 0, none⟩ ∧ base ≤ g ∧ w.heap[g]? = some (.cells cur e (0, 0)) ∧ n ≤ cap ∧ cur.size = cap * esz ∧ cur.toList.take (n * esz) = xs) : a.map (·.add (0 * 1)) = a := by
  rcases h with ⟨rfl, _⟩ | ⟨g, _, rfl, _⟩ <;> rfl
theorem v_Opens (op : Int) (w : World) : Ret Tryz.prog 177 #[I op] w fun v w' => v = .bool (opensB op) ∧ w' = w := by
  refine entr (vs := [I op]) [0, 2] tabok Tryz.func177 (by kernel_rfl) ?_
  refine rt1 ⟨vb ?_, rfl⟩
  unfold opensB
  rw [Bool.eq_iff_iff]
  simp only [Bool.or_eq_true, Bool.and_eq_true, decide_eq_true_eq]
  omega
set_option maxHeartbeats 1000000 in
theorem u_shapeOf (l : List Ins) (a0 : Option Addr) (cap0 : Nat) (S : Nat → Prop) (w : World) (hS : Sl eIns S w a0 l) : Ret Tryz.prog 130 #[.slice a0 l.length cap0] w fun v w' => (∃ c0 c1 c2 c3 c4, v = .agg #[c0, c1, c2, c3, c4, .bool (okB (l.map (·.op)))]) ∧ Bl w w' := by
  have hbig := hS.big
  refine entr (vs := [.slice a0 l.length cap0]) [0, 2, 3, 4, 5, 6, 7, 8, 9, 21, 22, 23, 24, 48, 59, 73, 84, 115, 125, 146] tabok Tryz.func130 (by kernel_rfl) ?_
  refine al fun b2 w1 h1 => ?_
  refine dpar [Pr.cst 12 (I l.length), Pr.box 13 (fun b => slv b l.length) 3 (rep l.length [I 0]), Pr.cst 14 (I l.length), Pr.box 15 (fun b => slv b l.length) 3 (rep l.length [I 0]), Pr.cst 16 (I l.length), Pr.box 17 (fun b => slv b l.length) 3 (rep l.length [I 0]), Pr.cst 18 (I l.length), Pr.box 19 (fun b => slv b l.length) 3 (rep l.length [I 0]),
    Pr.fn 20 [13, 15, 17, 19] (fun vs => .agg (vs ++ [I 0, .bool true]).toArray), Pr.box 4 (fun b => .pointer (some ⟨b, 0, none⟩)) 151 [.slice none 0 0, .slice none 0 0, .slice none 0 0, .slice none 0 0, I 0, .bool false]] (fun _ => False) [10] rfl ?_ ?_ ?_
  · refine ⟨?_, ?_, ?_, ?_, ?_, ?_, ?_, ?_, ?_, ?_, trivial⟩ <;> intro d hd <;> cases hd <;> first | exact Pr.cst_ok _ _ | exact Pr.box_ok _ _ _ _ (fun _ => rfl) | exact Pr.fn_ok _ _ _
  · intro hT w2 h2
    refine ⟨so_move rfl, so_mk hT (fun a w _ hD => hD ⟨0, .data⟩ (by simp) rfl _ rfl) (fun a w _ hD => hD ⟨0, .data⟩ (by simp) rfl _ rfl), so_move rfl, so_mk hT (fun a w _ hD => hD ⟨2, .data⟩ (by simp) rfl _ rfl) (fun a w _ hD => hD ⟨2, .data⟩ (by simp) rfl _ rfl),
      so_move rfl, so_mk hT (fun a w _ hD => hD ⟨4, .data⟩ (by simp) rfl _ rfl) (fun a w _ hD => hD ⟨4, .data⟩ (by simp) rfl _ rfl), so_move rfl, so_mk hT (fun a w _ hD => hD ⟨6, .data⟩ (by simp) rfl _ rfl) (fun a w _ hD => hD ⟨6, .data⟩ (by simp) rfl _ rfl), ?_, so_al hT, trivial⟩
    intro a w' _ _ hD
    obtain ⟨c1, e1, _⟩ := hD ⟨1, .data⟩ (by simp) rfl _ rfl
    obtain ⟨c3, e3, _⟩ := hD ⟨3, .data⟩ (by simp) rfl _ rfl
    obtain ⟨c5, e5, _⟩ := hD ⟨5, .data⟩ (by simp) rfl _ rfl
    obtain ⟨c7, e7, _⟩ := hD ⟨7, .data⟩ (by simp) rfl _ rfl
    refine ⟨.agg #[slv c1 l.length, slv c3 l.length, slv c5 l.length, slv c7 l.length, I 0, .bool true], w', exec_build (pv := [(0, slv c1 l.length), (1, slv c3 l.length), (2, slv c5 l.length), (3, slv c7 l.length), (4, I 0), (5, .bool true)]) rfl (tab_at hT rfl) ?_ rfl, fun d hd g hg hgd => ?_, Bl.refl _, fun h => by cases h⟩
    · show [(0, valsOf a 13), (1, valsOf a 15), (2, valsOf a 17), (3, valsOf a 19), (4, I 0), (5, .bool true)] = _
      rw [e1, e3, e5, e7]
    · cases hd
      show g 20 = .agg ([g 13, g 15, g 17, g 19] ++ [I 0, .bool true]).toArray
      rw [hgd, hg 13 (by decide), hg 15 (by decide), hg 17 (by decide), hg 19 (by decide), e1, e3, e5, e7]; rfl
  intro w2 w3 g h2 hB3 hsp hge hdist
  obtain ⟨b1, e13, x1⟩ := hsp 1 _ rfl
  obtain ⟨b3, e15, x3⟩ := hsp 3 _ rfl
  obtain ⟨b5, e17, x5⟩ := hsp 5 _ rfl
  obtain ⟨b7, e19, x7⟩ := hsp 7 _ rfl
  obtain ⟨b4, e4, x4⟩ := hsp 9 _ rfl
  have e20 : g 20 = .agg #[slv b1 l.length, slv b3 l.length, slv b5 l.length, slv b7 l.length, I 0, .bool true] := by
    have : g 20 = .agg ([g 13, g 15, g 17, g 19] ++ [I 0, .bool true]).toArray := hsp 8 _ rfl
    rw [this, e13, e15, e17, e19]; rfl
  have f1 : fpV (g 13) = some b1 := by rw [e13]; rfl
  have f3 : fpV (g 15) = some b3 := by rw [e15]; rfl
  have f5 : fpV (g 17) = some b5 := by rw [e17]; rfl
  have f7 : fpV (g 19) = some b7 := by rw [e19]; rfl
  have f4 : fpV (g 4) = some b4 := by rw [e4]; rfl
  have d13 := hdist 1 3 _ _ _ _ 13 15 b1 b3 (by decide) rfl rfl rfl rfl rfl rfl rfl rfl f1 f3
  have d15 := hdist 1 5 _ _ _ _ 13 17 b1 b5 (by decide) rfl rfl rfl rfl rfl rfl rfl rfl f1 f5
  have d17 := hdist 1 7 _ _ _ _ 13 19 b1 b7 (by decide) rfl rfl rfl rfl rfl rfl rfl rfl f1 f7
  have d14 := hdist 1 9 _ _ _ _ 13 4 b1 b4 (by decide) rfl rfl rfl rfl rfl rfl rfl rfl f1 f4
  have d35 := hdist 3 5 _ _ _ _ 15 17 b3 b5 (by decide) rfl rfl rfl rfl rfl rfl rfl rfl f3 f5
  have d37 := hdist 3 7 _ _ _ _ 15 19 b3 b7 (by decide) rfl rfl rfl rfl rfl rfl rfl rfl f3 f7
  have d34 := hdist 3 9 _ _ _ _ 15 4 b3 b4 (by decide) rfl rfl rfl rfl rfl rfl rfl rfl f3 f4
  have d57 := hdist 5 7 _ _ _ _ 17 19 b5 b7 (by decide) rfl rfl rfl rfl rfl rfl rfl rfl f5 f7
  have d54 := hdist 5 9 _ _ _ _ 17 4 b5 b4 (by decide) rfl rfl rfl rfl rfl rfl rfl rfl f5 f4
  have d74 := hdist 7 9 _ _ _ _ 19 4 b7 b4 (by decide) rfl rfl rfl rfl rfl rfl rfl rfl f7 f4
  have g1 := hge 1 _ _ 13 b1 rfl rfl rfl rfl f1
  have g3 := hge 3 _ _ 15 b3 rfl rfl rfl rfl f3
  have g5 := hge 5 _ _ 17 b5 rfl rfl rfl rfl f5
  have g7 := hge 7 _ _ 19 b7 rfl rfl rfl rfl f7
  have g4 := hge 9 _ _ 4 b4 rfl rfl rfl rfl f4
  have l2 : b2 < w2.heap.size := (h2.box h1.box).lt
  refine ⟨[(4, .pointer (some ⟨b4, 0, none⟩)), (20, .agg #[slv b1 l.length, slv b3 l.length, slv b5 l.length, slv b7 l.length, I 0, .bool true]), (0, .slice a0 l.length cap0), (2, .pointer (some ⟨b2, 0, none⟩)), (3, I l.length)], ⟨congrArg some e4, congrArg some e20, rfl, rfl, rfl, trivial⟩, ?_⟩
  refine sta x4 (fun w4 h4 y4 => ?_) (hm := wrS (fun h => h))
  have hB2 : Bl w w2 := h1.bl.trans h2.bl
  have hB4 : Bl w w4 := Below.trans (hB2.trans hB3) (h4.below (Nat.le_trans hB2.size g4))
  rw [rep_ints] at x1 x3 x5 x7
  have m1 : b1 < w4.heap.size := by rw [h4.size]; exact x1.lt
  have m3 : b3 < w4.heap.size := by rw [h4.size]; exact x3.lt
  have m5 : b5 < w4.heap.size := by rw [h4.size]; exact x5.lt
  have m7 : b7 < w4.heap.size := by rw [h4.size]; exact x7.lt
  have m4 : b4 < w4.heap.size := y4.lt
  have m2 : b2 < w4.heap.size := by have := hB3.size; rw [h4.size]; omega
  have u1 := Nat.le_trans hB2.size g1
  have u3 := Nat.le_trans hB2.size g3
  have u5 := Nat.le_trans hB2.size g5
  have u7 := Nat.le_trans hB2.size g7
  have u4 := Nat.le_trans hB2.size g4
  have u2 : w.heap.size ≤ b2 := by have := h1.blk; omega
  have nd : [b1, b3, b5, b7, b4, b2].Nodup := by simp only [List.nodup_cons, List.mem_cons, List.mem_nil_iff, or_false, not_or]; refine ⟨⟨d13, d15, d17, d14, by omega⟩, ⟨d35, d37, d34, by omega⟩, ⟨d57, d54, by omega⟩, ⟨d74, by omega⟩, by omega, by simp⟩
  refine lpk l.length 23 [5] [(0, .slice a0 l.length cap0), (2, .pointer (some ⟨b2, 0, none⟩)), (3, I l.length), (4, .pointer (some ⟨b4, 0, none⟩)), (21, .slice a0 l.length cap0), (22, I l.length)]
    (fun k vals w' => ∃ a cap idx cO cN cD E D, vals = [.slice a idx.length cap] ∧ ShI (l.map (·.op)) l.length b1 b3 b5 b7 b4 b2 w4.heap.size w k a cap idx cO cN cD E D w') ?_ ?_
  · refine ⟨none, 0, [], (List.replicate l.length (0 : Int)).map I, (List.replicate l.length (0 : Int)).map I, (List.replicate l.length (0 : Int)).map I, List.replicate l.length 0, 0, rfl, Ow.nil _ _ _ _, ?_, ?_, ?_, ?_, ?_, by simp, by simp, Nat.le_refl _, rfl, Nat.le_refl _, hB4, Nat.le_refl _⟩
    rotate_left
    · simp
    · simp
    · simp
    · simp
    intro i b t cs hi
    rcases i with _ | _ | _ | _ | _ | _ | i
    · cases hi; exact h4.box x1 d14
    · cases hi; exact h4.box x3 d34
    · cases hi; exact h4.box x5 d54
    · cases hi; exact h4.box x7 d74
    · cases hi; exact y4
    · cases hi; exact h4.box (Bl.box hB3 (h2.box h1.box)) (by omega)
    · simp [shRows] at hi
  rintro k vals w5 hk ⟨a, cap, idx, cO, cN, cD, E, D, rfl, hI⟩ ih
  have ilen := hI.len
  by_cases hlt : k < l.length
  · refine brT ?_
    obtain ⟨x, bx, ox, _, hx, rfl, hSb, hAt, rfl⟩ := at_some (hS.bl hI.bl) hlt
    refine ix ?_
    refine lda hAt ?_
    refine al fun b7' w6 h6 => ?_
    refine sta h6.box (fun w7 h7 y7 => ?_)
    have hB7 : Bl w5 w7 := Eng.New.wr h6 h7
    refine dh (· = b4) [0, 1, 2, 3, 4, 5, 6, 7, 8, 9, 10, 11, 12, 13, 14, 15, 16, 17, 18, 19, 20, 21] fun w8 h8 => ?_
    have H8 := (hI.has.bl hB7).bl h8.bl
    have O8 := (hI.own.bl hB7).bl h8.bl
    refine ld ((H8 4 _ _ _ rfl).cell rfl) ?_ (hm := rfl)
    refine ld ((H8 4 _ _ _ rfl).cell rfl) ?_ (hm := rfl)
    refine ld ((H8 4 _ _ _ rfl).cell rfl) ?_ (hm := rfl)
    refine ld ((H8 4 _ _ _ rfl).cell rfl) ?_ (hm := rfl)
    have lO := hI.lO
    have lN := hI.lN
    have lD := hI.lD
    have lE := hI.lE
    refine ix ?_
    refine stx (H8 0 _ _ _ rfl) (fun w9 h9 y9 => ?_) (hm := wrS d14)
    have H9 := H8.wr nd 0 rfl h9 y9
    refine ix ?_
    refine stx (H9 1 _ _ _ rfl) (fun w10 h10 y10 => ?_) (ho := by rw [List.length_map]; omega) (hm := wrS d34)
    have H10 := H9.wr nd 1 rfl h10 y10
    refine ix ?_
    refine stx (H10 2 _ _ _ rfl) (fun w11 h11 y11 => ?_) (hm := wrS d54)
    have H11 := H10.wr nd 2 rfl h11 y11
    refine ix ?_
    refine stx (H11 3 _ _ _ rfl) (fun w12 h12 y12 => ?_) (hm := wrS d74)
    have H12 := H11.wr nd 3 rfl h12 y12
    rw [Nat.zero_add, Nat.mul_one] at H12
    have eE : (E.map I).set k (I (-1)) = (E.set k (-1)).map I := by rw [List.map_set]
    rw [eE] at H12
    have O12 := ((((O8.wr h9 (fun g hg => by have := (O8.lt hg).1; omega)).wr h10 (fun g hg => by have := (O8.lt hg).1; omega)).wr h11 (fun g hg => by have := (O8.lt hg).1; omega)).wr h12 (fun g hg => by have := (O8.lt hg).1; omega))
    have hB12 : Bl w w12 := Below.trans (Below.trans (Below.trans (Below.trans ((hI.bl.trans hB7).trans h8.bl) (h9.below u1)) (h10.below u3)) (h11.below u5)) (h12.below u7)
    have s12 : w4.heap.size ≤ w12.heap.size := by have := hI.sz; have := hB7.size; have := h8.bl.size; rw [h12.size, h11.size, h10.size, h9.size]; omega
    have v7 : w4.heap.size ≤ b7' := by have := hI.sz; have := h6.blk; omega
    have y12 : Box w12 b7' _ _ := h12.box (h11.box (h10.box (h9.box (h8.box y7) (by omega)) (by omega)) (by omega)) (by omega)
    have kn : k ∉ idx := fun h => Nat.lt_irrefl _ (hI.lt k h)
    have hop : (l.map (·.op))[k]? = some x.op := by rw [List.getElem?_map, hx]; rfl
    have hopD : (l.map (·.op)).getD k 0 = x.op := by rw [List.getD_eq_getElem?_getD, hop]; rfl
    have hrun : runB ((l.map (·.op)).take k) [] 0 = some (stk (l.map (·.op)) (E.set k (-1)) idx, D) := by rw [stk_set kn]; exact hI.run
    have hst := runB_step hop hrun
    have lE1 : (E.set k (-1)).length = l.length := by rw [List.length_set]; exact lE
    have gE1 : (E.set k (-1)).getD k (-1) = -1 := set_getD (by omega)
    have hdb := hI.db
    refine br (fun h0 => ?_) (fun h0 => ?_)
    · have h0 := of_decide_eq_true h0
      obtain ⟨o, ho⟩ := some_of_lt (l := idx) (k := idx.length - 1) (by omega)
      rcases O12.shape with ⟨_, h00, _⟩ | ⟨g, cur, rfl, hg, _⟩
      · omega
      refine dh (fun i => i = b4 ∨ i = g) [0, 1, 2, 3, 4, 5, 6, 7, 8, 9, 10] fun w13 h13 => ?_
      have H13 := H12.bl h13.bl
      have O13 := O12.bl h13.bl
      have hw1 : IntKind.i64.wrap ((idx.length : Int) - 1) = ((idx.length - 1 : Nat) : Int) := by rw [wrap_fit (by omega) (by omega)]; omega
      refine ld ((H13 4 _ _ _ rfl).cell rfl) ?_ (hm := (Or.inl rfl : b4 = b4 ∨ b4 = g))
      refine ix (hij := hw1) ?_
      refine ld (b := g) (o := 0 + (idx.length - 1) * 1) (v := I o) (by simpa using owp_cell O13 ho) ?_ (hm := (Or.inr rfl : g = b4 ∨ g = g))
      refine ix ?_
      refine stx (H13 0 _ _ _ rfl) (fun w14 h14 y14 => ?_) (ho := by simp; omega) (hm := wrS (by rintro (e | e) <;> omega))
      have H14 := H13.wr nd 0 rfl h14 y14
      rw [Nat.zero_add, Nat.mul_one] at H14
      have O14 := O13.wr h14 (fun g hg => by have := (O13.lt hg).1; omega)
      have B14 : Bl w w14 := Below.trans (hB12.trans h13.bl) (h14.below u1)
      have s14 : w4.heap.size ≤ w14.heap.size := by have := h13.bl.size; rw [h14.size]; omega
      have Y14 := h14.box (h13.box y12) (by omega)
      have lO14 : ((cO.set k (I (-1))).set k (I o)).length = l.length := by simp [lO]
      have cO14 : ∀ o', idx[idx.length - 1]? = some o' → ((cO.set k (I (-1))).set k (I o))[k]? = some (I o') := fun o' h' => by rw [ho] at h'; obtain rfl := Option.some.inj h'; rw [List.getElem?_set_self (by simp; omega)]
      refine ld (Y14.cell rfl) ?_
      refine cl (v_Opens x.op _) ?_
      rintro _ _ ⟨rfl, rfl⟩
      refine br (fun h1 => ?_) (fun h1 => ?_)
      · -- an opening
        refine bs fun b15 w15 h15 => ?_
        have H15 := H14.bl h15.bl
        have O15 := O14.bl h15.bl
        refine apl (l1 := [k]) O15 (.inr ⟨b15, 0, rfl, h15.box.at⟩) (by have := h15.bl.size; omega) (fun a' cap' w16 O16 hA _ => ?_)
        have H16 : Has w16 _ := H15.ap hA (fun i b t cs hi e => by
          have := (O15.lt e).1
          have : b ∈ [b1, b3, b5, b7, b4, b2] := (List.mem_map (f := fun e : Nat × TypeId × List Value => e.1)).2 ⟨(b, t, cs), List.mem_of_getElem? hi, rfl⟩
          simp only [List.mem_cons, List.mem_nil_iff, or_false] at this
          omega)
        have B16 : Bl w w16 := Below.trans (B14.trans h15.bl) (hA.below (by have := (B14.trans h15.bl).size; omega) (fun g hg => by have := (O15.lt hg).1; omega))
        refine ld ((H16 4 _ _ _ rfl).cell rfl) ?_
        refine mx ?_
        rw [max_nat]
        refine st (H16 4 _ _ _ rfl) (fun w17 h17 y17 => ?_)
        have H17 := H16.wr nd 4 rfl h17 y17
        have O17 := O16.wr h17 (fun g hg => by have := (O16.lt hg).1; omega)
        refine ih hlt ⟨a', cap', idx ++ [k], _, _, _, E.set k (-1), max D (idx ++ [k]).length, rfl, O17, H17, lO14, by simp [lN], by simp [lD], lE1, fun o ho => ?_, ?_, by simp; omega, ?_, ?_, Below.trans B16 (h17.below u4), ?_⟩
        · rcases List.mem_append.1 ho with h | h
          · have := hI.lt o h; omega
          · simp at h; omega
        · rw [List.nodup_append]
          exact ⟨hI.nd, by simp, fun a ha b hb e => by simp at hb; subst hb; subst e; exact kn ha⟩
        · rw [hst, stepB_open h1, stk_push, hopD, gE1, stk_length, List.length_append]; rfl
        · simp; omega
        · have := hA.size; have := h15.bl.size; rw [h17.size]; omega
      refine ld (Y14.cell rfl) ?_
      refine ldg (fun _ => Y14.cell rfl) ?_
      refine br (t := decide (x.op = 34) || decide (x.op = 35)) (fun h2 => ?_) (fun h2 => ?_)
      · have h34 : x.op = 34 ∨ x.op = 35 := by simpa using h2
        refine br (fun h3 => ?_) (fun h3 => ?_)
        · have h3 := of_decide_eq_true h3
          obtain rfl : idx = [] := List.eq_nil_of_length_eq_zero (by omega)
          refine st (H14 4 _ _ _ rfl) (fun w15 h15 y15 => ?_)
          have H15 := H14.wr nd 4 rfl h15 y15
          refine lda (H15 4 _ _ _ rfl).at ?_
          refine sta (H15 5 _ _ _ rfl) (fun w16 h16 y16 => ?_)
          refine rtc y16.at ⟨⟨slv b1 l.length, slv b3 l.length, slv b5 l.length, slv b7 l.length, I D, ?_⟩, Below.trans (Below.trans B14 (h15.below u4)) (h16.below u2)⟩
          rw [okB_fail (k := k + 1) (by rw [hst]; exact stepB_top h34)]
        have h3 := of_decide_eq_false h3
        obtain ⟨idx0, o2, rfl⟩ : ∃ idx0 o2, idx = idx0 ++ [o2] := by
          rcases List.eq_nil_or_concat idx with h | ⟨i0, o2, h⟩
          · rw [h] at h3; simp at h3
          · exact ⟨i0, o2, by rw [h, List.concat_eq_append]⟩
        have e1 : (idx0 ++ [o2]).length = idx0.length + 1 := by simp
        have hw2 : IntKind.i64.wrap (((idx0 ++ [o2]).length : Int) - 1) = (idx0.length : Nat) := by rw [wrap_fit (by omega) (by omega)]; omega
        have ok : o2 < k := hI.lt o2 (by simp)
        have on : o2 < l.length := by omega
        have ond : o2 ∉ idx0 := fun h => by
          have := (List.nodup_append.1 hI.nd).2.2 o2 h o2 (by simp)
          exact this rfl
        refine ld ((H14 4 _ _ _ rfl).cell rfl) ?_
        refine ix ?_
        refine stx (H14 3 _ _ _ rfl) (fun w15 h15 y15 => ?_) (ho := by simp; omega)
        have H15 := H14.wr nd 3 rfl h15 y15
        have O15 := O14.wr h15 (fun g hg => by have := (O14.lt hg).1; omega)
        have B15 : Bl w w15 := Below.trans B14 (h15.below u7)
        have Y15 := h15.box Y14 (by omega)
        refine ld ((H15 4 _ _ _ rfl).cell rfl) ?_
        refine ix ?_
        refine ld (b := b1) (o := 0 + k * 1) (v := I o2) ?_ ?_
        · rw [Nat.zero_add, Nat.mul_one]; exact (H15 0 _ _ _ rfl).cell (cO14 o2 (by simp))
        obtain ⟨y, b', o', _, hy, ey, _, hAty, rfl⟩ := at_some (hS.bl B15) (i := o2) (by omega)
        simp only [Option.some.injEq, Addr.mk.injEq, and_true] at ey
        obtain ⟨rfl, rfl⟩ := ey
        have hyD : (l.map (·.op)).getD o2 0 = y.op := by rw [List.getD_eq_getElem?_getD, List.getElem?_map, hy]; rfl
        obtain ⟨e, he⟩ := some_of_lt (l := E.set k (-1)) (k := o2) (by omega)
        have hEo : ((E.set k (-1)).map I)[o2]? = some (I e) := by rw [List.getElem?_map, he]; rfl
        have heD : (E.set k (-1)).getD o2 (-1) = e := by rw [List.getD_eq_getElem?_getD, he]; rfl
        have hst2 : runB ((l.map (·.op)).take (k + 1)) [] 0 = stepB ((y.op, decide (0 ≤ e)) :: stk (l.map (·.op)) (E.set k (-1)) idx0) D x.op := by rw [hst, stk_push, hyD, heD]
        have fail : stepB ((y.op, decide (0 ≤ e)) :: stk (l.map (·.op)) (E.set k (-1)) idx0) D x.op = none → okB (l.map (·.op)) = false := fun h => okB_fail (k := k + 1) (by rw [hst2]; exact h)
        refine ix ?_
        refine ld (hAty 0 _ rfl) ?_
        refine ixg (fun _ => on) ?_
        refine ldg (fun _ => hAty 0 _ rfl) ?_
        refine ld (Y15.cell rfl) ?_
        refine br (fun h4 => ?_) (fun h4 => ?_)
        · have h4 := of_decide_eq_true h4
          refine ldg (fun _ => (H15 4 _ _ _ rfl).cell rfl) ?_
          refine ixg (fun _ => on) ?_
          refine ldg (b := b3) (o := 0 + o2 * 1) (v := I e) (fun _ => ?_) ?_
          · rw [Nat.zero_add, Nat.mul_one]; exact (H15 1 _ _ _ rfl).cell hEo
          refine br (t := (!(decide (y.op = 29) || decide (y.op = 33))) || decide (0 ≤ e)) (fun h5 => ?_) (fun h5 => ?_)
          · refine st (H15 4 _ _ _ rfl) (fun w16 h16 y16 => ?_)
            have H16 := H15.wr nd 4 rfl h16 y16
            refine lda (H16 4 _ _ _ rfl).at ?_
            refine sta (H16 5 _ _ _ rfl) (fun w17 h17 y17 => ?_)
            refine rtc y17.at ⟨⟨slv b1 l.length, slv b3 l.length, slv b5 l.length, slv b7 l.length, I D, ?_⟩, Below.trans (Below.trans B15 (h16.below u4)) (h17.below u2)⟩
            rw [fail]
            rw [h4, stepB_else, if_neg]
            rintro ⟨h6, h7⟩
            simp only [Bool.or_eq_true, Bool.not_eq_true', Bool.or_eq_false_iff, decide_eq_true_eq, decide_eq_false_iff_not] at h5 h6
            omega
          · simp only [Bool.or_eq_false_iff, Bool.not_eq_false', Bool.or_eq_true, decide_eq_true_eq, decide_eq_false_iff_not] at h5
            refine ld ((H15 4 _ _ _ rfl).cell rfl) ?_
            refine ix ?_
            refine stx (H15 1 _ _ _ rfl) (fun w16 h16 y16 => ?_) (ho := by simp; omega)
            have H16 := H15.wr nd 1 rfl h16 y16
            have O16 := O15.wr h16 (fun g hg => by have := (O15.lt hg).1; omega)
            have eE2 : ((E.set k (-1)).map I).set (0 + o2 * 1) (I k) = ((E.set k (-1)).set o2 k).map I := by rw [Nat.zero_add, Nat.mul_one, List.map_set (l := E.set k (-1))]
            rw [eE2] at H16
            refine ih hlt ⟨_, _, idx0 ++ [o2], _, _, _, (E.set k (-1)).set o2 k, D, rfl, O16, H16, lO14, by simp [lN], by simp [lD], by simp [lE], fun o ho => ?_, hI.nd, by omega, ?_, by omega, Below.trans B15 (h16.below u3), ?_⟩
            · have := hI.lt o ho; omega
            · rw [hst2, h4, stepB_else, if_pos ⟨decide_eq_false h5.2, h5.1⟩, stk_push, stk_set ond, hyD, set_getD (by rw [List.length_set]; omega), decide_eq_true (by omega)]
            · rw [h16.size, h15.size]; exact s14
        · have h4 := of_decide_eq_false h4
          have h35 : x.op = 35 := by omega
          refine ix ?_
          refine ld (hAty 0 _ rfl) ?_
          refine ldg (fun _ => (H15 4 _ _ _ rfl).cell rfl) ?_
          refine ixg (fun _ => on) ?_
          refine ldg (b := b3) (o := 0 + o2 * 1) (v := I e) (fun _ => ?_) ?_
          · rw [Nat.zero_add, Nat.mul_one]; exact (H15 1 _ _ _ rfl).cell hEo
          refine br (t := decide (y.op = 33) && decide (e < 0)) (fun h5 => ?_) (fun h5 => ?_)
          · simp only [Bool.and_eq_true, decide_eq_true_eq] at h5
            refine st (H15 4 _ _ _ rfl) (fun w16 h16 y16 => ?_)
            have H16 := H15.wr nd 4 rfl h16 y16
            refine lda (H16 4 _ _ _ rfl).at ?_
            refine sta (H16 5 _ _ _ rfl) (fun w17 h17 y17 => ?_)
            refine rtc y17.at ⟨⟨slv b1 l.length, slv b3 l.length, slv b5 l.length, slv b7 l.length, I D, ?_⟩, Below.trans (Below.trans B15 (h16.below u4)) (h17.below u2)⟩
            rw [fail]
            rw [h35, stepB_end, if_pos ⟨h5.1, decide_eq_false (by omega)⟩]
          · simp only [Bool.and_eq_false_iff, decide_eq_false_iff_not] at h5
            refine ld ((H15 4 _ _ _ rfl).cell rfl) ?_
            refine ix ?_
            refine stx (H15 2 _ _ _ rfl) (fun w16 h16 y16 => ?_) (ho := by simp; omega)
            have H16 := H15.wr nd 2 rfl h16 y16
            have O16 := O15.wr h16 (fun g hg => by have := (O15.lt hg).1; omega)
            have hcap : (idx0 ++ [o2]).length ≤ cap := by
              rcases O16.shape with ⟨_, h00, _⟩ | ⟨_, _, _, _, _, hc, _⟩
              · omega
              · exact hc
            refine sl 0 idx0.length ?_ (h2 := by exact ⟨.i64, vi hw2⟩)
            refine ih hlt ⟨_, cap, idx0, _, _, _, E.set k (-1), D, lst1 ?_, owp_pop O16, H16, lO14, by simp [lN], by simp [lD], lE1, fun o ho => ?_, (List.nodup_append.1 hI.nd).1, by omega, ?_, by omega, Below.trans B15 (h16.below u5), ?_⟩
            · rw [if_neg (by omega), cut_addr O16.shape]; rfl
            · have := hI.lt o (List.mem_append_left _ ho); omega
            · rw [hst2, h35, stepB_end, if_neg (fun ⟨h6, h7⟩ => by have := of_decide_eq_false h7; omega)]
            · rw [h16.size, h15.size]; exact s14
      · simp only [Bool.or_eq_false_iff, decide_eq_false_iff_not] at h2
        refine ih hlt ⟨_, _, idx, _, _, _, E.set k (-1), D, rfl, O14, H14, lO14, by simp [lN], by simp [lD], lE1, fun o ho => ?_, hI.nd, by omega, ?_, by omega, B14, s14⟩
        · have := hI.lt o ho; omega
        · rw [hst, stepB_plain h1 h2.1 h2.2]
    · have h0 := of_decide_eq_false h0
      have H14 := H12
      have O14 := O12
      have B14 := hB12
      have s14 := s12
      have Y14 := y12
      have lO14 : (cO.set k (I (-1))).length = l.length := by simp [lO]
      have cO14 : ∀ o, idx[idx.length - 1]? = some o → (cO.set k (I (-1)))[k]? = some (I o) := fun o' ho' => by have := (List.getElem?_eq_some_iff.1 ho').1; omega
      refine ld (Y14.cell rfl) ?_
      refine cl (v_Opens x.op _) ?_
      rintro _ _ ⟨rfl, rfl⟩
      refine br (fun h1 => ?_) (fun h1 => ?_)
      · -- an opening
        refine bs fun b15 w15 h15 => ?_
        have H15 := H14.bl h15.bl
        have O15 := O14.bl h15.bl
        refine apl (l1 := [k]) O15 (.inr ⟨b15, 0, rfl, h15.box.at⟩) (by have := h15.bl.size; omega) (fun a' cap' w16 O16 hA _ => ?_)
        have H16 : Has w16 _ := H15.ap hA (fun i b t cs hi e => by
          have := (O15.lt e).1
          have : b ∈ [b1, b3, b5, b7, b4, b2] := (List.mem_map (f := fun e : Nat × TypeId × List Value => e.1)).2 ⟨(b, t, cs), List.mem_of_getElem? hi, rfl⟩
          simp only [List.mem_cons, List.mem_nil_iff, or_false] at this
          omega)
        have B16 : Bl w w16 := Below.trans (B14.trans h15.bl) (hA.below (by have := (B14.trans h15.bl).size; omega) (fun g hg => by have := (O15.lt hg).1; omega))
        refine ld ((H16 4 _ _ _ rfl).cell rfl) ?_
        refine mx ?_
        rw [max_nat]
        refine st (H16 4 _ _ _ rfl) (fun w17 h17 y17 => ?_)
        have H17 := H16.wr nd 4 rfl h17 y17
        have O17 := O16.wr h17 (fun g hg => by have := (O16.lt hg).1; omega)
        refine ih hlt ⟨a', cap', idx ++ [k], _, _, _, E.set k (-1), max D (idx ++ [k]).length, rfl, O17, H17, lO14, by simp [lN], by simp [lD], lE1, fun o ho => ?_, ?_, by simp; omega, ?_, ?_, Below.trans B16 (h17.below u4), ?_⟩
        · rcases List.mem_append.1 ho with h | h
          · have := hI.lt o h; omega
          · simp at h; omega
        · rw [List.nodup_append]
          exact ⟨hI.nd, by simp, fun a ha b hb e => by simp at hb; subst hb; subst e; exact kn ha⟩
        · rw [hst, stepB_open h1, stk_push, hopD, gE1, stk_length, List.length_append]; rfl
        · simp; omega
        · have := hA.size; have := h15.bl.size; rw [h17.size]; omega
      refine ld (Y14.cell rfl) ?_
      refine ldg (fun _ => Y14.cell rfl) ?_
      refine br (t := decide (x.op = 34) || decide (x.op = 35)) (fun h2 => ?_) (fun h2 => ?_)
      · have h34 : x.op = 34 ∨ x.op = 35 := by simpa using h2
        refine br (fun h3 => ?_) (fun h3 => ?_)
        · have h3 := of_decide_eq_true h3
          obtain rfl : idx = [] := List.eq_nil_of_length_eq_zero (by omega)
          refine st (H14 4 _ _ _ rfl) (fun w15 h15 y15 => ?_)
          have H15 := H14.wr nd 4 rfl h15 y15
          refine lda (H15 4 _ _ _ rfl).at ?_
          refine sta (H15 5 _ _ _ rfl) (fun w16 h16 y16 => ?_)
          refine rtc y16.at ⟨⟨slv b1 l.length, slv b3 l.length, slv b5 l.length, slv b7 l.length, I D, ?_⟩, Below.trans (Below.trans B14 (h15.below u4)) (h16.below u2)⟩
          rw [okB_fail (k := k + 1) (by rw [hst]; exact stepB_top h34)]
        have h3 := of_decide_eq_false h3
        obtain ⟨idx0, o2, rfl⟩ : ∃ idx0 o2, idx = idx0 ++ [o2] := by
          rcases List.eq_nil_or_concat idx with h | ⟨i0, o2, h⟩
          · rw [h] at h3; simp at h3
          · exact ⟨i0, o2, by rw [h, List.concat_eq_append]⟩
        have e1 : (idx0 ++ [o2]).length = idx0.length + 1 := by simp
        have hw2 : IntKind.i64.wrap (((idx0 ++ [o2]).length : Int) - 1) = (idx0.length : Nat) := by rw [wrap_fit (by omega) (by omega)]; omega
        have ok : o2 < k := hI.lt o2 (by simp)
        have on : o2 < l.length := by omega
        have ond : o2 ∉ idx0 := fun h => by
          have := (List.nodup_append.1 hI.nd).2.2 o2 h o2 (by simp)
          exact this rfl
        refine ld ((H14 4 _ _ _ rfl).cell rfl) ?_
        refine ix ?_
        refine stx (H14 3 _ _ _ rfl) (fun w15 h15 y15 => ?_) (ho := by simp; omega)
        have H15 := H14.wr nd 3 rfl h15 y15
        have O15 := O14.wr h15 (fun g hg => by have := (O14.lt hg).1; omega)
        have B15 : Bl w w15 := Below.trans B14 (h15.below u7)
        have Y15 := h15.box Y14 (by omega)
        refine ld ((H15 4 _ _ _ rfl).cell rfl) ?_
        refine ix ?_
        refine ld (b := b1) (o := 0 + k * 1) (v := I o2) ?_ ?_
        · rw [Nat.zero_add, Nat.mul_one]; exact (H15 0 _ _ _ rfl).cell (cO14 o2 (by simp))
        obtain ⟨y, b', o', _, hy, ey, _, hAty, rfl⟩ := at_some (hS.bl B15) (i := o2) (by omega)
        simp only [Option.some.injEq, Addr.mk.injEq, and_true] at ey
        obtain ⟨rfl, rfl⟩ := ey
        have hyD : (l.map (·.op)).getD o2 0 = y.op := by rw [List.getD_eq_getElem?_getD, List.getElem?_map, hy]; rfl
        obtain ⟨e, he⟩ := some_of_lt (l := E.set k (-1)) (k := o2) (by omega)
        have hEo : ((E.set k (-1)).map I)[o2]? = some (I e) := by rw [List.getElem?_map, he]; rfl
        have heD : (E.set k (-1)).getD o2 (-1) = e := by rw [List.getD_eq_getElem?_getD, he]; rfl
        have hst2 : runB ((l.map (·.op)).take (k + 1)) [] 0 = stepB ((y.op, decide (0 ≤ e)) :: stk (l.map (·.op)) (E.set k (-1)) idx0) D x.op := by rw [hst, stk_push, hyD, heD]
        have fail : stepB ((y.op, decide (0 ≤ e)) :: stk (l.map (·.op)) (E.set k (-1)) idx0) D x.op = none → okB (l.map (·.op)) = false := fun h => okB_fail (k := k + 1) (by rw [hst2]; exact h)
        refine ix ?_
        refine ld (hAty 0 _ rfl) ?_
        refine ixg (fun _ => on) ?_
        refine ldg (fun _ => hAty 0 _ rfl) ?_
        refine ld (Y15.cell rfl) ?_
        refine br (fun h4 => ?_) (fun h4 => ?_)
        · have h4 := of_decide_eq_true h4
          refine ldg (fun _ => (H15 4 _ _ _ rfl).cell rfl) ?_
          refine ixg (fun _ => on) ?_
          refine ldg (b := b3) (o := 0 + o2 * 1) (v := I e) (fun _ => ?_) ?_
          · rw [Nat.zero_add, Nat.mul_one]; exact (H15 1 _ _ _ rfl).cell hEo
          refine br (t := (!(decide (y.op = 29) || decide (y.op = 33))) || decide (0 ≤ e)) (fun h5 => ?_) (fun h5 => ?_)
          · refine st (H15 4 _ _ _ rfl) (fun w16 h16 y16 => ?_)
            have H16 := H15.wr nd 4 rfl h16 y16
            refine lda (H16 4 _ _ _ rfl).at ?_
            refine sta (H16 5 _ _ _ rfl) (fun w17 h17 y17 => ?_)
            refine rtc y17.at ⟨⟨slv b1 l.length, slv b3 l.length, slv b5 l.length, slv b7 l.length, I D, ?_⟩, Below.trans (Below.trans B15 (h16.below u4)) (h17.below u2)⟩
            rw [fail]
            rw [h4, stepB_else, if_neg]
            rintro ⟨h6, h7⟩
            simp only [Bool.or_eq_true, Bool.not_eq_true', Bool.or_eq_false_iff, decide_eq_true_eq, decide_eq_false_iff_not] at h5 h6
            omega
          · simp only [Bool.or_eq_false_iff, Bool.not_eq_false', Bool.or_eq_true, decide_eq_true_eq, decide_eq_false_iff_not] at h5
            refine ld ((H15 4 _ _ _ rfl).cell rfl) ?_
            refine ix ?_
            refine stx (H15 1 _ _ _ rfl) (fun w16 h16 y16 => ?_) (ho := by simp; omega)
            have H16 := H15.wr nd 1 rfl h16 y16
            have O16 := O15.wr h16 (fun g hg => by have := (O15.lt hg).1; omega)
            have eE2 : ((E.set k (-1)).map I).set (0 + o2 * 1) (I k) = ((E.set k (-1)).set o2 k).map I := by rw [Nat.zero_add, Nat.mul_one, List.map_set (l := E.set k (-1))]
            rw [eE2] at H16
            refine ih hlt ⟨_, _, idx0 ++ [o2], _, _, _, (E.set k (-1)).set o2 k, D, rfl, O16, H16, lO14, by simp [lN], by simp [lD], by simp [lE], fun o ho => ?_, hI.nd, by omega, ?_, by omega, Below.trans B15 (h16.below u3), ?_⟩
            · have := hI.lt o ho; omega
            · rw [hst2, h4, stepB_else, if_pos ⟨decide_eq_false h5.2, h5.1⟩, stk_push, stk_set ond, hyD, set_getD (by rw [List.length_set]; omega), decide_eq_true (by omega)]
            · rw [h16.size, h15.size]; exact s14
        · have h4 := of_decide_eq_false h4
          have h35 : x.op = 35 := by omega
          refine ix ?_
          refine ld (hAty 0 _ rfl) ?_
          refine ldg (fun _ => (H15 4 _ _ _ rfl).cell rfl) ?_
          refine ixg (fun _ => on) ?_
          refine ldg (b := b3) (o := 0 + o2 * 1) (v := I e) (fun _ => ?_) ?_
          · rw [Nat.zero_add, Nat.mul_one]; exact (H15 1 _ _ _ rfl).cell hEo
          refine br (t := decide (y.op = 33) && decide (e < 0)) (fun h5 => ?_) (fun h5 => ?_)
          · simp only [Bool.and_eq_true, decide_eq_true_eq] at h5
            refine st (H15 4 _ _ _ rfl) (fun w16 h16 y16 => ?_)
            have H16 := H15.wr nd 4 rfl h16 y16
            refine lda (H16 4 _ _ _ rfl).at ?_
            refine sta (H16 5 _ _ _ rfl) (fun w17 h17 y17 => ?_)
            refine rtc y17.at ⟨⟨slv b1 l.length, slv b3 l.length, slv b5 l.length, slv b7 l.length, I D, ?_⟩, Below.trans (Below.trans B15 (h16.below u4)) (h17.below u2)⟩
            rw [fail]
            rw [h35, stepB_end, if_pos ⟨h5.1, decide_eq_false (by omega)⟩]
          · simp only [Bool.and_eq_false_iff, decide_eq_false_iff_not] at h5
            refine ld ((H15 4 _ _ _ rfl).cell rfl) ?_
            refine ix ?_
            refine stx (H15 2 _ _ _ rfl) (fun w16 h16 y16 => ?_) (ho := by simp; omega)
            have H16 := H15.wr nd 2 rfl h16 y16
            have O16 := O15.wr h16 (fun g hg => by have := (O15.lt hg).1; omega)
            have hcap : (idx0 ++ [o2]).length ≤ cap := by
              rcases O16.shape with ⟨_, h00, _⟩ | ⟨_, _, _, _, _, hc, _⟩
              · omega
              · exact hc
            refine sl 0 idx0.length ?_ (h2 := by exact ⟨.i64, vi hw2⟩)
            refine ih hlt ⟨_, cap, idx0, _, _, _, E.set k (-1), D, lst1 ?_, owp_pop O16, H16, lO14, by simp [lN], by simp [lD], lE1, fun o ho => ?_, (List.nodup_append.1 hI.nd).1, by omega, ?_, by omega, Below.trans B15 (h16.below u5), ?_⟩
            · rw [if_neg (by omega), cut_addr O16.shape]; rfl
            · have := hI.lt o (List.mem_append_left _ ho); omega
            · rw [hst2, h35, stepB_end, if_neg (fun ⟨h6, h7⟩ => by have := of_decide_eq_false h7; omega)]
            · rw [h16.size, h15.size]; exact s14
      · simp only [Bool.or_eq_false_iff, decide_eq_false_iff_not] at h2
        refine ih hlt ⟨_, _, idx, _, _, _, E.set k (-1), D, rfl, O14, H14, lO14, by simp [lN], by simp [lD], lE1, fun o ho => ?_, hI.nd, by omega, ?_, by omega, B14, s14⟩
        · have := hI.lt o ho; omega
        · rw [hst, stepB_plain h1 h2.1 h2.2]
  refine brF ?_
  obtain rfl : k = l.length := by omega
  have H := hI.has
  have hrun := hI.run
  rw [List.take_of_length_le (by simp)] at hrun
  refine ldg (fun _ => (H 4 _ _ _ rfl).cell rfl) ?_
  refine st (H 4 _ _ _ rfl) (fun w6 h6 y6 => ?_)
  have H6 := H.wr nd 4 rfl h6 y6
  refine lda (H6 4 _ _ _ rfl).at ?_
  refine sta (H6 5 _ _ _ rfl) (fun w7 h7 y7 => ?_)
  refine rtc y7.at ⟨⟨slv b1 l.length, slv b3 l.length, slv b5 l.length, slv b7 l.length, I D, ?_⟩, Below.trans (Below.trans hI.bl (h6.below u4)) (h7.below u2)⟩
  have : okB (l.map (·.op)) = (decide ((idx.length : Int) = 0) && decide ((D : Int) ≤ 6)) := by
    unfold okB
    rw [hrun]
    cases idx with
    | nil =>
      show decide (D ≤ 6) = (true && decide ((D : Int) ≤ 6))
      rw [Bool.true_and]
      by_cases h : D ≤ 6
      · rw [decide_eq_true h, decide_eq_true (by omega)]
      · rw [decide_eq_false h, decide_eq_false (by omega)]
    | cons i0 idx => 
      have : ((i0 :: idx).length : Int) ≠ 0 := by simp; omega
      rw [decide_eq_false this]
      have h2 : stk (l.map (·.op)) E (i0 :: idx) ≠ [] := by simp [stk]
      cases hs : stk (l.map (·.op)) E (i0 :: idx) with
      | nil => exact absurd hs h2
      | cons => rfl
  rw [this]
/-- the program's word on code -/
theorem u_codeCheck (l : List Ins) (a : Option Addr) (cap : Nat) (p : Bool) (S : Nat → Prop) (w : World) (hS : Sl eIns S w a l) : Ret Tryz.prog 55 #[.slice a l.length cap, .bool p] w fun v w' => v = I (codeE l p) ∧ Bl w w' := by
  have hbig := hS.big
  refine entr (vs := [.slice a l.length cap, .bool p]) [0, 1, 3, 4, 5, 9, 13] tabok Tryz.func55 (by kernel_rfl) ?_
  refine bx (cs := [.bool p]) fun b w1 h1 => ?_
  refine br (fun h => ?_) (fun h => ?_)
  · have h := of_decide_eq_true h
    exact rt1 ⟨vi (by unfold codeE; rw [if_pos (by omega)]), h1.bl⟩
  have h120 := of_decide_eq_false h
  have hS1 := hS.bl h1.bl
  refine cl (ContainsFunc_ins l _ cap 128 [.pointer (some ⟨b, 0, none⟩)] (fun i => !validI i p) S w1 hS1 (fun x cs hx w2 hB2 hr => ?_)) ?_
  · obtain rfl : cs = [I x.op, I x.a, I x.b] := hr
    refine entr (vs := [.agg #[I x.op, I x.a, I x.b], .pointer (some ⟨b, 0, none⟩)]) [0, 1, 2, 3] tabok Tryz.func128 (by kernel_rfl) ?_
    refine bx (cs := [I x.op, I x.a, I x.b]) fun b3 w3 h3 => ?_
    refine lda h3.box.at ?_
    refine ld ((Bl.box h3.bl (Bl.box hB2 h1.box)).cell rfl) ?_
    refine cl (w_Valid x p _) ?_
    rintro _ w4 ⟨rfl, hB4⟩
    exact rt1 ⟨rfl, h3.bl.trans hB4⟩
  rintro _ w2 ⟨rfl, hB2⟩
  refine br (t := l.any fun i => !validI i p) (fun h => ?_) (fun h => ?_)
  · refine rt1 ⟨vi ?_, h1.bl.trans hB2⟩
    unfold codeE
    obtain ⟨x, hx, hv⟩ := List.any_eq_true.1 h
    rw [if_neg (by omega), if_neg (fun ha => by have := List.all_eq_true.1 ha x hx; rw [this] at hv; cases hv)]
  have hall : (l.all fun i => validI i p) = true := List.all_eq_true.2 fun x hx => by have := List.any_eq_false.1 h x hx; simpa using this
  have hc : codeE l p = if okB (l.map (·.op)) = true then 0 else 7 := by unfold codeE; rw [if_neg (by omega), if_pos hall]
  refine cl (u_shapeOf l _ cap S _ (hS1.bl hB2)) ?_
  rintro _ w3 ⟨⟨c0, c1, c2, c3, c4, rfl⟩, hB3⟩
  refine fd 5 ?_
  refine br (t := !okB (l.map (·.op))) (fun h => ?_) (fun h => ?_)
  · refine rt1 ⟨vi ?_, (h1.bl.trans hB2).trans hB3⟩
    rw [hc, if_neg (by simpa using h)]
  · refine rt1 ⟨vi ?_, (h1.bl.trans hB2).trans hB3⟩
    rw [hc, if_pos (by simpa using h)]
end Go.Proofs.YtopjmiklpnejmaaGreatDoor
