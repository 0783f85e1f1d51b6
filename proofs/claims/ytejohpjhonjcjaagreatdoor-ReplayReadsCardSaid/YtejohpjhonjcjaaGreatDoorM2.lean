import Derived.Test.YtejohpjhonjcjaaGreatDoorM1
import Derived.Laws.StructEq
import Derived.Lib.ItoaNum
import Derived.Lib.AtoiAllCases
import Derived.Lib.Join
import Derived.Lib.SplitLaws
import Derived.Lib.IndexBytes
import Derived.Lib.Split
import Derived.Lib.IndexMore
import Derived.Test.YtejohpjhonjcjaaGreatDoorShelf
import Derived.Lib.SmallJoins
import Derived.Lib.ItoaLen
import Derived.Lib.AppendIntMem
/- Walks: the first entry at which two lists differ. -/
namespace Go.Proofs.YtejohpjhonjcjaaGreatDoor
open Eng Go.RowKit
theorem part_cell {P : Program} {w : World} {t : TypeId} {tk : TK} {sz : Nat} {zr : List Value} {xs : Array Value} {off : Nat} {v : Value} (h : tiOk P t ⟨tk, sz, false, zr⟩ = true) (hv : xs[off]? = some v) : (part t xs off).run P w = .ok v w := by
  unfold part
  rw [run_bind_ok (ti_agg h w).1]
  simp only [hv]; rfl
/-- fields of these types at these places -/
def shp : List Field → List (Nat × Nat) → Bool
  | [], [] => true
  | f :: fs, (t, o) :: ts => decide (f.name ≠ "_") && decide (f.type = t) && decide (f.offset = o) && shp fs ts
  | _, _ => false
theorem eqf_gen {P : Program} {w : World} {d : Nat} {t o : Nat} {ts : List (Nat × Nat)} {fs : List Field} {xs ys : Array Value} {vx vy : Value} {r : Bool} (h : shp fs ((t, o) :: ts) = true)
    (hx : (part t xs o).run P w = .ok vx w) (hy : (part t ys o).run P w = .ok vy w) (he : (Op.equalIn d t vx vy).run P w = .ok r w) : ∃ fs', shp fs' ts = true ∧ (Op.eqFields d xs ys fs).run P w = if r = true then (Op.eqFields d xs ys fs').run P w else .ok false w := by
  cases fs with
  | nil => simp [shp] at h
  | cons f fs =>
    simp only [shp, Bool.and_eq_true, decide_eq_true_eq] at h
    obtain ⟨⟨⟨h1, rfl⟩, rfl⟩, h4⟩ := h
    refine ⟨fs, h4, ?_⟩
    rw [Op.eqFields, if_pos h1, run_bind_ok hx, run_bind_ok hy, run_bind_ok he]
    cases r <;> rfl
theorem eqf_nil {P : Program} {w : World} {d : Nat} {fs : List Field} {xs ys : Array Value} (h : shp fs [] = true) : (Op.eqFields d xs ys fs).run P w = .ok true w := by
  cases fs with
  | nil => rfl
  | cons f fs => simp [shp] at h
theorem ti_i : tiOk Tryz.prog 3 ⟨.other, 1, false, [.int .i64 0]⟩ = true := by kernel_rfl
theorem eq_i {w : World} {d : Nat} (a b : Int) : (Op.equalIn (d + 1) 3 (I a) (I b)).run Tryz.prog w = .ok (a == b) w := run_equalIn_int w d _ .i64 .i64 _ _ (by kernel_rfl)
structure Ent where
  a : Int
  b : Int
  c : Int
  d : Int
  e : Int
deriving DecidableEq
abbrev encEnt : Ent → List Value := fun x => [I x.a, I x.b, I x.c, I x.d, I x.e]
def eEnt : El Ent := plainEl 5 encEnt (fun _ => rfl)
theorem eq_ent {w : World} {d : Nat} (x y : Ent) : (Op.equalIn (d + 2) 34 (.agg (encEnt x).toArray) (.agg (encEnt y).toArray)).run Tryz.prog w = .ok (decide (x = y)) w := by
  rw [run_equalIn_struct w (d + 1) _ _ _ (by kernel_rfl) (by kernel_rfl)]
  obtain ⟨f1, h1, e1⟩ := eqf_gen (P := Tryz.prog) (w := w) (d := d + 1) (ts := [(3, 1), (3, 2), (3, 3), (3, 4)]) (xs := (encEnt x).toArray) (ys := (encEnt y).toArray) (show shp (Tryz.prog.fieldsOf 34).toList [(3, 0), (3, 1), (3, 2), (3, 3), (3, 4)] = true by kernel_rfl) (part_cell ti_i rfl) (part_cell ti_i rfl) (eq_i x.a y.a)
  obtain ⟨f2, h2, e2⟩ := eqf_gen (P := Tryz.prog) (w := w) (d := d + 1) (xs := (encEnt x).toArray) (ys := (encEnt y).toArray) h1 (part_cell ti_i rfl) (part_cell ti_i rfl) (eq_i x.b y.b)
  obtain ⟨f3, h3, e3⟩ := eqf_gen (P := Tryz.prog) (w := w) (d := d + 1) (xs := (encEnt x).toArray) (ys := (encEnt y).toArray) h2 (part_cell ti_i rfl) (part_cell ti_i rfl) (eq_i x.c y.c)
  obtain ⟨f4, h4, e4⟩ := eqf_gen (P := Tryz.prog) (w := w) (d := d + 1) (xs := (encEnt x).toArray) (ys := (encEnt y).toArray) h3 (part_cell ti_i rfl) (part_cell ti_i rfl) (eq_i x.d y.d)
  obtain ⟨f5, h5, e5⟩ := eqf_gen (P := Tryz.prog) (w := w) (d := d + 1) (xs := (encEnt x).toArray) (ys := (encEnt y).toArray) h4 (part_cell ti_i rfl) (part_cell ti_i rfl) (eq_i x.e y.e)
  rw [e1, e2, e3, e4, e5, eqf_nil h5]
  obtain ⟨a, b, c, d, e⟩ := x
  obtain ⟨a', b', c', d', e'⟩ := y
  by_cases p : a = a' <;> by_cases q : b = b' <;> by_cases r : c = c' <;> by_cases s : d = d' <;> by_cases t : e = e' <;> simp [p, q, r, s, t]
/-- != on two values of a struct -/
theorem Eng.neA {C : Cx} {s : St} {w : World} {md : Option Md} {ops : Array Oper} {T T' : TypeId} {x y : Operand} {d : Nat} {ty : TypeId} {pos : String} {af : Array Edge} {g : Option (Nat × Bool)} {rest : List Oper} {k : List Item} {l : Env} {c : CEnv} {a b : List Value} {r : Bool}
    (he : ∀ w', (Op.equalIn 10000 T (.agg a.toArray) (.agg b.toArray)).run C.P w' = .ok r w') (h : Wk C (.reg md ops rest k ((d, .bool (!r)) :: l) c) w)
    (hs : adv C.tab C.n C.ks 400 s = .opn md ops ⟨some d, .binOp .neq T x y T', ty, pos, af, g⟩ rest k l c [] := by rfl) (hx : evc l c [] x = some (.agg a.toArray) := by rfl) (hy : evc l c [] y = some (.agg b.toArray) := by rfl) (hg : C.P.eqGuardType C.P.depth T = false := by kernel_rfl) (hf : fresh d l c [] = true := by rfl) : Wk C s w :=
  rd (p := []) (fun _ _ hA hp w' _ => by
    simp only [execOp, evc_ok hA.k hA.kc.c hp hx, evc_ok hA.k hA.kc.c hp hy]
    have hb : (binOp .neq T (.agg a.toArray) (.agg b.toArray)).run C.P w' = .ok (.bool (!r)) w' := by rw [run_neq_struct, he]; rfl
    exact run_bind_ok (run_bind_ok (run_eqGuard_agg _ _ _ _ _ _ _ hg) |>.trans hb) |>.trans rfl) h hs rfl hf (okR_no rfl)
/-- == on two values of a struct -/
theorem Eng.eqA {C : Cx} {s : St} {w : World} {md : Option Md} {ops : Array Oper} {T T' : TypeId} {x y : Operand} {d : Nat} {ty : TypeId} {pos : String} {af : Array Edge} {g : Option (Nat × Bool)} {rest : List Oper} {k : List Item} {l : Env} {c : CEnv} {a b : List Value} {r : Bool}
    (he : ∀ w', (Op.equalIn 10000 T (.agg a.toArray) (.agg b.toArray)).run C.P w' = .ok r w') (h : Wk C (.reg md ops rest k ((d, .bool r) :: l) c) w)
    (hs : adv C.tab C.n C.ks 400 s = .opn md ops ⟨some d, .binOp .eql T x y T', ty, pos, af, g⟩ rest k l c [] := by rfl) (hx : evc l c [] x = some (.agg a.toArray) := by rfl) (hy : evc l c [] y = some (.agg b.toArray) := by rfl) (hg : C.P.eqGuardType C.P.depth T = false := by kernel_rfl) (hf : fresh d l c [] = true := by rfl) : Wk C s w :=
  rd (p := []) (fun _ _ hA hp w' _ => by
    simp only [execOp, evc_ok hA.k hA.kc.c hp hx, evc_ok hA.k hA.kc.c hp hy]
    have hb : (binOp .eql T (.agg a.toArray) (.agg b.toArray)).run C.P w' = .ok (.bool r) w' := by rw [run_eql_struct, he]; rfl
    exact run_bind_ok (run_bind_ok (run_eqGuard_agg _ _ _ _ _ _ _ hg) |>.trans hb) |>.trans rfl) h hs rfl hf (okR_no rfl)
/-- the first place at which two lists differ -/
def dif : List Ent → List Ent → Nat → Int × Int
  | [], [], _ => (0, 3)
  | x :: l, y :: m, k => if x = y then dif l m (k + 1) else (k, 0)
  | [], _ :: _, k => (k, 0)
  | _ :: _, [], k => (k, 0)
theorem dif_sym : ∀ (l m : List Ent) (k : Nat), dif l m k = dif m l k
  | [], [], _ => rfl
  | x :: l, y :: m, k => by
    simp only [dif]
    by_cases h : x = y
    · rw [if_pos h, if_pos h.symm]; exact dif_sym l m (k + 1)
    · rw [if_neg h, if_neg (Ne.symm h)]
  | [], _ :: _, _ => rfl
  | _ :: _, [], _ => rfl
theorem dif_self : ∀ (l : List Ent) (k : Nat), dif l l k = (0, 3)
  | [], _ => rfl
  | x :: l, k => by simp only [dif, if_true]; exact dif_self l (k + 1)
theorem dif_go {l m : List Ent} {k : Nat} {x y : Ent} (hx : l[k]? = some x) (hy : m[k]? = some y) : dif (l.drop k) (m.drop k) k = if x = y then dif (l.drop (k + 1)) (m.drop (k + 1)) (k + 1) else ((k : Int), 0) := by
  obtain ⟨h1, e1⟩ := List.getElem?_eq_some_iff.1 hx
  obtain ⟨h2, e2⟩ := List.getElem?_eq_some_iff.1 hy
  rw [List.drop_eq_getElem_cons h1, List.drop_eq_getElem_cons h2, e1, e2]; rfl
theorem dif_both {l m : List Ent} {k : Nat} (h1 : k = l.length) (h2 : k = m.length) : dif (l.drop k) (m.drop k) k = (0, 3) := by
  rw [List.drop_eq_nil_of_le (by omega), List.drop_eq_nil_of_le (by omega)]; rfl
theorem dif_one {l m : List Ent} {k : Nat} (h0 : ¬ (k < l.length ∧ k < m.length)) (h3 : k ≤ l.length) (h4 : k ≤ m.length) (h : ¬ (k = l.length ∧ k = m.length)) : dif (l.drop k) (m.drop k) k = ((k : Int), 0) := by
  by_cases h1 : k < l.length
  · rw [List.drop_eq_getElem_cons h1, show m.drop k = [] from List.drop_eq_nil_of_le (by omega)]; rfl
  · rw [show l.drop k = [] from List.drop_eq_nil_of_le (by omega), List.drop_eq_getElem_cons (l := m) (by omega)]; rfl
theorem p_Differ (l m : List Ent) (a1 a2 : Option Addr) (c1 c2 : Nat) (w : World) (h1 : Sl eEnt T w a1 l) (h2 : Sl eEnt T w a2 m) : Ret Tryz.prog 12 #[.slice a1 l.length c1, .slice a2 m.length c2] w fun v w' => v = .tuple #[I (dif l m 0).1, I (dif l m 0).2] ∧ Bl w w' := by
  refine entr (vs := [.slice a1 l.length c1, .slice a2 m.length c2]) [0, 1, 4, 5, 6, 27, 39] tabok Tryz.func12 (by kernel_rfl) ?_
  have hb1 := h1.big
  have hb2 := h2.big
  refine lpk l.length 6 [] [(0, .slice a1 l.length c1), (1, .slice a2 m.length c2), (4, I 0), (5, I 0)] (fun k vals w' => vals = [] ∧ dif l m 0 = dif (l.drop k) (m.drop k) k ∧ k ≤ m.length ∧ Bl w w') ⟨rfl, rfl, Nat.zero_le _, Bl.refl _⟩ ?_
  rintro k vals w2 hk ⟨rfl, ha, hm, hB⟩ ih
  refine dh T (List.range 21) fun w8 h8 => ?_
  by_cases hlt : k < l.length ∧ k < m.length
  · obtain ⟨x, b, o, cs, hx, rfl, _, hAt, rfl⟩ := at_some (h1.bl hB) hlt.1
    obtain ⟨y, b', o', cs', hy, rfl, _, hAt', rfl⟩ := at_some (h2.bl hB) hlt.2
    have hC := hAt.bl h8.bl
    have hC' := hAt'.bl h8.bl
    refine spt (.bool false) ?_ (hb := by first | (simp; done) | (simp; omega))
    refine ix ?_
    refine spt (.bool false) ?_
    refine lda hC ?_ (hm := trivial)
    refine spt (.bool false) ?_
    refine ix ?_
    refine spt (.bool false) ?_
    refine lda hC' ?_ (hm := trivial)
    refine spt (.bool false) ?_
    refine eqA (fun w => eq_ent x y) ?_
    by_cases hxy : x = y
    · refine brt ?_ (hp := by first | (simp [hxy]; done) | (simp [hxy]; omega))
      refine ih hlt.1 ⟨rfl, ?_, by omega, hB.trans h8.bl⟩
      rw [ha, dif_go hx hy, if_pos hxy]
    · refine brf ?_ (hp := by simp [hxy])
      refine brf ?_ (hp := by first | (simp; done) | (simp; omega))
      rw [ha, dif_go hx hy, if_neg hxy]
      exact rt2 ⟨rfl, hB.trans h8.bl⟩
  · refine spn (.pointer none) ?_ (hb := by first | (simp; done) | (simp; omega))
    refine spn (.bool false) ?_ (hb := by first | (simp; done) | (simp; omega))
    refine spn (.pointer none) ?_ (hb := by first | (simp; done) | (simp; omega))
    refine spn (.bool false) ?_ (hb := by first | (simp; done) | (simp; omega))
    refine spn (.bool false) ?_ (hb := by first | (simp; done) | (simp; omega))
    refine brf ?_ (hp := by first | (simp; done) | (simp; omega))
    by_cases hb : k = l.length ∧ k = m.length
    · refine brt ?_ (hp := by first | (simp; done) | (simp; omega))
      rw [ha, dif_both hb.1 hb.2]
      exact rt2 ⟨rfl, hB.trans h8.bl⟩
    · refine brf ?_ (hp := by first | (simp; done) | (simp; omega))
      rw [ha, dif_one hlt hk hm hb]
      exact rt2 ⟨rfl, hB.trans h8.bl⟩
theorem r_Differ (l m : List Ent) (a1 a2 : Option Addr) (c1 c2 : Nat) (w : World) (h1 : Sl eEnt T w a1 l) (h2 : Sl eEnt T w a2 m) : Ret Tryz.prog 8 #[.slice a1 l.length c1, .slice a2 m.length c2] w fun v w' => v = .tuple #[I (dif l m 0).1, I (dif l m 0).2] ∧ Bl w w' := by
  refine entr (vs := [.slice a1 l.length c1, .slice a2 m.length c2]) [0, 1, 4, 5, 6, 16, 39] tabok Tryz.func8 (by kernel_rfl) ?_
  have hb1 := h1.big
  have hb2 := h2.big
  refine lpk (max l.length m.length) 6 [] [(0, .slice a1 l.length c1), (1, .slice a2 m.length c2), (4, I 0), (5, I 0)] (fun k vals w' => vals = [] ∧ dif l m 0 = dif (l.drop k) (m.drop k) k ∧ k ≤ l.length ∧ k ≤ m.length ∧ Bl w w') ⟨rfl, rfl, Nat.zero_le _, Nat.zero_le _, Bl.refl _⟩ ?_
  rintro k vals w2 hk ⟨rfl, ha, hl, hm, hB⟩ ih
  by_cases hor : k < l.length ∨ k < m.length
  rotate_left
  · refine brf ?_ (hp := by first | (simp; done) | (simp; omega))
    rw [ha, dif_both (by omega) (by omega)]
    exact rt2 ⟨rfl, hB⟩
  refine brt ?_ (hp := by first | (simp; done) | (simp; omega))
  refine dh T (List.range 21) fun w8 h8 => ?_
  by_cases hlt : k < l.length ∧ k < m.length
  · obtain ⟨x, b, o, cs, hx, rfl, _, hAt, rfl⟩ := at_some (h1.bl hB) hlt.1
    obtain ⟨y, b', o', cs', hy, rfl, _, hAt', rfl⟩ := at_some (h2.bl hB) hlt.2
    have hC := hAt.bl h8.bl
    have hC' := hAt'.bl h8.bl
    refine spt (.bool false) ?_ (hb := by first | (simp; done) | (simp; omega))
    refine ix ?_
    refine spt (.bool false) ?_
    refine lda hC ?_ (hm := trivial)
    refine spt (.bool false) ?_
    refine ix ?_
    refine spt (.bool false) ?_
    refine lda hC' ?_ (hm := trivial)
    refine spt (.bool false) ?_
    refine neA (fun w => eq_ent x y) ?_
    by_cases hxy : x = y
    · refine brf ?_ (hp := by first | (simp [hxy]; done) | (simp [hxy]; omega))
      refine ih (by omega) ⟨rfl, ?_, by omega, by omega, hB.trans h8.bl⟩
      rw [ha, dif_go hx hy, if_pos hxy]
    · refine brt ?_ (hp := by first | (simp [hxy]; done) | (simp [hxy]; omega))
      rw [ha, dif_go hx hy, if_neg hxy]
      exact rt2 ⟨rfl, hB.trans h8.bl⟩
  · refine spn (.pointer none) ?_ (hb := by first | (simp; done) | (simp; omega))
    refine spn (.bool false) ?_ (hb := by first | (simp; done) | (simp; omega))
    refine spn (.pointer none) ?_ (hb := by first | (simp; done) | (simp; omega))
    refine spn (.bool false) ?_ (hb := by first | (simp; done) | (simp; omega))
    refine spn (.bool false) ?_ (hb := by first | (simp; done) | (simp; omega))
    refine brt ?_ (hp := by first | (simp; done) | (simp; omega))
    rw [ha, dif_one hlt hl hm (by omega)]
    exact rt2 ⟨rfl, hB.trans h8.bl⟩
end Go.Proofs.YtejohpjhonjcjaaGreatDoor

/- Texts of entries (P28.7): numerals, lines, and what is read of a text. No program stands here. -/
namespace Go.Proofs.YtejohpjhonjcjaaGreatDoor
open Go
/-! cutting at a byte -/
def cutC (c : UInt8) : List UInt8 → List (List UInt8)
  | [] => [[]]
  | b :: r => if b = c then [] :: cutC c r else match cutC c r with
    | [] => [[b]]
    | x :: xs => (b :: x) :: xs
theorem cutC_ne (c : UInt8) (l : List UInt8) : cutC c l ≠ [] := by
  cases l with
  | nil => simp [cutC]
  | cons b r =>
    simp only [cutC]
    split
    · simp
    · split <;> simp
theorem cutC_none {c : UInt8} : ∀ {l : List UInt8}, c ∉ l → cutC c l = [l]
  | [], _ => rfl
  | b :: r, h => by
    simp only [List.mem_cons, not_or] at h
    simp only [cutC, if_neg (Ne.symm h.1), cutC_none h.2]
theorem cutC_app {c : UInt8} : ∀ {x : List UInt8} {r : List UInt8}, c ∉ x → cutC c (x ++ c :: r) = x :: cutC c r
  | [], r, _ => by simp [cutC]
  | b :: x, r, h => by
    simp only [List.mem_cons, not_or] at h
    simp only [List.cons_append, cutC, if_neg (Ne.symm h.1), cutC_app h.2]
theorem uncut (c : UInt8) : ∀ (l : List UInt8) {x : List UInt8} {xs : List (List UInt8)}, cutC c l = x :: xs → l = x ++ xs.flatMap fun y => c :: y
  | [], x, xs, h => by
    simp only [cutC, List.cons.injEq] at h
    obtain ⟨rfl, rfl⟩ := h; rfl
  | b :: r, x, xs, h => by
    simp only [cutC] at h
    split at h
    · rename_i hb
      simp only [List.cons.injEq] at h
      obtain ⟨rfl, rfl⟩ := h
      cases hr : cutC c r with
      | nil => exact absurd hr (cutC_ne c r)
      | cons y ys => rw [List.nil_append, List.flatMap_cons, List.cons_append, ← uncut c r hr, hb]
    · cases hr : cutC c r with
      | nil => exact absurd hr (cutC_ne c r)
      | cons y ys =>
        rw [hr] at h
        simp only [List.cons.injEq] at h
        obtain ⟨rfl, rfl⟩ := h
        rw [List.cons_append, ← uncut c r hr]
theorem cutC_free (c : UInt8) : ∀ (l : List UInt8), ∀ x ∈ cutC c l, c ∉ x
  | [], x, h => by
    simp only [cutC, List.mem_singleton] at h
    subst h; simp
  | b :: r, x, h => by
    simp only [cutC] at h
    split at h
    · rcases List.mem_cons.1 h with rfl | h
      · simp
      · exact cutC_free c r x h
    · rename_i hb
      cases hr : cutC c r with
      | nil => exact absurd hr (cutC_ne c r)
      | cons y ys =>
        rw [hr] at h
        have ih := cutC_free c r
        rw [hr] at ih
        rcases List.mem_cons.1 h with rfl | h
        · have := ih y (List.mem_cons_self ..)
          simp only [List.mem_cons, not_or]
          exact ⟨Ne.symm hb, this⟩
        · exact ih x (List.mem_cons_of_mem _ h)
/-- a byte put behind -/
theorem cutC_snoc {c b : UInt8} : ∀ {l : List UInt8} {ys : List (List UInt8)} {x : List UInt8}, cutC c l = ys ++ [x] → cutC c (l ++ [b]) = if b = c then ys ++ [x, []] else ys ++ [x ++ [b]]
  | [], ys, x, h => by
    have h1 : ys = [] ∧ x = [] := by
      cases ys with
      | nil => simp only [cutC, List.nil_append, List.cons.injEq, and_true] at h; exact ⟨rfl, h.symm⟩
      | cons y ys => simp [cutC] at h
    obtain ⟨rfl, rfl⟩ := h1
    simp only [List.nil_append, cutC]
  | a :: r, ys, x, h => by
    simp only [List.cons_append, cutC] at h ⊢
    by_cases ha : a = c
    · rw [if_pos ha] at h ⊢
      cases ys with
      | nil =>
        simp only [List.nil_append, List.cons.injEq] at h
        exact absurd h.2 (cutC_ne c r)
      | cons y ys =>
        simp only [List.cons_append, List.cons.injEq] at h
        obtain ⟨rfl, h⟩ := h
        rw [cutC_snoc h]
        split <;> rfl
    · rw [if_neg ha] at h ⊢
      cases hr : cutC c r with
      | nil => exact absurd hr (cutC_ne c r)
      | cons z zs =>
        rw [hr] at h
        simp only at h
        cases ys with
        | nil =>
          simp only [List.nil_append, List.cons.injEq] at h
          obtain ⟨rfl, rfl⟩ := h
          have := cutC_snoc (b := b) (l := r) (ys := []) (x := z) (by rw [hr]; rfl)
          rw [this]
          by_cases hb : b = c <;> simp [hb]
        | cons y ys =>
          simp only [List.cons_append, List.cons.injEq] at h
          obtain ⟨rfl, rfl⟩ := h
          have := cutC_snoc (b := b) (l := r) (ys := z :: ys) (x := x) (by rw [hr]; rfl)
          rw [this]
          by_cases hb : b = c <;> simp [hb]
/-! numerals -/
def isDg (c : UInt8) : Bool := decide (48 ≤ c.toNat) && decide (c.toNat ≤ 57)
def valD (a : Nat) : List UInt8 → Nat
  | [] => a
  | c :: r => valD (10 * a + (c.toNat - 48)) r
theorem valD_app : ∀ (l m : List UInt8) (a : Nat), valD a (l ++ m) = valD (valD a l) m
  | [], _, _ => rfl
  | c :: r, m, a => valD_app r m _
theorem valD_lt : ∀ {l : List UInt8} {a k : Nat}, l.all isDg = true → a < 10 ^ k → valD a l < 10 ^ (k + l.length)
  | [], a, k, _, h => h
  | c :: r, a, k, hd, h => by
    simp only [List.all_cons, Bool.and_eq_true, isDg, decide_eq_true_eq] at hd
    have h2 : 10 * a + (c.toNat - 48) < 10 ^ (k + 1) := by rw [Nat.pow_succ]; omega
    have := valD_lt (l := r) (a := 10 * a + (c.toNat - 48)) (k := k + 1) hd.2 h2
    rw [show k + (c :: r).length = k + 1 + r.length by rw [List.length_cons]; omega]
    exact this
theorem dgc {u : Nat} (h : u < 10) : (UInt8.ofNat (48 + u)).toNat = 48 + u := by
  rw [UInt8.toNat_ofNat']; omega
theorem isDg_of {u : Nat} (h : u < 10) : isDg (UInt8.ofNat (48 + u)) = true := by
  unfold isDg
  rw [dgc h, decide_eq_true (show 48 ≤ 48 + u by omega), decide_eq_true (show 48 + u ≤ 57 by omega)]; rfl
theorem valD_one (a u : Nat) (h : u < 10) : valD a [UInt8.ofNat (48 + u)] = 10 * a + u := by
  show 10 * a + ((UInt8.ofNat (48 + u)).toNat - 48) = _
  rw [dgc h]; omega
theorem dec_all (u : Nat) : (Lib.decDigits u).all isDg = true ∧ valD 0 (Lib.decDigits u) = u := by
  induction u using Nat.strongRecOn with
  | _ u ih =>
    rw [Lib.decDigits]
    by_cases h : u < 10
    · rw [dif_pos h]
      refine ⟨?_, ?_⟩
      · rw [List.all_cons, isDg_of h]; rfl
      · rw [valD_one 0 u h]; omega
    · rw [dif_neg h]
      obtain ⟨h1, h2⟩ := ih (u / 10) (by omega)
      have hm : u % 10 < 10 := Nat.mod_lt _ (by decide)
      refine ⟨?_, ?_⟩
      · rw [List.all_append, h1, List.all_cons, isDg_of hm]; rfl
      · rw [valD_app, h2, valD_one _ _ hm]; omega
theorem dec_dg {u : Nat} {c : UInt8} (h : c ∈ Lib.decDigits u) : 48 ≤ c.toNat ∧ c.toNat ≤ 57 := by
  have := List.all_eq_true.1 (dec_all u).1 c h
  simpa [isDg] using this
theorem dec_cons (u : Nat) : ∃ c r, Lib.decDigits u = c :: r := by
  have h := Lib.decDigits_length u
  have := Lib.nDigits_pos u
  cases hl : Lib.decDigits u with
  | nil => rw [hl] at h; simp at h; omega
  | cons c r => exact ⟨c, r, rfl⟩
/-- a text without its sign -/
def unS : List UInt8 → List UInt8
  | [] => []
  | c :: r => if c = 45 then r else c :: r
theorem unS_itoa (n : Int) : unS (Lib.itoa n) = Lib.decDigits n.natAbs ∧ (n < 0 → (Lib.itoa n).length = (Lib.decDigits n.natAbs).length + 1) ∧ (¬ n < 0 → Lib.itoa n = Lib.decDigits n.natAbs) := by
  unfold Lib.itoa
  by_cases h : n < 0
  · rw [if_pos h]
    exact ⟨by simp [unS], fun _ => by simp, fun q => absurd h q⟩
  · rw [if_neg h, show n.toNat = n.natAbs by omega]
    obtain ⟨c, r, e⟩ := dec_cons n.natAbs
    have hc := dec_dg (u := n.natAbs) (c := c) (by rw [e]; exact List.mem_cons_self ..)
    refine ⟨?_, fun q => absurd q h, fun _ => rfl⟩
    rw [e]
    show (if c = 45 then r else c :: r) = _
    rw [if_neg]
    rintro rfl
    exact absurd hc.1 (by decide)
theorem itoa_mem {n : Int} {c : UInt8} (h : c ∈ Lib.itoa n) : c = 45 ∨ 48 ≤ c.toNat ∧ c.toNat ≤ 57 := by
  unfold Lib.itoa at h
  split at h
  · rcases List.mem_cons.1 h with h | h
    · exact .inl h
    · exact .inr (dec_dg h)
  · exact .inr (dec_dg h)
theorem itoa_no {n : Int} {c : UInt8} (h1 : c ≠ 45) (h2 : c.toNat < 48) : c ∉ Lib.itoa n := fun h => by
  rcases itoa_mem h with q | q
  · exact h1 q
  · omega
/-- how the document reads a number of at most 18 digits -/
def numR (s : List UInt8) : Int × Bool :=
  if (unS s).length < 1 ∨ 18 < (unS s).length then (0, false)
  else if (unS s).all isDg = false then (0, false)
  else ((if (unS s).length < s.length then -(valD 0 (unS s) : Int) else valD 0 (unS s)), decide (Lib.itoa (if (unS s).length < s.length then -(valD 0 (unS s) : Int) else valD 0 (unS s)) = s))
def GoodW (s : List UInt8) (n : Int) : Prop := s = Lib.itoa n ∧ (Lib.decDigits n.natAbs).length ≤ 18
theorem numR_iff {s : List UInt8} {n : Int} : numR s = (n, true) ↔ GoodW s n := by
  constructor
  · intro h
    unfold numR at h
    split at h
    · simp at h
    · rename_i h1
      split at h
      · simp at h
      · simp only [Prod.mk.injEq, decide_eq_true_eq] at h
        obtain ⟨rfl, h⟩ := h
        refine ⟨h.symm, ?_⟩
        have := (unS_itoa (if (unS s).length < s.length then -(valD 0 (unS s) : Int) else valD 0 (unS s))).1
        rw [h] at this
        rw [← this]; omega
  · rintro ⟨rfl, hl⟩
    obtain ⟨e1, e2, e3⟩ := unS_itoa n
    obtain ⟨c, r, e⟩ := dec_cons n.natAbs
    have hl1 : 1 ≤ (Lib.decDigits n.natAbs).length := by rw [e]; simp
    unfold numR
    rw [e1, if_neg (by omega), (dec_all _).1, (dec_all _).2, if_neg (by decide)]
    by_cases h : n < 0
    · rw [if_pos (by rw [e2 h]; omega)]
      rw [show -(n.natAbs : Int) = n by omega, decide_eq_true rfl]
    · rw [if_neg (by rw [e3 h]; omega)]
      rw [show (n.natAbs : Int) = n by omega, decide_eq_true rfl]
theorem parse_dec : ∀ (l : List UInt8) (acc k : Nat), l.all isDg = true → acc < 10 ^ k → l.length + k ≤ 18 → Lib.parseUint10 acc l = .ok (valD acc l)
  | [], _, _, _, _, _ => rfl
  | c :: r, acc, k, hd, ha, hl => by
    simp only [List.all_cons, Bool.and_eq_true, isDg, decide_eq_true_eq] at hd
    have hl' : r.length + 1 + k ≤ 18 := by simpa using hl
    have hp : 10 ^ k ≤ 10 ^ 17 := Nat.pow_le_pow_right (by decide) (by omega)
    have e17 : (10 : Nat) ^ 17 = 100000000000000000 := by decide
    unfold Lib.parseUint10
    rw [if_pos hd.1, if_neg (by omega), if_neg (by omega), parse_dec r _ (k + 1) hd.2 (by rw [Nat.pow_succ]; omega) (by omega)]
    show _ = Lib.NumEnd.ok (valD (10 * acc + (c.toNat - 48)) r)
    rw [Nat.mul_comm acc 10]
/-- how the program reads a number -/
def okP (s : List UInt8) : Bool := match Lib.atoiAll s with
  | .ok _ => decide ((unS s).length ≤ 18)
  | _ => false
def valP (s : List UInt8) : Int := match Lib.atoiAll s with
  | .ok v => v
  | _ => 0
theorem atoi_itoa {n : Int} (hl : (Lib.decDigits n.natAbs).length ≤ 18) : Lib.atoiAll (Lib.itoa n) = .ok n := by
  obtain ⟨c, r, e⟩ := dec_cons n.natAbs
  have hm : Lib.parseMag (Lib.decDigits n.natAbs) = .ok n.natAbs := by
    unfold Lib.parseMag
    rw [if_neg (by rw [e]; simp), parse_dec _ 0 0 (dec_all _).1 (by decide) (by omega), (dec_all _).2]
  have hb : n.natAbs < 1000000000000000000 := by
    have h1 := Lib.lt_pow_nDigits n.natAbs
    rw [← Lib.decDigits_length] at h1
    have h2 : 10 ^ (Lib.decDigits n.natAbs).length ≤ 10 ^ 18 := Nat.pow_le_pow_right (by decide) hl
    have h3 : (10 : Nat) ^ 18 = 1000000000000000000 := by decide
    omega
  by_cases h : n < 0
  · have hi : Lib.itoa n = 45 :: Lib.decDigits n.natAbs := by unfold Lib.itoa; rw [if_pos h]
    rw [hi, Lib.atoiAll_minus, hm]
    show (if 9223372036854775808 < n.natAbs then Lib.NumEnd.range else .ok (-(n.natAbs : Int))) = _
    rw [if_neg (by omega)]
    congr 1
    omega
  · have hi := (unS_itoa n).2.2 h
    have hc := dec_dg (u := n.natAbs) (c := c) (by rw [e]; exact List.mem_cons_self ..)
    rw [hi, e, Lib.atoiAll_plain c r (by omega) (by omega), ← e, hm]
    show (if 9223372036854775808 ≤ n.natAbs then Lib.NumEnd.range else .ok (n.natAbs : Int)) = _
    rw [if_neg (by omega)]
    congr 1
    omega
theorem okP_of {s : List UInt8} {n : Int} (h : GoodW s n) : okP s = true ∧ valP s = n := by
  obtain ⟨rfl, hl⟩ := h
  unfold okP valP
  rw [atoi_itoa hl, (unS_itoa n).1]
  exact ⟨decide_eq_true hl, rfl⟩
theorem good_of {n : Int} (h : okP (Lib.itoa n) = true) : GoodW (Lib.itoa n) n := by
  unfold okP at h
  refine ⟨rfl, ?_⟩
  rw [(unS_itoa n).1] at h
  split at h
  · exact of_decide_eq_true h
  · cases h
/-! lines -/
def lineL (e : Ent) : List UInt8 := Lib.itoa e.a ++ 32 :: (Lib.itoa e.b ++ 32 :: (Lib.itoa e.c ++ 32 :: (Lib.itoa e.d ++ 32 :: Lib.itoa e.e)))
def shN (n : Int) : Prop := (Lib.decDigits n.natAbs).length ≤ 18
def ShE (e : Ent) : Prop := shN e.a ∧ shN e.b ∧ shN e.c ∧ shN e.d ∧ shN e.e
theorem line_cut (e : Ent) : cutC 32 (lineL e) = [Lib.itoa e.a, Lib.itoa e.b, Lib.itoa e.c, Lib.itoa e.d, Lib.itoa e.e] := by
  have h : ∀ n, (32 : UInt8) ∉ Lib.itoa n := fun n => itoa_no (by decide) (by decide)
  unfold lineL
  rw [cutC_app (h _), cutC_app (h _), cutC_app (h _), cutC_app (h _), cutC_none (h _)]
theorem line_nl (e : Ent) : (10 : UInt8) ∉ lineL e := by
  have h : ∀ n, (10 : UInt8) ∉ Lib.itoa n := fun n => itoa_no (by decide) (by decide)
  unfold lineL
  simp [h]
def entE (t : List UInt8) : Option Ent := match cutC 32 t with
  | [a, b, c, d, e] => if (numR a).2 && ((numR b).2 && ((numR c).2 && ((numR d).2 && (numR e).2))) then some ⟨(numR a).1, (numR b).1, (numR c).1, (numR d).1, (numR e).1⟩ else none
  | _ => none
def entP (t : List UInt8) : Option Ent := match cutC 32 t with
  | [a, b, c, d, e] => if okP a && (okP b && (okP c && (okP d && okP e))) then (if lineL ⟨valP a, valP b, valP c, valP d, valP e⟩ = t then some ⟨valP a, valP b, valP c, valP d, valP e⟩ else none) else none
  | _ => none
theorem numR_mk {s : List UInt8} (h : (numR s).2 = true) : GoodW s (numR s).1 := numR_iff.1 (Prod.ext rfl h)
theorem entE_iff {t : List UInt8} {e : Ent} : entE t = some e ↔ t = lineL e ∧ ShE e := by
  constructor
  · intro h
    unfold entE at h
    split at h
    · rename_i a b c d f hc
      split at h
      · rename_i hb
        simp only [Bool.and_eq_true] at hb
        obtain ⟨h1, h2, h3, h4, h5⟩ := hb
        obtain rfl := Option.some.inj h
        obtain ⟨e1, s1⟩ := numR_mk h1
        obtain ⟨e2, s2⟩ := numR_mk h2
        obtain ⟨e3, s3⟩ := numR_mk h3
        obtain ⟨e4, s4⟩ := numR_mk h4
        obtain ⟨e5, s5⟩ := numR_mk h5
        refine ⟨?_, s1, s2, s3, s4, s5⟩
        have := uncut 32 t hc
        rw [this]
        unfold lineL
        simp only
        rw [← e1, ← e2, ← e3, ← e4, ← e5]
        simp
      · cases h
    · cases h
  · rintro ⟨rfl, h1, h2, h3, h4, h5⟩
    unfold entE
    rw [line_cut]
    simp only [numR_iff.2 (⟨rfl, h1⟩ : GoodW _ e.a), numR_iff.2 (⟨rfl, h2⟩ : GoodW _ e.b), numR_iff.2 (⟨rfl, h3⟩ : GoodW _ e.c), numR_iff.2 (⟨rfl, h4⟩ : GoodW _ e.d), numR_iff.2 (⟨rfl, h5⟩ : GoodW _ e.e), Bool.and_self, if_true]
theorem entP_iff {t : List UInt8} {e : Ent} : entP t = some e ↔ t = lineL e ∧ ShE e := by
  constructor
  · intro h
    unfold entP at h
    split at h
    · rename_i a b c d f hc
      split at h
      · rename_i hb
        split at h
        · rename_i hl
          obtain rfl := Option.some.inj h
          refine ⟨hl.symm, ?_⟩
          have := line_cut ⟨valP a, valP b, valP c, valP d, valP f⟩
          rw [hl, hc] at this
          simp only [List.cons.injEq, and_true] at this
          simp only [Bool.and_eq_true] at hb
          obtain ⟨h1, h2, h3, h4, h5⟩ := hb
          obtain ⟨e1, e2, e3, e4, e5⟩ := this
          rw [e1] at h1; rw [e2] at h2; rw [e3] at h3; rw [e4] at h4; rw [e5] at h5
          exact ⟨(good_of h1).2, (good_of h2).2, (good_of h3).2, (good_of h4).2, (good_of h5).2⟩
        · cases h
      · cases h
    · cases h
  · rintro ⟨rfl, h1, h2, h3, h4, h5⟩
    unfold entP
    rw [line_cut]
    have q1 := okP_of (⟨rfl, h1⟩ : GoodW _ e.a)
    have q2 := okP_of (⟨rfl, h2⟩ : GoodW _ e.b)
    have q3 := okP_of (⟨rfl, h3⟩ : GoodW _ e.c)
    have q4 := okP_of (⟨rfl, h4⟩ : GoodW _ e.d)
    have q5 := okP_of (⟨rfl, h5⟩ : GoodW _ e.e)
    simp only [q1, q2, q3, q4, q5, Bool.and_self, if_true]
theorem entP_eq (t : List UInt8) : entP t = entE t := Option.ext fun e => by rw [entP_iff, entE_iff]
/-! texts -/
def parA : List (List UInt8) → Option (List Ent)
  | [] => some []
  | [x] => if x = [] then some [] else none
  | x :: y :: xs => match entE x with
    | none => none
    | some e => (parA (y :: xs)).map fun l => e :: l
def parL (s : List UInt8) : Option (List Ent) := parA (cutC 10 s)
def txtL (l : List Ent) : List UInt8 := l.flatMap fun e => lineL e ++ [10]
theorem parA_cons {x : List UInt8} {xs : List (List UInt8)} (h : xs ≠ []) : parA (x :: xs) = match entE x with
    | none => none
    | some e => (parA xs).map fun l => e :: l := by
  cases xs with
  | nil => exact absurd rfl h
  | cons y xs => rfl
/-- the lines, and what stands behind the last line feed -/
theorem parA_snoc : ∀ (ys : List (List UInt8)) (x : List UInt8), parA (ys ++ [x]) = if x = [] then ys.mapM entE else none
  | [], x => by
    simp only [List.nil_append, parA, List.mapM_nil]
    split <;> rfl
  | y :: ys, x => by
    rw [List.cons_append, parA_cons (by simp), parA_snoc ys x]
    cases hy : entE y with
    | none => simp [hy]
    | some e =>
      simp only [List.mapM_cons, hy]
      split
      · cases ys.mapM entE <;> rfl
      · rfl
theorem parL_txt : ∀ {l : List Ent}, (∀ e ∈ l, ShE e) → parL (txtL l) = some l
  | [], _ => by simp [parL, txtL, cutC, parA]
  | e :: l, h => by
    have ih := parL_txt (l := l) fun x hx => h x (List.mem_cons_of_mem _ hx)
    unfold parL at ih ⊢
    have e1 : txtL (e :: l) = lineL e ++ 10 :: txtL l := by
      unfold txtL
      rw [List.flatMap_cons, List.append_assoc]; rfl
    rw [e1, cutC_app (line_nl e), parA_cons (cutC_ne _ _), entE_iff.2 ⟨rfl, h e (List.mem_cons_self ..)⟩, ih]; rfl
theorem txt_of : ∀ (xs : List (List UInt8)) {x : List UInt8} {l : List Ent}, parA (x :: xs) = some l → txtL l = x ++ xs.flatMap (fun y => 10 :: y) ∧ ∀ e ∈ l, ShE e
  | [], x, l, h => by
    simp only [parA] at h
    split at h
    · rename_i hx
      subst hx
      obtain rfl := Option.some.inj h
      exact ⟨rfl, fun _ h => by cases h⟩
    · cases h
  | y :: xs, x, l, h => by
    rw [parA_cons (by simp)] at h
    cases hx : entE x with
    | none => rw [hx] at h; cases h
    | some e =>
      rw [hx] at h
      simp only [Option.map_eq_some_iff] at h
      obtain ⟨m, hm, rfl⟩ := h
      obtain ⟨h1, h2⟩ := txt_of xs hm
      obtain ⟨rfl, hs⟩ := entE_iff.1 hx
      refine ⟨?_, fun z hz => ?_⟩
      · rw [List.flatMap_cons, List.cons_append, ← h1]
        unfold txtL
        rw [List.flatMap_cons, List.append_assoc]; rfl
      · rcases List.mem_cons.1 hz with rfl | hz
        · exact hs
        · exact h2 z hz
theorem parL_of {s : List UInt8} {l : List Ent} (h : parL s = some l) : txtL l = s ∧ ∀ e ∈ l, ShE e := by
  unfold parL at h
  cases hc : cutC 10 s with
  | nil => exact absurd hc (cutC_ne _ _)
  | cons x xs =>
    rw [hc] at h
    obtain ⟨h1, h2⟩ := txt_of xs h
    exact ⟨h1.trans (uncut 10 s hc).symm, h2⟩
theorem nd_le : ∀ (k u : Nat), u < 10 ^ (k + 1) → Lib.nDigits u ≤ k + 1
  | 0, u, h => by rw [Lib.nDigits_small (by simpa using h)]; exact Nat.le_refl _
  | k + 1, u, h => by
    by_cases h1 : u < 10
    · rw [Lib.nDigits_small h1]; omega
    · rw [Lib.nDigits_big h1]
      have := nd_le k (u / 10) (by rw [Nat.pow_succ] at h; omega)
      omega
theorem shN_of {n : Int} (h0 : -1000000000000000000 < n) (h1 : n < 1000000000000000000) : shN n := by
  unfold shN
  rw [Lib.decDigits_length]
  exact nd_le 17 _ (by have : (10 : Nat) ^ 18 = 1000000000000000000 := by decide
                       omega)
end Go.Proofs.YtejohpjhonjcjaaGreatDoor

/- strings.Split and strings.Cut at a byte are the cutting at this byte. No program stands here. -/
namespace Go.Proofs.YtejohpjhonjcjaaGreatDoor
open Go
theorem ibc_nat (l : List UInt8) (c : UInt8) : Lib.indexByte l c = -1 ∨ ∃ i : Nat, Lib.indexByte l c = i := by
  have := Lib.indexByte_ge l c
  by_cases h : Lib.indexByte l c = -1
  · exact .inl h
  · exact .inr ⟨(Lib.indexByte l c).toNat, by omega⟩
theorem cutC_miss (c : UInt8) : ∀ (l : List UInt8), Lib.indexByte l c = -1 → cutC c l = [l] ∧ l.count c = 0
  | [], _ => ⟨rfl, rfl⟩
  | b :: l, h => by
    unfold Lib.indexByte at h
    by_cases hb : b = c
    · subst hb; simp at h
    · have hb' : (b == c) = false := by simpa using hb
      rw [hb'] at h
      have h2 : Lib.indexByte l c = -1 := by
        have := Lib.indexByte_ge l c
        by_cases h3 : Lib.indexByte l c = -1
        · exact h3
        · have : (Lib.indexByte l c == -1) = false := by simpa using h3
          rw [this] at h; simp at h; omega
      obtain ⟨e1, e2⟩ := cutC_miss c l h2
      exact ⟨by simp [cutC, hb, e1], by rw [List.count_cons_of_ne (by simpa using hb), e2]⟩
theorem cutC_hit (c : UInt8) : ∀ (l : List UInt8) (i : Nat), Lib.indexByte l c = i → cutC c l = l.take i :: cutC c (l.drop (i + 1)) ∧ l.count c = 1 + (l.drop (i + 1)).count c ∧ i < l.length
  | [], i, h => by simp [Lib.indexByte] at h
  | b :: l, i, h => by
    unfold Lib.indexByte at h
    by_cases hb : b = c
    · subst hb
      simp at h
      have : i = 0 := by omega
      subst this
      simp [cutC]; omega
    · have hb' : (b == c) = false := by simpa using hb
      rw [hb'] at h
      rcases ibc_nat l c with h2 | ⟨j, h2⟩
      · rw [h2] at h; simp at h
      · have hne : (Lib.indexByte l c == -1) = false := by rw [h2]; simp
        rw [hne] at h
        simp only [Bool.false_eq_true, if_false] at h
        have : i = j + 1 := by omega
        subst this
        obtain ⟨e1, e2, e3⟩ := cutC_hit c l j h2
        refine ⟨?_, ?_, by rw [List.length_cons]; omega⟩
        · simp only [cutC, if_neg hb, e1, List.take_succ_cons, List.drop_succ_cons]
        · rw [List.count_cons_of_ne (by simpa using hb), e2, List.drop_succ_cons]
theorem splitK_cutC (c : UInt8) : ∀ (k : Nat) (l : List UInt8), l.count c = k → Lib.splitK [c] 0 k l = cutC c l
  | 0, l, h => by
    rcases ibc_nat l c with h2 | ⟨j, h2⟩
    · rw [(cutC_miss c l h2).1]; rfl
    · have := (cutC_hit c l j h2).2.1; omega
  | k + 1, l, h => by
    unfold Lib.splitK
    rw [Lib.index_one]
    rcases ibc_nat l c with h2 | ⟨j, h2⟩
    · have := (cutC_miss c l h2).2; omega
    · obtain ⟨e1, e2, _⟩ := cutC_hit c l j h2
      rw [h2, if_neg (by simp), e1, splitK_cutC c k _ (by simp at e2 ⊢; omega)]
      simp
abbrev oneB (c : UInt8) : ByteArray := ⟨#[c]⟩
def partsC (c : UInt8) (s : ByteArray) : List ByteArray := (cutC c s.data.toList).map ofL
theorem partsC_len (c : UInt8) (s : ByteArray) : (partsC c s).length = (cutC c s.data.toList).length := List.length_map ..
theorem cutC_length (c : UInt8) : ∀ (k : Nat) (l : List UInt8), l.count c = k → (cutC c l).length = k + 1 := by
  intro k
  induction k with
  | zero =>
    intro l hl
    rcases ibc_nat l c with h2 | ⟨j, h2⟩
    · rw [(cutC_miss c l h2).1]; rfl
    · have := (cutC_hit c l j h2).2.1; omega
  | succ k ih =>
    intro l hl
    rcases ibc_nat l c with h2 | ⟨j, h2⟩
    · have := (cutC_miss c l h2).2; omega
    · obtain ⟨e1, e2, _⟩ := cutC_hit c l j h2
      rw [e1, List.length_cons, ih _ (by omega)]
theorem split_partsC (c : UInt8) (s : ByteArray) : Lib.splitB (oneB c) 0 (Lib.countB s (oneB c)) s = partsC c s ∧ Lib.countB s (oneB c) + 1 = (partsC c s).length := by
  have hc : Lib.countB s (oneB c) = s.data.toList.count c := Lib.count_one c s.data.toList
  have h := Lib.splitB_data (oneB c) 0 (Lib.countB s (oneB c)) s
  have h2 : Lib.splitK (oneB c).data.toList 0 (Lib.countB s (oneB c)) s.data.toList = cutC c s.data.toList := splitK_cutC c _ _ hc.symm
  rw [h2] at h
  have e : Lib.splitB (oneB c) 0 (Lib.countB s (oneB c)) s = partsC c s := by
    unfold partsC
    rw [← h, List.map_map]
    have : (ofL ∘ fun x : ByteArray => x.data.toList) = id := funext fun x => ofL_toL x
    rw [this, List.map_id]
  exact ⟨e, by rw [partsC_len, cutC_length c _ _ rfl, hc]⟩
/-- what Cut gives -/
theorem cut_C (c : UInt8) (l : List UInt8) : (∃ i, Lib.cut l [c] = (l.take i, l.drop (i + 1), true) ∧ cutC c l = l.take i :: cutC c (l.drop (i + 1)) ∧ i < l.length) ∨ (Lib.cut l [c] = (l, [], false) ∧ cutC c l = [l]) := by
  unfold Lib.cut
  rw [Lib.index_one]
  rcases ibc_nat l c with h | ⟨i, h⟩
  · right
    rw [h, if_neg (by omega)]
    exact ⟨rfl, (cutC_miss c l h).1⟩
  · left
    obtain ⟨e1, _, e3⟩ := cutC_hit c l i h
    refine ⟨i, ?_, e1, e3⟩
    rw [h, if_pos (by omega), Int.toNat_natCast]
    simp
/-- TrimPrefix at a sign -/
theorem trim_unS (l : List UInt8) : Lib.trimPrefix l [45] = unS l := by
  unfold Lib.trimPrefix Lib.hasPrefix
  cases l with
  | nil => rfl
  | cons b r =>
    show _ = if b = 45 then r else b :: r
    by_cases h : b = 45
    · subst h; simp
    · rw [if_neg h, if_neg]
      simp [Ne.symm h]
theorem join_line (e : Ent) : Lib.join [Lib.itoa e.a, Lib.itoa e.b, Lib.itoa e.c, Lib.itoa e.d, Lib.itoa e.e] [32] = lineL e := by
  rw [Lib.join_cons]
  unfold Lib.joinTail lineL
  simp
end Go.Proofs.YtejohpjhonjcjaaGreatDoor

/- Walks: the library's numbers and texts, as the replay's texts use them. -/
namespace Go.Proofs.YtejohpjhonjcjaaGreatDoor
open Eng Go.RowKit
/-- the library's variables: a number, a table, two errors -/
structure Gs (w : World) : Prop where
  m : ∃ m, w.cell? ⟨0, 0, none⟩ = some (.int .i64 m)
  t : Lib.TabIs Tryz.prog w "internal/strconv.uint64pow10" .u64 Lib.pow10Tab
  s : ∃ ev, w.cell? ⟨1, 0, none⟩ = some ev ∧ (ev = .nilIface ∨ ∃ te pe, ev = .iface te pe)
  r : ∃ ev, w.cell? ⟨2, 0, none⟩ = some ev ∧ (ev = .nilIface ∨ ∃ te pe, ev = .iface te pe)
theorem Bl.of_drewN {w : World} (n : Nat) : Bl w (w.drewN n) := ⟨rfl, rfl, rfl, Nat.le_refl _, fun _ _ => rfl⟩
theorem Gs.bl {w w' : World} (h : Gs w) (k : Bl w w') : Gs w' := by
  obtain ⟨⟨m, hm⟩, t, ⟨e1, h1, q1⟩, ⟨e2, h2, q2⟩⟩ := h
  exact ⟨⟨m, k.kp T _ _ _ trivial hm⟩, Joins.tab_stays (g := 5) (by kernel_rfl) t k (Nat.le_refl _), ⟨e1, k.kp T _ _ _ trivial h1, q1⟩, ⟨e2, k.kp T _ _ _ trivial h2, q2⟩⟩
theorem c_Itoa (n : Int) (h0 : -9223372036854775808 ≤ n) (h1 : n ≤ 9223372036854775807) (w : World) (hG : Gs w) : Ret Tryz.prog 43 #[I n] w fun v w' => v = .string (ofL (Lib.itoa n)) ∧ Bl w w' := by
  refine ⟨by kernel_rfl, (Tryz.strconv_Itoa n h0 h1 w hG.t).mono ?_⟩
  rintro e w' ⟨rfl, k, os, rfl⟩
  exact ⟨rfl, Lib.below_grow _ _ (Nat.le_refl _) _ _⟩
theorem c_Atoi (s : ByteArray) (hs : s.size ≤ 1048576) (w : World) (hG : Gs w) : Ret Tryz.prog 41 #[.string s] w fun v w' => ∃ n ev, v = .tuple #[I n, ev] ∧ (∀ m, Lib.atoiAll s.data.toList = .ok m → n = m ∧ ev = .nilIface) ∧ ((∀ m, Lib.atoiAll s.data.toList ≠ .ok m) → ∃ te pe, ev = .iface te pe) ∧ Bl w w' := by
  obtain ⟨e1, h1, q1⟩ := hG.s
  obtain ⟨e2, h2, q2⟩ := hG.r
  cases ha : Lib.atoiAll s.data.toList with
  | ok m =>
    refine ⟨by kernel_rfl, (Tryz.strconv_Atoi_ok s (by omega) m ha w).mono ?_⟩
    rintro e w' ⟨rfl, hw⟩
    refine ⟨m, .nilIface, rfl, fun m' h => ⟨by injection h, rfl⟩, fun h => absurd rfl (h m), ?_⟩
    rcases hw with rfl | ⟨t, rfl⟩
    · exact Bl.refl _
    · exact Lib.bytesWorld_below _ _ _
  | «syntax» =>
    refine ⟨by kernel_rfl, (Tryz.strconv_Atoi_syntax s (by omega) ha e1 w h1 q1).mono ?_⟩
    rintro e w' ⟨N, rfl, _, _, hB⟩
    exact ⟨0, _, rfl, (fun m h => by cases h), fun _ => ⟨_, _, rfl⟩, hB⟩
  | range =>
    refine ⟨by kernel_rfl, (Tryz.strconv_Atoi_range s (by omega) ha e2 w h2 q2).mono ?_⟩
    rintro e w' ⟨N, rfl, _, _, hB⟩
    exact ⟨_, _, rfl, (fun m h => by cases h), fun _ => ⟨_, _, rfl⟩, hB⟩
theorem c_Cut (s : ByteArray) (c : UInt8) (hs : s.size ≤ 1048576) (w : World) (hG : Gs w) : Ret Tryz.prog 17 #[.string s, .string (oneB c)] w fun v w' => v = .tuple #[.string (ofL (Lib.cut s.data.toList [c]).1), .string (ofL (Lib.cut s.data.toList [c]).2.1), .bool (Lib.cut s.data.toList [c]).2.2] ∧ Bl w w' := by
  obtain ⟨m, hm⟩ := hG.m
  refine ⟨by kernel_rfl, (Tryz.strings_Cut s (oneB c) m w (by omega) hm).mono ?_⟩
  rintro e w' ⟨rfl, n, rfl⟩
  exact ⟨rfl, Bl.of_drewN n⟩
theorem c_SplitC (s : ByteArray) (c : UInt8) (w : World) (hs : s.size ≤ 1048576) (hG : Gs w) : Ret Tryz.prog 18 #[.string s, .string (oneB c)] w fun v w' => ∃ b n, v = .slice (some ⟨b, 0, none⟩) (partsC c s).length n ∧ (partsC c s).length ≤ n ∧ Sl eStr T w' (some ⟨b, 0, none⟩) (partsC c s) ∧ Bl w w' := by
  obtain ⟨m, hm⟩ := hG.m
  refine ⟨by kernel_rfl, (Tryz.strings_Split s (oneB c) m w (by omega) hm (Nat.le_refl 1)).mono ?_⟩
  rintro e w' ⟨rfl, rfl⟩
  obtain ⟨e1, e2⟩ := split_partsC c s
  rw [e1, e2]
  have hl := partsC_len c s
  have hn := cutC_length c _ s.data.toList rfl
  have hc : s.data.toList.count c ≤ s.data.toList.length := List.count_le_length
  rw [ba_len] at hc
  have hnew : New w w.heap.size 9 ((partsC c s).map Value.string) (w.alloc (.cells ((partsC c s).map Value.string).toArray 9)) := ⟨rfl, rfl⟩
  refine ⟨_, _, rfl, Nat.le_refl _, ?_, hnew.bl⟩
  have hO := Ow.made (n := (partsC c s).length) (esz := 1) hnew (by simp) (by omega)
  exact hO.strs rfl (by omega) (fun _ _ => trivial)
theorem c_Trim (s : ByteArray) (w : World) : Ret Tryz.prog 42 #[.string s, .string (oneB 45)] w fun v w' => v = .string (ofL (unS s.data.toList)) ∧ w' = w := by
  refine ⟨by kernel_rfl, (Tryz.strings_TrimPrefix s (oneB 45) w).mono ?_⟩
  rintro e w' ⟨rfl, rfl⟩
  refine ⟨?_, rfl⟩
  show Value.string (ofL (Lib.trimPrefix s.data.toList [45])) = _
  rw [trim_unS]
end Go.Proofs.YtejohpjhonjcjaaGreatDoor
