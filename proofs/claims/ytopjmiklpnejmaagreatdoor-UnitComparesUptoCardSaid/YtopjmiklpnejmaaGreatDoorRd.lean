/- What an argument of the laws holds, as lists and structures: a unit, a list of strings, bytes. -/
import Derived.Test.YtopjmiklpnejmaaGreatDoorBase
import Derived.Test.YtopjmiklpnejmaaGreatDoorSpec
import Derived.Deep.Slices
namespace Go.Proofs.YtopjmiklpnejmaaGreatDoor
open Eng Go.ChangeShapes Go.WideShapes Go.ChangeAt Go.RowKit
theorem bulk_one {H : Type} (d : DataW H) : 1 ≤ Rows.uptoBulk d := by
  cases d with
  | lit l => cases l <;> simp [Rows.uptoBulk]
  | nil => simp [Rows.uptoBulk]
  | ptr d => simp [Rows.uptoBulk]
  | slice elems spare => simp [Rows.uptoBulk]
  | agg parts => simp [Rows.uptoBulk]
  | iface t d => simp [Rows.uptoBulk]
  | map entries => simp [Rows.uptoBulk]
  | held h => simp [Rows.uptoBulk]
theorem bulk_part {H : Type} {d : DataW H} {l : List (DataW H)} (h : d ∈ l) : Rows.uptoBulk d ≤ Rows.uptoBulkAll l := by
  induction l with
  | nil => cases h
  | cons x r ih =>
    simp only [Rows.uptoBulkAll]
    cases List.mem_cons.1 h with
    | inl e => subst e; omega
    | inr e => have := ih e; omega
theorem bulk_len {H : Type} (l : List (DataW H)) : l.length ≤ Rows.uptoBulkAll l := by
  induction l with
  | nil => simp [Rows.uptoBulkAll]
  | cons x r ih => have := bulk_one x; simp only [Rows.uptoBulkAll, List.length_cons]; omega
theorem list_of {α : Type} {p : Nat → α → Prop} : ∀ {n : Nat}, (∀ i, i < n → ∃ x, p i x) → ∃ l : List α, l.length = n ∧ ∀ i x, l[i]? = some x → p i x
  | 0, _ => ⟨[], rfl, fun i x h => by simp at h⟩
  | n + 1, hel => by
    obtain ⟨l, e1, e2⟩ := list_of (n := n) fun i hi => hel i (by omega)
    obtain ⟨x, h1⟩ := hel n (by omega)
    refine ⟨l ++ [x], by simp [e1], fun i y hy => ?_⟩
    rcases Nat.lt_or_ge i l.length with q | q
    · rw [List.getElem?_append_left q] at hy
      exact e2 i y hy
    · rw [List.getElem?_append_right q] at hy
      rcases Nat.eq_zero_or_pos (i - l.length) with h0 | h0
      · rw [h0] at hy
        simp at hy
        subst hy
        obtain rfl : i = n := by omega
        exact h1
      · rw [List.getElem?_eq_none (by simp; omega)] at hy
        cases hy
section
variable {H : Type} {enc : TypeId × Value → H} {P : Program} {w : World} {base : Nat} {sp : Nat → Bool} {hd : Bool}
/-- cells of type t with a bulk of at most a million are such a datum -/
def Reads (enc : TypeId × Value → H) (P : Program) (w : World) (base : Nat) (sp : Nat → Bool) (hd : Bool) (t : TypeId) (R : List Value → Prop) : Prop :=
  ∀ (n : Nat) (cs : List Value) (y : DataW H × List MemPlace), DataW.trod enc P w base sp hd n t cs = some y → Rows.uptoBulk y.1 ≤ 1048576 → R cs
theorem reads_int {t : TypeId} (ht : P.underlying t = some (.int .i64)) : Reads enc P w base sp hd t fun cs => ∃ n, cs = [I n] := fun n cs y h _ => by
  obtain ⟨n, rfl, _⟩ := DataW.trod_int ht h
  exact ⟨n, rfl⟩
theorem reads_str {t : TypeId} (ht : P.underlying t = some .string) : Reads enc P w base sp hd t fun cs => ∃ s : ByteArray, cs = [.string s] ∧ s.size ≤ 1048576 := fun n cs y h hb => by
  obtain ⟨s, rfl, rfl, _⟩ := DataW.trod_string ht h
  refine ⟨s, rfl, ?_⟩
  simp only [Rows.uptoBulk] at hb
  have := ba_len s
  omega
/-- the fields of a struct -/
theorem reads_fields {t : TypeId} {L : List (TypeId × Nat)} (ht : P.underlying t = some (.struct (P.fieldsOf t))) (hm : ((P.fieldsOf t).toList.map fun f => (f.type, f.offset)) = L) {n : Nat} {cs : List Value} {y : DataW H × List MemPlace}
    (h : DataW.trod enc P w base sp hd n t cs = some y) (hb : Rows.uptoBulk y.1 ≤ 1048576) : cs.length = P.cellsOf t ∧ ∀ q ∈ L, ∀ R : List Value → Prop, Reads enc P w base sp hd q.1 R → R ((cs.drop q.2).take (P.cellsOf q.1)) := by
  obtain ⟨xs, m, rfl, rfl, h1, h2, h3⟩ := DataW.trod_struct ht h
  refine ⟨h1, fun q hq R hR => ?_⟩
  rw [← hm] at hq
  obtain ⟨f, hf, rfl⟩ := List.mem_map.1 hq
  obtain ⟨i, hi⟩ := List.mem_iff_getElem?.1 hf
  rw [Array.getElem?_toList] at hi
  have h4 := h3 i f hi
  have hlt : i < xs.length := by
    rw [h2]
    rcases Nat.lt_or_ge i (P.fieldsOf t).size with h5 | h5
    · exact h5
    · rw [Array.getElem?_eq_none h5] at hi; cases hi
  rw [List.getElem?_eq_getElem hlt] at h4
  refine hR m _ _ h4 ?_
  have : xs[i].1 ∈ xs.map (·.1) := List.mem_map_of_mem (List.getElem_mem hlt)
  have := bulk_part this
  simp only [Rows.uptoBulk] at hb
  omega
/-- a slice -/
theorem reads_slice {α : Type} {E : El α} {t e : TypeId} (ht : P.underlying t = some (.slice e)) (hc : P.cellsOf e = E.sz) (hpos : 0 < E.sz) (hE : Reads enc P w base sp hd e fun cs => ∃ x, E.rel T w cs x) :
    Reads enc P w base sp hd t fun cs => ∃ (a : Option Addr) (l : List α) (cap : Nat), cs = [.slice a l.length cap] ∧ Sl E T w a l := fun n cs y h hb => by
  rcases Deep.open_slice ht h with ⟨rfl, rfl⟩ | ⟨a, len, cap, m, k, D, Pl, rfl, _, hl, _, hm, rfl, hx⟩
  · exact ⟨none, [], 0, rfl, Sl.nil ..⟩
  · have hle : len ≤ m := by rw [hm]; split <;> omega
    simp only [Rows.uptoBulk] at hb
    have hlen : len ≤ 1048576 := by
      have := bulk_len ((List.range len).map D)
      rw [List.length_map, List.length_range] at this
      omega
    obtain ⟨l, hl2, hl3⟩ := list_of (n := len) (p := fun i (x : α) => ∃ cs', w.cells? base (a.add (i * E.sz)) E.sz = some cs' ∧ E.rel T w cs' x) fun i hi => by
      obtain ⟨cs', h1, h2⟩ := hx i (by omega)
      rw [hc] at h1
      obtain ⟨x, hr⟩ := hE k cs' _ h2 (by
        have : D i ∈ (List.range len).map D := List.mem_map_of_mem (List.mem_range.2 hi)
        have := bulk_part this
        show Rows.uptoBulk (D i) ≤ 1048576
        omega)
      exact ⟨x, cs', h1, hr⟩
    obtain ⟨b, o, s⟩ := a
    refine ⟨some ⟨b, o, s⟩, l, cap, by rw [hl2], by omega, fun i x hx => ?_⟩
    obtain ⟨cs', h1, h2⟩ := hl3 i x hx
    obtain ⟨_, h3, h4⟩ := World.cells?_some h1
    have hs : s = none := by
      obtain ⟨x0, e0⟩ := some_of_lt (l := l) (k := 0) (by have := (List.getElem?_eq_some_iff.1 hx).1; omega)
      obtain ⟨cs0, g1, _⟩ := hl3 0 x0 e0
      obtain ⟨_, g3, g4⟩ := World.cells?_some g1
      have h5 := g4 0 hpos
      rw [List.getElem?_eq_getElem (by omega)] at h5
      have := World.cell?_spot h5
      simpa [Addr.add] using this
    subst hs
    refine ⟨b, o, cs', rfl, trivial, fun j v hj => ?_, h2⟩
    have hj' : j < E.sz := by rw [← h3]; exact (List.getElem?_eq_some_iff.1 hj).1
    have := h4 j hj'
    rw [hj] at this
    rw [← this, Deep.add_add]
    congr 1
    simp only [Addr.add]
    split <;> simp <;> omega
end
section
variable {H : Type} {enc : TypeId × Value → H} {w : World} {base : Nat} {sp : Nat → Bool} {hd : Bool}
set_option maxRecDepth 100000 in
theorem rd_ty : Reads enc Tryz.prog w base sp hd 61 fun cs => ∃ x, eTy.rel T w cs x := fun n cs y h hb => by
  obtain ⟨h1, h2⟩ := reads_fields (L := [(3, 0), (3, 1)]) (by kernel_rfl) (by kernel_rfl) h hb
  rw [show Tryz.prog.cellsOf 61 = 2 by kernel_rfl] at h1
  match cs, h1 with
  | [c0, c1], _ =>
    obtain ⟨a, ea⟩ := h2 (3, 0) (by simp) _ (reads_int (by kernel_rfl))
    obtain ⟨b, eb⟩ := h2 (3, 1) (by simp) _ (reads_int (by kernel_rfl))
    simp only [show Tryz.prog.cellsOf 3 = 1 by kernel_rfl, List.drop, List.take, List.cons.injEq, and_true] at ea eb
    subst ea eb
    exact ⟨⟨a, b⟩, rfl⟩
set_option maxRecDepth 100000 in
theorem rd_ins : Reads enc Tryz.prog w base sp hd 89 fun cs => ∃ x, eIns.rel T w cs x := fun n cs y h hb => by
  obtain ⟨h1, h2⟩ := reads_fields (L := [(3, 0), (3, 1), (3, 2)]) (by kernel_rfl) (by kernel_rfl) h hb
  rw [show Tryz.prog.cellsOf 89 = 3 by kernel_rfl] at h1
  match cs, h1 with
  | [c0, c1, c2], _ =>
    obtain ⟨a, ea⟩ := h2 (3, 0) (by simp) _ (reads_int (by kernel_rfl))
    obtain ⟨b, eb⟩ := h2 (3, 1) (by simp) _ (reads_int (by kernel_rfl))
    obtain ⟨c, ec⟩ := h2 (3, 2) (by simp) _ (reads_int (by kernel_rfl))
    simp only [show Tryz.prog.cellsOf 3 = 1 by kernel_rfl, List.drop, List.take, List.cons.injEq, and_true] at ea eb ec
    subst ea eb ec
    exact ⟨⟨a, b, c⟩, rfl⟩
set_option maxRecDepth 100000 in
theorem rd_fld : Reads enc Tryz.prog w base sp hd 86 fun cs => ∃ x, eFld.rel T w cs x := fun n cs y h hb => by
  obtain ⟨h1, h2⟩ := reads_fields (L := [(3, 0), (61, 1)]) (by kernel_rfl) (by kernel_rfl) h hb
  rw [show Tryz.prog.cellsOf 86 = 3 by kernel_rfl] at h1
  match cs, h1 with
  | [c0, c1, c2], _ =>
    obtain ⟨a, ea⟩ := h2 (3, 0) (by simp) _ (reads_int (by kernel_rfl))
    obtain ⟨t, et⟩ := h2 (61, 1) (by simp) _ rd_ty
    simp only [show Tryz.prog.cellsOf 3 = 1 by kernel_rfl, show Tryz.prog.cellsOf 61 = 2 by kernel_rfl, List.drop, List.take, List.cons.injEq, and_true] at ea et
    subst ea
    simp only [eTy, plainEl, encTy, List.cons.injEq, and_true] at et
    obtain ⟨rfl, rfl⟩ := et
    exact ⟨⟨a, t⟩, rfl⟩
theorem rd_str : Reads enc Tryz.prog w base sp hd 9 fun cs => ∃ x : ByteArray, (cs = encStr x ∧ x.size ≤ 1048576) := fun n cs y h hb => by
  obtain ⟨s, rfl, hs⟩ := reads_str (by kernel_rfl) n cs y h hb
  exact ⟨s, rfl, hs⟩
set_option maxRecDepth 100000 in
theorem rd_cls : Reads enc Tryz.prog w base sp hd 58 fun cs => ∃ x, eCls.rel T w cs x := fun n cs y h hb => by
  obtain ⟨h1, h2⟩ := reads_fields (L := [(3, 0), (3, 1), (27, 2)]) (by kernel_rfl) (by kernel_rfl) h hb
  rw [show Tryz.prog.cellsOf 58 = 3 by kernel_rfl] at h1
  match cs, h1 with
  | [c0, c1, c2], _ =>
    obtain ⟨a, ea⟩ := h2 (3, 0) (by simp) _ (reads_int (by kernel_rfl))
    obtain ⟨b, eb⟩ := h2 (3, 1) (by simp) _ (reads_int (by kernel_rfl))
    obtain ⟨ad, l, cap, ec, hl⟩ := h2 (27, 2) (by simp) _ (reads_slice (by kernel_rfl) (by kernel_rfl) (by decide) rd_fld)
    simp only [show Tryz.prog.cellsOf 3 = 1 by kernel_rfl, show Tryz.prog.cellsOf 27 = 1 by kernel_rfl, List.drop, List.take, List.cons.injEq, and_true] at ea eb ec
    subst ea eb ec
    exact ⟨⟨a, b, l⟩, ad, cap, rfl, hl⟩
set_option maxRecDepth 100000 in
theorem rd_mth : Reads enc Tryz.prog w base sp hd 64 fun cs => ∃ x, eMth.rel T w cs x := fun n cs y h hb => by
  obtain ⟨h1, h2⟩ := reads_fields (L := [(3, 0), (3, 1), (59, 2), (59, 3), (61, 4), (62, 6)]) (by kernel_rfl) (by kernel_rfl) h hb
  rw [show Tryz.prog.cellsOf 64 = 7 by kernel_rfl] at h1
  match cs, h1 with
  | [c0, c1, c2, c3, c4, c5, c6], _ =>
    obtain ⟨a, ea⟩ := h2 (3, 0) (by simp) _ (reads_int (by kernel_rfl))
    obtain ⟨b, eb⟩ := h2 (3, 1) (by simp) _ (reads_int (by kernel_rfl))
    obtain ⟨a1, l1, k1, e1, s1⟩ := h2 (59, 2) (by simp) _ (reads_slice (by kernel_rfl) (by kernel_rfl) (by decide) rd_ty)
    obtain ⟨a2, l2, k2, e2, s2⟩ := h2 (59, 3) (by simp) _ (reads_slice (by kernel_rfl) (by kernel_rfl) (by decide) rd_ty)
    obtain ⟨t, et⟩ := h2 (61, 4) (by simp) _ rd_ty
    obtain ⟨a3, l3, k3, e3, s3⟩ := h2 (62, 6) (by simp) _ (reads_slice (by kernel_rfl) (by kernel_rfl) (by decide) rd_ins)
    simp only [show Tryz.prog.cellsOf 3 = 1 by kernel_rfl, show Tryz.prog.cellsOf 61 = 2 by kernel_rfl, show Tryz.prog.cellsOf 59 = 1 by kernel_rfl, show Tryz.prog.cellsOf 62 = 1 by kernel_rfl, List.drop, List.take, List.cons.injEq, and_true] at ea eb e1 e2 e3 et
    subst ea eb e1 e2 e3
    simp only [eTy, plainEl, encTy, List.cons.injEq, and_true] at et
    obtain ⟨rfl, rfl⟩ := et
    exact ⟨⟨a, b, l1, l2, t, l3⟩, a1, k1, a2, k2, a3, k3, rfl, s1, s2, s3⟩
/-- strings, each of a size -/
def eStr' : El ByteArray :=
  { sz := 1, rel := fun _ _ cs x => cs = encStr x ∧ x.size ≤ 1048576, len := fun e => by rw [e.1]; rfl, kp := fun _ e => e, sub := fun _ e => e }
set_option maxRecDepth 100000 in
theorem rd_strs : Reads enc Tryz.prog w base sp hd 25 fun cs => ∃ (a : Option Addr) (l : List ByteArray) (cap : Nat), cs = [.slice a l.length cap] ∧ Sl eStr T w a l ∧ ∀ s ∈ l, s.size ≤ 1048576 := fun n cs y h hb => by
  obtain ⟨a, l, cap, e, hl⟩ := reads_slice (E := eStr') (by kernel_rfl) (by kernel_rfl) (by decide) rd_str n cs y h hb
  refine ⟨a, l, cap, e, ⟨hl.big, fun i x hx => ?_⟩, fun s hs => ?_⟩
  · obtain ⟨b, o, cs, e, hb, hat, hr⟩ := hl.el i x hx
    exact ⟨b, o, cs, e, hb, hat, hr.1⟩
  · obtain ⟨i, hi⟩ := List.mem_iff_getElem?.1 hs
    obtain ⟨b, o, cs, e, hb, hat, hr⟩ := hl.el i s hi
    exact hr.2
set_option maxRecDepth 100000 in
theorem rd_unit : Reads enc Tryz.prog w base sp hd 30 fun cs => ∃ (u : Unt) (a : UA), cs = ucells u a ∧ UnR T w u a := fun n cs y h hb => by
  obtain ⟨h1, h2⟩ := reads_fields (L := [(9, 0), (25, 1), (26, 2), (27, 3), (28, 4)]) (by kernel_rfl) (by kernel_rfl) h hb
  rw [show Tryz.prog.cellsOf 30 = 5 by kernel_rfl] at h1
  match cs, h1 with
  | [c0, c1, c2, c3, c4], _ =>
    obtain ⟨s, es, hs⟩ := h2 (9, 0) (by simp) _ rd_str
    obtain ⟨a1, l1, k1, e1, s1, p1⟩ := h2 (25, 1) (by simp) _ rd_strs
    obtain ⟨a2, l2, k2, e2, s2⟩ := h2 (26, 2) (by simp) _ (reads_slice (by kernel_rfl) (by kernel_rfl) (by decide) rd_cls)
    obtain ⟨a3, l3, k3, e3, s3⟩ := h2 (27, 3) (by simp) _ (reads_slice (by kernel_rfl) (by kernel_rfl) (by decide) rd_fld)
    obtain ⟨a4, l4, k4, e4, s4⟩ := h2 (28, 4) (by simp) _ (reads_slice (by kernel_rfl) (by kernel_rfl) (by decide) rd_mth)
    simp only [show Tryz.prog.cellsOf 9 = 1 by kernel_rfl, show Tryz.prog.cellsOf 25 = 1 by kernel_rfl, show Tryz.prog.cellsOf 26 = 1 by kernel_rfl, show Tryz.prog.cellsOf 27 = 1 by kernel_rfl, show Tryz.prog.cellsOf 28 = 1 by kernel_rfl, List.drop, List.take, List.cons.injEq, and_true] at es e1 e2 e3 e4
    subst es e1 e2 e3 e4
    exact ⟨⟨s, l1, l2, l3, l4⟩, ⟨a1, k1, a2, k2, a3, k3, a4, k4⟩, rfl, ⟨hs, p1, s1, s2, s3, s4⟩⟩
set_option maxRecDepth 100000 in
/-- an argument that is a unit -/
theorem open_unit {r : Reach} {b0 : Nat} {v : Value} {d : DataW H} {p : List MemPlace} (hval : Value.okWide Tryz.prog w r b0 30 v) (h : DataW.Trod enc Tryz.prog w base sp hd 30 v d p) (hb : Rows.uptoBulk d ≤ 1048576) :
    ∃ (u : Unt) (a : UA), v = .agg (ucells u a).toArray ∧ UnR T w u a := by
  obtain ⟨cs, rfl, _⟩ := okWide_struct (show Tryz.prog.underlying 30 = some (.struct (Tryz.prog.fieldsOf 30)) by kernel_rfl) hval
  obtain ⟨n, h⟩ := h
  obtain ⟨u, a, e, hu⟩ := rd_unit n _ _ h hb
  refine ⟨u, a, ?_, hu⟩
  rw [← e]
  simp [Value.cells]
end
theorem prog_kids : Kids Tryz.prog (· < Tryz.prog.types.size) := kids_rows (by kernel_rfl) (by kernel_rfl)
theorem prog_full : ∀ t e, t < Tryz.prog.types.size → Tryz.prog.underlying t = some (.slice e) → 0 < Tryz.prog.cellsOf e := slices_full_of Tryz.prog (by kernel_rfl)
theorem same_bl {W W' : World} (h : Bl W W') {p : MemPlace} (hp : p.block < W.heap.size) : W.sameAt W' p := by
  cases p with
  | cell b o => exact World.cell?_of_block (w := W) (h.block b hp)
  | map b => exact h.block b hp
theorem all_bl {H : Type} {enc : TypeId × Value → H} {P : Program} {W W' : World} {base : Nat} {sp : Nat → Bool} {hd : Bool} (h : Bl W W') : ∀ {ts : List TypeId} {vs : List Value} {ds : List (DataW H)} {ps : List MemPlace}, (∀ p ∈ ps, p.block < W.heap.size) →
    DataW.TrodAll enc P W base sp hd ts vs ds ps → DataW.TrodAll enc P W' base sp hd ts vs ds ps
  | [], [], [], _, _, h1 => h1
  | _ :: _, _ :: _, _ :: _, _, hp, ⟨p, q, ⟨n, h1⟩, h2, e⟩ =>
    ⟨p, q, ⟨n, DataW.trod_carry n _ _ _ h1 fun x hx => same_bl h (hp x (by rw [e]; exact List.mem_append_left _ hx))⟩, all_bl h (fun x hx => hp x (by rw [e]; exact List.mem_append_right _ hx)) h2, e⟩
set_option maxRecDepth 100000 in
/-- a law that holds and has left alone what was there -/
theorem post_law {H : Type} {enc : TypeId × Value → H} {f : Func} {s : ChangeSpec} {W W' : World} {args : Array Value} {ds gs : List (DataW H)} {before : List MemPlace} (hW : DataW.Whole enc Tryz.prog f.params.toList s.vars false W args.toList ds gs before)
    (hv : s.vars = []) (hs : ∀ gs', gs' = [] → (s.fn H (ds ++ gs')).results = [.lit (.bool true)] ∧ (s.fn H (ds ++ gs')).args = ds ∧ (s.fn H (ds ++ gs')).vars = []) (hpar : ∀ t ∈ f.params.toList, t < Tryz.prog.types.size) (hr : f.resultTypes = #[4]) (hB : Bl W W') :
    s.post enc Tryz.prog f false true false false W args (.bool true) W' := by
  have hW0 := hW
  have hlt := hW.lt
  obtain ⟨p, q, hA, hV, rfl, _⟩ := hW
  rw [hv] at hV
  obtain ⟨rfl, rfl⟩ := trodVars_none hV
  obtain ⟨h1, h2, h3⟩ := hs [] rfl
  have hA' := all_bl hB (fun x hx => hlt x (List.mem_append_left _ hx)) hA
  refine post_of_bl (pa := p) (pv := []) hW0 (fun _ _ _ => ?_) (fun sp hsp => ?_) (fun _ _ => ?_) rfl hB (ok_one hr rfl (okWide_bool_mk Tryz.underlying4 _))
  · rw [h1, hr]
    exact trodAll_cons_mk (shut_bool Tryz.underlying4 _) trodAll_mk0
  · rw [h2]
    exact DataW.TrodAll.respare prog_kids prog_full hpar hA' (fun x hx => hsp x (List.mem_append_left _ hx))
  · rw [h3, hv]; rfl
end Go.Proofs.YtopjmiklpnejmaaGreatDoor
