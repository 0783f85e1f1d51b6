/-
  The law MachineTold of the machine (layer 27): for any list of entries and any job, what the program's Told tells is what the document's tells. Conditions: the tables that the row lists, as the program's text lays them.
-/
import Derived.Test.YtniijapijalphaaGreatDoorM1
import Derived.Test.YtniijapijalphaaGreatDoorM11
import Derived.Deep.DeepHandedRow
import Derived.Deep.Slices
namespace Go.Proofs.YtniijapijalphaaGreatDoor.machineTold
open Eng Go.ChangeShapes Go.WideShapes Go.ChangeAt Go.RowKit
section
theorem kept_of_bl {W W' : World} (h : Bl W W') (may : MemPlace → Prop) : W.keptBut W' may := by
  refine ⟨h.os, h.output, fun i hi => ?_⟩
  rw [h.block i hi]
  cases hw : W.heap[i]? with
  | none => trivial
  | some o => cases o <;> first | exact ⟨rfl, rfl, rfl, fun _ _ => rfl⟩ | exact .inr ⟨rfl, rfl⟩ | rfl | trivial
theorem frozen_bl {W W' : World} (h : Bl W W') {b off : Nat} (hb : b < W.heap.size) : W'.frozen? ⟨b, off, none⟩ = W.frozen? ⟨b, off, none⟩ := by simp only [World.frozen?, h.block b hb]
variable {H : Type} {enc : TypeId × Value → H} {P : Program}
/-- the end of a call that has left alone what was there -/
theorem post_of_bl {f : Func} {s : ChangeSpec} {apart fresh handsOn again : Bool} {W W' : World} {args : Array Value} {v : Value} {ds gs : List (DataW H)} {before pa pv : List MemPlace}
    (hW : DataW.Whole enc P f.params.toList s.vars apart W args.toList ds gs before)
    (hres : ∀ (b : Nat) (sp : Nat → Bool) (hd : Bool), DataW.TrodAll enc P W' b sp hd f.resultTypes.toList (v.resultList f.resultTypes.size) (s.fn H (ds ++ gs)).results [])
    (hargs : ∀ sp : Nat → Bool, (∀ p ∈ before, sp p.block = true) → DataW.TrodAll enc P W' 0 sp true f.params.toList args.toList (s.fn H (ds ++ gs)).args pa)
    (hvars : ∀ sp : Nat → Bool, (∀ p ∈ before, sp p.block = true) → DataW.TrodVars enc P W' sp s.vars (s.fn H (ds ++ gs)).vars pv)
    (hps : before = pa ++ pv) (hB : Bl W W')
    (hok : ∀ (j : Nat) (t : TypeId) (r : Value), f.resultTypes[j]? = some t → (v.resultList f.resultTypes.size)[j]? = some r → Value.okWide P W' .any 0 t r) :
    s.post enc P f apart fresh handsOn again W args v W' := by
  have hlt := hW.lt
  have hold : ∀ p ∈ before, (fun b => decide (b < W.heap.size)) p.block = true := fun p hp => by simpa using hlt p hp
  refine ⟨ds, gs, before, [], pa, pv, hW, hres _ _ _, hargs _ hold, hvars _ hold, World.keptBut_mono (fun p hp => ⟨hp, ?_⟩) (kept_of_bl hB (· ∈ before)), fun _ => ?_⟩
  · rw [hps, List.mem_append] at hp
    exact Or.inr hp
  · obtain ⟨_, _, _, _, _, hz, hn⟩ := hW
    refine ⟨hok, _, _, ([] ++ pa) ++ pv, ⟨[] ++ pa, pv, trodAll_append (hargs _ (fun _ _ => rfl)) (hres _ _ _), hvars _ (fun _ _ => rfl), rfl, ?_, ?_⟩, ?_⟩
    · intro b off hp
      have hp' : MemPlace.cell b off ∈ before := by rw [hps]; simpa using hp
      rw [frozen_bl hB (b := b) (show b < W.heap.size from hlt _ hp')]
      exact hz b off hp'
    · intro ha
      have := hn ha
      rw [hps] at this
      simpa using this
    · intro p hp _
      rw [hps]
      simpa using hp
theorem calls_of_ret {f : FuncId} {args : Array Value} {w : World} {Q : Value → World → Prop} (h : Ret P f args w Q) : Calls P f args w fun e w' => ∃ v, e = .returned v ∧ Q v w' := h.run.mono fun e w' r => by
  cases e with
  | returned v => exact ⟨v, rfl, r⟩
  | panicked ch => exact r.elim
  | outgrown => exact r.elim
end
theorem list_of {α : Type} {p : Nat → α → Prop} : ∀ {n : Nat}, (∀ i, i < n → ∃ x, p i x) → ∃ l : List α, l.length = n ∧ ∀ i x, l[i]? = some x → p i x
  | 0, _ => ⟨[], rfl, fun i x h => by simp at h⟩
  | n + 1, hel => by
    obtain ⟨l, e1, e2⟩ := list_of (n := n) fun i hi => hel i (by omega)
    obtain ⟨x, h1⟩ := hel n (by omega)
    refine ⟨l ++ [x], by simp [e1], fun i y hy => ?_⟩
    rcases Nat.lt_or_ge i l.length with q | q
    · rw [List.getElem?_append_left q] at hy
      exact e2 i y hy
    · rw [List.getElem?_append_right q] at hy
      rcases Nat.eq_zero_or_pos (i - l.length) with h0 | h0
      · rw [h0] at hy
        simp at hy
        subst hy
        obtain rfl : i = n := by omega
        exact h1
      · rw [List.getElem?_eq_none (by simp; omega)] at hy
        cases hy
section
variable {H : Type} {enc : TypeId × Value → H} {w : World} {base : Nat} {sp : Nat → Bool} {hd : Bool}
set_option maxRecDepth 100000 in
theorem rd_ent {n : Nat} {cs : List Value} {y : DataW H × List MemPlace} (h : DataW.trod enc Tryz.prog w base sp hd n 41 cs = some y) : ∃ x : Ent, cs = encEnt x := by
  obtain ⟨xs, m, rfl, rfl, h1, h2, h3⟩ := DataW.trod_struct (show Tryz.prog.underlying 41 = some (.struct (Tryz.prog.fieldsOf 41)) by kernel_rfl) h
  have hf : ((Tryz.prog.fieldsOf 41).toList.map fun f => (f.type, f.offset)) = [(3, 0), (3, 1), (3, 2), (3, 3), (3, 4)] := by kernel_rfl
  rw [show Tryz.prog.cellsOf 41 = 5 by kernel_rfl] at h1
  have key : ∀ i, i < 5 → ∃ z : Int, (cs.drop i).take 1 = [I z] := fun i hi => by
    have hl : (Tryz.prog.fieldsOf 41).toList.length = 5 := by kernel_rfl
    obtain ⟨f, hfi⟩ : ∃ f, (Tryz.prog.fieldsOf 41)[i]? = some f := by
      rw [← Array.getElem?_toList]; exact ⟨_, List.getElem?_eq_getElem (by omega)⟩
    have h4 := h3 i f hfi
    have hlt : i < xs.length := by
      rw [h2]
      rcases Nat.lt_or_ge i (Tryz.prog.fieldsOf 41).size with h5 | h5
      · exact h5
      · rw [Array.getElem?_eq_none h5] at hfi; cases hfi
    rw [List.getElem?_eq_getElem hlt] at h4
    have h6 : ((Tryz.prog.fieldsOf 41).toList.map fun f => (f.type, f.offset))[i]? = some (f.type, f.offset) := by
      rw [List.getElem?_map, Array.getElem?_toList, hfi]; rfl
    rw [hf] at h6
    have h7 : f.type = 3 ∧ f.offset = i := by
      match i, hi, h6 with
      | 0, _, h6 => simp at h6; exact ⟨h6.1.symm, h6.2.symm⟩
      | 1, _, h6 => simp at h6; exact ⟨h6.1.symm, h6.2.symm⟩
      | 2, _, h6 => simp at h6; exact ⟨h6.1.symm, h6.2.symm⟩
      | 3, _, h6 => simp at h6; exact ⟨h6.1.symm, h6.2.symm⟩
      | 4, _, h6 => simp at h6; exact ⟨h6.1.symm, h6.2.symm⟩
    rw [h7.1, h7.2, show Tryz.prog.cellsOf 3 = 1 by kernel_rfl] at h4
    obtain ⟨z, hz, _⟩ := DataW.trod_int (show Tryz.prog.underlying 3 = some (.int .i64) by kernel_rfl) h4
    exact ⟨z, hz⟩
  match cs, h1 with
  | [c0, c1, c2, c3, c4], _ =>
    obtain ⟨z0, e0⟩ := key 0 (by omega)
    obtain ⟨z1, e1⟩ := key 1 (by omega)
    obtain ⟨z2, e2⟩ := key 2 (by omega)
    obtain ⟨z3, e3⟩ := key 3 (by omega)
    obtain ⟨z4, e4⟩ := key 4 (by omega)
    simp only [List.drop, List.take, List.cons.injEq, and_true] at e0 e1 e2 e3 e4
    subst e0 e1 e2 e3 e4
    exact ⟨⟨z0, z1, z2, z3, z4⟩, rfl⟩
set_option maxRecDepth 100000 in
theorem open_ents {r : Reach} {b0 : Nat} {v : Value} {d : DataW H} {p : List MemPlace} (hval : Value.okWide Tryz.prog w r b0 22 v) (h : DataW.Trod enc Tryz.prog w base sp hd 22 v d p) :
    ∃ (a : Option Addr) (n cap : Nat), v = .slice a n cap ∧ (n ≤ 5000 → ∃ l : List Ent, l.length = n ∧ Sl eEnt T w a l) := by
  obtain ⟨a0, len0, cap0, rfl⟩ := okWide_slice Tryz.underlying22 hval
  obtain ⟨n, h⟩ := h
  have hc : Tryz.prog.cellsOf 41 = eEnt.sz := by kernel_rfl
  rcases Deep.open_slice (e := 41) (by kernel_rfl) h with ⟨e, _⟩ | ⟨a, len, cap, m, k, D, Pl, e, _, hl, _, hm, _, hx⟩
  · simp only [Value.cells, List.cons.injEq, and_true] at e
    exact ⟨none, 0, 0, e, fun _ => ⟨[], rfl, Sl.nil ..⟩⟩
  · simp only [Value.cells, List.cons.injEq, and_true] at e
    refine ⟨some a, len, cap, e, fun hle => ?_⟩
    have hle2 : len ≤ m := by rw [hm]; split <;> omega
    obtain ⟨l, hl2, hl3⟩ := list_of (n := len) (p := fun i (x : Ent) => w.cells? base (a.add (i * eEnt.sz)) eEnt.sz = some (encEnt x)) fun i hi => by
      obtain ⟨cs', g1, g2⟩ := hx i (by omega)
      rw [hc] at g1
      obtain ⟨x, rfl⟩ := rd_ent g2
      exact ⟨x, g1⟩
    obtain ⟨b, o, s⟩ := a
    refine ⟨l, hl2, ⟨by omega, fun i x hx => ?_⟩⟩
    have g1 := hl3 i x hx
    obtain ⟨_, h3, h4⟩ := World.cells?_some g1
    have hs : s = none := by
      obtain ⟨x0, e0⟩ := some_of_lt (l := l) (k := 0) (by have := (List.getElem?_eq_some_iff.1 hx).1; omega)
      obtain ⟨_, g3, g4⟩ := World.cells?_some (hl3 0 x0 e0)
      have h5 := g4 0 (by decide)
      rw [List.getElem?_eq_getElem (by rw [g3]; decide)] at h5
      have := World.cell?_spot h5
      simpa [Addr.add] using this
    subst hs
    refine ⟨b, o, encEnt x, rfl, trivial, fun j v hj => ?_, rfl⟩
    have hj' : j < eEnt.sz := by rw [← h3]; exact (List.getElem?_eq_some_iff.1 hj).1
    have := h4 j hj'
    rw [hj] at this
    rw [← this, Deep.add_add]
    congr 1
    simp only [Addr.add]
    split <;> simp <;> omega
end
theorem prog_kids : Kids Tryz.prog (· < Tryz.prog.types.size) := kids_rows (by kernel_rfl) (by kernel_rfl)
theorem prog_full : ∀ t e, t < Tryz.prog.types.size → Tryz.prog.underlying t = some (.slice e) → 0 < Tryz.prog.cellsOf e := slices_full_of Tryz.prog (by kernel_rfl)
theorem same_bl {W W' : World} (h : Bl W W') {p : MemPlace} (hp : p.block < W.heap.size) : W.sameAt W' p := by
  cases p with
  | cell b o => exact World.cell?_of_block (w := W) (h.block b hp)
  | map b => exact h.block b hp
theorem all_bl {H : Type} {enc : TypeId × Value → H} {P : Program} {W W' : World} {base : Nat} {sp : Nat → Bool} {hd : Bool} (h : Bl W W') : ∀ {ts : List TypeId} {vs : List Value} {ds : List (DataW H)} {ps : List MemPlace}, (∀ p ∈ ps, p.block < W.heap.size) →
    DataW.TrodAll enc P W base sp hd ts vs ds ps → DataW.TrodAll enc P W' base sp hd ts vs ds ps
  | [], [], [], _, _, h1 => h1
  | _ :: _, _ :: _, _ :: _, _, hp, ⟨p, q, ⟨n, h1⟩, h2, e⟩ =>
    ⟨p, q, ⟨n, DataW.trod_carry n _ _ _ h1 fun x hx => same_bl h (hp x (by rw [e]; exact List.mem_append_left _ hx))⟩, all_bl h (fun x hx => hp x (by rw [e]; exact List.mem_append_right _ hx)) h2, e⟩
set_option maxRecDepth 100000 in
/-- a law that holds and has left alone what was there -/
theorem post_law {H : Type} {enc : TypeId × Value → H} {f : Func} {s : ChangeSpec} {W W' : World} {args : Array Value} {ds gs : List (DataW H)} {before : List MemPlace} (hW : DataW.Whole enc Tryz.prog f.params.toList s.vars false W args.toList ds gs before)
    (hv : s.vars = []) (hs : ∀ gs', gs' = [] → (s.fn H (ds ++ gs')).results = [.lit (.bool true)] ∧ (s.fn H (ds ++ gs')).args = ds ∧ (s.fn H (ds ++ gs')).vars = []) (hpar : ∀ t ∈ f.params.toList, t < Tryz.prog.types.size) (hr : f.resultTypes = #[4]) (hB : Bl W W') :
    s.post enc Tryz.prog f false true false false W args (.bool true) W' := by
  have hW0 := hW
  have hlt := hW.lt
  obtain ⟨p, q, hA, hV, rfl, _⟩ := hW
  rw [hv] at hV
  obtain ⟨rfl, rfl⟩ := trodVars_none hV
  obtain ⟨h1, h2, h3⟩ := hs [] rfl
  have hA' := all_bl hB (fun x hx => hlt x (List.mem_append_left _ hx)) hA
  refine post_of_bl (pa := p) (pv := []) hW0 (fun _ _ _ => ?_) (fun sp hsp => ?_) (fun _ _ => ?_) rfl hB (ok_one hr rfl (okWide_bool_mk Tryz.underlying4 _))
  · rw [h1, hr]
    exact trodAll_cons_mk (shut_bool Tryz.underlying4 _) trodAll_mk0
  · rw [h2]
    exact DataW.TrodAll.respare prog_kids prog_full hpar hA' (fun x hx => hsp x (List.mem_append_left _ hx))
  · rw [h3, hv]; rfl
set_option maxRecDepth 100000 in
theorem contract (H : Type) (enc : TypeId × Value → H) (W : World) (base : Nat) (args : Array Value) (ds gs : List (DataW H)) (before : List MemPlace)
    (hval : ∀ (j : Nat) t v, Tryz.f3.params[j]? = some t → args[j]? = some v → Value.okWide Tryz.prog W .any base t v)
    (hW : DataW.Whole enc Tryz.prog Tryz.f3.params.toList Rows.machineToldSpec.vars false W args.toList ds gs before) :
    Calls Tryz.prog 3 args W fun e W' => ∃ v, e = .returned v ∧ Rows.machineToldSpec.post enc Tryz.prog Tryz.f3 false true false false W args v W' := by
  have hW' := hW
  obtain ⟨p, q, hA0, hV, rfl, hfz, hnd⟩ := hW
  have hA : DataW.TrodAll enc Tryz.prog W 0 (fun _ => true) true Tryz.f3.params.toList args.toList ds p := hA0
  rw [Tryz.params3] at hA hval
  obtain ⟨v0, vs0, d0, ds0, p0, q0, hargs, rfl, rfl, h0, r0⟩ := trodAll_cons hA
  obtain ⟨v1, vs1, d1, ds1, p1, q1, rfl, rfl, rfl, h1, r1⟩ := trodAll_cons r0
  obtain ⟨rfl, rfl, rfl⟩ := trodAll_nil r1
  obtain rfl : args = #[v0, v1] := by cases args; simp_all
  obtain ⟨rfl, rfl⟩ := trodVars_none hV
  obtain ⟨a0, n0, c0, rfl, hS0⟩ := open_ents (hval 0 _ v0 rfl rfl) h0
  obtain ⟨a1, rfl, rfl, rfl, w1⟩ := open_int Tryz.underlying3 (hval 1 _ v1 rfl rfl) h1
  refine (calls_of_ret (l_MachineTold a0 n0 c0 a1 W hS0)).mono ?_
  rintro e W' ⟨_, rfl, rfl, hB⟩
  exact ⟨_, rfl, post_law hW' rfl (fun gs hg => by subst hg; exact ⟨rfl, rfl, rfl⟩) (by rw [Tryz.params3]; decide +kernel) (by kernel_rfl) hB⟩
def args0 : Array Value := #[.slice none 0 0, .int .i64 0]
theorem vars_ok (os : Os) : ((wit os).forCall (fun _ _ => 0) ⟨#[], args0, []⟩).variablesRefB Tryz.checked.prog = true := by kernel_rfl
theorem heap_ok (os : Os) : (((wit os).forCall (fun _ _ => 0) ⟨#[], args0, []⟩).heap.toList.drop Tryz.checked.prog.globals.size).take ((begin Tryz.checked.prog (fun _ _ => 0) default).world.heap.size - Tryz.checked.prog.globals.size) =
      (begin Tryz.checked.prog (fun _ _ => 0) default).world.heap.toList.drop Tryz.checked.prog.globals.size := by kernel_rfl
theorem args_ok (os : Os) : Input.okWideB Tryz.checked.prog ((wit os).forCall (fun _ _ => 0) ⟨#[], args0, []⟩) 3 ⟨#[], args0, []⟩ = true := by kernel_rfl
theorem reads (os : Os) {H : Type} (enc : TypeId × Value → H) : ∃ places, DataW.whole enc Tryz.prog ((wit os).forCall (fun _ _ => 0) ⟨#[], args0, []⟩).memory Tryz.f3.params.toList Rows.machineToldSpec.vars false args0.toList 8 = some ([.nil, .lit (.int .i64 0)], [], places) :=
  ⟨[], by kernel_rfl⟩
set_option maxRecDepth 100000 in
theorem sized (os : Os) {H : Type} (enc : TypeId × Value → H) : (OpenSpec.ofChange Rows.machineToldSpec).bare.sizedB enc Tryz.prog Tryz.f3 false ((wit os).forCall (fun _ _ => 0) ⟨#[], args0, []⟩).memory args0 8 = true := by kernel_rfl
set_option maxRecDepth 100000 in
theorem lifted (os : Os) (started : os.Started) (H : Type) (enc : TypeId × Value → H) (F : Stop.Interp) :
    ReturnsInHanded {} Tryz.checked os 3 .any ((OpenSpec.ofChange Rows.machineToldSpec).preRow enc Tryz.prog Tryz.f3 Rows.machineToldRow.domain false Rows.machineToldRow.laid) (((OpenSpec.ofChange Rows.machineToldSpec).at F).post enc Tryz.prog Tryz.f3 false true false false) := by
  obtain ⟨places, hx⟩ := reads os enc
  refine returnsInHanded_of_row (C := Tryz.checked) (s := OpenSpec.ofChange Rows.machineToldSpec) own started (by kernel_rfl) Tryz.func3
    (witness_row_atRef (enc := enc) (C := Tryz.checked) false (wit os) args0 (World.laidAll_os ..) (vars_ok os) (heap_ok os) (args_ok os)
      (OpenSpec.preRow_of_cond 8 hx (by kernel_rfl) (fun k hk => by cases hk) (sized os enc) (laid_met os args0))) ?_
  intro W base args ds gs before hval hW _ _ _ hL hsh _
  exact contract H enc W base args ds gs before hval hW
set_option maxHeartbeats 100000000 in
theorem said : Rows.MachineToldSaid :=
  OpenClaim.holds_of_cond 3 Tryz.f3 rfl rfl rfl rfl rfl rfl rfl ⟨rfl, rfl, rfl, rfl, rfl⟩ rfl rfl rfl rfl rfl (by as_aux_lemma => kernel_rfl) Tryz.func3 (by unfold joinedFacts; (with_reducible refine and_of ?_ ?_); (with_reducible refine and_of ?_ ?_); (with_reducible refine and_of ?_ ?_); (with_reducible refine and_of ?_ ?_); (with_reducible refine and_of ?_ ?_); (with_reducible refine and_of ?_ ?_); (with_reducible refine and_of ?_ ?_); (with_reducible refine and_of ?_ ?_); (with_reducible refine and_of ?_ ?_); (with_reducible refine and_of ?_ ?_); (with_reducible refine and_of ?_ ?_); (with_reducible refine and_of ?_ ?_); (with_reducible refine and_of ?_ ?_); (with_reducible refine and_of ?_ ?_); (with_reducible refine and_of ?_ ?_); (with_reducible refine and_of ?_ ?_); (with_reducible refine and_of ?_ ?_); (with_reducible refine and_of ?_ ?_); (with_reducible refine and_of ?_ ?_); (with_reducible refine and_of ?_ ?_); (with_reducible refine and_of ?_ ?_); (with_reducible refine and_of ?_ ?_); (with_reducible refine and_of ?_ ?_); (with_reducible refine and_of ?_ ?_); (with_reducible refine and_of ?_ ?_); (with_reducible refine and_of ?_ ?_); (with_reducible refine and_of ?_ ?_); (with_reducible refine and_of ?_ ?_); (with_reducible refine and_of ?_ ?_); (with_reducible refine and_of ?_ ?_); all_goals (as_aux_lemma => kernel_rfl))
    (of_decide_eq_true (by kernel_rfl)) (by unfold Func.isWrapper; first | (rw [if_pos (by decide +kernel)]; kernel_rfl) | (rw [if_neg (by decide +kernel)]; exact ⟨rfl, rfl⟩))
    (fun os started H enc _ F => by rw [OpenClaim.pre_eq_preRow]; exact lifted os started H enc F)
theorem plain (f : FuncId) (fn : Func) (hf : Tryz.pinned.checked.prog.funcNamed "isochron/isochronlaw27.MachineTold" = some f) (hfn : Tryz.pinned.checked.prog.funcs[f]? = some fn) :
    false = Tryz.pinned.checked.prog.looks [] ∧ ∀ (j : Nat) t, fn.params[j]? = some t → Tryz.pinned.checked.prog.wantsStandIn t = false := by
  obtain rfl : f = 3 := Option.some.inj ((show Tryz.prog.funcNamed "isochron/isochronlaw27.MachineTold" = some 3 by kernel_rfl).symm.trans hf) |>.symm
  obtain rfl : fn = Tryz.f3 := (Option.some.inj (Tryz.func3.symm.trans hfn)).symm
  refine ⟨by kernel_rfl, fun j t ht => ?_⟩
  rw [Tryz.params3] at ht
  have h : t = 22 ∨ t = 3 := by
    have := Array.mem_of_getElem? ht
    simp only [List.mem_toArray, List.mem_cons, List.not_mem_nil, or_false] at this
    exact this
  rcases h with rfl | rfl
  · exact (show Tryz.prog.wantsStandIn 22 = false by kernel_rfl)
  · exact (show Tryz.prog.wantsStandIn 3 = false by kernel_rfl)
end Go.Proofs.YtniijapijalphaaGreatDoor.machineTold
namespace Go.Proofs.YtniijapijalphaaGreatDoor
theorem machine_told : Rows.MachineToldCardSaid :=
  Claim7.holds_tied_plain_at .later [] _ _ _ _ machineTold.said (fun _ h => by cases h) (by kernel_rfl) (fun _ h => by cases h) machineTold_row_tie rfl ⟨rfl, rfl⟩ (by kernel_rfl) rfl machineTold.plain (by kernel_rfl)
#print axioms machine_told
end Go.Proofs.YtniijapijalphaaGreatDoor
