/-
  The law ReplayReads of sessions (layer 28): for any text the program's Parse gives the entries and the error that the document's Parse gives, and what is read is written so. Conditions: the tables and the two errors of strconv that the rows list, as the program's text lays them.
-/
import Derived.Test.YtejohpjhonjcjaaGreatDoorM3
import Derived.Test.YtejohpjhonjcjaaGreatDoorM8
namespace Go.Proofs.YtejohpjhonjcjaaGreatDoor.replayReads
open Go.ChangeShapes Go.WideShapes Go.ChangeAt Go.RowKit Eng
section
theorem kept_of_bl {W W' : World} (h : Bl W W') (may : MemPlace → Prop) : W.keptBut W' may := by
  refine ⟨h.os, h.output, fun i hi => ?_⟩
  rw [h.block i hi]
  cases hw : W.heap[i]? with
  | none => trivial
  | some o => cases o <;> first | exact ⟨rfl, rfl, rfl, fun _ _ => rfl⟩ | exact .inr ⟨rfl, rfl⟩ | rfl | trivial
theorem frozen_bl {W W' : World} (h : Bl W W') {b off : Nat} (hb : b < W.heap.size) : W'.frozen? ⟨b, off, none⟩ = W.frozen? ⟨b, off, none⟩ := by simp only [World.frozen?, h.block b hb]
variable {H : Type} {enc : TypeId × Value → H} {P : Program}
/-- the end of a call that has left alone what was there -/
theorem post_of_bl {f : Func} {s : ChangeSpec} {apart fresh handsOn again : Bool} {W W' : World} {args : Array Value} {v : Value} {ds gs : List (DataW H)} {before pa pv : List MemPlace}
    (hW : DataW.Whole enc P f.params.toList s.vars apart W args.toList ds gs before)
    (hres : ∀ (b : Nat) (sp : Nat → Bool) (hd : Bool), DataW.TrodAll enc P W' b sp hd f.resultTypes.toList (v.resultList f.resultTypes.size) (s.fn H (ds ++ gs)).results [])
    (hargs : ∀ sp : Nat → Bool, (∀ p ∈ before, sp p.block = true) → DataW.TrodAll enc P W' 0 sp true f.params.toList args.toList (s.fn H (ds ++ gs)).args pa)
    (hvars : ∀ sp : Nat → Bool, (∀ p ∈ before, sp p.block = true) → DataW.TrodVars enc P W' sp s.vars (s.fn H (ds ++ gs)).vars pv)
    (hps : before = pa ++ pv) (hB : Bl W W')
    (hok : ∀ (j : Nat) (t : TypeId) (r : Value), f.resultTypes[j]? = some t → (v.resultList f.resultTypes.size)[j]? = some r → Value.okWide P W' .any 0 t r) :
    s.post enc P f apart fresh handsOn again W args v W' := by
  have hlt := hW.lt
  have hold : ∀ p ∈ before, (fun b => decide (b < W.heap.size)) p.block = true := fun p hp => by simpa using hlt p hp
  refine ⟨ds, gs, before, [], pa, pv, hW, hres _ _ _, hargs _ hold, hvars _ hold, World.keptBut_mono (fun p hp => ⟨hp, ?_⟩) (kept_of_bl hB (· ∈ before)), fun _ => ?_⟩
  · rw [hps, List.mem_append] at hp
    exact Or.inr hp
  · obtain ⟨_, _, _, _, _, hz, hn⟩ := hW
    refine ⟨hok, _, _, ([] ++ pa) ++ pv, ⟨[] ++ pa, pv, trodAll_append (hargs _ (fun _ _ => rfl)) (hres _ _ _), hvars _ (fun _ _ => rfl), rfl, ?_, ?_⟩, ?_⟩
    · intro b off hp
      have hp' : MemPlace.cell b off ∈ before := by rw [hps]; simpa using hp
      rw [frozen_bl hB (b := b) (show b < W.heap.size from hlt _ hp')]
      exact hz b off hp'
    · intro ha
      have := hn ha
      rw [hps] at this
      simpa using this
    · intro p hp _
      rw [hps]
      simpa using hp
theorem calls_of_ret {f : FuncId} {args : Array Value} {w : World} {Q : Value → World → Prop} (h : Ret P f args w Q) : Calls P f args w fun e w' => ∃ v, e = .returned v ∧ Q v w' := h.run.mono fun e w' r => by
  cases e with
  | returned v => exact ⟨v, rfl, r⟩
  | panicked ch => exact r.elim
  | outgrown => exact r.elim
end
set_option maxRecDepth 100000 in
theorem contract (H : Type) (enc : TypeId × Value → H) (W : World) (base : Nat) (args : Array Value) (ds gs : List (DataW H)) (before : List MemPlace)
    (hval : ∀ (j : Nat) t v, Tryz.f3.params[j]? = some t → args[j]? = some v → Value.okWide Tryz.prog W .any base t v)
    (hW : DataW.Whole enc Tryz.prog Tryz.f3.params.toList Rows.replayReadsSpec.vars false W args.toList ds gs before) (hG : Gs W) :
    Calls Tryz.prog 3 args W fun e W' => ∃ v, e = .returned v ∧ Rows.replayReadsSpec.post enc Tryz.prog Tryz.f3 false true false false W args v W' := by
  have hW' := hW
  obtain ⟨p, q, hA0, hV, rfl, hfz, hnd⟩ := hW
  have hA : DataW.TrodAll enc Tryz.prog W 0 (fun _ => true) true Tryz.f3.params.toList args.toList ds p := hA0
  rw [Tryz.params3] at hA hval
  obtain ⟨v0, vs0, d0, ds0, p0, q0, hargs, rfl, rfl, h0, r0⟩ := trodAll_cons hA
  obtain ⟨rfl, rfl, rfl⟩ := trodAll_nil r0
  obtain rfl : args = #[v0] := by cases args; simp_all
  obtain ⟨rfl, rfl⟩ := trodVars_none hV
  obtain ⟨s, rfl, rfl, rfl, hs⟩ := ChangeMaps.open_string Tryz.underlying9 (hval 0 _ v0 rfl rfl) h0
  clear hA0
  simp only [List.append_nil] at hW'
  refine (calls_of_ret (l_ReplayReads s W hG)).mono ?_
  rintro e W' ⟨_, rfl, rfl, hB⟩
  exact ⟨_, rfl, post_of_bl (pa := []) (pv := []) hW' (fun _ _ _ => trodAll_cons_mk (shut_bool Tryz.underlying4 _) trodAll_mk0) (fun _ _ => trodAll_cons_mk (ChangeMaps.shut_string Tryz.underlying9 hs) trodAll_mk0) (fun _ _ => rfl) rfl
    hB (ok_one (by kernel_rfl) rfl (okWide_bool_mk Tryz.underlying4 _))⟩
def args0 : Array Value := #[.string ⟨#[]⟩]
theorem vars_ok (os : Os) : ((wit os).forCall (fun _ _ => 0) ⟨#[], args0, []⟩).variablesRefB Tryz.checked.prog = true := by kernel_rfl
theorem heap_ok (os : Os) : (((wit os).forCall (fun _ _ => 0) ⟨#[], args0, []⟩).heap.toList.drop Tryz.checked.prog.globals.size).take ((begin Tryz.checked.prog (fun _ _ => 0) default).world.heap.size - Tryz.checked.prog.globals.size) =
      (begin Tryz.checked.prog (fun _ _ => 0) default).world.heap.toList.drop Tryz.checked.prog.globals.size := by kernel_rfl
theorem args_ok (os : Os) : Input.okWideB Tryz.checked.prog ((wit os).forCall (fun _ _ => 0) ⟨#[], args0, []⟩) 3 ⟨#[], args0, []⟩ = true := by kernel_rfl
theorem reads (os : Os) {H : Type} (enc : TypeId × Value → H) : ∃ places, DataW.whole enc Tryz.prog ((wit os).forCall (fun _ _ => 0) ⟨#[], args0, []⟩).memory Tryz.f3.params.toList Rows.replayReadsSpec.vars false args0.toList 8 = some ([.lit (.string [])], [], places) :=
  ⟨[], by kernel_rfl⟩
set_option maxRecDepth 100000 in
theorem sized (os : Os) {H : Type} (enc : TypeId × Value → H) : (OpenSpec.ofChange Rows.replayReadsSpec).bare.sizedB enc Tryz.prog Tryz.f3 false ((wit os).forCall (fun _ _ => 0) ⟨#[], args0, []⟩).memory args0 8 = true := by kernel_rfl
set_option maxRecDepth 100000 in
theorem lifted (os : Os) (started : os.Started) (H : Type) (enc : TypeId × Value → H) (F : Stop.Interp) :
    ReturnsInHanded {} Tryz.checked os 3 .any ((OpenSpec.ofChange Rows.replayReadsSpec).preRow enc Tryz.prog Tryz.f3 Rows.replayReadsRow.domain false Rows.replayReadsRow.laid) (((OpenSpec.ofChange Rows.replayReadsSpec).at F).post enc Tryz.prog Tryz.f3 false true false false) := by
  obtain ⟨places, hx⟩ := reads os enc
  refine returnsInHanded_of_row (C := Tryz.checked) (s := OpenSpec.ofChange Rows.replayReadsSpec) own started (by kernel_rfl) Tryz.func3
    (witness_row_atRef (enc := enc) (C := Tryz.checked) false (wit os) args0 (World.laidAll_os ..) (vars_ok os) (heap_ok os) (args_ok os)
      (OpenSpec.preRow_of_cond 8 hx (by kernel_rfl) (fun k hk => by cases hk) (sized os enc) (laid_met os args0))) ?_
  intro W base args ds gs before hval hW _ _ _ hL hsh _
  exact contract H enc W base args ds gs before hval hW (gs_of hsh hL)
set_option maxHeartbeats 100000000 in
theorem said : Rows.ReplayReadsSaid :=
  OpenClaim.holds_of_cond 3 Tryz.f3 rfl rfl rfl rfl rfl rfl rfl ⟨rfl, rfl, rfl, rfl, rfl⟩ rfl rfl rfl rfl rfl (by as_aux_lemma => kernel_rfl) Tryz.func3 (by unfold joinedFacts; (with_reducible refine and_of ?_ ?_); (with_reducible refine and_of ?_ ?_); (with_reducible refine and_of ?_ ?_); (with_reducible refine and_of ?_ ?_); (with_reducible refine and_of ?_ ?_); (with_reducible refine and_of ?_ ?_); (with_reducible refine and_of ?_ ?_); (with_reducible refine and_of ?_ ?_); (with_reducible refine and_of ?_ ?_); (with_reducible refine and_of ?_ ?_); (with_reducible refine and_of ?_ ?_); (with_reducible refine and_of ?_ ?_); (with_reducible refine and_of ?_ ?_); (with_reducible refine and_of ?_ ?_); (with_reducible refine and_of ?_ ?_); (with_reducible refine and_of ?_ ?_); (with_reducible refine and_of ?_ ?_); (with_reducible refine and_of ?_ ?_); (with_reducible refine and_of ?_ ?_); (with_reducible refine and_of ?_ ?_); (with_reducible refine and_of ?_ ?_); (with_reducible refine and_of ?_ ?_); (with_reducible refine and_of ?_ ?_); (with_reducible refine and_of ?_ ?_); (with_reducible refine and_of ?_ ?_); (with_reducible refine and_of ?_ ?_); (with_reducible refine and_of ?_ ?_); (with_reducible refine and_of ?_ ?_); (with_reducible refine and_of ?_ ?_); (with_reducible refine and_of ?_ ?_); all_goals (as_aux_lemma => kernel_rfl))
    (of_decide_eq_true (by kernel_rfl)) (by unfold Func.isWrapper; first | (rw [if_pos (by decide +kernel)]; kernel_rfl) | (rw [if_neg (by decide +kernel)]; exact ⟨rfl, rfl⟩))
    (fun os started H enc _ F => by rw [OpenClaim.pre_eq_preRow]; exact lifted os started H enc F)
theorem plain (f : FuncId) (fn : Func) (hf : Tryz.pinned.checked.prog.funcNamed "isochron/isochronlaw28.ReplayReads" = some f) (hfn : Tryz.pinned.checked.prog.funcs[f]? = some fn) :
    true = Tryz.pinned.checked.prog.looks [] ∧ ∀ (j : Nat) t, fn.params[j]? = some t → Tryz.pinned.checked.prog.wantsStandIn t = false := by
  obtain rfl : f = 3 := Option.some.inj ((show Tryz.prog.funcNamed "isochron/isochronlaw28.ReplayReads" = some 3 by kernel_rfl).symm.trans hf) |>.symm
  obtain rfl : fn = Tryz.f3 := (Option.some.inj (Tryz.func3.symm.trans hfn)).symm
  refine ⟨by kernel_rfl, fun j t ht => ?_⟩
  rw [Tryz.params3] at ht
  obtain rfl : t = 9 := by simpa using Array.mem_of_getElem? ht
  exact (show Tryz.prog.wantsStandIn 9 = false by kernel_rfl)
end Go.Proofs.YtejohpjhonjcjaaGreatDoor.replayReads
namespace Go.Proofs.YtejohpjhonjcjaaGreatDoor
theorem replay_reads : Rows.ReplayReadsCardSaid :=
  Claim7.holds_tied_plain_at .later [] _ _ _ _ replayReads.said (fun _ h => by cases h) (by kernel_rfl) (fun _ h => by cases h) replayReads_row_tie rfl ⟨rfl, rfl⟩ (by kernel_rfl) rfl replayReads.plain (by kernel_rfl)
#print axioms replay_reads
end Go.Proofs.YtejohpjhonjcjaaGreatDoor
