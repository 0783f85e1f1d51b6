/-
  The law UnitStrips of class files (layer 4): for every unit of bulk at most 1048576 the program and the reference strip it alike, and what is stripped is sound, defines and uses the same, and stays as it is when it is stripped again. Conditions: the bound of the upto form, the tables of unicode/utf8 as the program's text lays them.
-/
import Derived.Test.YtopjmiklpnejmaaGreatDoorM4
import Derived.Test.YtopjmiklpnejmaaGreatDoorM6
namespace Go.Proofs.YtopjmiklpnejmaaGreatDoor.c9
open Go.ChangeShapes Go.WideShapes Go.ChangeAt Go.RowKit
set_option maxRecDepth 100000 in
theorem contract (H : Type) (enc : TypeId × Value → H) (W : World) (base : Nat) (args : Array Value) (ds gs : List (DataW H)) (before : List MemPlace)
    (hval : ∀ (j : Nat) t v, Tryz.f11.params[j]? = some t → args[j]? = some v → Value.okWide Tryz.prog W .any base t v)
    (hW : DataW.Whole enc Tryz.prog Tryz.f11.params.toList Rows.unitStripsSpec.vars false W args.toList ds gs before) (hk : Rows.uptoSmall H (ds ++ gs) = true) (hG : Gl W) :
    Calls Tryz.prog 11 args W fun e W' => ∃ v, e = .returned v ∧ Rows.unitStripsSpec.post enc Tryz.prog Tryz.f11 false true false false W args v W' := by
  have hW' := hW
  obtain ⟨p, q, hA, hV, rfl, hfz, hnd⟩ := hW
  rw [Tryz.params11] at hA hval
  obtain ⟨v0, vs0, d0, ds0, p0, q0, hargs, rfl, rfl, h0, r0⟩ := trodAll_cons hA
  obtain ⟨rfl, rfl, rfl⟩ := trodAll_nil r0
  obtain rfl : args = #[v0] := by cases args; simp_all
  obtain ⟨rfl, rfl⟩ := trodVars_none hV
  have hsm := small_le hk
  simp only [List.append_nil, Rows.uptoBulkAll] at hsm
  obtain ⟨u0, a0, rfl, hU0⟩ := open_unit (hval 0 _ v0 rfl rfl) h0 (by omega)
  refine (calls_of_ret (l_Strips u0 a0 W hU0 hG)).mono ?_
  rintro e W' ⟨_, rfl, rfl, hB⟩
  exact ⟨_, rfl, post_law hW' rfl (fun gs hg => by subst hg; exact ⟨rfl, rfl, rfl⟩) (by rw [Tryz.params11]; decide +kernel) (by kernel_rfl) hB⟩
def nilUnit : Value := .agg #[.string ⟨#[]⟩, .slice none 0 0, .slice none 0 0, .slice none 0 0, .slice none 0 0]
def nilData (H : Type) : DataW H := .agg [.lit (.string []), .nil, .nil, .nil, .nil]
theorem laid_met9 (os : Os) : laidMet Tryz.prog Rows.unitStripsUptoRow.laid ((laidWorld os).forCall (fun _ _ => 0) ⟨#[], #[nilUnit], []⟩).memory :=
  laidMet_of_run' 8 (by kernel_rfl) (by kernel_rfl)
theorem reads (os : Os) {H : Type} (enc : TypeId × Value → H) : ∃ places, DataW.whole enc Tryz.prog ((laidWorld os).forCall (fun _ _ => 0) ⟨#[], #[nilUnit], []⟩).memory Tryz.f11.params.toList Rows.unitStripsSpec.vars false #[nilUnit].toList 8 = some ([nilData H], [], places) :=
  ⟨[], by kernel_rfl⟩
set_option maxRecDepth 100000 in
theorem lifted (os : Os) (started : os.Started) (H : Type) (enc : TypeId × Value → H) (F : Stop.Interp) :
    ReturnsInHanded {} Tryz.checked os 11 .any ((Rows.OpenSpec.upto Rows.unitStripsSpec).preRow enc Tryz.prog Tryz.f11 Rows.unitStripsUptoRow.domain false Rows.unitStripsUptoRow.laid) (((Rows.OpenSpec.upto Rows.unitStripsSpec).at F).post enc Tryz.prog Tryz.f11 false true false false) := by
  obtain ⟨places, hx⟩ := reads os enc
  refine returnsInHanded_of_row (C := Tryz.checked) (s := Rows.OpenSpec.upto Rows.unitStripsSpec) own started (by kernel_rfl) Tryz.func11
    (witness_row_at (enc := enc) (C := Tryz.checked) false (laidWorld os) #[nilUnit] rfl (by kernel_rfl) (by kernel_rfl) (by kernel_rfl)
      (OpenSpec.preRow_of_cond 8 hx (by kernel_rfl) (fun k hk => by cases hk; kernel_rfl) (by kernel_rfl) (laid_met9 os))) ?_
  intro W base args ds gs before hval hW _ hcond _ hL hsh _
  exact contract H enc W base args ds gs before hval hW (hcond _ rfl) (gl_of hsh)
theorem and_of {a b : Bool} (h1 : a = true) (h2 : b = true) : (a && b) = true := by rw [h1, h2]; rfl
set_option maxHeartbeats 100000000 in
theorem said : Rows.UnitStripsUptoSaid :=
  OpenClaim.holds_of_cond 11 Tryz.f11 rfl rfl rfl rfl rfl rfl rfl ⟨rfl, rfl, rfl, rfl, rfl⟩ rfl rfl rfl rfl rfl (by as_aux_lemma => kernel_rfl) Tryz.func11 (by unfold joinedFacts; repeat' (with_reducible apply and_of); all_goals (as_aux_lemma => kernel_rfl))
    (of_decide_eq_true (by kernel_rfl)) (by unfold Func.isWrapper; first | (rw [if_pos (by decide +kernel)]; kernel_rfl) | (rw [if_neg (by decide +kernel)]; exact ⟨rfl, rfl⟩))
    (fun os started H enc _ F => by rw [OpenClaim.pre_eq_preRow]; exact lifted os started H enc F)
theorem plain (f : FuncId) (fn : Func) (hf : Tryz.pinned.checked.prog.funcNamed "isochron/isochronlaw04.UnitStrips" = some f) (hfn : Tryz.pinned.checked.prog.funcs[f]? = some fn) :
    false = Tryz.pinned.checked.prog.looks [] ∧ ∀ (j : Nat) t, fn.params[j]? = some t → Tryz.pinned.checked.prog.wantsStandIn t = false := by
  obtain rfl : f = 11 := Option.some.inj ((show Tryz.prog.funcNamed "isochron/isochronlaw04.UnitStrips" = some 11 by kernel_rfl).symm.trans hf) |>.symm
  obtain rfl : fn = Tryz.f11 := (Option.some.inj (Tryz.func11.symm.trans hfn)).symm
  refine ⟨by kernel_rfl, fun j t ht => ?_⟩
  rw [Tryz.params11] at ht
  have h2 := Array.mem_of_getElem? ht
  simp only [Array.mem_def, List.mem_cons, List.not_mem_nil, or_false] at h2
  subst h2
  exact (show Tryz.prog.wantsStandIn 30 = false by kernel_rfl)
end Go.Proofs.YtopjmiklpnejmaaGreatDoor.c9
namespace Go.Proofs.YtopjmiklpnejmaaGreatDoor
theorem unit_strips : Rows.UnitStripsUptoCardSaid :=
  Claim7.holds_tied_plain_at .later [] _ _ _ _ c9.said (fun _ h => by cases h) (by kernel_rfl) (fun _ h => by cases h) unitStripsUpto_row_tie rfl ⟨rfl, rfl⟩ (by kernel_rfl) rfl c9.plain (by kernel_rfl)
#print axioms unit_strips
end Go.Proofs.YtopjmiklpnejmaaGreatDoor
