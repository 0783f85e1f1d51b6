/-
  The law LinkNeeds of linking (layer 5): for every module of bulk at most 1048576 and any roots a method that is kept calls as many, has as long a chain and as many locals in the unloaded module as it had. Conditions: the bound of the upto form, the tables of unicode/utf8 as the program's text lays them.
-/
import Derived.Test.YtkmdfjpafkcleaaGreatDoorM1
import Derived.Test.YtkmdfjpafkcleaaGreatDoorM2
import Derived.Test.YtkmdfjpafkcleaaGreatDoorM3
import Derived.Test.YtkmdfjpafkcleaaGreatDoorM6
namespace Go.Proofs.YtkmdfjpafkcleaaGreatDoor.c28
open Go.ChangeShapes Go.WideShapes Go.ChangeAt Go.RowKit
set_option maxRecDepth 100000 in
theorem contract (H : Type) (enc : TypeId × Value → H) (W : World) (base : Nat) (args : Array Value) (ds gs : List (DataW H)) (before : List MemPlace)
    (hval : ∀ (j : Nat) t v, Tryz.f11.params[j]? = some t → args[j]? = some v → Value.okWide Tryz.prog W .any base t v)
    (hW : DataW.Whole enc Tryz.prog Tryz.f11.params.toList Rows.linkNeedsSpec.vars false W args.toList ds gs before) (hk : Rows.uptoSmall H (ds ++ gs) = true) (hG : Gl W) :
    Calls Tryz.prog 11 args W fun e W' => ∃ v, e = .returned v ∧ Rows.linkNeedsSpec.post enc Tryz.prog Tryz.f11 false true false false W args v W' := by
  have hW' := hW
  obtain ⟨p, q, hA, hV, rfl, hfz, hnd⟩ := hW
  rw [Tryz.params11] at hA hval
  obtain ⟨v0, vs0, d0, ds0, p0, q0, hargs, rfl, rfl, h0, r0⟩ := trodAll_cons hA
  obtain ⟨v1, vs1, d1, ds1, p1, q1, rfl, rfl, rfl, h1, r1⟩ := trodAll_cons r0
  obtain ⟨rfl, rfl, rfl⟩ := trodAll_nil r1
  obtain rfl : args = #[v0, v1] := by cases args; simp_all
  obtain ⟨rfl, rfl⟩ := trodVars_none hV
  have hsm := small_le hk
  simp only [List.append_nil, Rows.uptoBulkAll] at hsm
  obtain ⟨m0, a0, rfl, hM0⟩ := open_mod (hval 0 _ v0 rfl rfl) h0 (by omega)
  obtain ⟨a1, l1, cap1, rfl, hS1, hl1⟩ := open_ints (hval 1 _ v1 rfl rfl) h1 (by omega)
  refine (calls_of_ret (l_LinkNeeds m0 a0 l1 a1 cap1 W hM0 hS1 hG)).mono ?_
  rintro e W' ⟨_, rfl, rfl, hB⟩
  exact ⟨_, rfl, post_law hW' rfl (fun gs hg => by subst hg; exact ⟨rfl, rfl, rfl⟩) (by rw [Tryz.params11]; decide +kernel) (by kernel_rfl) hB⟩
def nilMod : Value := .agg #[.slice none 0 0, .slice none 0 0, .slice none 0 0, .int .i64 0]
def nilModD (H : Type) : DataW H := .agg [.nil, .nil, .nil, .lit (.int .i64 0)]
theorem laid_met28 (os : Os) : laidMet Tryz.prog Rows.linkNeedsUptoRow.laid ((laidWorld os).forCall (fun _ _ => 0) ⟨#[], #[nilMod, .slice none 0 0], []⟩).memory :=
  laidMet_of_run' 8 (by kernel_rfl) (by kernel_rfl)
theorem reads (os : Os) {H : Type} (enc : TypeId × Value → H) : ∃ places, DataW.whole enc Tryz.prog ((laidWorld os).forCall (fun _ _ => 0) ⟨#[], #[nilMod, .slice none 0 0], []⟩).memory Tryz.f11.params.toList Rows.linkNeedsSpec.vars false #[nilMod, .slice none 0 0].toList 8 = some ([nilModD H, .nil], [], places) :=
  ⟨[], by kernel_rfl⟩
set_option maxRecDepth 100000 in
theorem lifted (os : Os) (started : os.Started) (H : Type) (enc : TypeId × Value → H) (F : Stop.Interp) :
    ReturnsInHanded {} Tryz.checked os 11 .any ((Rows.OpenSpec.upto Rows.linkNeedsSpec).preRow enc Tryz.prog Tryz.f11 Rows.linkNeedsUptoRow.domain false Rows.linkNeedsUptoRow.laid) (((Rows.OpenSpec.upto Rows.linkNeedsSpec).at F).post enc Tryz.prog Tryz.f11 false true false false) := by
  obtain ⟨places, hx⟩ := reads os enc
  refine returnsInHanded_of_row (C := Tryz.checked) (s := Rows.OpenSpec.upto Rows.linkNeedsSpec) own started (by kernel_rfl) Tryz.func11
    (witness_row_at (enc := enc) (C := Tryz.checked) false (laidWorld os) #[nilMod, .slice none 0 0] rfl (by kernel_rfl) (by kernel_rfl) (by kernel_rfl)
      (OpenSpec.preRow_of_cond 8 hx (by kernel_rfl) (fun k hk => by cases hk; kernel_rfl) (by kernel_rfl) (laid_met28 os))) ?_
  intro W base args ds gs before hval hW _ hcond _ hL hsh _
  exact contract H enc W base args ds gs before hval hW (hcond _ rfl) (gl_of hsh)
theorem and_of {a b : Bool} (h1 : a = true) (h2 : b = true) : (a && b) = true := by rw [h1, h2]; rfl
set_option maxHeartbeats 100000000 in
theorem said : Rows.LinkNeedsUptoSaid :=
  OpenClaim.holds_of_cond 11 Tryz.f11 rfl rfl rfl rfl rfl rfl rfl ⟨rfl, rfl, rfl, rfl, rfl⟩ rfl rfl rfl rfl rfl (by as_aux_lemma => kernel_rfl) Tryz.func11 (by unfold joinedFacts; (with_reducible refine and_of ?_ ?_); (with_reducible refine and_of ?_ ?_); (with_reducible refine and_of ?_ ?_); (with_reducible refine and_of ?_ ?_); (with_reducible refine and_of ?_ ?_); (with_reducible refine and_of ?_ ?_); (with_reducible refine and_of ?_ ?_); (with_reducible refine and_of ?_ ?_); (with_reducible refine and_of ?_ ?_); (with_reducible refine and_of ?_ ?_); (with_reducible refine and_of ?_ ?_); (with_reducible refine and_of ?_ ?_); (with_reducible refine and_of ?_ ?_); (with_reducible refine and_of ?_ ?_); (with_reducible refine and_of ?_ ?_); (with_reducible refine and_of ?_ ?_); (with_reducible refine and_of ?_ ?_); (with_reducible refine and_of ?_ ?_); (with_reducible refine and_of ?_ ?_); (with_reducible refine and_of ?_ ?_); (with_reducible refine and_of ?_ ?_); (with_reducible refine and_of ?_ ?_); (with_reducible refine and_of ?_ ?_); (with_reducible refine and_of ?_ ?_); (with_reducible refine and_of ?_ ?_); (with_reducible refine and_of ?_ ?_); (with_reducible refine and_of ?_ ?_); (with_reducible refine and_of ?_ ?_); (with_reducible refine and_of ?_ ?_); (with_reducible refine and_of ?_ ?_); all_goals (as_aux_lemma => kernel_rfl))
    (of_decide_eq_true (by kernel_rfl)) (by unfold Func.isWrapper; first | (rw [if_pos (by decide +kernel)]; kernel_rfl) | (rw [if_neg (by decide +kernel)]; exact ⟨rfl, rfl⟩))
    (fun os started H enc _ F => by rw [OpenClaim.pre_eq_preRow]; exact lifted os started H enc F)
theorem plain (f : FuncId) (fn : Func) (hf : Tryz.pinned.checked.prog.funcNamed "isochron/isochronlaw05.LinkNeeds" = some f) (hfn : Tryz.pinned.checked.prog.funcs[f]? = some fn) :
    false = Tryz.pinned.checked.prog.looks [] ∧ ∀ (j : Nat) t, fn.params[j]? = some t → Tryz.pinned.checked.prog.wantsStandIn t = false := by
  obtain rfl : f = 11 := Option.some.inj ((show Tryz.prog.funcNamed "isochron/isochronlaw05.LinkNeeds" = some 11 by kernel_rfl).symm.trans hf) |>.symm
  obtain rfl : fn = Tryz.f11 := (Option.some.inj (Tryz.func11.symm.trans hfn)).symm
  refine ⟨by kernel_rfl, fun j t ht => ?_⟩
  rw [Tryz.params11] at ht
  have h2 := Array.mem_of_getElem? ht
  simp only [Array.mem_def, List.mem_cons, List.not_mem_nil, or_false] at h2
  rcases h2 with rfl | rfl
  · exact (show Tryz.prog.wantsStandIn 29 = false by kernel_rfl)
  · exact (show Tryz.prog.wantsStandIn 47 = false by kernel_rfl)
end Go.Proofs.YtkmdfjpafkcleaaGreatDoor.c28
namespace Go.Proofs.YtkmdfjpafkcleaaGreatDoor
theorem link_needs : Rows.LinkNeedsUptoCardSaid :=
  Claim7.holds_tied_plain_at .later [] _ _ _ _ c28.said (fun _ h => by cases h) (by kernel_rfl) (fun _ h => by cases h) linkNeedsUpto_row_tie rfl ⟨rfl, rfl⟩ (by kernel_rfl) rfl c28.plain (by kernel_rfl)
#print axioms link_needs
end Go.Proofs.YtkmdfjpafkcleaaGreatDoor
