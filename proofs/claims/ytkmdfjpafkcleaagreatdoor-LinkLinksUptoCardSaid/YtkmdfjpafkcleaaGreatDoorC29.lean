/-
  The law LinkLinks of linking (layer 5): for all units of bulk at most 1048576, Link and Paths are those of the document, with its order of errors, and what Link makes is valid and has the names that Paths says. Conditions: the bound of the upto form, the tables of unicode/utf8 as the program's text lays them.
-/
import Derived.Test.YtkmdfjpafkcleaaGreatDoorM2
import Derived.Test.YtkmdfjpafkcleaaGreatDoorM3
import Derived.Test.YtkmdfjpafkcleaaGreatDoorM7
namespace Go.Proofs.YtkmdfjpafkcleaaGreatDoor.c29
open Go.ChangeShapes Go.WideShapes Go.ChangeAt Go.RowKit
set_option maxRecDepth 100000 in
theorem contract (H : Type) (enc : TypeId × Value → H) (W : World) (base : Nat) (args : Array Value) (ds gs : List (DataW H)) (before : List MemPlace)
    (hval : ∀ (j : Nat) t v, Tryz.f5.params[j]? = some t → args[j]? = some v → Value.okWide Tryz.prog W .any base t v)
    (hW : DataW.Whole enc Tryz.prog Tryz.f5.params.toList Rows.linkLinksSpec.vars false W args.toList ds gs before) (hk : Rows.uptoSmall H (ds ++ gs) = true) (hG : Gl W) :
    Calls Tryz.prog 5 args W fun e W' => ∃ v, e = .returned v ∧ Rows.linkLinksSpec.post enc Tryz.prog Tryz.f5 false true false false W args v W' := by
  have hW' := hW
  obtain ⟨p, q, hA, hV, rfl, hfz, hnd⟩ := hW
  rw [Tryz.params5] at hA hval
  obtain ⟨v0, vs0, d0, ds0, p0, q0, hargs, rfl, rfl, h0, r0⟩ := trodAll_cons hA
  obtain ⟨rfl, rfl, rfl⟩ := trodAll_nil r0
  obtain rfl : args = #[v0] := by cases args; simp_all
  obtain ⟨rfl, rfl⟩ := trodVars_none hV
  have hsm := small_le hk
  simp only [List.append_nil, Rows.uptoBulkAll] at hsm
  obtain ⟨a0, l0, cap0, rfl, hS0, hl0⟩ := open_units (hval 0 _ v0 rfl rfl) h0 (by omega)
  refine (calls_of_ret (l_LinkLinks l0 a0 cap0 W hS0 hG)).mono ?_
  rintro e W' ⟨_, rfl, rfl, hB⟩
  exact ⟨_, rfl, post_law hW' rfl (fun gs hg => by subst hg; exact ⟨rfl, rfl, rfl⟩) (by rw [Tryz.params5]; decide +kernel) (by kernel_rfl) hB⟩
theorem laid_met29 (os : Os) : laidMet Tryz.prog Rows.linkLinksUptoRow.laid ((laidWorld os).forCall (fun _ _ => 0) ⟨#[], #[.slice none 0 0], []⟩).memory :=
  laidMet_of_run' 8 (by kernel_rfl) (by kernel_rfl)
theorem reads (os : Os) {H : Type} (enc : TypeId × Value → H) : ∃ places, DataW.whole enc Tryz.prog ((laidWorld os).forCall (fun _ _ => 0) ⟨#[], #[.slice none 0 0], []⟩).memory Tryz.f5.params.toList Rows.linkLinksSpec.vars false #[Value.slice none 0 0].toList 8 = some ([.nil], [], places) :=
  ⟨[], by kernel_rfl⟩
set_option maxRecDepth 100000 in
theorem lifted (os : Os) (started : os.Started) (H : Type) (enc : TypeId × Value → H) (F : Stop.Interp) :
    ReturnsInHanded {} Tryz.checked os 5 .any ((Rows.OpenSpec.upto Rows.linkLinksSpec).preRow enc Tryz.prog Tryz.f5 Rows.linkLinksUptoRow.domain false Rows.linkLinksUptoRow.laid) (((Rows.OpenSpec.upto Rows.linkLinksSpec).at F).post enc Tryz.prog Tryz.f5 false true false false) := by
  obtain ⟨places, hx⟩ := reads os enc
  refine returnsInHanded_of_row (C := Tryz.checked) (s := Rows.OpenSpec.upto Rows.linkLinksSpec) own started (by kernel_rfl) Tryz.func5
    (witness_row_at (enc := enc) (C := Tryz.checked) false (laidWorld os) #[.slice none 0 0] rfl (by kernel_rfl) (by kernel_rfl) (by kernel_rfl)
      (OpenSpec.preRow_of_cond 8 hx (by kernel_rfl) (fun k hk => by cases hk; kernel_rfl) (by kernel_rfl) (laid_met29 os))) ?_
  intro W base args ds gs before hval hW _ hcond _ hL hsh _
  exact contract H enc W base args ds gs before hval hW (hcond _ rfl) (gl_of hsh)
theorem and_of {a b : Bool} (h1 : a = true) (h2 : b = true) : (a && b) = true := by rw [h1, h2]; rfl
set_option maxHeartbeats 100000000 in
theorem said : Rows.LinkLinksUptoSaid :=
  OpenClaim.holds_of_cond 5 Tryz.f5 rfl rfl rfl rfl rfl rfl rfl ⟨rfl, rfl, rfl, rfl, rfl⟩ rfl rfl rfl rfl rfl (by as_aux_lemma => kernel_rfl) Tryz.func5 (by unfold joinedFacts; (with_reducible refine and_of ?_ ?_); (with_reducible refine and_of ?_ ?_); (with_reducible refine and_of ?_ ?_); (with_reducible refine and_of ?_ ?_); (with_reducible refine and_of ?_ ?_); (with_reducible refine and_of ?_ ?_); (with_reducible refine and_of ?_ ?_); (with_reducible refine and_of ?_ ?_); (with_reducible refine and_of ?_ ?_); (with_reducible refine and_of ?_ ?_); (with_reducible refine and_of ?_ ?_); (with_reducible refine and_of ?_ ?_); (with_reducible refine and_of ?_ ?_); (with_reducible refine and_of ?_ ?_); (with_reducible refine and_of ?_ ?_); (with_reducible refine and_of ?_ ?_); (with_reducible refine and_of ?_ ?_); (with_reducible refine and_of ?_ ?_); (with_reducible refine and_of ?_ ?_); (with_reducible refine and_of ?_ ?_); (with_reducible refine and_of ?_ ?_); (with_reducible refine and_of ?_ ?_); (with_reducible refine and_of ?_ ?_); (with_reducible refine and_of ?_ ?_); (with_reducible refine and_of ?_ ?_); (with_reducible refine and_of ?_ ?_); (with_reducible refine and_of ?_ ?_); (with_reducible refine and_of ?_ ?_); (with_reducible refine and_of ?_ ?_); (with_reducible refine and_of ?_ ?_); all_goals (as_aux_lemma => kernel_rfl))
    (of_decide_eq_true (by kernel_rfl)) (by unfold Func.isWrapper; first | (rw [if_pos (by decide +kernel)]; kernel_rfl) | (rw [if_neg (by decide +kernel)]; exact ⟨rfl, rfl⟩))
    (fun os started H enc _ F => by rw [OpenClaim.pre_eq_preRow]; exact lifted os started H enc F)
theorem plain (f : FuncId) (fn : Func) (hf : Tryz.pinned.checked.prog.funcNamed "isochron/isochronlaw05.LinkLinks" = some f) (hfn : Tryz.pinned.checked.prog.funcs[f]? = some fn) :
    false = Tryz.pinned.checked.prog.looks [] ∧ ∀ (j : Nat) t, fn.params[j]? = some t → Tryz.pinned.checked.prog.wantsStandIn t = false := by
  obtain rfl : f = 5 := Option.some.inj ((show Tryz.prog.funcNamed "isochron/isochronlaw05.LinkLinks" = some 5 by kernel_rfl).symm.trans hf) |>.symm
  obtain rfl : fn = Tryz.f5 := (Option.some.inj (Tryz.func5.symm.trans hfn)).symm
  refine ⟨by kernel_rfl, fun j t ht => ?_⟩
  rw [Tryz.params5] at ht
  have h2 := Array.mem_of_getElem? ht
  simp only [Array.mem_def, List.mem_cons, List.not_mem_nil, or_false] at h2
  subst h2
  exact (show Tryz.prog.wantsStandIn 22 = false by kernel_rfl)
end Go.Proofs.YtkmdfjpafkcleaaGreatDoor.c29
namespace Go.Proofs.YtkmdfjpafkcleaaGreatDoor
theorem link_links : Rows.LinkLinksUptoCardSaid :=
  Claim7.holds_tied_plain_at .later [] _ _ _ _ c29.said (fun _ h => by cases h) (by kernel_rfl) (fun _ h => by cases h) linkLinksUpto_row_tie rfl ⟨rfl, rfl⟩ (by kernel_rfl) rfl c29.plain (by kernel_rfl)
#print axioms link_links
end Go.Proofs.YtkmdfjpafkcleaaGreatDoor
