/-
  The law UnitInterns of class files (layer 4): for every pool and string of bulk together at most 1048576 the program's Intern gives what the document's Intern gives, leaves the pool as it is, has the string at the index, and has it still when it is interned again. Conditions: the bound of the upto form, the tables of unicode/utf8 as the program's text lays them.
-/
import Derived.Test.YtopjmiklpnejmaaGreatDoorBase
import Derived.Test.YtopjmiklpnejmaaGreatDoorRd
import Derived.Test.YtopjmiklpnejmaaGreatDoorLi
namespace Go.Proofs.YtopjmiklpnejmaaGreatDoor.c3
open Go.ChangeShapes Go.WideShapes Go.ChangeAt Go.RowKit
set_option maxRecDepth 100000 in
theorem open_strs {H : Type} {enc : TypeId × Value → H} {w : World} {base : Nat} {sp : Nat → Bool} {hd : Bool} {r : Reach} {b0 : Nat} {v : Value} {d : DataW H} {p : List MemPlace} (hval : Value.okWide Tryz.prog w r b0 25 v)
    (h : DataW.Trod enc Tryz.prog w base sp hd 25 v d p) (hb : Rows.uptoBulk d ≤ 1048576) : ∃ (a : Option Addr) (l : List ByteArray) (cap : Nat), v = .slice a l.length cap ∧ Sl eStr T w a l ∧ ∀ s ∈ l, s.size ≤ 1048576 := by
  obtain ⟨a0, len, cap0, rfl⟩ := okWide_slice Tryz.underlying25 hval
  obtain ⟨n, h⟩ := h
  obtain ⟨a, l, cap, e, h1, h2⟩ := rd_strs n _ _ h hb
  simp only [Value.cells, List.cons.injEq, and_true] at e
  exact ⟨a, l, cap, e, h1, h2⟩
set_option maxRecDepth 100000 in
theorem contract (H : Type) (enc : TypeId × Value → H) (W : World) (base : Nat) (args : Array Value) (ds gs : List (DataW H)) (before : List MemPlace)
    (hval : ∀ (j : Nat) t v, Tryz.f5.params[j]? = some t → args[j]? = some v → Value.okWide Tryz.prog W .any base t v)
    (hW : DataW.Whole enc Tryz.prog Tryz.f5.params.toList Rows.unitInternsSpec.vars false W args.toList ds gs before) (hk : Rows.uptoSmall H (ds ++ gs) = true) (hG : Gl W) :
    Calls Tryz.prog 5 args W fun e W' => ∃ v, e = .returned v ∧ Rows.unitInternsSpec.post enc Tryz.prog Tryz.f5 false true false false W args v W' := by
  have hW' := hW
  obtain ⟨p, q, hA, hV, rfl, hfz, hnd⟩ := hW
  rw [Tryz.params5] at hA hval
  obtain ⟨v0, vs0, d0, ds0, p0, q0, hargs, rfl, rfl, h0, r0⟩ := trodAll_cons hA
  obtain ⟨v1, vs1, d1, ds1, p1, q1, rfl, rfl, rfl, h1, r1⟩ := trodAll_cons r0
  obtain ⟨rfl, rfl, rfl⟩ := trodAll_nil r1
  obtain rfl : args = #[v0, v1] := by cases args; simp_all
  obtain ⟨rfl, rfl⟩ := trodVars_none hV
  obtain ⟨s, rfl, rfl, rfl, hs⟩ := ChangeMaps.open_string Tryz.underlying9 (hval 1 _ v1 rfl rfl) h1
  have h := small_le hk
  simp only [List.append_nil, Rows.uptoBulkAll, Rows.uptoBulk] at h
  have hsz : s.size ≤ 1048576 := by
    have e := ba_len s
    omega
  obtain ⟨a, l, cap, rfl, hS, hl⟩ := open_strs (hval 0 _ v0 rfl rfl) h0 (by omega)
  refine (calls_of_ret (l_Interns l a cap s W hS hl hsz hG)).mono ?_
  rintro e W' ⟨_, rfl, rfl, hB⟩
  exact ⟨_, rfl, post_law hW' rfl (fun gs hg => by subst hg; exact ⟨rfl, rfl, rfl⟩) (by rw [Tryz.params5]; decide +kernel) (by kernel_rfl) hB⟩
theorem laid_met3 (os : Os) : laidMet Tryz.prog Rows.unitInternsUptoRow.laid ((laidWorld os).forCall (fun _ _ => 0) ⟨#[], #[.slice none 0 0, .string ⟨#[]⟩], []⟩).memory :=
  laidMet_of_run' 8 (by kernel_rfl) (by kernel_rfl)
theorem reads (os : Os) {H : Type} (enc : TypeId × Value → H) : ∃ places, DataW.whole enc Tryz.prog ((laidWorld os).forCall (fun _ _ => 0) ⟨#[], #[.slice none 0 0, .string ⟨#[]⟩], []⟩).memory Tryz.f5.params.toList Rows.unitInternsSpec.vars false #[Value.slice none 0 0, .string ⟨#[]⟩].toList 8 = some ([.nil, .lit (.string [])], [], places) :=
  ⟨[], by kernel_rfl⟩
set_option maxRecDepth 100000 in
theorem lifted (os : Os) (started : os.Started) (H : Type) (enc : TypeId × Value → H) (F : Stop.Interp) :
    ReturnsInHanded {} Tryz.checked os 5 .any ((Rows.OpenSpec.upto Rows.unitInternsSpec).preRow enc Tryz.prog Tryz.f5 Rows.unitInternsUptoRow.domain false Rows.unitInternsUptoRow.laid) (((Rows.OpenSpec.upto Rows.unitInternsSpec).at F).post enc Tryz.prog Tryz.f5 false true false false) := by
  obtain ⟨places, hx⟩ := reads os enc
  refine returnsInHanded_of_row (C := Tryz.checked) (s := Rows.OpenSpec.upto Rows.unitInternsSpec) own started (by kernel_rfl) Tryz.func5
    (witness_row_at (enc := enc) (C := Tryz.checked) false (laidWorld os) #[.slice none 0 0, .string ⟨#[]⟩] rfl (by kernel_rfl) (by kernel_rfl) (by kernel_rfl)
      (OpenSpec.preRow_of_cond 8 hx (by kernel_rfl) (fun k hk => by cases hk; kernel_rfl) (by kernel_rfl) (laid_met3 os))) ?_
  intro W base args ds gs before hval hW _ hcond _ hL hsh _
  exact contract H enc W base args ds gs before hval hW (hcond _ rfl) (gl_of hsh)
theorem said : Rows.UnitInternsUptoSaid :=
  OpenClaim.holds_of_cond 5 Tryz.f5 rfl rfl rfl rfl rfl rfl rfl ⟨rfl, rfl, rfl, rfl, rfl⟩ rfl rfl rfl rfl rfl (by kernel_rfl) Tryz.func5 (by kernel_rfl)
    (of_decide_eq_true (by kernel_rfl)) (by unfold Func.isWrapper; first | (rw [if_pos (by decide +kernel)]; kernel_rfl) | (rw [if_neg (by decide +kernel)]; exact ⟨rfl, rfl⟩))
    (fun os started H enc _ F => by rw [OpenClaim.pre_eq_preRow]; exact lifted os started H enc F)
theorem plain (f : FuncId) (fn : Func) (hf : Tryz.pinned.checked.prog.funcNamed "isochron/isochronlaw04.UnitInterns" = some f) (hfn : Tryz.pinned.checked.prog.funcs[f]? = some fn) :
    false = Tryz.pinned.checked.prog.looks [] ∧ ∀ (j : Nat) t, fn.params[j]? = some t → Tryz.pinned.checked.prog.wantsStandIn t = false := by
  obtain rfl : f = 5 := Option.some.inj ((show Tryz.prog.funcNamed "isochron/isochronlaw04.UnitInterns" = some 5 by kernel_rfl).symm.trans hf) |>.symm
  obtain rfl : fn = Tryz.f5 := (Option.some.inj (Tryz.func5.symm.trans hfn)).symm
  refine ⟨by kernel_rfl, fun j t ht => ?_⟩
  rw [Tryz.params5] at ht
  have h2 := Array.mem_of_getElem? ht
  simp only [Array.mem_def, List.mem_cons, List.not_mem_nil, or_false] at h2
  rcases h2 with rfl | rfl
  · exact (show Tryz.prog.wantsStandIn 25 = false by kernel_rfl)
  · exact (show Tryz.prog.wantsStandIn 9 = false by kernel_rfl)
end Go.Proofs.YtopjmiklpnejmaaGreatDoor.c3
namespace Go.Proofs.YtopjmiklpnejmaaGreatDoor
theorem unit_interns : Rows.UnitInternsUptoCardSaid :=
  Claim7.holds_tied_plain_at .later [] _ _ _ _ c3.said (fun _ h => by cases h) (by kernel_rfl) (fun _ h => by cases h) unitInternsUpto_row_tie rfl ⟨rfl, rfl⟩ (by kernel_rfl) rfl c3.plain (by kernel_rfl)
#print axioms unit_interns
end Go.Proofs.YtopjmiklpnejmaaGreatDoor
