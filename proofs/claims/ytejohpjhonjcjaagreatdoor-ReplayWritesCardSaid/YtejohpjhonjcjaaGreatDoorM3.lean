import Derived.Test.YtejohpjhonjcjaaGreatDoorCards
import Derived.Test.YtejohpjhonjcjaaGreatDoorTie
import Derived.Test.YtejohpjhonjcjaaGreatDoorM2
import Derived.WalkKit
import Derived.ProofKit
import Derived.OpenShut
import Derived.ShutString
import Derived.Deep.DeepHandedRow
import Derived.Deep.DeepWitnessRowRef
import Derived.LaidHandle
import Derived.LaidLaws
import Derived.Lay
import Derived.Shelf.Vars
import Derived.MakeChecks
/- Worlds for the witnesses of the claims on the texts of entries; what the listed variables hold. -/
namespace Go.Proofs.YtejohpjhonjcjaaGreatDoor
open Eng Go.ChangeShapes Go.WideShapes Go.ChangeAt Go.RowKit
theorem own : ownKnob Tryz.prog.godebug = none := by kernel_rfl
section
variable {P : Program} {w : World}
theorem laid_iface {n nm : String} {d : DataW Unit} {g ti : Nat} {ms : Array (String × TypeId)} (hg : P.globalNamed n = some g) (ht : (P.globals[g]?).map (·.type) = some ti) (hi : P.underlying ti = some (.interface ms)) :
    ∀ {l : List (String × DataW Unit)} {ps : List MemPlace}, DataW.LaidVars P w l ps → (n, .iface nm d) ∈ l → ∃ u v, w.var? P n = some #[.iface u v]
  | [], _, _, hm => by cases hm
  | (n', d') :: l, ps, h, hm => by
    obtain ⟨g0, t0, cs0, f0, p0, q0, hg0, ht0, hv0, hd0, hq, _⟩ := h
    rcases List.mem_cons.1 hm with e | hm
    · obtain ⟨rfl, rfl⟩ := Prod.mk.inj e
      obtain rfl := Option.some.inj (hg.symm.trans hg0)
      obtain rfl := Option.some.inj (ht.symm.trans ht0)
      obtain ⟨l0⟩ := cs0
      obtain ⟨f1, u, v, e1, _⟩ := iface_of_trod hi hd0
      have e1 : l0 = [.iface u v] := e1
      subst e1
      exact ⟨u, v, hv0⟩
    · exact laid_iface hg ht hi hq hm
theorem laid_tab {n : String} {k : IntKind} {zs : List Int} {g t e m : Nat} (hg : P.globalNamed n = some g) (hty : (P.globals[g]?).map (·.type) = some t) (ht : P.underlying t = some (.array m e)) (he : P.underlying e = some (.int k)) (hce : P.cellsOf e = 1) (hct : P.cellsOf t = m) :
    ∀ {l : List (String × DataW Unit)} {ps : List MemPlace}, DataW.LaidVars P w l ps → (n, Lib.tabData k zs) ∈ l → Lib.TabIs P w n k zs
  | [], _, _, hm => by cases hm
  | (n', d') :: l, ps, h, hm => by
    obtain ⟨g0, t0, cs0, f0, p0, q0, hg0, ht0, hv0, hd0, hq, _⟩ := h
    rcases List.mem_cons.1 hm with e1 | hm
    · obtain ⟨rfl, rfl⟩ := Prod.mk.inj e1
      obtain rfl := Option.some.inj (hg.symm.trans hg0)
      obtain rfl := Option.some.inj (hty.symm.trans ht0)
      have := Lib.cells_of_tab ht he hce hct hd0
      obtain ⟨l0⟩ := cs0
      have this : l0 = _ := this
      subst this
      exact hv0
    · exact laid_tab hg hty ht he hce hct hq hm
end
abbrev laidL : List (String × DataW Unit) := Rows.replayReadsRow.laid
theorem tab_eq : (Rows.laid_internal_strconv_uint64pow10 : DataW Unit) = Lib.tabData .u64 Lib.pow10Tab := by kernel_rfl
/-- what the walks ask of the library's variables -/
theorem gs_of {W : World} (hsh : W.ShapedOpen Tryz.prog) (hL : laidMetH Tryz.prog laidL W) : Gs W := by
  rw [MakeChecks.laidMetH_plain _ _ _ (by kernel_rfl)] at hL
  obtain ⟨ps, h, _, _⟩ := hL
  have cellOf : ∀ {n : String} {g : Nat} {x : Value}, Tryz.prog.globalNamed n = some g → W.var? Tryz.prog n = some #[x] → W.cell? ⟨g, 0, none⟩ = some x := fun hg hv => by
    have := World.var?_cell hg hv 0
    simpa using this
  refine ⟨cell_of_shapedOpen_int (P := Tryz.prog) (g := 0) (t := 3) (zero := #[.int .i64 0]) hsh (of_decide_eq_true (by kernel_rfl)) (by kernel_rfl) rfl (by kernel_rfl) (by kernel_rfl) Tryz.underlying3, ?_, ?_, ?_⟩
  · refine laid_tab (g := 5) (e := 270) (t := 345) (m := 20) (by kernel_rfl) (by kernel_rfl) (by kernel_rfl) (by kernel_rfl) (by kernel_rfl) (by kernel_rfl) h ?_
    rw [← tab_eq]
    exact List.mem_of_getElem? (i := 2) rfl
  · obtain ⟨u, v, hv⟩ := laid_iface (g := 1) (n := "strconv.ErrSyntax") (ti := 76) (by kernel_rfl) (by kernel_rfl) Tryz.underlying76 h (List.mem_of_getElem? (i := 5) rfl)
    exact ⟨_, cellOf (by kernel_rfl) hv, .inr ⟨u, v, rfl⟩⟩
  · obtain ⟨u, v, hv⟩ := laid_iface (g := 2) (n := "strconv.ErrRange") (ti := 76) (by kernel_rfl) (by kernel_rfl) Tryz.underlying76 h (List.mem_of_getElem? (i := 4) rfl)
    exact ⟨_, cellOf (by kernel_rfl) hv, .inr ⟨u, v, rfl⟩⟩
noncomputable def wit (os : Os) : World := World.laidAll Tryz.prog os laidL
theorem fits (os : Os) : (World.holding Tryz.prog os ⟨#[], #[], []⟩).layFits Tryz.prog laidL [] = true := by kernel_rfl
theorem ifaces (os : Os) : (World.holding Tryz.prog os ⟨#[], #[], []⟩).layIfaces Tryz.prog laidL (World.laidAll Tryz.prog os laidL) = true := by kernel_rfl
theorem laid_met (os : Os) (args : Array Value) : laidMetH Tryz.prog laidL ((wit os).forCall (fun _ _ => 0) ⟨#[], args, []⟩).memory := by
  rw [MakeChecks.laidMetH_plain _ _ _ (by kernel_rfl)]
  exact laidMet_laidAll args (fits os) (ifaces os)
theorem and_of {a b : Bool} (h1 : a = true) (h2 : b = true) : (a && b) = true := by rw [h1, h2]; rfl
end Go.Proofs.YtejohpjhonjcjaaGreatDoor
