/- Walks: the law UnitNames. -/
import Derived.Test.YtopjmiklpnejmaaGreatDoorSa
namespace Go.Proofs.YtopjmiklpnejmaaGreatDoor
open Eng Go.RowKit
theorem cutDot_none : ∀ {l : List UInt8}, (46 : UInt8) ∉ l → cutDot l = [l]
  | [], _ => rfl
  | c :: r, h => by
    have h1 : c ≠ 46 := fun e => h (by rw [e]; exact List.mem_cons_self ..)
    have h2 := cutDot_none (l := r) fun e => h (List.mem_cons_of_mem _ e)
    simp only [cutDot, if_neg h1, h2]
theorem cutDot_one : ∀ {l : List UInt8}, (cutDot l).length = 1 → (46 : UInt8) ∉ l
  | [], _ => by simp
  | c :: r, h => by
    simp only [cutDot] at h
    by_cases h1 : c = 46
    · rw [if_pos h1] at h
      have := cutDot_ne r
      simp at h
      exact absurd h this
    · rw [if_neg h1] at h
      cases hr : cutDot r with
      | nil => exact absurd hr (cutDot_ne r)
      | cons p ps =>
        rw [hr] at h
        have := cutDot_one (l := r) (by rw [hr]; simpa using h)
        intro hm
        cases hm with
        | head => exact h1 rfl
        | tail _ hm => exact this hm
theorem simple_nodot {l : List UInt8} (h : simpleL l = true) : (46 : UInt8) ∉ l := by
  intro hm
  unfold simpleL at h
  cases l with
  | nil => cases hm
  | cons c r =>
    simp only [Bool.and_eq_true] at h
    have := List.all_eq_true.1 h.2 46 hm
    exact absurd this (by decide)
theorem simple_path (s : ByteArray) : simple s = decide ((path s : Int) = 1) := by
  unfold path pathL simple
  rw [Bool.eq_iff_iff, decide_eq_true_eq]
  constructor
  · intro h
    rw [cutDot_none (simple_nodot h)]
    simp [h]
  · intro h
    split at h
    · rename_i hc
      have h1 : (cutDot s.data.toList).length = 1 := by omega
      rw [cutDot_none (cutDot_one h1)] at hc
      simpa using hc.2
    · cases h
theorem eqg_bool {P : Program} (w : World) (b : BinOp) (t : TypeId) (x y : Operand) (n m : Bool) : (eqGuard b t x y (.bool n) (.bool m)).run P w = .ok () w := by cases b <;> rfl
theorem equal_bool {P : Program} {w : World} {t : TypeId} {a b : Bool} (hu : P.underlying t = some .bool) : (Op.equal t (.bool a) (.bool b)).run P w = .ok (a == b) w := by
  unfold Op.equal Op.equalIn
  split
  · rename_i h; cases h
  · simp [run_underlying hu]
theorem binOp_beq {P : Program} {w : World} {t : TypeId} {a b : Bool} (hu : P.underlying t = some .bool) : (binOp .eql t (.bool a) (.bool b)).run P w = .ok (.bool (a == b)) w := by simp [binOp, pure, equal_bool hu]
/-- == on two truths -/
theorem Eng.beb {C : Cx} {s : St} {w : World} {md : Option Md} {ops : Array Oper} {T T' : TypeId} {x y : Operand} {d : Nat} {ty : TypeId} {pos : String} {af : Array Edge} {g : Option (Nat × Bool)} {rest : List Oper} {k : List Item} {l : Env} {c : CEnv} {a b : Bool}
    (h : Wk C (.reg md ops rest k ((d, .bool (a == b)) :: l) c) w)
    (hs : adv C.tab C.n C.ks 400 s = .opn md ops ⟨some d, .binOp .eql T x y T', ty, pos, af, g⟩ rest k l c [] := by rfl) (hx : evc l c [] x = some (.bool a) := by rfl) (hy : evc l c [] y = some (.bool b) := by rfl) (hu : C.P.underlying T = some .bool := by kernel_rfl) (hf : fresh d l c [] = true := by rfl) : Wk C s w :=
  rd (p := []) (fun _ _ hA hp w' _ => by
    simp only [execOp, evc_ok hA.k hA.kc.c hp hx, evc_ok hA.k hA.kc.c hp hy]
    exact run_bind_ok (run_bind_ok (eqg_bool ..) |>.trans (binOp_beq hu)) |>.trans rfl) h hs rfl hf (okR_no rfl)
theorem l_Names (s : ByteArray) (w : World) (hs : s.size ≤ 1048576) (hG : Gl w) : Ret Tryz.prog 3 #[.string s] w fun v w' => v = .bool true ∧ Bl w w' := by
  refine entr (vs := [.string s]) [0, 2] tabok Tryz.func3 (by kernel_rfl) ?_
  refine cl (u_Simple s w hs) ?_
  rintro _ w ⟨rfl, rfl⟩
  refine cl (r_Simple s w hs) ?_
  rintro _ w ⟨rfl, rfl⟩
  refine beb ?_
  rw [beq_self_eq_true]
  refine sp (I 0) (fun q => ?_) (fun q => ?_)
  rotate_left
  · cases q
  refine cl (u_Path s w hs hG) ?_
  rintro _ w1 ⟨rfl, hB1⟩
  refine sp (I 0) (fun q => ?_) (fun q => ?_)
  rotate_left
  · cases q
  refine cl (r_Path s w1 hs) ?_
  rintro _ w2 ⟨rfl, hB2⟩
  refine sp (.bool false) (fun q => ?_) (fun q => ?_)
  rotate_left
  · exact absurd q (by simp)
  refine cl (u_Simple s w2 hs) ?_
  rintro _ w2 ⟨rfl, rfl⟩
  refine sp (I 0) (fun q => ?_) (fun q => ?_)
  rotate_left
  · exact absurd q (by simp)
  refine cl (u_Path s w2 hs (hG.bl (hB1.trans hB2))) ?_
  rintro _ w3 ⟨rfl, hB3⟩
  have hB := (hB1.trans hB2).trans hB3
  have e : (simple s == decide ((path s : Int) = 1)) = true := by rw [simple_path]; simp
  refine sp (.bool false) (fun q => ?_) (fun q => ?_)
  rotate_left
  · exact absurd q (by simp)
  refine beb ?_
  rw [e]
  refine sp (.bool false) (fun q => ?_) (fun q => ?_)
  rotate_left
  · exact absurd q (by simp)
  refine cl (l_sane w3 (hG.bl hB)) ?_
  rintro _ w4 ⟨rfl, hB4⟩
  exact rt1 ⟨rfl, hB.trans hB4⟩
end Go.Proofs.YtopjmiklpnejmaaGreatDoor
