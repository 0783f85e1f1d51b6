/- Walks: the law's sanity test. -/
import Derived.Test.YtopjmiklpnejmaaGreatDoorBy
namespace Go.Proofs.YtopjmiklpnejmaaGreatDoor
open Eng Go.RowKit
theorem fold_push : ∀ (l : List UInt8) (s : ByteArray), (l.map fun c => ((c.toNat : Nat) : Int)).foldl (fun r n => r.push (UInt8.ofNat n.toNat)) s = ⟨s.data ++ l.toArray⟩
  | [], s => by simp
  | c :: l, s => by
    rw [List.map_cons, List.foldl_cons, fold_push l]
    apply ba_ext
    simp [ByteArray.push]
section
variable {C : Cx} {s : St} {w : World}
/-- bytes as a string -/
theorem cbs {md : Option Md} {ops : Array Oper} {T U : TypeId} {x : Operand} {d : Nat} {ty : TypeId} {pos : String} {af : Array Edge} {g : Option (Nat × Bool)} {rest : List Oper} {k : List Item} {l : Env} {c : CEnv} {b o cap n : Nat} {bs : List UInt8} (hat : At w b o (bC bs)) (hn : n = bs.length) (hmd : mdB md b)
    (h : Wk C (.reg md ops rest k ((d, .string (ofL bs)) :: l) c) w)
    (hs : adv C.tab C.n C.ks 400 s = .opn md ops ⟨some d, .convert T U x, ty, pos, af, g⟩ rest k l c [] := by rfl) (hx : evc l c [] x = some (.slice (some ⟨b, o, none⟩) n cap) := by rfl) (hT : C.P.underlying T = some (.slice 5) := by kernel_rfl) (hU : C.P.underlying U = some .string := by kernel_rfl) (he : C.P.underlying 5 = some (.int .u8) := by kernel_rfl) (hf : fresh d l c [] = true := by rfl) : Wk C s w := by
  subst hn
  refine rd (p := []) (fun _ _ hA hp w' hm => ?_) h hs rfl hf (okR_no rfl)
  have hat' := mdR_at hmd hm hat
  simp only [execOp, evc_ok hA.k hA.kc.c hp hx]
  refine (run_bind_ok (P := C.P) (x := .string (ofL bs)) (w' := w') ?_).trans rfl
  rw [run_convert_bytes_string w' T U 5 _ _ _ hT he hU]
  have hl : (loadCells ⟨b, o, none⟩ bs.length).run C.P w' = .ok ((bs.map fun c => ((c.toNat : Nat) : Int)).map (Value.int .u8)).toArray w' := by
    have e : (bs.map fun c => ((c.toNat : Nat) : Int)).map (Value.int .u8) = bC bs := by rw [List.map_map, List.map_eq_flatMap]; rfl
    rw [e]
    have := loadCells_run (P := C.P) hat' bs.length 0 #[] (by rw [bC_length]; omega)
    simpa [loadCells] using this
  have e2 : (⟨ByteArray.empty.data ++ bs.toArray⟩ : ByteArray) = ofL bs := by apply ba_ext; simp [ofL]
  rw [run_bytesToString w' ⟨b, o, none⟩ bs.length cap _ hl, fold_push, e2]
end
def u0 : Unt := ⟨⟨#[109]⟩, [], [], [], []⟩
def ua0 : UA := ⟨none, 0, none, 0, none, 0, none, 0⟩
theorem u0_R (w : World) : UnR T w u0 ua0 := ⟨by decide, by simp [u0], Sl.nil _ _ _ _, Sl.nil _ _ _ _, Sl.nil _ _ _ _, Sl.nil _ _ _ _⟩
theorem u0_chk : checkE u0 = 0 := by kernel_rfl
theorem u0_len : (enc u0).length = 29 := by kernel_rfl
theorem u0_nine : (enc u0).take 9 = [73, 83, 79, 49, 0, 0, 0, 1, 109] := by kernel_rfl
theorem ab_path : path ⟨#[97, 46, 98]⟩ = 2 := by kernel_rfl
theorem At.take {w : World} {b o : Nat} {cs : List Value} (h : At w b o cs) (n : Nat) : At w b o (cs.take n) := fun j v hj => h j v (by
  rw [List.getElem?_take] at hj
  split at hj
  · exact hj
  · cases hj)
theorem l_sane (w : World) (hG : Gl w) : Ret Tryz.prog 18 #[] w fun v w' => v = .bool true ∧ Bl w w' := by
  refine entr (vs := []) [0, 1, 2] tabok Tryz.func18 (by kernel_rfl) ?_
  refine bd ?_
  refine cl (u_Encode u0 ua0 w (u0_R w) hG) ?_
  rintro v w1 ⟨hE, hB1⟩
  unfold EncR at hE
  rw [if_pos u0_chk] at hE
  obtain ⟨ar, cr, rfl, hR⟩ := hE
  obtain ⟨g, rfl⟩ : ∃ g, ar = some ⟨g, 0, none⟩ := by
    rcases hR.addr with ⟨_, h⟩ | h
    · have := u0_len; rw [h] at this; cases this
    · exact h
  have hat := (hR.at rfl).take 9
  have hcap := hR.cap_ge
  rw [u0_len] at hcap
  have e9 : (bC (enc u0)).take 9 = bC [73, 83, 79, 49, 0, 0, 0, 1, 109] := by rw [← u0_nine]; kernel_rfl
  rw [e9] at hat
  rw [u0_len]
  refine sp (.slice none 0 0) (fun q => ?_) (fun q => ?_)
  rotate_left
  · cases q
  refine sl 0 9 ?_
  refine sp (.string ⟨#[]⟩) (fun q2 => ?_) (fun q2 => ?_)
  rotate_left
  · cases q2
  refine cbs (bs := [73, 83, 79, 49, 0, 0, 0, 1, 109]) (b := g) (o := 0) (cap := cr) (n := 9) hat rfl trivial ?_ (hx := ?_)
  rotate_left
  · exact congrArg (fun a => some (Value.slice a 9 cr)) (if_neg (show ¬ cr = 0 by omega))
  refine sp (.int .i64 0) (fun q3 => ?_) (fun q3 => ?_)
  rotate_left
  · exact absurd q3 (by decide)
  refine cl (u_Path ⟨#[97, 46, 98]⟩ w1 (by decide) (hG.bl hB1)) ?_
  rintro _ w2 ⟨rfl, hB2⟩
  rw [ab_path]
  exact rt1 ⟨rfl, hB1.trans hB2⟩
end Go.Proofs.YtopjmiklpnejmaaGreatDoor
