/- slices.IndexFunc and slices.ContainsFunc with a function that only makes new blocks. Printed by wip/tools/mkidx.py. -/
import Derived.Test.YtopjmiklpnejmaaGreatDoorWa
namespace Go.Proofs.YtopjmiklpnejmaaGreatDoor
open Eng Go.RowKit
/-- the cells of an element as one value -/
def asV (cs : List Value) : Value := match cs with
  | [v] => v
  | _ => .agg cs.toArray
theorem any_snoc {α : Type} {p : α → Bool} {l : List α} {k : Nat} {x : α} (hx : l[k]? = some x) (h : (l.take k).any p = false) (h2 : p x = false) : (l.take (k + 1)).any p = false := by
  rw [take_succ_some hx, List.any_append, h]; simp [h2]
theorem any_end {α : Type} {p : α → Bool} {l : List α} (h : (l.take l.length).any p = false) : l.any p = false := by rwa [List.take_length] at h
theorem any_hit {α : Type} {p : α → Bool} {l : List α} {k : Nat} {x : α} (hx : l[k]? = some x) (h : p x = true) : l.any p = true := List.any_eq_true.2 ⟨x, List.mem_of_getElem? hx, h⟩
theorem IndexFunc_str (l : List ByteArray) (a : Option Addr) (cap : Nat) (g : FuncId) (caps : List Value) (p : ByteArray → Bool) (S : Nat → Prop) (w : World) (hS : Sl eStr S w a l)
    (hp : ∀ x cs, x ∈ l → ∀ w', Bl w w' → (eStr).rel S w' cs x → Ret Tryz.prog g ([asV cs] ++ caps).toArray w' fun v w'' => v = .bool (p x) ∧ Bl w' w'') :
    Ret Tryz.prog 117 #[.slice a l.length cap, .func (.func g) #[] caps.toArray] w fun v w' => (∃ i : Int, v = I i ∧ decide (i ≥ 0) = l.any p) ∧ Bl w w' := by
  refine entr (vs := [.slice a l.length cap, .func (.func g) #[] caps.toArray]) [0, 1, 4, 5, 7, 8, 9, 16] tabok Tryz.func117 (by kernel_rfl) ?_
  have hbig := hS.big
  refine lp [8] [(0, .slice a l.length cap), (1, .func (.func g) #[] caps.toArray), (7, I l.length)] (fun m vals w' => ∃ k : Nat, m = l.length - k ∧ k ≤ l.length ∧ vals = [I k] ∧ (l.take k).any p = false ∧ Bl w w') ⟨rfl, rfl, rfl, trivial⟩ ⟨0, rfl, Nat.zero_le _, rfl, rfl, Bl.refl _⟩ ?_
  rintro m vals w1 ⟨k, rfl, hk, rfl, ha, hB⟩ ih
  by_cases hlt : k < l.length
  · refine brT ?_
    obtain ⟨x, b, o, cs, hx, rfl, hSb, hAt, rfl⟩ := at_some (hS.bl hB) hlt
    refine ix ?_
    refine ld (hAt 0 _ rfl) ?_
    refine cl (hp x _ (List.mem_of_getElem? hx) _ hB rfl) ?_
    rintro _ w2 ⟨rfl, hB2⟩
    refine br (fun h => ?_) (fun h => ?_)
    · exact rt1 ⟨⟨k, rfl, by rw [any_hit hx h]; simp⟩, hB.trans hB2⟩
    · refine again (ih _ _ _ _ (by omega) ⟨rfl, rfl, rfl, trivial⟩ rfl ⟨k + 1, rfl, by omega, lst1 (inc hlt), any_snoc hx ha h, hB.trans hB2⟩)
  · refine brF ?_
    obtain rfl : k = l.length := by omega
    exact rt1 ⟨⟨-1, rfl, by rw [any_end ha]; rfl⟩, hB⟩
theorem ContainsFunc_str (l : List ByteArray) (a : Option Addr) (cap : Nat) (g : FuncId) (caps : List Value) (p : ByteArray → Bool) (S : Nat → Prop) (w : World) (hS : Sl eStr S w a l)
    (hp : ∀ x cs, x ∈ l → ∀ w', Bl w w' → (eStr).rel S w' cs x → Ret Tryz.prog g ([asV cs] ++ caps).toArray w' fun v w'' => v = .bool (p x) ∧ Bl w' w'') :
    Ret Tryz.prog 47 #[.slice a l.length cap, .func (.func g) #[] caps.toArray] w fun v w' => v = .bool (l.any p) ∧ Bl w w' := by
  refine entr (vs := [.slice a l.length cap, .func (.func g) #[] caps.toArray]) [0, 1, 4] tabok Tryz.func47 (by kernel_rfl) ?_
  refine cl (IndexFunc_str l a cap g caps p S w hS hp) ?_
  rintro _ w1 ⟨⟨i, rfl, hi⟩, hB⟩
  exact rt1 ⟨vb hi, hB⟩
theorem IndexFunc_cls (l : List Cls) (a : Option Addr) (cap : Nat) (g : FuncId) (caps : List Value) (p : Cls → Bool) (S : Nat → Prop) (w : World) (hS : Sl eCls S w a l)
    (hp : ∀ x cs, x ∈ l → ∀ w', Bl w w' → (eCls).rel S w' cs x → Ret Tryz.prog g ([asV cs] ++ caps).toArray w' fun v w'' => v = .bool (p x) ∧ Bl w' w'') :
    Ret Tryz.prog 171 #[.slice a l.length cap, .func (.func g) #[] caps.toArray] w fun v w' => (∃ i : Int, v = I i ∧ decide (i ≥ 0) = l.any p) ∧ Bl w w' := by
  refine entr (vs := [.slice a l.length cap, .func (.func g) #[] caps.toArray]) [0, 1, 4, 5, 7, 8, 9, 16] tabok Tryz.func171 (by kernel_rfl) ?_
  have hbig := hS.big
  refine lp [8] [(0, .slice a l.length cap), (1, .func (.func g) #[] caps.toArray), (7, I l.length)] (fun m vals w' => ∃ k : Nat, m = l.length - k ∧ k ≤ l.length ∧ vals = [I k] ∧ (l.take k).any p = false ∧ Bl w w') ⟨rfl, rfl, rfl, trivial⟩ ⟨0, rfl, Nat.zero_le _, rfl, rfl, Bl.refl _⟩ ?_
  rintro m vals w1 ⟨k, rfl, hk, rfl, ha, hB⟩ ih
  by_cases hlt : k < l.length
  · refine brT ?_
    obtain ⟨x, b, o, cs, hx, rfl, hSb, hAt, af, cf, rfl, hF⟩ := at_some (hS.bl hB) hlt
    refine ix ?_
    refine lda hAt ?_
    refine cl (hp x _ (List.mem_of_getElem? hx) _ hB ⟨af, cf, rfl, hF⟩) ?_
    rintro _ w2 ⟨rfl, hB2⟩
    refine br (fun h => ?_) (fun h => ?_)
    · exact rt1 ⟨⟨k, rfl, by rw [any_hit hx h]; simp⟩, hB.trans hB2⟩
    · refine again (ih _ _ _ _ (by omega) ⟨rfl, rfl, rfl, trivial⟩ rfl ⟨k + 1, rfl, by omega, lst1 (inc hlt), any_snoc hx ha h, hB.trans hB2⟩)
  · refine brF ?_
    obtain rfl : k = l.length := by omega
    exact rt1 ⟨⟨-1, rfl, by rw [any_end ha]; rfl⟩, hB⟩
theorem ContainsFunc_cls (l : List Cls) (a : Option Addr) (cap : Nat) (g : FuncId) (caps : List Value) (p : Cls → Bool) (S : Nat → Prop) (w : World) (hS : Sl eCls S w a l)
    (hp : ∀ x cs, x ∈ l → ∀ w', Bl w w' → (eCls).rel S w' cs x → Ret Tryz.prog g ([asV cs] ++ caps).toArray w' fun v w'' => v = .bool (p x) ∧ Bl w' w'') :
    Ret Tryz.prog 120 #[.slice a l.length cap, .func (.func g) #[] caps.toArray] w fun v w' => v = .bool (l.any p) ∧ Bl w w' := by
  refine entr (vs := [.slice a l.length cap, .func (.func g) #[] caps.toArray]) [0, 1, 4] tabok Tryz.func120 (by kernel_rfl) ?_
  refine cl (IndexFunc_cls l a cap g caps p S w hS hp) ?_
  rintro _ w1 ⟨⟨i, rfl, hi⟩, hB⟩
  exact rt1 ⟨vb hi, hB⟩
theorem IndexFunc_mth (l : List Mth) (a : Option Addr) (cap : Nat) (g : FuncId) (caps : List Value) (p : Mth → Bool) (S : Nat → Prop) (w : World) (hS : Sl eMth S w a l)
    (hp : ∀ x cs, x ∈ l → ∀ w', Bl w w' → (eMth).rel S w' cs x → Ret Tryz.prog g ([asV cs] ++ caps).toArray w' fun v w'' => v = .bool (p x) ∧ Bl w' w'') :
    Ret Tryz.prog 172 #[.slice a l.length cap, .func (.func g) #[] caps.toArray] w fun v w' => (∃ i : Int, v = I i ∧ decide (i ≥ 0) = l.any p) ∧ Bl w w' := by
  refine entr (vs := [.slice a l.length cap, .func (.func g) #[] caps.toArray]) [0, 1, 4, 5, 7, 8, 9, 16] tabok Tryz.func172 (by kernel_rfl) ?_
  have hbig := hS.big
  refine lp [8] [(0, .slice a l.length cap), (1, .func (.func g) #[] caps.toArray), (7, I l.length)] (fun m vals w' => ∃ k : Nat, m = l.length - k ∧ k ≤ l.length ∧ vals = [I k] ∧ (l.take k).any p = false ∧ Bl w w') ⟨rfl, rfl, rfl, trivial⟩ ⟨0, rfl, Nat.zero_le _, rfl, rfl, Bl.refl _⟩ ?_
  rintro m vals w1 ⟨k, rfl, hk, rfl, ha, hB⟩ ih
  by_cases hlt : k < l.length
  · refine brT ?_
    obtain ⟨x, b, o, cs, hx, rfl, hSb, hAt, a1, c1, a2, c2, a3, c3, rfl, hF⟩ := at_some (hS.bl hB) hlt
    refine ix ?_
    refine lda hAt ?_
    refine cl (hp x _ (List.mem_of_getElem? hx) _ hB ⟨a1, c1, a2, c2, a3, c3, rfl, hF⟩) ?_
    rintro _ w2 ⟨rfl, hB2⟩
    refine br (fun h => ?_) (fun h => ?_)
    · exact rt1 ⟨⟨k, rfl, by rw [any_hit hx h]; simp⟩, hB.trans hB2⟩
    · refine again (ih _ _ _ _ (by omega) ⟨rfl, rfl, rfl, trivial⟩ rfl ⟨k + 1, rfl, by omega, lst1 (inc hlt), any_snoc hx ha h, hB.trans hB2⟩)
  · refine brF ?_
    obtain rfl : k = l.length := by omega
    exact rt1 ⟨⟨-1, rfl, by rw [any_end ha]; rfl⟩, hB⟩
theorem ContainsFunc_mth (l : List Mth) (a : Option Addr) (cap : Nat) (g : FuncId) (caps : List Value) (p : Mth → Bool) (S : Nat → Prop) (w : World) (hS : Sl eMth S w a l)
    (hp : ∀ x cs, x ∈ l → ∀ w', Bl w w' → (eMth).rel S w' cs x → Ret Tryz.prog g ([asV cs] ++ caps).toArray w' fun v w'' => v = .bool (p x) ∧ Bl w' w'') :
    Ret Tryz.prog 121 #[.slice a l.length cap, .func (.func g) #[] caps.toArray] w fun v w' => v = .bool (l.any p) ∧ Bl w w' := by
  refine entr (vs := [.slice a l.length cap, .func (.func g) #[] caps.toArray]) [0, 1, 4] tabok Tryz.func121 (by kernel_rfl) ?_
  refine cl (IndexFunc_mth l a cap g caps p S w hS hp) ?_
  rintro _ w1 ⟨⟨i, rfl, hi⟩, hB⟩
  exact rt1 ⟨vb hi, hB⟩
theorem IndexFunc_ins (l : List Ins) (a : Option Addr) (cap : Nat) (g : FuncId) (caps : List Value) (p : Ins → Bool) (S : Nat → Prop) (w : World) (hS : Sl eIns S w a l)
    (hp : ∀ x cs, x ∈ l → ∀ w', Bl w w' → (eIns).rel S w' cs x → Ret Tryz.prog g ([asV cs] ++ caps).toArray w' fun v w'' => v = .bool (p x) ∧ Bl w' w'') :
    Ret Tryz.prog 174 #[.slice a l.length cap, .func (.func g) #[] caps.toArray] w fun v w' => (∃ i : Int, v = I i ∧ decide (i ≥ 0) = l.any p) ∧ Bl w w' := by
  refine entr (vs := [.slice a l.length cap, .func (.func g) #[] caps.toArray]) [0, 1, 4, 5, 7, 8, 9, 16] tabok Tryz.func174 (by kernel_rfl) ?_
  have hbig := hS.big
  refine lp [8] [(0, .slice a l.length cap), (1, .func (.func g) #[] caps.toArray), (7, I l.length)] (fun m vals w' => ∃ k : Nat, m = l.length - k ∧ k ≤ l.length ∧ vals = [I k] ∧ (l.take k).any p = false ∧ Bl w w') ⟨rfl, rfl, rfl, trivial⟩ ⟨0, rfl, Nat.zero_le _, rfl, rfl, Bl.refl _⟩ ?_
  rintro m vals w1 ⟨k, rfl, hk, rfl, ha, hB⟩ ih
  by_cases hlt : k < l.length
  · refine brT ?_
    obtain ⟨x, b, o, cs, hx, rfl, hSb, hAt, rfl⟩ := at_some (hS.bl hB) hlt
    refine ix ?_
    refine lda hAt ?_
    refine cl (hp x _ (List.mem_of_getElem? hx) _ hB rfl) ?_
    rintro _ w2 ⟨rfl, hB2⟩
    refine br (fun h => ?_) (fun h => ?_)
    · exact rt1 ⟨⟨k, rfl, by rw [any_hit hx h]; simp⟩, hB.trans hB2⟩
    · refine again (ih _ _ _ _ (by omega) ⟨rfl, rfl, rfl, trivial⟩ rfl ⟨k + 1, rfl, by omega, lst1 (inc hlt), any_snoc hx ha h, hB.trans hB2⟩)
  · refine brF ?_
    obtain rfl : k = l.length := by omega
    exact rt1 ⟨⟨-1, rfl, by rw [any_end ha]; rfl⟩, hB⟩
theorem ContainsFunc_ins (l : List Ins) (a : Option Addr) (cap : Nat) (g : FuncId) (caps : List Value) (p : Ins → Bool) (S : Nat → Prop) (w : World) (hS : Sl eIns S w a l)
    (hp : ∀ x cs, x ∈ l → ∀ w', Bl w w' → (eIns).rel S w' cs x → Ret Tryz.prog g ([asV cs] ++ caps).toArray w' fun v w'' => v = .bool (p x) ∧ Bl w' w'') :
    Ret Tryz.prog 127 #[.slice a l.length cap, .func (.func g) #[] caps.toArray] w fun v w' => v = .bool (l.any p) ∧ Bl w w' := by
  refine entr (vs := [.slice a l.length cap, .func (.func g) #[] caps.toArray]) [0, 1, 4] tabok Tryz.func127 (by kernel_rfl) ?_
  refine cl (IndexFunc_ins l a cap g caps p S w hS hp) ?_
  rintro _ w1 ⟨⟨i, rfl, hi⟩, hB⟩
  exact rt1 ⟨vb hi, hB⟩
end Go.Proofs.YtopjmiklpnejmaaGreatDoor
