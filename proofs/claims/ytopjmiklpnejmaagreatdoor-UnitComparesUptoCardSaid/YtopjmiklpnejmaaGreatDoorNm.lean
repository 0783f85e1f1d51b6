/- Simple names and paths as functions on lists of bytes. No program stands here. -/
import Derived.Test.YtopjmiklpnejmaaGreatDoorEng3
namespace Go.Proofs.YtopjmiklpnejmaaGreatDoor
open Go.RowKit Eng
def low (c : UInt8) : Bool := decide (97 ≤ (c.toNat : Int)) && decide ((c.toNat : Int) ≤ 122)
def upp (c : UInt8) : Bool := decide (65 ≤ (c.toNat : Int)) && decide ((c.toNat : Int) ≤ 90)
def dgt (c : UInt8) : Bool := decide (48 ≤ (c.toNat : Int)) && decide ((c.toNat : Int) ≤ 57)
def alnum (c : UInt8) : Bool := low c || upp c || dgt c
def simpleL (l : List UInt8) : Bool := decide (l.length ≤ 12) && (match l with | [] => false | c :: _ => low c) && l.all alnum
def simple (s : ByteArray) : Bool := simpleL s.data.toList
theorem ba_len (s : ByteArray) : s.data.toList.length = s.size := Array.length_toList
theorem ba_get (s : ByteArray) (k : Nat) (h : k < s.size) : s.data.toList[k]? = some s[k] := by
  rw [List.getElem?_eq_getElem (by rw [ba_len]; exact h)]; rfl
theorem simple_empty (s : ByteArray) (h : s.size = 0) : simple s = false := by
  unfold simple; have e : s.data.toList = [] := List.eq_nil_of_length_eq_zero (by rw [ba_len, h])
  rw [e]; rfl
theorem simple_long (s : ByteArray) (h : 12 < s.size) : simple s = false := by
  unfold simple simpleL; rw [ba_len, decide_eq_false (by omega)]; simp
theorem sget_at {s : ByteArray} {k : Nat} (h : k < s.size) : s.data.toList[k]? = some (sget s k) := by
  rw [ba_get s k h]
  have := sget_some h
  rw [getElem?_pos s k h] at this; exact this
theorem simple_head (s : ByteArray) (h0 : 0 < s.size) (h : low (sget s 0) = false) : simple s = false := by
  unfold simple simpleL
  have e := sget_at h0
  cases hl : s.data.toList with
  | nil => rfl
  | cons c l => rw [hl] at e; simp at e; subst e; simp [h]
theorem simple_at (s : ByteArray) (k : Nat) (hk : k < s.size) (h : alnum (sget s k) = false) : simple s = false := by
  unfold simple simpleL
  have e := sget_at hk
  have : s.data.toList.all alnum = false := by
    rw [← Bool.not_eq_true]; intro ht
    have := List.all_eq_true.1 ht _ (List.mem_of_getElem? e)
    rw [h] at this; cases this
  simp [this]
theorem simple_yes (s : ByteArray) (h0 : 0 < s.size) (h12 : s.size ≤ 12) (h : low (sget s 0) = true) (ha : (s.data.toList.take s.size).all alnum = true) : simple s = true := by
  unfold simple simpleL
  have e := sget_at h0
  rw [List.take_of_length_le (by rw [ba_len]; omega)] at ha
  rw [ha, ba_len, decide_eq_true h12]
  cases hl : s.data.toList with
  | nil => rw [hl] at e; simp at e
  | cons c l => rw [hl] at e; simp at e; subst e; simp [h]
theorem all_snoc {s : ByteArray} {k : Nat} (hk : k < s.size) (h : (s.data.toList.take k).all alnum = true) (h2 : alnum (sget s k) = true) : (s.data.toList.take (k + 1)).all alnum = true := by
  rw [take_succ_some (sget_at hk), List.all_append, h]; simp [h2]
theorem wrap_fit {a : Int} (h0 : -9223372036854775808 ≤ a) (h1 : a ≤ 9223372036854775807) : IntKind.i64.wrap a = a := IntWalk.i64_in a (by omega)
theorem wrap_succ {k n : Nat} (h : k < n) (hn : n ≤ 4611686018427387904 := by omega) : IntKind.i64.wrap ((k : Int) + 1) = ((k + 1 : Nat) : Int) := by rw [wrap_fit (by omega) (by omega)]; rfl
theorem lst1 {α : Type} {a a' : α} (h : a = a') : [a] = [a'] := by rw [h]
theorem lst2 {α : Type} {a a' b b' : α} (h : a = a') (h2 : b = b') : [a, b] = [a', b'] := by rw [h, h2]
theorem lst3 {α : Type} {a a' b b' c c' : α} (h : a = a') (h2 : b = b') (h3 : c = c') : [a, b, c] = [a', b', c'] := by rw [h, h2, h3]
theorem lst4 {α : Type} {a a' b b' c c' d d' : α} (h : a = a') (h2 : b = b') (h3 : c = c') (h4 : d = d') : [a, b, c, d] = [a', b', c', d'] := by rw [h, h2, h3, h4]
theorem vsl {a : Option Addr} {n n' c : Nat} (h : n = n') : Value.slice a n c = Value.slice a n' c := by rw [h]
theorem inc {k n : Nat} (h : k < n) (hn : n ≤ 4611686018427387904 := by omega) : Value.int .i64 (IntKind.i64.wrap ((k : Int) + 1)) = I ((k + 1 : Nat) : Int) := by rw [wrap_succ h hn]
/-- a loop that counts slot i up; Inv speaks of the count, of the slots in 'sel' and of the world -/
theorem Eng.lpk {C : Cx} {s : St} {w : World} {c : Code} {k : List Item} {l : Env} {vals : List Value} (n i : Nat) (sel : List Nat) (keep : Env) (Inv : Nat → List Value → World → Prop) (h0 : Inv 0 vals w)
    (hr : ∀ j vals w', j ≤ n → Inv j vals w' →
      (∀ {s' : St} {l'' : Env} {vals'' : List Value} {w'' : World}, j < n → Inv (j + 1) vals'' w'' → (hs : adv C.tab C.n C.ks 400 s' = .code (.inLoop c :: k) l'' := by rfl) →
        (hsub : Sub keep l'' := by repeat (first | exact True.intro | (refine ⟨rfl, ?_⟩))) → (hv : lookAll l'' (i :: sel) = some (.int .i64 (IntKind.i64.wrap ((j : Int) + 1)) :: vals'') := by rfl) → Wk C s' w'') →
      Wk C (.code (.code c :: .inLoop c :: k) ((i, I j) :: pair sel vals keep)) w')
    (hs : adv C.tab C.n C.ks 400 s = .code (.code (.loop c) :: k) l := by rfl) (hkeep : Sub keep l := by repeat (first | exact True.intro | (refine ⟨rfl, ?_⟩))) (hv : lookAll l (i :: sel) = some (I 0 :: vals) := by rfl)
    (hn : n ≤ 4611686018427387904 := by omega) : Wk C s w := by
  refine lp (i :: sel) keep (fun m vs w' => ∃ j vals, j ≤ n ∧ m = n - j ∧ vs = I (j : Nat) :: vals ∧ Inv j vals w') hkeep ⟨0, vals, Nat.zero_le _, rfl, rfl, h0⟩ ?_ hs hv
  rintro m _ w' ⟨j, vals, hj, rfl, rfl, hI⟩ ih
  refine hr j vals w' hj hI ?_
  intro s' l'' vals'' w'' hlt hI2 hs2 hsub hv2
  refine by_adv hs2 (ih _ _ _ _ ?_ hsub hv2 ⟨j + 1, vals'', hlt, rfl, ?_, hI2⟩)
  · omega
  · rw [inc hlt]
end Go.Proofs.YtopjmiklpnejmaaGreatDoor
