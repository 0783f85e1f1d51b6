/- Brackets as a machine with a stack. No program stands here. -/
import Derived.Test.YtopjmiklpnejmaaGreatDoorMd
namespace Go.Proofs.YtopjmiklpnejmaaGreatDoor
def opensB (op : Int) : Bool := decide (29 ≤ op) && decide (op ≤ 33)
/-- one instruction: the stack holds the openings that are open, and whether their else has been seen -/
def stepB (s : List (Int × Bool)) (d : Nat) (op : Int) : Option (List (Int × Bool) × Nat) :=
  if opensB op = true then some ((op, false) :: s, max d (s.length + 1))
  else if op = 34 then match s with
    | (o, false) :: r => if o = 29 ∨ o = 33 then some ((o, true) :: r, d) else none
    | _ => none
  else if op = 35 then match s with
    | (o, e) :: r => if o = 33 ∧ e = false then none else some (r, d)
    | [] => none
  else some (s, d)
def runB : List Int → List (Int × Bool) → Nat → Option (List (Int × Bool) × Nat)
  | [], s, d => some (s, d)
  | op :: c, s, d => match stepB s d op with
    | some (s', d') => runB c s' d'
    | none => none
def okB (c : List Int) : Bool := match runB c [] 0 with
  | some ([], d) => decide (d ≤ 6)
  | _ => false
/-- what is never right -/
def badB (c : List Int) : Prop := ∀ s d d', s.length ≤ d → runB c s d ≠ some ([], d')
theorem runB_nil (s : List (Int × Bool)) (d : Nat) : runB [] s d = some (s, d) := rfl
theorem runB_plain {op : Int} {c : List Int} {s : List (Int × Bool)} {d : Nat} (h1 : opensB op = false) (h2 : op ≠ 34) (h3 : op ≠ 35) : runB (op :: c) s d = runB c s d := by
  simp [runB, stepB, h1, h2, h3]
theorem runB_open {op : Int} {c : List Int} {s : List (Int × Bool)} {d : Nat} (h1 : opensB op = true) : runB (op :: c) s d = runB c ((op, false) :: s) (max d (s.length + 1)) := by
  simp [runB, stepB, h1]
theorem runB_else {o : Int} {e : Bool} {c : List Int} {s : List (Int × Bool)} {d : Nat} : runB (34 :: c) ((o, e) :: s) d = if e = false ∧ (o = 29 ∨ o = 33) then runB c ((o, true) :: s) d else none := by
  cases e
  · by_cases h : o = 29 ∨ o = 33 <;> simp [runB, stepB, opensB, h]
  · simp [runB, stepB, opensB]
theorem runB_end {o : Int} {e : Bool} {c : List Int} {s : List (Int × Bool)} {d : Nat} : runB (35 :: c) ((o, e) :: s) d = if o = 33 ∧ e = false then none else runB c s d := by
  by_cases h : o = 33 ∧ e = false
  · obtain ⟨rfl, rfl⟩ := h; simp [runB, stepB, opensB]
  · rw [if_neg h]
    have : stepB ((o, e) :: s) d 35 = some (s, d) := by
      simp [stepB, opensB]
      intro h1
      cases e with
      | true => rfl
      | false => exact absurd ⟨h1, rfl⟩ h
    simp [runB, this]
theorem runB_top {op : Int} {c : List Int} {d : Nat} (h : op = 34 ∨ op = 35) : runB (op :: c) [] d = none := by
  rcases h with rfl | rfl <;> simp [runB, stepB, opensB]
/-- what the document's recursive reading tells of the instructions from 'at' on -/
def partsOk (c : List Int) (i : Nat) (next deep : Int) : Prop :=
  (deep = -1 ∧ badB (c.drop i)) ∨ ∃ n k : Nat, next = n ∧ deep = k ∧ i ≤ n ∧ n ≤ c.length ∧ k ≤ n - i ∧ (n = c.length ∨ c[n]? = some 34 ∨ c[n]? = some 35) ∧ ∀ s D, s.length ≤ D → runB (c.drop i) s D = runB (c.drop n) s (max D (s.length + k))
def bracketOk (c : List Int) (i : Nat) (next deep : Int) : Prop :=
  (deep = -1 ∧ badB (c.drop i)) ∨ ∃ n k : Nat, next = n ∧ deep = k ∧ i < n ∧ n < c.length ∧ k + 1 ≤ n + 1 - i ∧ ∀ s D, s.length ≤ D → runB (c.drop i) s D = runB (c.drop (n + 1)) s (max D (s.length + k + 1))
end Go.Proofs.YtopjmiklpnejmaaGreatDoor
