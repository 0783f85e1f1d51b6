import Derived.Test.YtopjmiklpnejmaaGreatDoorM1
import Derived.Lib.AppendZerosOnto
import Derived.Laws.AppendOwn
import Derived.Lib.SmallJoins
import Derived.Test.YtopjmiklpnejmaaGreatDoorProg
import Derived.Lib.SplitLaws
import Derived.Lib.IndexBytes
import Derived.Lib.Split
import Derived.Test.YtopjmiklpnejmaaGreatDoorShelf
/- The engine, tenth part: a region whose first operations, in any order, only make new blocks. -/
namespace Go.Proofs.YtopjmiklpnejmaaGreatDoor.Eng
open Go Go.RowKit
/-- the block that a value points to -/
def fpV : Value → Option Nat
  | .pointer (some a) => some a.block
  | .slice (some a) _ _ => some a.block
  | _ => none
/-- what one of the first operations gives, read off the slots -/
structure Pr where
  rd : List Nat
  nw : Bool
  sp : (Nat → Value) → World → Prop
structure PrOk (p : Pr) (d : Nat) : Prop where
  mono : ∀ {g w w'}, Bl w w' → p.sp g w → p.sp g w'
  loc : ∀ {g g' w}, (∀ j ∈ p.rd, g j = g' j) → p.sp g w → p.sp g' w
  lt : ∀ {g w b}, p.nw = true → p.sp g w → fpV (g d) = some b → b < w.heap.size
def valsOf (a : Act) : Nat → Value := fun d => a.tmps.getD d undef
/-- a value that is known -/
def Pr.cst (d : Nat) (v : Value) : Pr := ⟨[d], false, fun g _ => g d = v⟩
theorem Pr.cst_ok (d : Nat) (v : Value) : PrOk (Pr.cst d v) d := ⟨fun _ h => h, fun h k => (h d (List.mem_singleton.2 rfl)).symm.trans k, fun h => by cases h⟩
/-- a new block -/
def Pr.box (d : Nat) (f : Nat → Value) (t : TypeId) (cs : List Value) : Pr := ⟨[d], true, fun g w => ∃ b, g d = f b ∧ Box w b t cs⟩
theorem Pr.box_ok (d : Nat) (f : Nat → Value) (t : TypeId) (cs : List Value) (hf : ∀ b, fpV (f b) = some b) : PrOk (Pr.box d f t cs) d :=
  ⟨fun h ⟨b, e, k⟩ => ⟨b, e, Bl.box h k⟩, fun h ⟨b, e, k⟩ => ⟨b, (h d (List.mem_singleton.2 rfl)).symm.trans e, k⟩, fun _ ⟨b, e, k⟩ hb => by
    rw [e, hf] at hb; cases hb; exact k.lt⟩
/-- what is read off other slots -/
def Pr.fn (d : Nat) (rs : List Nat) (f : List Value → Value) : Pr := ⟨d :: rs, false, fun g _ => g d = f (rs.map g)⟩
theorem Pr.fn_ok (d : Nat) (rs : List Nat) (f : List Value → Value) : PrOk (Pr.fn d rs f) d :=
  ⟨fun _ h => h, fun {g g' w} h k => by
    have e : rs.map g = rs.map g' := List.map_congr_left fun j hj => h j (List.mem_cons_of_mem _ hj)
    show g' d = f (rs.map g')
    rw [← e, ← h d (List.mem_cons_self ..)]; exact k, fun h => by cases h⟩
def nthD (ops : List Oper) (i : Nat) : Option Nat := match ops[i]? with
  | some o => o.dst
  | none => none
def memN (d : Nat) : List Nat → Bool
  | [] => false
  | j :: r => Nat.beq j d || memN d r
theorem memN_iff {d : Nat} : ∀ {l : List Nat}, memN d l = true ↔ d ∈ l
  | [] => by simp [memN]
  | j :: r => by
    simp only [memN, Bool.or_eq_true, List.mem_cons, memN_iff (l := r)]
    constructor
    · rintro (h | h)
      · exact .inl (Nat.eq_of_beq_eq_true h).symm
      · exact .inr h
    · rintro (h | h)
      · exact .inl (by rw [h]; exact Nat.beq_refl _)
      · exact .inr h
def dstIs (ops : Array Oper) (j r : Nat) : Bool := match ops.toList[j]? with
  | some oj => (match oj.dst with | some dj => Nat.beq dj r | none => false)
  | none => false
theorem dstIs_of {ops : Array Oper} {j r : Nat} (h : dstIs ops j r = true) : ∃ o, ops[j]? = some o ∧ o.dst = some r := by
  unfold dstIs at h
  split at h
  · rename_i o ho
    split at h
    · rename_i d hd
      exact ⟨o, by rw [← Array.getElem?_toList]; exact ho, by rw [hd, Nat.eq_of_beq_eq_true h]⟩
    · cases h
  · cases h
/-- one operation of the first part is in form -/
def parOp (n : Nat) (l : Env) (ops : Array Oper) (i : Nat) (o : Oper) (p : Pr) : Bool := match o.dst with
  | none => false
  | some d => Nat.blt d n && isNone (look l d) && o.guard.isNone && (match o.op with | .select .. => false | _ => true) &&
    (o.after.all fun e => !Region.binds .any e || Nat.blt e.on i) &&
    (p.rd.all fun r => Nat.beq r d || (o.after.any fun e => Region.binds .any e && dstIs ops e.on r))
def parB (n : Nat) (l : Env) (ops : Array Oper) : Nat → List Pr → List Oper → Bool
  | _, [], _ => true
  | i, p :: ps, o :: os => parOp n l ops i o p && parB n l ops (i + 1) ps os
  | _, _, _ => false
/-- the others wait for all of the first part -/
def waitB (m : Nat) (os : List Oper) : Bool := os.all fun o => (List.range m).all fun j => o.after.any fun e => Region.binds .any e && Nat.beq e.on j
/-- no slot is written twice -/
def distB : List Nat → Bool
  | [] => true
  | d :: r => !memN d r && distB r
def dsts : List Oper → List Nat
  | [] => []
  | o :: os => match o.dst with
    | some d => d :: dsts os
    | none => dsts os
def penv : List Oper → (Nat → Value) → Env → Env
  | [], _, l => l
  | o :: os, g, l => match o.dst with
    | some d => (d, g d) :: penv os g l
    | none => penv os g l
theorem penv_knows {a : Act} {l : Env} (hk : Knows l a) : ∀ os : List Oper, Knows (penv os (valsOf a) l) a
  | [] => hk
  | o :: os => by
    simp only [penv]
    cases o.dst with
    | none => exact penv_knows hk os
    | some d =>
      intro j v hj
      simp only [look] at hj
      cases hb : Nat.beq d j with
      | true => simp only [hb, cond_true, Option.some.injEq] at hj; have := Nat.eq_of_beq_eq_true hb; subst this; exact hj
      | false => simp only [hb, cond_false] at hj; exact penv_knows hk os j v hj
theorem parB_at {n : Nat} {l : Env} {ops : Array Oper} : ∀ {ps : List Pr} {os : List Oper} {i : Nat}, parB n l ops i ps os = true → ∀ {j : Nat} {p : Pr}, ps[j]? = some p → ∃ o, os[j]? = some o ∧ parOp n l ops (i + j) o p = true
  | [], _, _, _, j, p, hp => by simp at hp
  | p :: ps, [], _, h, _, _, _ => by simp [parB] at h
  | p :: ps, o :: os, i, h, 0, q, hq => by
    simp only [parB, Bool.and_eq_true] at h
    simp at hq; subst hq; exact ⟨o, rfl, h.1⟩
  | p :: ps, o :: os, i, h, j + 1, q, hq => by
    simp only [parB, Bool.and_eq_true] at h
    obtain ⟨o', h1, h2⟩ := parB_at h.2 (j := j) (by simpa using hq)
    exact ⟨o', by simpa using h1, by rw [show i + (j + 1) = i + 1 + j by omega]; exact h2⟩
theorem dsts_ne : ∀ {os : List Oper}, distB (dsts os) = true → ∀ {i j : Nat} {oi oj : Oper} {d : Nat}, os[i]? = some oi → os[j]? = some oj → oi.dst = some d → oj.dst = some d → i = j
  | [], _, i, _, _, _, _, h, _, _, _ => by simp at h
  | o :: os, h, i, j, oi, oj, d, hi, hj, di, dj => by
    have mem : ∀ {k : Nat} {ok : Oper}, os[k]? = some ok → ok.dst = some d → d ∈ dsts os := fun {k ok} hk dk => by
      have := List.mem_of_getElem? hk
      clear hk h hi hj
      induction os with
      | nil => cases this
      | cons x os ih =>
        cases this with
        | head => simp [dsts, dk]
        | tail _ hm =>
          simp only [dsts]
          split
          · exact List.mem_cons_of_mem _ (ih hm)
          · exact ih hm
    have h' : distB (dsts os) = true := by
      simp only [dsts] at h
      split at h
      · simp only [distB, Bool.and_eq_true] at h; exact h.2
      · exact h
    cases i with
    | zero =>
      simp at hi; subst hi
      cases j with
      | zero => rfl
      | succ j =>
        exfalso
        simp only [dsts, di, distB, Bool.and_eq_true, Bool.not_eq_true'] at h
        have := memN_iff.2 (mem (k := j) (by simpa using hj) dj)
        rw [this] at h; exact absurd h.1 (by simp)
    | succ i =>
      cases j with
      | zero =>
        exfalso
        simp at hj; subst hj
        simp only [dsts, dj, distB, Bool.and_eq_true, Bool.not_eq_true'] at h
        have := memN_iff.2 (mem (k := i) (by simpa using hi) di)
        rw [this] at h; exact absurd h.1 (by simp)
      | succ j => rw [dsts_ne h' (i := i) (j := j) (by simpa using hi) (by simpa using hj) di dj]
/-- one operation of the first part, run wherever it may stand -/
def StepOk (C : Cx) (l : Env) (w0 : World) (o : Oper) (p : Pr) (deps : (Nat → Value) → World → Prop) : Prop :=
  ∀ (a : Act) (w : World), Bl w0 w → Knows l a → deps (valsOf a) w → ∃ v w', (execOp a.eval o).run C.P w = .ok (.value v) w' ∧ (∀ d, o.dst = some d → ∀ g, (∀ j, j ≠ d → g j = valsOf a j) → g d = v → p.sp g w') ∧ Bl w w' ∧ (p.nw = true → ∀ b, fpV v = some b → w.heap.size ≤ b)
def depsOf (prs : List Pr) (o : Oper) (g : Nat → Value) (w : World) : Prop := ∀ e ∈ o.after, Region.binds .any e = true → ∀ p, prs[e.on]? = some p → p.sp g w
theorem getD_ones (m k j : Nat) : ((List.replicate m true ++ List.replicate k false).toArray.getD j true) = decide (j < m ∨ m + k ≤ j) := by
  rw [Array.getD_eq_getD_getElem?, List.getElem?_toArray]
  by_cases h : j < m
  · rw [List.getElem?_append_left (by simpa using h)]; simp [h]
  · rw [List.getElem?_append_right (by simpa using h), List.getElem?_replicate]
    simp only [List.length_replicate]
    by_cases h2 : j - m < k
    · rw [if_pos h2]; simp; omega
    · rw [if_neg h2]; simp; omega
section
variable {C : Cx} {ops : Array Oper} {prs : List Pr} {l : Env} {w0 : World} {k : List Item} {S : Nat → Prop}
structure PInv (C : Cx) (ops : Array Oper) (prs : List Pr) (l : Env) (w0 : World) (listed : Array Bool) (a : Act) (w : World) : Prop where
  ok : OkA C a l []
  bl : Bl w0 w
  sz : listed.size = ops.size
  hi : ∀ j, prs.length ≤ j → j < ops.size → listed.getD j true = false
  sp : ∀ j p, prs[j]? = some p → listed.getD j true = true → p.sp (valsOf a) w
  dep : ∀ j o e, j < prs.length → ops[j]? = some o → listed.getD j true = true → e ∈ o.after → Region.binds .any e = true → listed.getD e.on true = true
  ge : ∀ (i : Nat) (p : Pr) (o : Oper) (d b : Nat), prs[i]? = some p → ops[i]? = some o → o.dst = some d → listed.getD i true = true → p.nw = true → fpV (valsOf a d) = some b → w0.heap.size ≤ b
  dist : ∀ (i j : Nat) (pi pj : Pr) (oi oj : Oper) (di dj bi bj : Nat), i ≠ j → prs[i]? = some pi → prs[j]? = some pj → ops[i]? = some oi → ops[j]? = some oj → oi.dst = some di → oj.dst = some dj → listed.getD i true = true → listed.getD j true = true → pi.nw = true → pj.nw = true → fpV (valsOf a di) = some bi → fpV (valsOf a dj) = some bj → bi ≠ bj
theorem valsOf_put {a : Act} {d : Nat} {v : Value} (hd : d < a.tmps.size) (j : Nat) : valsOf (a.put (some d) v) j = if j = d then v else valsOf a j := get_put hd
def unl (m : Nat) (listed : Array Bool) : Nat := ((List.range m).filter fun j => !listed.getD j true).length
theorem unl_set {m i : Nat} {listed : Array Bool} (hi : i < m) (h : listed.getD i true = false) : unl m (listed.setIfInBounds i true) + 1 = unl m listed := by
  unfold unl
  have hil : i < listed.size := by
    rcases Nat.lt_or_ge i listed.size with h' | h'
    · exact h'
    · rw [Array.getD_eq_getD_getElem?, Array.getElem?_eq_none h'] at h; cases h
  have key : ∀ L : List Nat, L.Nodup → i ∈ L → (L.filter fun j => !(listed.setIfInBounds i true).getD j true).length + 1 = (L.filter fun j => !listed.getD j true).length := by
    intro L
    induction L with
    | nil => intro _ h; cases h
    | cons x L ih =>
      intro hn hm
      rw [List.nodup_cons] at hn
      by_cases hx : x = i
      · subst hx
        have e1 : (!(listed.setIfInBounds x true).getD x true) = false := by
          rw [Array.getD_eq_getD_getElem?, Array.getElem?_setIfInBounds_self_of_lt hil]; rfl
        have e2 : (!listed.getD x true) = true := by rw [h]; rfl
        rw [List.filter_cons, if_neg (by rw [e1]; simp), List.filter_cons, if_pos e2, List.length_cons]
        congr 1
        congr 1
        apply List.filter_congr
        intro y hy
        have hne : x ≠ y := fun e => hn.1 (e ▸ hy)
        rw [getD_set_ne true hne]
      · have hm' : i ∈ L := by
          cases hm with
          | head => exact absurd rfl hx
          | tail _ h => exact h
        have e1 : (listed.setIfInBounds i true).getD x true = listed.getD x true := getD_set_ne true (Ne.symm hx)
        have := ih hn.2 hm'
        rw [List.filter_cons, List.filter_cons, e1]
        split
        · simp only [List.length_cons]; omega
        · exact this
  exact key _ List.nodup_range (List.mem_range.2 hi)
theorem unl_zero {m : Nat} {listed : Array Bool} (h : unl m listed = 0) {j : Nat} (hj : j < m) : listed.getD j true = true := by
  unfold unl at h
  have := List.eq_nil_of_length_eq_zero h
  by_cases hc : listed.getD j true = true
  · exact hc
  · exfalso
    have hm : j ∈ ((List.range m).filter fun j => !listed.getD j true) := List.mem_filter.2 ⟨List.mem_range.2 hj, by simpa using hc⟩
    rw [this] at hm; cases hm
theorem par_run (hlen : prs.length ≤ ops.size) (hB : parB C.n l ops 0 prs (ops.toList.take prs.length) = true) (hd : distB (dsts (ops.toList.take prs.length)) = true) (hwt : waitB prs.length (ops.toList.drop prs.length) = true)
    (hok : ∀ (i : Nat) (o : Oper) (p : Pr) (d : Nat), ops[i]? = some o → prs[i]? = some p → o.dst = some d → PrOk p d) (hstep : ∀ (i : Nat) (o : Oper) (p : Pr), ops[i]? = some o → prs[i]? = some p → StepOk C l w0 o p (depsOf prs o))
    (fuel0 : Nat) {Q : Exit → Act → World → Prop}
    (hend : ∀ a w, PInv C ops prs l w0 (List.replicate prs.length true ++ List.replicate (ops.size - prs.length) false).toArray a w → wpM C.P .any ops Q S (ops.size - 0) fuel0 (List.replicate prs.length true ++ List.replicate (ops.size - prs.length) false).toArray a w) :
    ∀ (u : Nat) (listed : Array Bool) (a : Act) (w : World), unl prs.length listed = u → PInv C ops prs l w0 listed a w → wpM C.P .any ops Q S (ops.size - 0) (fuel0 + u) listed a w := by
  have opOf : ∀ {i : Nat} {p : Pr}, prs[i]? = some p → ∃ o, ops[i]? = some o ∧ parOp C.n l ops i o p = true := fun {i p} hp => by
    obtain ⟨o, h1, h2⟩ := parB_at hB hp
    rw [Nat.zero_add] at h2
    have hi := (List.getElem?_eq_some_iff.1 hp).1
    rw [List.getElem?_take, if_pos hi, Array.getElem?_toList] at h1
    exact ⟨o, h1, h2⟩
  intro u
  induction u with
  | zero =>
    intro listed a w hu hI
    have e : listed = (List.replicate prs.length true ++ List.replicate (ops.size - prs.length) false).toArray := by
      apply Array.ext
      · rw [hI.sz]; simp; omega
      · intro j h1 h2
        have e1 : listed[j] = listed.getD j true := by simp [Array.getD, h1]
        have e2 : (List.replicate prs.length true ++ List.replicate (ops.size - prs.length) false).toArray[j] = (List.replicate prs.length true ++ List.replicate (ops.size - prs.length) false).toArray.getD j true := by unfold Array.getD; rw [dif_pos h2]; rfl
        rw [e1, e2, getD_ones]
        by_cases hj : j < prs.length
        · rw [unl_zero hu hj, decide_eq_true (.inl hj)]
        · rw [hI.hi j (by omega) (by rw [← hI.sz]; exact h1), decide_eq_false]
          rw [hI.sz] at h1; omega
    rw [e] at hI ⊢
    exact hend a w hI
  | succ u ih =>
    intro listed a w hu hI
    have hun : ∃ i, i < prs.length ∧ listed.getD i true = false ∧ ∀ j, j < i → listed.getD j true = true := by
      have hex : ∃ i, i < prs.length ∧ listed.getD i true = false := by
        unfold unl at hu
        obtain ⟨i, hi⟩ := List.exists_mem_of_ne_nil (l := (List.range prs.length).filter fun j => !listed.getD j true) (by intro h0; rw [h0] at hu; cases hu)
        rw [List.mem_filter, List.mem_range] at hi
        exact ⟨i, hi.1, by simpa using hi.2⟩
      obtain ⟨i, h1, h2⟩ := hex
      induction i using Nat.strongRecOn with
      | _ i ihi =>
        by_cases hall : ∀ j, j < i → listed.getD j true = true
        · exact ⟨i, h1, h2, hall⟩
        · have ⟨j, hj⟩ := Classical.not_forall.1 hall
          have ⟨hj1, hj2⟩ := Classical.not_imp.1 hj
          exact ihi j hj1 (by omega) (by simpa using hj2)
    refine ⟨fun h0 => ?_, fun i hi => ?_⟩
    · exfalso
      obtain ⟨i, h1, h2, h3⟩ := hun
      obtain ⟨p, hp⟩ := some_of_lt h1
      obtain ⟨o, ho, hpo⟩ := opOf hp
      have : i ∈ Region.ready .any ops listed := by
        rw [mem_ready]
        refine ⟨h2, o, ho, fun e he hb => ?_⟩
        unfold parOp at hpo
        cases hdst : o.dst with
        | none => rw [hdst] at hpo; cases hpo
        | some d =>
          rw [hdst] at hpo
          simp only [Bool.and_eq_true] at hpo
          have := Array.all_eq_true_iff_forall_mem.1 hpo.1.2 e he
          rw [hb] at this
          have hlt : e.on < i := blt_lt (by simpa using this)
          have := h3 e.on hlt
          have hsz : e.on < listed.size := by rw [hI.sz]; omega
          simpa [Array.getD, hsz] using this
      rw [h0] at this; cases this
    · obtain ⟨hil, o, ho, hall⟩ := mem_ready.1 hi
      have hisz : i < ops.size := (Array.getElem?_eq_some_iff.1 ho).1
      have him : i < prs.length := by
        rcases Nat.lt_or_ge i prs.length with h | h
        · exact h
        · exfalso
          obtain ⟨i1, h1, h2, _⟩ := hun
          have hm : o ∈ ops.toList.drop prs.length := by
            rw [List.mem_iff_getElem?]
            exact ⟨i - prs.length, by rw [List.getElem?_drop, show prs.length + (i - prs.length) = i by omega, Array.getElem?_toList]; exact ho⟩
          have := List.all_eq_true.1 (List.all_eq_true.1 hwt o hm) i1 (List.mem_range.2 h1)
          obtain ⟨e, he, hb⟩ := Array.any_eq_true'.1 this
          simp only [Bool.and_eq_true] at hb
          have e1 := hall e he hb.1
          rw [Nat.eq_of_beq_eq_true hb.2] at e1
          have hsz : i1 < listed.size := by rw [hI.sz]; omega
          simp [Array.getD, hsz] at e1 h2
          rw [h2] at e1; cases e1
      obtain ⟨p, hp⟩ := some_of_lt him
      obtain ⟨o', ho', hpo⟩ := opOf hp
      rw [ho] at ho'
      obtain rfl := Option.some.inj ho'
      unfold parOp at hpo
      cases hdst : o.dst with
      | none => rw [hdst] at hpo; cases hpo
      | some d =>
        rw [hdst] at hpo
        simp only [Bool.and_eq_true] at hpo
        obtain ⟨⟨⟨⟨⟨g1, g2⟩, g3⟩, g4⟩, g5⟩, g6⟩ := hpo
        have hdn : d < a.tmps.size := by rw [hI.ok.size]; exact blt_lt g1
        have hdeps : depsOf prs o (valsOf a) w := fun e he hb q hq => by
          refine hI.sp e.on q hq ?_
          have := hall e he hb
          have hsz : e.on < listed.size := by
            rcases Nat.lt_or_ge e.on listed.size with h | h
            · exact h
            · rw [Array.getD_eq_getD_getElem?, Array.getElem?_eq_none h] at this; cases this
          simpa [Array.getD, hsz] using this
        obtain ⟨v, w', hr, hsp, hbl, hfp⟩ := hstep i o p ho hp a w hI.bl hI.ok.k hdeps
        have hwanted : Region.wanted o (yielded ops a.tmps) = true := by
          unfold Region.wanted
          cases hg : o.guard with
          | none => rfl
          | some x => rw [hg] at g3; cases g3
        unfold wpOp
        simp only [ho, hwanted, if_true]
        left
        unfold Oper.wp
        rw [hr]
        show (_ → Kp S w w') ∧ wpM C.P .any ops Q S (ops.size - 0) (fuel0 + u) (listed.setIfInBounds i true) (a.put o.dst v) w'
        rw [hdst]
        refine ⟨fun _ => hbl.kp S, ih _ _ _ ?_ ?_⟩
        · have := unl_set him hil; omega
        have hne : ∀ j, j ≠ i → (listed.setIfInBounds i true).getD j true = listed.getD j true := fun j hj => getD_set_ne true (Ne.symm hj)
        have hpv : ∀ j, j ≠ d → valsOf (a.put (some d) v) j = valsOf a j := fun j hj => by rw [valsOf_put hdn, if_neg hj]
        have hpd : valsOf (a.put (some d) v) d = v := by rw [valsOf_put hdn, if_pos rfl]
        have hdne : ∀ {j oj dj}, j ≠ i → j < prs.length → ops[j]? = some oj → oj.dst = some dj → dj ≠ d := fun {j oj dj} hj hjm hoj hdj e => by
          subst e
          refine hj (dsts_ne hd (i := j) (j := i) ?_ ?_ hdj hdst)
          · rw [List.getElem?_take, if_pos hjm, Array.getElem?_toList]; exact hoj
          · rw [List.getElem?_take, if_pos him, Array.getElem?_toList]; exact ho
        have hspj : ∀ j q, j ≠ i → prs[j]? = some q → listed.getD j true = true → q.sp (valsOf (a.put (some d) v)) w' := fun j q hj hq hl => by
          have hjm := (List.getElem?_eq_some_iff.1 hq).1
          obtain ⟨oj, hoj, hpj⟩ := opOf hq
          unfold parOp at hpj
          cases hdj : oj.dst with
          | none => rw [hdj] at hpj; cases hpj
          | some dj =>
            have hq' := hok j oj q dj hoj hq hdj
            refine hq'.mono hbl (hq'.loc (fun r hr => ?_) (hI.sp j q hq hl))
            rw [hdj] at hpj
            simp only [Bool.and_eq_true] at hpj
            have hr' := List.all_eq_true.1 hpj.2 r hr
            rw [Bool.or_eq_true] at hr'
            refine (hpv r ?_).symm
            rcases hr' with hr' | hr'
            · rw [Nat.eq_of_beq_eq_true hr']; exact hdne hj hjm hoj hdj
            · obtain ⟨e, he, hb⟩ := Array.any_eq_true'.1 hr'
              rw [Bool.and_eq_true] at hb
              have hlt : e.on < j := by
                have := Array.all_eq_true_iff_forall_mem.1 hpj.1.2 e he
                rw [hb.1] at this
                exact blt_lt (by simpa using this)
              intro hrd
              subst hrd
              obtain ⟨oe, hoe, hde⟩ := dstIs_of hb.2
              have hei : e.on ≠ i := fun hei => by
                have := hI.dep j oj e hjm hoj hl he hb.1
                rw [hei, hil] at this; cases this
              exact hdne hei (by omega) hoe hde rfl
        have hspi : p.sp (valsOf (a.put (some d) v)) w' := hsp d hdst _ hpv hpd
        have hIok := hI.ok
        refine ⟨⟨by simp [Act.put, hIok.size], by simpa [Act.put] using hIok.defers, fun j x hx => ?_, knows_nil _⟩, Below.trans hI.bl (hbl.mono hI.bl.size), by simp [hI.sz], fun j h1 h2 => ?_, fun j q hq hl => ?_, fun j oj e hjm hoj hl he hb => ?_, fun j q oj dj b hq hoj hdj hl hm hb => ?_, fun i1 j1 pi pj oi oj di dj bi bj hij hpi hpj hoi hoj hdi hdj hli hlj hmi hmj hbi hbj => ?_⟩
        · have hjd : j ≠ d := fun e => by
            subst e
            rw [hx] at g2; cases g2
          have := hI.ok.k j x hx
          exact (hpv j hjd).trans this
        · rw [hne j (by omega)]; exact hI.hi j h1 h2
        · by_cases hj : j = i
          · subst hj; rw [hp] at hq; obtain rfl := Option.some.inj hq; exact hspi
          · rw [hne j hj] at hl; exact hspj j q hj hq hl
        · have hlist : listed.getD e.on true = true := by
            by_cases hj : j = i
            · subst hj
              rw [ho] at hoj; obtain rfl := Option.some.inj hoj
              have := hall e he hb
              have hsz : e.on < listed.size := by
                rcases Nat.lt_or_ge e.on listed.size with h | h
                · exact h
                · rw [Array.getD_eq_getD_getElem?, Array.getElem?_eq_none h] at this; cases this
              simpa [Array.getD, hsz] using this
            · rw [hne j hj] at hl; exact hI.dep j oj e hjm hoj hl he hb
          by_cases he2 : e.on = i
          · rw [he2, hil] at hlist; cases hlist
          · rw [hne _ he2]; exact hlist
        · by_cases hj : j = i
          · subst hj
            rw [ho] at hoj; obtain rfl := Option.some.inj hoj
            rw [hp] at hq; obtain rfl := Option.some.inj hq
            rw [hdst] at hdj; obtain rfl := Option.some.inj hdj
            rw [hpd] at hb
            exact Nat.le_trans hI.bl.size (hfp hm b hb)
          · rw [hne j hj] at hl
            rw [hpv dj (hdne hj (List.getElem?_eq_some_iff.1 hq).1 hoj hdj)] at hb
            exact hI.ge j q oj dj b hq hoj hdj hl hm hb
        · have old : ∀ {j q oj dj b}, j ≠ i → prs[j]? = some q → ops[j]? = some oj → oj.dst = some dj → listed.getD j true = true → q.nw = true → fpV (valsOf a dj) = some b → b < w.heap.size := fun {j q oj dj b} hj hq hoj hdj hl hm hb => (hok j oj q dj hoj hq hdj).lt hm (hI.sp j q hq hl) hb
          by_cases h1 : i1 = i
          · subst h1
            have h2 : j1 ≠ i1 := Ne.symm hij
            rw [ho] at hoi; obtain rfl := Option.some.inj hoi
            rw [hp] at hpi; obtain rfl := Option.some.inj hpi
            rw [hdst] at hdi; obtain rfl := Option.some.inj hdi
            rw [hpd] at hbi
            rw [hpv dj (hdne h2 (List.getElem?_eq_some_iff.1 hpj).1 hoj hdj)] at hbj
            rw [hne j1 h2] at hlj
            have := hfp hmi bi hbi
            have := old h2 hpj hoj hdj hlj hmj hbj
            omega
          · rw [hne i1 h1] at hli
            rw [hpv di (hdne h1 (List.getElem?_eq_some_iff.1 hpi).1 hoi hdi)] at hbi
            by_cases h2 : j1 = i
            · subst h2
              rw [ho] at hoj; obtain rfl := Option.some.inj hoj
              rw [hp] at hpj; obtain rfl := Option.some.inj hpj
              rw [hdst] at hdj; obtain rfl := Option.some.inj hdj
              rw [hpd] at hbj
              have := hfp hmj bj hbj
              have := old h1 hpi hoi hdi hli hmi hbi
              omega
            · rw [hne j1 h2] at hlj
              rw [hpv dj (hdne h2 (List.getElem?_eq_some_iff.1 hpj).1 hoj hdj)] at hbj
              exact hI.dist i1 j1 pi pj oi oj di dj bi bj hij hpi hpj hoi hoj hdi hdj hli hlj hmi hmj hbi hbj
def StepsOk (C : Cx) (l : Env) (w0 : World) (prs : List Pr) : List Oper → List Pr → Prop
  | o :: os, p :: ps => StepOk C l w0 o p (depsOf prs o) ∧ StepsOk C l w0 prs os ps
  | _, _ => True
def PrsOk : List Oper → List Pr → Prop
  | o :: os, p :: ps => (∀ d, o.dst = some d → PrOk p d) ∧ PrsOk os ps
  | _, _ => True
theorem stepsOk_at {C : Cx} {l : Env} {w0 : World} {prs : List Pr} : ∀ {os : List Oper} {ps : List Pr}, StepsOk C l w0 prs os ps → ∀ {i : Nat} {o : Oper} {p : Pr}, os[i]? = some o → ps[i]? = some p → StepOk C l w0 o p (depsOf prs o)
  | o :: os, p :: ps, h, 0, _, _, ho, hp => by simp at ho hp; subst ho; subst hp; exact h.1
  | o :: os, p :: ps, h, i + 1, _, _, ho, hp => stepsOk_at h.2 (i := i) (by simpa using ho) (by simpa using hp)
  | [], _, _, i, _, _, ho, _ => by simp at ho
  | _ :: _, [], _, i, _, _, _, hp => by simp at hp
theorem prsOk_at : ∀ {os : List Oper} {ps : List Pr}, PrsOk os ps → ∀ {i : Nat} {o : Oper} {p : Pr} {d : Nat}, os[i]? = some o → ps[i]? = some p → o.dst = some d → PrOk p d
  | o :: os, p :: ps, h, 0, _, _, d, ho, hp, hd => by simp at ho hp; subst ho; subst hp; exact h.1 d hd
  | o :: os, p :: ps, h, i + 1, _, _, d, ho, hp, hd => prsOk_at h.2 (i := i) (by simpa using ho) (by simpa using hp) hd
  | [], _, _, i, _, _, _, ho, _, _ => by simp at ho
  | _ :: _, [], _, i, _, _, _, _, hp, _ => by simp at hp
/-- two blocks that were made differ -/
def distP : List Oper → List Pr → (Nat → Value) → Prop := fun os ps g => ∀ (i j : Nat) (pi pj : Pr) (oi oj : Oper) (di dj bi bj : Nat), i ≠ j → ps[i]? = some pi → ps[j]? = some pj → os[i]? = some oi → os[j]? = some oj → oi.dst = some di → oj.dst = some dj → pi.nw = true → pj.nw = true → fpV (g di) = some bi → fpV (g dj) = some bj → bi ≠ bj
/-- a region whose first operations, in any order, only make new blocks; the others in an order of ours -/
theorem dpar (prs : List Pr) (S : Nat → Prop) (ord : List Nat) {s : St} {w : World} {i : Nat} {ops : Array Oper} {k : List Item} {l : Env}
    (hs : adv C.tab C.n C.ks 400 s = .code (.code (.region i ops true) :: k) l)
    (hok : PrsOk ops.toList prs) (hstep : tabOk C.P C.tab = true → ∀ w0, Dr w w0 → StepsOk C l w0 prs ops.toList prs)
    (h : ∀ w0 w' g, Dr w w0 → Bl w0 w' → (∀ (i : Nat) (p : Pr), prs[i]? = some p → p.sp g w') → (∀ (i : Nat) (p : Pr) (o : Oper) (d b : Nat), prs[i]? = some p → ops.toList[i]? = some o → o.dst = some d → p.nw = true → fpV (g d) = some b → w0.heap.size ≤ b) → distP ops.toList prs g →
      ∃ l', Sub l' (penv (ops.toList.take prs.length) g l) ∧ Wk C (.reg (some (.h S 0)) ops (pickO ops.toList ord) k l' []) w')
    (hlen : Nat.ble prs.length ops.size = true := by kernel_rfl) (hB : parB C.n l ops 0 prs (ops.toList.take prs.length) = true := by kernel_rfl) (hd : distB (dsts (ops.toList.take prs.length)) = true := by kernel_rfl) (hwt : waitB prs.length (ops.toList.drop prs.length) = true := by kernel_rfl)
    (hsel : Region.noSelect ops = true := by kernel_rfl) (hn : Nat.beq (prs.length + ord.length) ops.size = true := by kernel_rfl) (hH : heldB ops (ops.size - 0) ord (List.replicate prs.length true ++ List.replicate (ops.size - prs.length) false).toArray = true := by kernel_rfl) : Wk C s w := by
  refine by_adv hs ⟨fun ht hfn a hA => runs_wp (wp_region_any (tab_mixed ht) ?_)⟩
  have hlen' := Nat.le_of_ble_eq_true hlen
  have hn' := Nat.eq_of_beq_eq_true hn
  have toL : ∀ {j : Nat} {o : Oper}, ops[j]? = some o → ops.toList[j]? = some o := fun hj => by rw [Array.getElem?_toList]; exact hj
  refine wpAny_of_M (S := S) (m := ops.size - 0) _ _ _ _ ?_
  have hun : unl prs.length (Array.replicate ops.size false) = prs.length := by
    unfold unl
    rw [List.filter_eq_self.2, List.length_range]
    intro j hj
    have := List.mem_range.1 hj
    simp [Array.getD, show j < ops.size by omega]
  have := par_run (C := C) (ops := ops) (prs := prs) (l := l) (w0 := w.drew) (S := S) hlen' hB hd hwt (fun i o p d ho hp hd => prsOk_at hok (toL ho) hp hd) (fun i o p ho hp => stepsOk_at (hstep ht _ ⟨rfl⟩) (toL ho) hp) (ord.length + (ops.size - (ops.size - 0))) (Q := nq C k) (fun a w' hI => heldS_ok (Nat.sub_le ..) hsel (fun c a w hq => by cases hq.1) ord _ a w' hH ?_) prs.length (Array.replicate ops.size false) a w.drew hun ?_
  · rw [show ord.length + (ops.size - (ops.size - 0)) + prs.length = ops.size by omega] at this; exact this
  · have ones : ∀ j, j < prs.length → (List.replicate prs.length true ++ List.replicate (ops.size - prs.length) false).toArray.getD j true = true := fun j hj => by rw [getD_ones, decide_eq_true (.inl hj)]
    obtain ⟨l', hsub, hw⟩ := h w.drew w' (valsOf a) ⟨rfl⟩ hI.bl (fun i p hp => hI.sp i p hp (ones i (List.getElem?_eq_some_iff.1 hp).1)) (fun i p o d b hp ho hd hm hb => hI.ge i p o d b hp (by rw [← Array.getElem?_toList]; exact ho) hd (ones i (List.getElem?_eq_some_iff.1 hp).1) hm hb) (fun i j pi pj oi oj di dj bi bj hij hpi hpj hoi hoj hdi hdj hmi hmj hbi hbj =>
      hI.dist i j pi pj oi oj di dj bi bj hij hpi hpj (by rw [← Array.getElem?_toList]; exact hoi) (by rw [← Array.getElem?_toList]; exact hoj) hdi hdj (ones i (List.getElem?_eq_some_iff.1 hpi).1) (ones j (List.getElem?_eq_some_iff.1 hpj).1) hmi hmj hbi hbj)
    exact hw.run ht hfn a ⟨hI.ok.size, hI.ok.defers, fun j v hj => penv_knows hI.ok.k _ j v (sub_look hsub hj), knows_nil a⟩
  · have nof : ∀ j, (Array.replicate ops.size false).getD j true = true → ops.size ≤ j := fun j hj => by
      rcases Nat.lt_or_ge j ops.size with h | h
      · simp [Array.getD, h] at hj
      · exact h
    refine ⟨hA, Bl.refl _, by simp, fun j _ h2 => by simp [Array.getD, h2], fun j p hp hl => ?_, fun j o e hj ho hl _ _ => ?_, fun i p _ _ _ hp _ _ hl _ _ => ?_, fun i j pi pj oi oj di dj bi bj _ hpi _ _ _ _ _ hl _ _ _ _ _ => ?_⟩
    · have := nof j hl; have := (List.getElem?_eq_some_iff.1 hp).1; omega
    · have := nof j hl; omega
    · have := nof i hl; have := (List.getElem?_eq_some_iff.1 hp).1; omega
    · have := nof i hl; have := (List.getElem?_eq_some_iff.1 hpi).1; omega
/-- the steps of the first part -/
theorem so_move {C : Cx} {l : Env} {w0 : World} {d : Nat} {x : Operand} {ty : TypeId} {pos : String} {af : Array Edge} {g : Option (Nat × Bool)} {v : Value} {D : (Nat → Value) → World → Prop} (hx : evq l x = some v) : StepOk C l w0 ⟨some d, .move x, ty, pos, af, g⟩ (Pr.cst d v) D :=
  fun a w _ hk _ => ⟨v, w, by simp only [execOp, evq_ok hk hx]; rfl, fun d' hd g _ hg => by cases hd; exact hg, Bl.refl _, fun h => by cases h⟩
theorem so_mk {C : Cx} (hT : tabOk C.P C.tab = true) {l : Env} {w0 : World} {d : Nat} {T : TypeId} {x y : Operand} {ty : TypeId} {pos : String} {af : Array Edge} {g : Option (Nat × Bool)} {D : (Nat → Value) → World → Prop} {e esz by' sz m n : Nat} {ag : Bool} {zr : List Value} {tk : TK} {ag' : Bool} {zr' : List Value}
    (hx : ∀ a w, Knows l a → D (valsOf a) w → a.eval x = I m) (hy : ∀ a w, Knows l a → D (valsOf a) w → a.eval y = I n) (ht : C.tab.at T = some ⟨.slice e esz by', sz, ag, zr⟩ := by rfl) (he : C.tab.at e = some ⟨tk, esz, ag', zr'⟩ := by rfl) (hmn : m ≤ n := by omega) (hn : n ≤ 8388608 := by omega) (hb : Nat.ble by' 4096 = true := by rfl) :
    StepOk C l w0 ⟨some d, .makeSlice T x y, ty, pos, af, g⟩ (Pr.box d (fun b => .slice (some ⟨b, 0, none⟩) m n) e (rep n zr')) D :=
  fun a w _ hk hD => by
    refine ⟨_, _, exec_mk rfl (tab_at hT ht) (tab_at hT he) (hx a w hk hD) (hy a w hk hD) hmn hn hb, fun d' hd g _ hg => ?_, New.bl ⟨rfl, rfl⟩, fun _ b hb => ?_⟩
    · cases hd; exact ⟨_, hg, New.box ⟨rfl, rfl⟩⟩
    · simp only [fpV, Option.some.injEq] at hb; omega
theorem so_al {C : Cx} (hT : tabOk C.P C.tab = true) {l : Env} {w0 : World} {d : Nat} {T : TypeId} {ty : TypeId} {pos : String} {af : Array Edge} {g : Option (Nat × Bool)} {D : (Nat → Value) → World → Prop} {tk : TK} {sz : Nat} {ag : Bool} {zr : List Value}
    (ht : C.tab.at T = some ⟨tk, sz, ag, zr⟩ := by rfl) : StepOk C l w0 ⟨some d, .alloc T, ty, pos, af, g⟩ (Pr.box d (fun b => .pointer (some ⟨b, 0, none⟩)) T zr) D :=
  fun a w _ hk hD => by
    obtain ⟨z, hz, hc⟩ := zero_run (tab_at hT ht) w
    refine ⟨.pointer (some ⟨w.heap.size, 0, none⟩), w.alloc (.cells zr.toArray T), ?_, fun d' hd g _ hg => ?_, New.bl ⟨rfl, rfl⟩, fun _ b hb => ?_⟩
    · simp only [execOp]
      refine (run_bind_ok (P := C.P) (x := .pointer (some ⟨w.heap.size, 0, none⟩)) (w' := w.alloc (.cells zr.toArray T)) ?_).trans rfl
      unfold Instr.alloc
      rw [run_bind_ok hz]
      simp only [newVar, newRow, hc]; rfl
    · cases hd; exact ⟨_, hg, New.box ⟨rfl, rfl⟩⟩
    · simp only [fpV, Option.some.injEq] at hb; omega
end
end Go.Proofs.YtopjmiklpnejmaaGreatDoor.Eng

/- The engine, eleventh part: fields of struct values. -/
namespace Go.Proofs.YtopjmiklpnejmaaGreatDoor.Eng
open Go Go.RowKit
def fieldOne (P : Program) (T i o : Nat) : Bool := match P.underlying T with
  | some (.struct fs) => match fs[i]? with
    | some f => Nat.beq f.offset o && (match P.underlying f.type with
      | some d => !isAggD d
      | none => false)
    | none => false
  | _ => false
def fieldMany (P : Program) (T i o z : Nat) : Bool := match P.underlying T with
  | some (.struct fs) => match fs[i]? with
    | some f => Nat.beq f.offset o && (match P.underlying f.type with
      | some d => isAggD d
      | none => false) && (match P.info? f.type with
      | some x => Nat.beq x.size z
      | none => false)
    | none => false
  | _ => false
theorem isAgg_run {P : Program} {t : TypeId} {d : TypeDesc} (h : P.underlying t = some d) (w : World) : (isAgg t).run P w = .ok (isAggD d) w := by
  unfold isAgg
  rw [run_bind_ok (und_run h w)]
  cases d <;> rfl
section
variable {C : Cx} {s : St} {w : World}
theorem exec_fld {P : Program} {ρ : Operand → Value} {w : World} {o : Oper} {T i off : Nat} {x : Operand} {cs : List Value} {v : Value} (ho : o.op = .field T x i) (hF : fieldOne P T i off = true) (hx : ρ x = .agg cs.toArray) (hv : cs[off]? = some v) :
    (execOp ρ o).run P w = .ok (.value v) w := by
  unfold fieldOne at hF
  split at hF
  · rename_i fs hu
    split at hF
    · rename_i f hf
      rw [Bool.and_eq_true] at hF
      split at hF
      · rename_i d hd
        unfold execOp
        simp only [ho, hx]
        refine (run_bind_ok (P := P) (x := v) (w' := w) ?_).trans rfl
        unfold Instr.field
        rw [run_bind_ok (und_run hu w)]
        simp only [hf]
        rw [run_bind_ok (show (asAgg (.agg cs.toArray)).run P w = .ok cs.toArray w from rfl)]
        unfold part
        have ha : isAggD d = false := by simpa using hF.2
        rw [run_bind_ok (isAgg_run hd w), ha, if_neg (by simp), Nat.eq_of_beq_eq_true hF.1]
        simp only [List.getElem?_toArray, hv]
        rfl
      · cases hF.2
    · cases hF
  · cases hF
/-- a field of one cell -/
theorem fd {md : Option Md} {ops : Array Oper} {T i : Nat} {x : Operand} {d : Nat} {ty : TypeId} {pos : String} {af : Array Edge} {g : Option (Nat × Bool)} {rest : List Oper} {k : List Item} {l : Env} {c : CEnv} {cs : List Value} {v : Value} (off : Nat)
    (h : Wk C (.reg md ops rest k ((d, v) :: l) c) w)
    (hs : adv C.tab C.n C.ks 400 s = .opn md ops ⟨some d, .field T x i, ty, pos, af, g⟩ rest k l c [] := by rfl) (hF : fieldOne C.P T i off = true := by kernel_rfl) (hx : evc l c [] x = some (.agg cs.toArray) := by rfl) (hv : cs[off]? = some v := by rfl) (hf : fresh d l c [] = true := by rfl) : Wk C s w :=
  rd (p := []) (fun _ _ hA hp _ _ => exec_fld rfl hF (evc_ok hA.k hA.kc.c hp hx) hv) h hs rfl hf (okR_no rfl)
theorem exec_fdm {P : Program} {ρ : Operand → Value} {w : World} {o : Oper} {T i off z : Nat} {x : Operand} {cs vs : List Value} (ho : o.op = .field T x i) (hF : fieldMany P T i off z = true) (hx : ρ x = .agg cs.toArray) (hv : frc ((cs.drop off).take z) = some vs) :
    (execOp ρ o).run P w = .ok (.value (.agg vs.toArray)) w := by
  unfold fieldMany at hF
  split at hF
  · rename_i fs hu
    split at hF
    · rename_i f hf
      rw [Bool.and_eq_true, Bool.and_eq_true] at hF
      obtain ⟨⟨h1, h2⟩, h3⟩ := hF
      split at h2
      · rename_i d hd
        split at h3
        · rename_i info hi
          unfold execOp
          simp only [ho, hx]
          refine (run_bind_ok (P := P) (x := .agg vs.toArray) (w' := w) ?_).trans rfl
          unfold Instr.field
          rw [run_bind_ok (und_run hu w)]
          simp only [hf]
          rw [run_bind_ok (show (asAgg (.agg cs.toArray)).run P w = .ok cs.toArray w from rfl)]
          unfold part
          rw [run_bind_ok (isAgg_run hd w), h2, if_pos rfl, run_bind_ok (size_run hi w), Nat.eq_of_beq_eq_true h1, Nat.eq_of_beq_eq_true h3, frc_eq hv]
          simp
        · cases h3
      · cases h2
    · cases hF
  · cases hF
/-- a field that is a struct -/
theorem fdm {md : Option Md} {ops : Array Oper} {T i : Nat} {x : Operand} {d : Nat} {ty : TypeId} {pos : String} {af : Array Edge} {g : Option (Nat × Bool)} {rest : List Oper} {k : List Item} {l : Env} {c : CEnv} {cs vs : List Value} (off z : Nat)
    (h : Wk C (.reg md ops rest k ((d, .agg vs.toArray) :: l) c) w)
    (hs : adv C.tab C.n C.ks 400 s = .opn md ops ⟨some d, .field T x i, ty, pos, af, g⟩ rest k l c [] := by rfl) (hF : fieldMany C.P T i off z = true := by kernel_rfl) (hx : evc l c [] x = some (.agg cs.toArray) := by rfl) (hv : frc ((cs.drop off).take z) = some vs := by rfl) (hf : fresh d l c [] = true := by rfl) : Wk C s w :=
  rd (p := []) (fun _ _ hA hp _ _ => exec_fdm rfl hF (evc_ok hA.k hA.kc.c hp hx) hv) h hs rfl hf (okR_no rfl)
/-- cap of a slice -/
theorem cp {md : Option Md} {ops : Array Oper} {x : Operand} {T : TypeId} {d : Nat} {ty : TypeId} {pos : String} {af : Array Edge} {g : Option (Nat × Bool)} {rest : List Oper} {k : List Item} {l : Env} {c : CEnv} {e esz by' sz : Nat} {ag : Bool} {zr : List Value} {a : Option Addr} {n cap : Nat}
    (h : Wk C (.reg md ops rest k ((d, I cap) :: l) c) w)
    (hs : adv C.tab C.n C.ks 400 s = .opn md ops ⟨some d, .call ⟨.builtin .cap, #[x], #[T]⟩, ty, pos, af, g⟩ rest k l c [] := by rfl) (ht : C.tab.at T = some ⟨.slice e esz by', sz, ag, zr⟩ := by rfl) (hx : evc l c [] x = some (.slice a n cap) := by rfl) (hf : fresh d l c [] = true := by rfl) : Wk C s w :=
  rd (p := []) (fun hT _ hA hp w' _ => by
    obtain ⟨dd, xx, zz, hTi⟩ := tiOk_und (tab_at hT ht)
    obtain ⟨rfl, _⟩ := hTi.sl _ _ _ rfl
    simp only [execOp, resolve, List.map_toArray, List.map_cons, List.map_nil, evc_ok hA.k hA.kc.c hp hx]
    show (Sem.bind (Builtin.cap_ _ ty #[_]) _).run C.P w' = _
    refine (run_bind_ok (P := C.P) (x := I cap) (w' := w') ?_).trans rfl
    simp [Builtin.cap_, run_underlying hTi.und]
    rfl) h hs rfl hf (okR_no rfl)
/-- append of n zeros to nil -/
theorem apz {md : Option Md} {ops : Array Oper} {T U : TypeId} {x y : Operand} {d : Nat} {ty : TypeId} {pos : String} {af : Array Edge} {g : Option (Nat × Bool)} {rest : List Oper} {k : List Item} {l : Env} {c : CEnv} {e esz by' sz : Nat} {ag : Bool} {zr : List Value} {kd : IntKind} {n : Nat}
    (hn0 : 0 < n) (hn : n ≤ 8388608)
    (h : ∀ cap w', Ow w' w.heap.size e esz (some ⟨w.heap.size, 0, none⟩) 0 cap [] → n ≤ cap → Bl w w' → Wk C (.reg md ops rest k ((d, .slice (some ⟨w.heap.size, 0, none⟩) n cap) :: l) c) w')
    (hs : adv C.tab C.n C.ks 400 s = .opn md ops ⟨some d, .call ⟨.builtin .append, #[x, y], #[T, U]⟩, ty, pos, af, g⟩ rest k l c [] := by rfl) (ht : C.tab.at T = some ⟨.slice e esz by', sz, ag, zr⟩ := by rfl)
    (hx : evc l c [] x = some (.slice none 0 0) := by rfl) (hy : evc l c [] y = some (I n) := by rfl) (hU : C.P.underlying U = some (.int kd) := by kernel_rfl) (hb : n * by' ≤ 140737488355328 := by omega) (hsz : Nat.blt 0 esz = true := by rfl) (hf : fresh d l c [] = true := by rfl) (hnt : notT md = true := by rfl) : Wk C s w := by
  refine by_adv hs ⟨fun hT hfn => ?_⟩
  obtain ⟨dd, xx, zz, hTi⟩ := tiOk_und (tab_at hT ht)
  obtain ⟨rfl, hel⟩ := hTi.sl _ _ _ rfl
  obtain ⟨yi, zy, hyi, hys, hyb, hyz, hzc⟩ := elemOk_of hel
  have hpos := blt_lt hsz
  have hns : Builtin.nextslicecap n 0 = n := nextslicecap_zero hn0
  have hrun := Lib.run_append_grow_zeros (P := C.P) w T U ty e yi zy .i64 kd hTi.und hU hyi hyz none 0 0 [] (by simp [Builtin.firstCells]) n hn0 (by rw [hys]; exact hpos) (by omega) (by omega) (by rw [hyb]; omega) (by rw [Nat.zero_add, hns, hyb]; omega)
  rw [Nat.zero_add] at hrun
  have hge := grownCap_ge w n 0 e
  have hcm := grownCap_le_maxLen w n 0 e (by unfold maxLen; omega)
  obtain ⟨W', hW'⟩ : ∃ W', w.drew.alloc (.cells ([].toArray ++ Builtin.zeroCells zy.cells n ++ Builtin.zeroCells zy.cells (grownCap w n 0 e - n)) e) = W' := ⟨_, rfl⟩
  rw [hW'] at hrun
  have hB : Bl w W' := by rw [← hW']; exact ((Below.refl _ _).drew).alloc (Nat.le_refl _) _
  have hO : Ow W' w.heap.size e esz (some ⟨w.heap.size, 0, none⟩) 0 (grownCap w n 0 e) [] := by
    refine ⟨⟨by simp, .inr ⟨w.heap.size, _, [].toArray ++ Builtin.zeroCells zy.cells n ++ Builtin.zeroCells zy.cells (grownCap w n 0 e - n), rfl, Nat.le_refl _, ?_, Nat.zero_le _, hcm, ?_, by simp⟩⟩⟩
    · rw [← hW']; show (w.heap.push _)[w.heap.size]? = _; simp
    · have hz : zy.cells.size = esz := hzc
      simp only [Array.size_append, size_zeroCells, hz]
      show 0 + n * esz + _ = _
      rw [Nat.zero_add, ← Nat.add_mul]; congr 1; omega
  refine (op_val0 (okW_of rfl hnt) (mdW_bl hB) (fun _ a hA => ?_) (h _ W' hO hge hB) rfl hf).run hT hfn
  simp only [execOp, resolve, List.map_toArray, List.map_cons, List.map_nil, evc_ok hA.k hA.kc.c (p := []) trivial hx, evc_ok hA.k hA.kc.c (p := []) trivial hy]
  show (Sem.bind (Sem.pure _) _).run C.P w = _
  simp only [Sem.bind, invoke, builtin]
  exact (run_bind_ok hrun).trans rfl
end
end Go.Proofs.YtopjmiklpnejmaaGreatDoor.Eng

/- Rows of the call's own as lists: what is appended, what is stored, what is read. -/
namespace Go.Proofs.YtopjmiklpnejmaaGreatDoor
open Eng Go.RowKit
theorem flat_get {α : Type} {sz : Nat} {enc : α → List Value} (h : ∀ x, (enc x).length = sz) : ∀ {l : List α} {i : Nat} {x : α}, l[i]? = some x → ∀ j, j < sz → (l.flatMap enc)[i * sz + j]? = (enc x)[j]?
  | [], i, x, hx, _, _ => by simp at hx
  | y :: l, 0, x, hx, j, hj => by
    simp at hx; subst hx
    rw [List.flatMap_cons, Nat.zero_mul, Nat.zero_add, List.getElem?_append_left (by rw [h]; exact hj)]
  | y :: l, i + 1, x, hx, j, hj => by
    have := flat_get h (l := l) (i := i) (by simpa using hx) j hj
    rw [List.flatMap_cons, List.getElem?_append_right (by rw [h, Nat.succ_mul]; omega), h, ← this]
    congr 1; rw [Nat.succ_mul]; omega
theorem flat_length {α : Type} {sz : Nat} {enc : α → List Value} (h : ∀ x, (enc x).length = sz) (l : List α) : (l.flatMap enc).length = l.length * sz := by
  induction l with
  | nil => simp
  | cons x l ih => simp [ih, h, Nat.succ_mul]; omega
theorem plain_sz {α : Type} {sz : Nat} {enc : α → List Value} {h : ∀ x, (enc x).length = sz} : (plainEl sz enc h).sz = sz := rfl
/-- a row of plain elements reads as the list -/
theorem Eng.Ow.sl {α : Type} {sz : Nat} {enc : α → List Value} {h : ∀ x, (enc x).length = sz} {w : World} {base e cap n : Nat} {a : Option Addr} {l : List α} (hO : Ow w base e sz a n cap (l.flatMap enc)) (hn : n = l.length) (hl : l.length ≤ 4194304)
    {S : Nat → Prop} (hS : ∀ g, a = some ⟨g, 0, none⟩ → S g) : Sl (plainEl sz enc h) S w a l := by
  refine ⟨hl, fun i x hx => ?_⟩
  have hi : i < l.length := (List.getElem?_eq_some_iff.1 hx).1
  rcases hO.shape with ⟨_, h0, _⟩ | ⟨g, cur, rfl, _⟩
  · omega
  · refine ⟨g, 0, enc x, rfl, hS g rfl, fun j v hj => ?_, rfl⟩
    have hj' : j < sz := by rw [← h x]; exact (List.getElem?_eq_some_iff.1 hj).1
    have := hO.at rfl (i * sz + j) v (by rw [flat_get h hx j hj']; exact hj)
    rw [Nat.zero_add] at this
    rw [Nat.zero_add, plain_sz]; exact this
theorem Eng.Ow.strs {w : World} {base e cap n : Nat} {a : Option Addr} {l : List ByteArray} (hO : Ow w base e 1 a n cap (l.map Value.string)) (hn : n = l.length) (hl : l.length ≤ 4194304) {S : Nat → Prop} (hS : ∀ g, a = some ⟨g, 0, none⟩ → S g) : Sl eStr S w a l :=
  Eng.Ow.sl (enc := fun s => [.string s]) (h := fun _ => rfl) (by rw [← List.map_eq_flatMap]; exact hO) hn hl hS
/-- the whole row's block -/
theorem Eng.Ow.box {w : World} {base e esz : Nat} {n cap : Nat} {xs : List Value} {g : Nat} (h : Ow w base e esz (some ⟨g, 0, none⟩) n cap xs) : ∃ cur, Box w g e cur ∧ cur.length = cap * esz ∧ cur.take (n * esz) = xs ∧ n ≤ cap ∧ n * esz ≤ cur.length := by
  rcases h.shape with ⟨h0, _⟩ | ⟨g', cur, hg, _, h2, h3, h4, h5⟩
  · cases h0
  · simp only [Option.some.injEq, Addr.mk.injEq, and_true] at hg
    subst hg
    refine ⟨cur.toList, ?_, by simpa using h4, h5, h3, ?_⟩
    · unfold Box; rw [Array.toArray_toList]; exact h2
    · rw [Array.length_toList, h4]; exact Nat.mul_le_mul_right _ h3
/-- a store into such a row -/
theorem Eng.Ow.set {w w' : World} {base e esz : Nat} {n cap : Nat} {xs : List Value} {g : Nat} (h : Ow w base e esz (some ⟨g, 0, none⟩) n cap xs) {cur : List Value} (hb : Box w g e cur) {o : Nat} {v : Value} (hb' : Box w' g e (cur.set o v)) :
    Ow w' base e esz (some ⟨g, 0, none⟩) n cap (xs.set o v) := by
  obtain ⟨h1, h2⟩ := h.own
  refine ⟨⟨by simpa using h1, ?_⟩⟩
  rcases h2 with ⟨h2, _⟩ | ⟨g', cap', c2, h2, h3, h4, h5, h6, h7, h8⟩
  · cases h2
  · simp only [Value.slice.injEq, Option.some.injEq, Addr.mk.injEq, and_true, true_and] at h2
    obtain ⟨rfl, rfl⟩ := h2
    have e1 : c2.toList = cur := by
      unfold Box at hb; rw [hb] at h4
      simp only [Option.some.injEq, Obj.cells.injEq] at h4
      rw [← h4.1]
    refine .inr ⟨g, cap, (cur.set o v).toArray, rfl, h3, hb', h5, h6, by simp [← e1, h7], ?_⟩
    simp only [List.take_set, ← e1, h8]
theorem Eng.Ow.below {w0 w w' : World} {base e esz n cap : Nat} {a : Option Addr} {xs : List Value} (h : Ow w base e esz a n cap xs) (hA : Ap w a w') (hB : Below base w0 w) (hb : base ≤ w.heap.size) : Below base w0 w' :=
  hB.trans (hA.below hb fun _ hg => (h.lt hg).1)
theorem at_some {α : Type} {E : El α} {S : Nat → Prop} {w : World} {a : Option Addr} {l : List α} (h : Sl E S w a l) {i : Nat} (hi : i < l.length) : ∃ x b o cs, l[i]? = some x ∧ a = some ⟨b, o, none⟩ ∧ S b ∧ At w b (o + i * E.sz) cs ∧ E.rel S w cs x := by
  obtain ⟨x, hx⟩ := some_of_lt hi
  obtain ⟨b, o, cs, h1⟩ := h.el i x hx
  exact ⟨x, b, o, cs, hx, h1⟩
def ofL (l : List UInt8) : ByteArray := ⟨l.toArray⟩
theorem ofL_nil : ofL [] = ⟨#[]⟩ := rfl
theorem ofL_toL (s : ByteArray) : ofL s.data.toList = s := by cases s; simp [ofL]
theorem toL_ofL (l : List UInt8) : (ofL l).data.toList = l := by simp [ofL]
theorem ofL_append (a b : List UInt8) : ofL a ++ ofL b = ofL (a ++ b) := ba_ext (by rw [Joins.data_append]; simp [ofL])
theorem ofL_size (l : List UInt8) : (ofL l).size = l.length := by simp [ofL, ByteArray.size]
/-- a slice of plain elements as what append takes -/
theorem src_of {α : Type} {sz : Nat} {enc : α → List Value} {h : ∀ x, (enc x).length = sz} {S : Nat → Prop} {w : World} {a : Option Addr} {l : List α} (hS : Sl (plainEl sz enc h) S w a l) : Eng.Src w a l.length (l.flatMap enc) := by
  cases l with
  | nil =>
    exact .inl ⟨rfl, rfl⟩
  | cons x l =>
    obtain ⟨b, o, cs, e, hs, hat, rfl⟩ := hS.el 0 x rfl
    refine .inr ⟨b, o, e, ?_⟩
    intro j v hj
    have hlt : j < ((x :: l).flatMap enc).length := (List.getElem?_eq_some_iff.1 hj).1
    rw [flat_length h] at hlt
    have hsz : 0 < sz := by
      rcases Nat.eq_zero_or_pos sz with h0 | h0
      · rw [h0] at hlt; simp at hlt
      · exact h0
    have hq : j / sz < (x :: l).length := Nat.div_lt_of_lt_mul (by rw [Nat.mul_comm]; exact hlt)
    obtain ⟨y, hy⟩ := some_of_lt hq
    have hm : j % sz < sz := Nat.mod_lt _ hsz
    have e1 : j / sz * sz + j % sz = j := by rw [Nat.mul_comm]; exact Nat.div_add_mod j sz
    have := flat_get h hy (j % sz) hm
    rw [e1, hj] at this
    obtain ⟨b', o', cs', e', _, hat', rfl⟩ := hS.el _ y hy
    rw [e] at e'
    simp only [Option.some.injEq, Addr.mk.injEq, and_true] at e'
    obtain ⟨rfl, rfl⟩ := e'
    have h2 := hat' _ _ this.symm
    rw [plain_sz, Nat.add_assoc, e1] at h2; exact h2
/-- an own row that holds a list of plain elements -/
abbrev OwP {α : Type} (sz : Nat) (enc : α → List Value) (w : World) (base e : Nat) (a : Option Addr) (cap : Nat) (l : List α) : Prop := Ow w base e sz a l.length cap (l.flatMap enc)
theorem owp_sl {α : Type} {sz : Nat} {enc : α → List Value} {w : World} {base e cap : Nat} {a : Option Addr} {l : List α} (hO : OwP sz enc w base e a cap l) (hl : l.length ≤ 4194304) {S : Nat → Prop} (hS : ∀ g, a = some ⟨g, 0, none⟩ → S g) (h : ∀ x, (enc x).length = sz := by exact fun _ => rfl) : Sl (plainEl sz enc h) S w a l :=
  Eng.Ow.sl hO rfl hl hS
/-- append, in terms of lists -/
theorem Eng.apl {C : Cx} {s : St} {w : World} {md : Option Md} {ops : Array Oper} {T T' : TypeId} {x y : Operand} {d : Nat} {ty : TypeId} {pos : String} {af : Array Edge} {g : Option (Nat × Bool)} {rest : List Oper} {k : List Item} {l : Env} {c : CEnv} {e esz by' sz : Nat} {ag : Bool} {zr : List Value}
    {α : Type} {enc : α → List Value} {base : Nat} {a : Option Addr} {cap : Nat} {l0 : List α} {ay : Option Addr} {cy : Nat} {l1 : List α} (hO : OwP esz enc w base e a cap l0) (hsrc : Eng.Src w ay l1.length (l1.flatMap enc)) (hbase : base ≤ w.heap.size)
    (h : ∀ a' cap' w', OwP esz enc w' base e a' cap' (l0 ++ l1) → Ap w a w' → (∀ g, a' = some ⟨g, 0, none⟩ → a = some ⟨g, 0, none⟩ ∨ w.heap.size ≤ g) → Wk C (.reg md ops rest k ((d, .slice a' (l0 ++ l1).length cap') :: l) c) w')
    (hs : adv C.tab C.n C.ks 400 s = .opn md ops ⟨some d, .call ⟨.builtin .append, #[x, y], #[T, T']⟩, ty, pos, af, g⟩ rest k l c [] := by rfl) (ht : C.tab.at T = some ⟨.slice e esz by', sz, ag, zr⟩ := by rfl)
    (hx : evc l c [] x = some (.slice a l0.length cap) := by rfl) (hy : evc l c [] y = some (.slice ay l1.length cy) := by rfl) (hTT : T' = T := by rfl) (hsz : Nat.blt 0 esz = true := by rfl) (hl : ∀ x, (enc x).length = esz := by exact fun _ => rfl) (h1 : ∀ x, (enc x).all Value.oneCell' = true := by exact fun _ => rfl)
    (hb : (l0.length + l1.length) * by' ≤ 140737488355328 := by first | omega | (simp only [List.length_nil, List.length_append, List.length_cons, List.length_map]; omega)) (hn : l0.length + l1.length ≤ 1152921504606846976 := by first | omega | (simp only [List.length_nil, List.length_append, List.length_cons, List.length_map]; omega)) (hf : fresh d l c [] = true := by rfl) (hm : ∀ w', Ap w a w' → mdW md w w' := by intros; exact True.intro) (hnt : notT md = true := by rfl) : Wk C s w := by
  refine ap hO hsrc hbase (fun a' cap' w' hO' hA hfr => ?_) hs ht hx hy hTT hsz (flat_length hl l1) ?_ hb hn hf hm hnt
  · have := h a' cap' w' (by unfold OwP; rw [List.length_append, List.flatMap_append]; exact hO') hA hfr
    rw [List.length_append] at this; exact this
  · rw [List.all_flatMap, List.all_eq_true]; exact fun x _ => h1 x
theorem flatMap_le {α β : Type} {f : α → List β} {B : Nat} : ∀ {l : List α}, (∀ x ∈ l, (f x).length ≤ B) → (l.flatMap f).length ≤ l.length * B
  | [], _ => by simp
  | x :: l, h => by
    have h1 := h x (List.mem_cons_self ..)
    have h2 := flatMap_le (l := l) fun y hy => h y (List.mem_cons_of_mem _ hy)
    simp only [List.flatMap_cons, List.length_append, List.length_cons, Nat.succ_mul]; omega
theorem flatMap_take_le {α β : Type} {f : α → List β} {B : Nat} {l : List α} (h : ∀ x ∈ l, (f x).length ≤ B) {k : Nat} (hk : k ≤ l.length) : ((l.take k).flatMap f).length ≤ l.length * B := by
  have := flatMap_le (f := f) (B := B) (l := l.take k) fun x hx => h x (List.mem_of_mem_take hx)
  rw [List.length_take, Nat.min_eq_left hk] at this
  exact Nat.le_trans this (Nat.mul_le_mul_right _ hk)
theorem flatMap_snoc {α β : Type} {f : α → List β} {l : List α} {k : Nat} {x : α} (hx : l[k]? = some x) : (l.take (k + 1)).flatMap f = (l.take k).flatMap f ++ f x := by
  rw [take_succ_some hx, List.flatMap_append]; simp
theorem map_snoc {α β : Type} {f : α → β} {l : List α} {k : Nat} {x : α} (hx : l[k]? = some x) : (l.take (k + 1)).map f = (l.take k).map f ++ [f x] := by
  rw [take_succ_some hx, List.map_append]; rfl
/-- what lies in memory lies in blocks that are there -/
theorem Sl.lt {α : Type} {sz : Nat} {enc : α → List Value} {h : ∀ x, (enc x).length = sz} (hsz : 0 < sz) {S : Nat → Prop} {w : World} {a : Option Addr} {l : List α} (hS : Sl (plainEl sz enc h) S w a l) : Sl (plainEl sz enc h) (· < w.heap.size) w a l :=
  ⟨hS.big, fun i x hx => by
    obtain ⟨b, o, cs, e, _, hat, rfl⟩ := hS.el i x hx
    obtain ⟨v, hv⟩ := some_of_lt (l := enc x) (k := 0) (by rw [h]; exact hsz)
    exact ⟨b, o, _, e, cell_lt (hat 0 v hv), hat, rfl⟩⟩
theorem UnR.lt {S : Nat → Prop} {w : World} {u : Unt} {a : UA} (h : UnR S w u a) : UnR (· < w.heap.size) w u a := by
  refine ⟨h.nm, h.ps, Sl.lt (by decide) h.pool, ⟨h.cls.big, fun i x hx => ?_⟩, Sl.lt (by decide) h.sta, ⟨h.mth.big, fun i x hx => ?_⟩⟩
  · obtain ⟨b, o, cs, e, _, hat, af, cf, rfl, hf⟩ := h.cls.el i x hx
    exact ⟨b, o, _, e, cell_lt (hat 0 _ rfl), hat, af, cf, rfl, Sl.lt (by decide) hf⟩
  · obtain ⟨b, o, cs, e, _, hat, a1, c1, a2, c2, a3, c3, rfl, h1, h2, h3⟩ := h.mth.el i x hx
    exact ⟨b, o, _, e, cell_lt (hat 0 _ rfl), hat, a1, c1, a2, c2, a3, c3, rfl, Sl.lt (by decide) h1, Sl.lt (by decide) h2, Sl.lt (by decide) h3⟩
theorem UnR.below {w w' : World} {B : Nat} {u : Unt} {a : UA} (h : UnR (· < B) w u a) (k : Below B w w') : UnR (· < B) w' u a := h.kp (Below.kp k)
theorem UnR.all {S : Nat → Prop} {w : World} {u : Unt} {a : UA} (h : UnR S w u a) : UnR T w u a := h.sub fun _ _ => trivial
theorem At.tail {w : World} {b o : Nat} {x : Value} {cs : List Value} (h : At w b o (x :: cs)) : At w b (o + 1) cs := fun j v hj => by
  have := h (j + 1) v (by simpa using hj)
  rw [Nat.add_assoc, Nat.add_comm 1 j]; exact this
theorem At.left {w : World} {b o : Nat} {cs ds : List Value} (h : At w b o (cs ++ ds)) : At w b o cs := fun j v hj => h j v (by rw [List.getElem?_append_left (List.getElem?_eq_some_iff.1 hj).1]; exact hj)
end Go.Proofs.YtopjmiklpnejmaaGreatDoor

/- Simple names and paths as functions on lists of bytes. No program stands here. -/
namespace Go.Proofs.YtopjmiklpnejmaaGreatDoor
open Go.RowKit Eng
def low (c : UInt8) : Bool := decide (97 ≤ (c.toNat : Int)) && decide ((c.toNat : Int) ≤ 122)
def upp (c : UInt8) : Bool := decide (65 ≤ (c.toNat : Int)) && decide ((c.toNat : Int) ≤ 90)
def dgt (c : UInt8) : Bool := decide (48 ≤ (c.toNat : Int)) && decide ((c.toNat : Int) ≤ 57)
def alnum (c : UInt8) : Bool := low c || upp c || dgt c
def simpleL (l : List UInt8) : Bool := decide (l.length ≤ 12) && (match l with | [] => false | c :: _ => low c) && l.all alnum
def simple (s : ByteArray) : Bool := simpleL s.data.toList
theorem ba_len (s : ByteArray) : s.data.toList.length = s.size := Array.length_toList
theorem ba_get (s : ByteArray) (k : Nat) (h : k < s.size) : s.data.toList[k]? = some s[k] := by
  rw [List.getElem?_eq_getElem (by rw [ba_len]; exact h)]; rfl
theorem simple_empty (s : ByteArray) (h : s.size = 0) : simple s = false := by
  unfold simple; have e : s.data.toList = [] := List.eq_nil_of_length_eq_zero (by rw [ba_len, h])
  rw [e]; rfl
theorem simple_long (s : ByteArray) (h : 12 < s.size) : simple s = false := by
  unfold simple simpleL; rw [ba_len, decide_eq_false (by omega)]; simp
theorem sget_at {s : ByteArray} {k : Nat} (h : k < s.size) : s.data.toList[k]? = some (sget s k) := by
  rw [ba_get s k h]
  have := sget_some h
  rw [getElem?_pos s k h] at this; exact this
theorem simple_head (s : ByteArray) (h0 : 0 < s.size) (h : low (sget s 0) = false) : simple s = false := by
  unfold simple simpleL
  have e := sget_at h0
  cases hl : s.data.toList with
  | nil => rfl
  | cons c l => rw [hl] at e; simp at e; subst e; simp [h]
theorem simple_at (s : ByteArray) (k : Nat) (hk : k < s.size) (h : alnum (sget s k) = false) : simple s = false := by
  unfold simple simpleL
  have e := sget_at hk
  have : s.data.toList.all alnum = false := by
    rw [← Bool.not_eq_true]; intro ht
    have := List.all_eq_true.1 ht _ (List.mem_of_getElem? e)
    rw [h] at this; cases this
  simp [this]
theorem simple_yes (s : ByteArray) (h0 : 0 < s.size) (h12 : s.size ≤ 12) (h : low (sget s 0) = true) (ha : (s.data.toList.take s.size).all alnum = true) : simple s = true := by
  unfold simple simpleL
  have e := sget_at h0
  rw [List.take_of_length_le (by rw [ba_len]; omega)] at ha
  rw [ha, ba_len, decide_eq_true h12]
  cases hl : s.data.toList with
  | nil => rw [hl] at e; simp at e
  | cons c l => rw [hl] at e; simp at e; subst e; simp [h]
theorem all_snoc {s : ByteArray} {k : Nat} (hk : k < s.size) (h : (s.data.toList.take k).all alnum = true) (h2 : alnum (sget s k) = true) : (s.data.toList.take (k + 1)).all alnum = true := by
  rw [take_succ_some (sget_at hk), List.all_append, h]; simp [h2]
theorem wrap_fit {a : Int} (h0 : -9223372036854775808 ≤ a) (h1 : a ≤ 9223372036854775807) : IntKind.i64.wrap a = a := IntWalk.i64_in a (by omega)
theorem wrap_succ {k n : Nat} (h : k < n) (hn : n ≤ 4611686018427387904 := by omega) : IntKind.i64.wrap ((k : Int) + 1) = ((k + 1 : Nat) : Int) := by rw [wrap_fit (by omega) (by omega)]; rfl
theorem lst1 {α : Type} {a a' : α} (h : a = a') : [a] = [a'] := by rw [h]
theorem lst2 {α : Type} {a a' b b' : α} (h : a = a') (h2 : b = b') : [a, b] = [a', b'] := by rw [h, h2]
theorem lst3 {α : Type} {a a' b b' c c' : α} (h : a = a') (h2 : b = b') (h3 : c = c') : [a, b, c] = [a', b', c'] := by rw [h, h2, h3]
theorem lst4 {α : Type} {a a' b b' c c' d d' : α} (h : a = a') (h2 : b = b') (h3 : c = c') (h4 : d = d') : [a, b, c, d] = [a', b', c', d'] := by rw [h, h2, h3, h4]
theorem vsl {a : Option Addr} {n n' c : Nat} (h : n = n') : Value.slice a n c = Value.slice a n' c := by rw [h]
theorem inc {k n : Nat} (h : k < n) (hn : n ≤ 4611686018427387904 := by omega) : Value.int .i64 (IntKind.i64.wrap ((k : Int) + 1)) = I ((k + 1 : Nat) : Int) := by rw [wrap_succ h hn]
/-- a loop that counts slot i up; Inv speaks of the count, of the slots in 'sel' and of the world -/
theorem Eng.lpk {C : Cx} {s : St} {w : World} {c : Code} {k : List Item} {l : Env} {vals : List Value} (n i : Nat) (sel : List Nat) (keep : Env) (Inv : Nat → List Value → World → Prop) (h0 : Inv 0 vals w)
    (hr : ∀ j vals w', j ≤ n → Inv j vals w' →
      (∀ {s' : St} {l'' : Env} {vals'' : List Value} {w'' : World}, j < n → Inv (j + 1) vals'' w'' → (hs : adv C.tab C.n C.ks 400 s' = .code (.inLoop c :: k) l'' := by rfl) →
        (hsub : Sub keep l'' := by repeat (first | exact True.intro | (refine ⟨rfl, ?_⟩))) → (hv : lookAll l'' (i :: sel) = some (.int .i64 (IntKind.i64.wrap ((j : Int) + 1)) :: vals'') := by rfl) → Wk C s' w'') →
      Wk C (.code (.code c :: .inLoop c :: k) ((i, I j) :: pair sel vals keep)) w')
    (hs : adv C.tab C.n C.ks 400 s = .code (.code (.loop c) :: k) l := by rfl) (hkeep : Sub keep l := by repeat (first | exact True.intro | (refine ⟨rfl, ?_⟩))) (hv : lookAll l (i :: sel) = some (I 0 :: vals) := by rfl)
    (hn : n ≤ 4611686018427387904 := by omega) : Wk C s w := by
  refine lp (i :: sel) keep (fun m vs w' => ∃ j vals, j ≤ n ∧ m = n - j ∧ vs = I (j : Nat) :: vals ∧ Inv j vals w') hkeep ⟨0, vals, Nat.zero_le _, rfl, rfl, h0⟩ ?_ hs hv
  rintro m _ w' ⟨j, vals, hj, rfl, rfl, hI⟩ ih
  refine hr j vals w' hj hI ?_
  intro s' l'' vals'' w'' hlt hI2 hs2 hsub hv2
  refine by_adv hs2 (ih _ _ _ _ ?_ hsub hv2 ⟨j + 1, vals'', hlt, rfl, ?_, hI2⟩)
  · omega
  · rw [inc hlt]
end Go.Proofs.YtopjmiklpnejmaaGreatDoor

/- Paths as functions on lists of bytes. No program stands here. -/
namespace Go.Proofs.YtopjmiklpnejmaaGreatDoor
open Eng Go.RowKit
theorem ba_nil {t : ByteArray} : t = ⟨#[]⟩ ↔ t.size = 0 :=
  ⟨fun e => by rw [e]; rfl, fun e => ba_ext (by
    have h : t.data.toList = [] := List.eq_nil_of_length_eq_zero (by rw [ba_len, e])
    rw [h])⟩
/-- a text cut at its points -/
def cutDot : List UInt8 → List (List UInt8)
  | [] => [[]]
  | c :: r => if c = 46 then [] :: cutDot r else match cutDot r with
    | p :: ps => (c :: p) :: ps
    | [] => [[c]]
theorem cutDot_ne (l : List UInt8) : cutDot l ≠ [] := by
  cases l with
  | nil => simp [cutDot]
  | cons c r =>
    simp only [cutDot]
    split
    · simp
    · split <;> simp
theorem cutDot_dot (l : List UInt8) : cutDot (l ++ [46]) = cutDot l ++ [[]] := by
  induction l with
  | nil => simp [cutDot]
  | cons c r ih =>
    simp only [List.cons_append, cutDot]
    by_cases h : c = 46
    · simp [h, ih]
    · simp only [if_neg h, ih]
      cases hr : cutDot r with
      | nil => exact absurd hr (cutDot_ne r)
      | cons p ps => simp
/-- the last element turned -/
def onLast (f : List UInt8 → List UInt8) : List (List UInt8) → List (List UInt8)
  | [] => []
  | [p] => [f p]
  | p :: q :: ps => p :: onLast f (q :: ps)
theorem cutDot_other (l : List UInt8) (c : UInt8) (hc : c ≠ 46) : cutDot (l ++ [c]) = onLast (· ++ [c]) (cutDot l) := by
  induction l with
  | nil => simp [cutDot, hc, onLast]
  | cons d r ih =>
    simp only [List.cons_append, cutDot]
    by_cases h : d = 46
    · rw [if_pos h, if_pos h, ih]
      cases hr : cutDot r with
      | nil => exact absurd hr (cutDot_ne r)
      | cons p ps => rfl
    · rw [if_neg h, if_neg h, ih]
      cases hr : cutDot r with
      | nil => exact absurd hr (cutDot_ne r)
      | cons p ps =>
        cases ps with
        | nil => simp [onLast]
        | cons q ps => simp [onLast]
theorem onLast_length (f : List UInt8 → List UInt8) : ∀ l, (onLast f l).length = l.length
  | [] => rfl
  | [_] => rfl
  | p :: q :: ps => by simp [onLast, onLast_length f (q :: ps)]
theorem onLast_set (f : List UInt8 → List UInt8) : ∀ (l : List (List UInt8)) (p : List UInt8), l[l.length - 1]? = some p → onLast f l = l.set (l.length - 1) (f p)
  | [], _, h => by simp at h
  | [q], p, h => by simp at h; subst h; simp [onLast]
  | p :: q :: ps, r, h => by
    have h' : (q :: ps)[(q :: ps).length - 1]? = some r := by simpa using h
    simp only [onLast, onLast_set f (q :: ps) r h']
    simp
theorem cutDot_length (l : List UInt8) : (cutDot l).length ≤ l.length + 1 := by
  induction l with
  | nil => simp [cutDot]
  | cons c r ih =>
    simp only [cutDot]
    split
    · simp; omega
    · cases hr : cutDot r with
      | nil => simp
      | cons p ps => simp [hr] at ih ⊢; omega
/-- the sum of the parts' lengths, with the points -/
theorem cutDot_sum (l : List UInt8) : ((cutDot l).map (·.length + 1)).sum = l.length + 1 := by
  induction l with
  | nil => simp [cutDot]
  | cons c r ih =>
    simp only [cutDot]
    split
    · simp [ih]; omega
    · cases hr : cutDot r with
      | nil => exact absurd hr (cutDot_ne r)
      | cons p ps => simp [hr] at ih ⊢; omega
theorem cutDot_mem {l p : List UInt8} (h : p ∈ cutDot l) : p.length ≤ l.length := by
  have hs := cutDot_sum l
  have : ∀ (L : List (List UInt8)), p ∈ L → p.length + 1 ≤ (L.map (·.length + 1)).sum := by
    intro L hL
    induction L with
    | nil => cases hL
    | cons q L ih =>
      simp only [List.map_cons, List.sum_cons]
      cases hL with
      | head => omega
      | tail _ hL => have := ih hL; omega
  have := this _ h
  omega
theorem extract_one {s : ByteArray} {k : Nat} (h : k < s.size) : s.extract k (k + 1) = ofL [sget s k] := by
  apply ba_ext
  rw [Lib.extract_data, toL_ofL]
  have := sget_at h
  obtain ⟨hlt, e⟩ := List.getElem?_eq_some_iff.1 this
  rw [Nat.add_sub_cancel_left, List.drop_eq_getElem_cons hlt, e]; simp
def pathL (l : List UInt8) : Nat := if (cutDot l).length ≤ 3 ∧ (cutDot l).all simpleL then (cutDot l).length else 0
def path (s : ByteArray) : Nat := pathL s.data.toList
theorem simpleL_len {l : List UInt8} (h : simpleL l = true) : 1 ≤ l.length ∧ l.length ≤ 12 := by
  unfold simpleL at h
  cases l with
  | nil => simp at h
  | cons c l => simp only [Bool.and_eq_true, decide_eq_true_eq] at h; exact ⟨by simp, h.1.1⟩
theorem path_long {s : ByteArray} (h : 38 < s.size) : path s = 0 := by
  unfold path pathL
  rw [if_neg]
  rintro ⟨h1, h2⟩
  have hs := cutDot_sum s.data.toList
  rw [ba_len] at hs
  have hb : ∀ (L : List (List UInt8)), L.all simpleL = true → (L.map (·.length + 1)).sum ≤ 13 * L.length := by
    intro L hL
    induction L with
    | nil => simp
    | cons p ps ih =>
      simp only [List.all_cons, Bool.and_eq_true] at hL
      have := simpleL_len hL.1
      have := ih hL.2
      simp; omega
  have := hb _ h2
  omega
def partsB (s : ByteArray) : List ByteArray := (cutDot s.data.toList).map ofL
theorem partsB_length (s : ByteArray) : (partsB s).length = (cutDot s.data.toList).length := by simp [partsB]
theorem partsB_mem {s p : ByteArray} (h : p ∈ partsB s) : p.size ≤ s.size := by
  unfold partsB at h
  obtain ⟨q, hq, rfl⟩ := List.mem_map.1 h
  rw [ofL_size, ← ba_len]; exact cutDot_mem hq
theorem simple_ofL (l : List UInt8) : simple (ofL l) = simpleL l := by unfold simple; rw [toL_ofL]
theorem path_parts (s : ByteArray) : path s = if (partsB s).length ≤ 3 ∧ (partsB s).all simple then (partsB s).length else 0 := by
  unfold path pathL
  rw [partsB_length]
  have : (partsB s).all simple = (cutDot s.data.toList).all simpleL := by
    unfold partsB
    rw [List.all_map]
    exact congrArg (fun f => List.all _ f) (funext fun l => simple_ofL l)
  rw [this]
end Go.Proofs.YtopjmiklpnejmaaGreatDoor

/- The document's Check of a class file, part by part, as functions on lists. No program stands here. -/
namespace Go.Proofs.YtopjmiklpnejmaaGreatDoor
open Eng Go.RowKit
theorem Eng.New.wr {w w3 w4 : World} {b : Nat} {t : TypeId} {cs : List Value} (h5 : New w b t cs w3) (h6 : Wr w3 b w4) : Bl w w4 := Below.trans h5.bl (h6.below (by have := h5.blk; omega))
abbrev mcells (m : Mth) (a1 : Option Addr) (c1 : Nat) (a2 : Option Addr) (c2 : Nat) (a3 : Option Addr) (c3 : Nat) : List Value := [I m.name, I m.cls, .slice a1 m.params.length c1, .slice a2 m.locals.length c2, I m.result.kind, I m.result.cls, .slice a3 m.code.length c3]
abbrev ccells (c : Cls) (a : Option Addr) (q : Nat) : List Value := [I c.name, I c.super, .slice a c.fields.length q]
def lcls (c : Cls) : Bool := decide (c.fields.length ≤ 7)
def mslots (m : Mth) : Int := (m.params.length : Int) + m.locals.length + (if m.cls = -1 then 0 else 1)
def lmth (m : Mth) : Bool := decide (m.params.length ≤ 4) && decide (mslots m ≤ 10)
def limits (u : Unt) : Bool := decide (u.pool.length ≤ 60) && decide (u.classes.length ≤ 10) && decide (u.statics.length ≤ 10) && decide (u.methods.length ≤ 16) && u.classes.all lcls && u.methods.all lmth
structure Lim (u : Unt) : Prop where
  pool : u.pool.length ≤ 60
  cls : u.classes.length ≤ 10
  sta : u.statics.length ≤ 10
  mth : u.methods.length ≤ 16
  flds : ∀ c ∈ u.classes, c.fields.length ≤ 7
  pars : ∀ m ∈ u.methods, m.params.length ≤ 4
  locs : ∀ m ∈ u.methods, m.params.length + m.locals.length ≤ 10
theorem lim_of {u : Unt} (h : limits u = true) : Lim u := by
  unfold limits at h
  simp only [Bool.and_eq_true, decide_eq_true_eq] at h
  obtain ⟨⟨⟨⟨⟨h1, h2⟩, h3⟩, h4⟩, h5⟩, h6⟩ := h
  refine ⟨h1, h2, h3, h4, fun c hc => ?_, fun m hm => ?_, fun m hm => ?_⟩
  · have := List.all_eq_true.1 h5 c hc
    simpa [lcls] using this
  · have := List.all_eq_true.1 h6 m hm
    simp only [lmth, Bool.and_eq_true, decide_eq_true_eq] at this; exact this.1
  · have := List.all_eq_true.1 h6 m hm
    simp only [lmth, Bool.and_eq_true, decide_eq_true_eq] at this
    have h7 : mslots m ≤ 10 := this.2
    unfold mslots at h7
    by_cases hc : m.cls = -1
    · rw [if_pos hc] at h7; omega
    · rw [if_neg hc] at h7; omega
def kin (t : Ty) : Bool := decide (1 ≤ t.kind) && decide (t.kind ≤ 4)
def kout (t : Ty) : Bool := decide (0 ≤ t.kind) && decide (t.kind ≤ 4)
def kcls (c : Cls) : Bool := c.fields.all fun f => kin f.ty
def kmth (m : Mth) : Bool := m.params.all kin && m.locals.all kin && kout m.result
def kinds (u : Unt) : Bool := u.classes.all kcls && (u.statics.all fun f => kin f.ty) && u.methods.all kmth
def tcls (t : Ty) : Bool := decide (t.kind = 2) || decide (t.kind = 4)
def bare (t : Ty) : Bool := tcls t || decide (t.cls = -1)
def bcls (c : Cls) : Bool := c.fields.all fun f => bare f.ty
def bmth (m : Mth) : Bool := bare m.result && m.params.all bare && m.locals.all bare
def classless (u : Unt) : Bool := u.classes.all bcls && (u.statics.all fun f => bare f.ty) && u.methods.all bmth
structure Rf where
  at' : Int
  parts : Int
  opt : Bool
abbrev encRf : Rf → List Value := fun r => [I r.at', I r.parts, .bool r.opt]
def eRf : El Rf := plainEl 3 encRf (fun _ => rfl)
def typed (t : Ty) : Rf := ⟨t.cls, 2, !tcls t⟩
def fref (f : Fld) : List Rf := [⟨f.name, 1, false⟩, typed f.ty]
def cref (c : Cls) : List Rf := [⟨c.name, 1, false⟩, ⟨c.super, 2, true⟩] ++ c.fields.flatMap fref
def mref (m : Mth) : List Rf := [⟨m.name, 1, false⟩, ⟨m.cls, 2, true⟩] ++ m.params.map typed ++ m.locals.map typed ++ [typed m.result]
def refs (u : Unt) : List Rf := u.classes.flatMap cref ++ u.statics.flatMap fref ++ u.methods.flatMap mref
def refOk (n : Nat) (r : Rf) : Bool := (decide (r.at' = -1) && r.opt) || !(decide (r.at' < 0) || decide (r.at' ≥ n))
def places (u : Unt) : Bool := (refs u).all (refOk u.pool.length) && classless u
theorem all_snoc' {α : Type} {p : α → Bool} {l : List α} {k : Nat} {x : α} (hx : l[k]? = some x) (h : (l.take k).all p = true) (h2 : p x = true) : (l.take (k + 1)).all p = true := by
  rw [take_succ_some hx, List.all_append, h]; simp [h2]
theorem all_end {α : Type} {p : α → Bool} {l : List α} (h : (l.take l.length).all p = true) : l.all p = true := by rwa [List.take_length] at h
theorem all_miss {α : Type} {p : α → Bool} {l : List α} {k : Nat} {x : α} (hx : l[k]? = some x) (h : p x = false) : l.all p = false := by
  rw [← Bool.not_eq_true]; intro ht
  rw [List.all_eq_true.1 ht _ (List.mem_of_getElem? hx)] at h; cases h
/-- a text stands in a list -/
def hasB (l : List ByteArray) (x : ByteArray) : Bool := l.any fun y => decide (y = x)
theorem hasB_iff {l : List ByteArray} {x : ByteArray} : hasB l x = true ↔ x ∈ l := by
  unfold hasB
  rw [List.any_eq_true]
  exact ⟨fun ⟨y, h, e⟩ => (of_decide_eq_true e) ▸ h, fun h => ⟨x, h, decide_eq_true rfl⟩⟩
/-- a list of texts that has one twice -/
def dup : List ByteArray → Bool
  | [] => false
  | x :: r => hasB r x || dup r
theorem dup_iff : ∀ {l : List ByteArray}, dup l = true ↔ ∃ i j : Nat, j < i ∧ ∃ x, l[i]? = some x ∧ l[j]? = some x
  | [] => by simp [dup]
  | y :: r => by
    simp only [dup, Bool.or_eq_true, hasB_iff, dup_iff (l := r)]
    constructor
    · rintro (h | ⟨i, j, hij, x, h1, h2⟩)
      · obtain ⟨i, hi⟩ := List.getElem?_of_mem h
        exact ⟨i + 1, 0, by omega, y, by simpa using hi, rfl⟩
      · exact ⟨i + 1, j + 1, by omega, x, by simpa using h1, by simpa using h2⟩
    · rintro ⟨i, j, hij, x, h1, h2⟩
      cases i with
      | zero => omega
      | succ i =>
        cases j with
        | zero => simp at h1 h2; subst h2; exact .inl (List.mem_of_getElem? h1)
        | succ j => exact .inr ⟨i, j, by omega, x, by simpa using h1, by simpa using h2⟩
def nm (u : Unt) (i : Int) : ByteArray := u.pool.getD i.toNat ⟨#[]⟩
def named (i : Ins) : Int × Int :=
  if i.op = 17 ∨ i.op = 18 then (1, 3) else if i.op = 14 ∨ i.op = 24 ∨ i.op = 22 ∨ i.op = 23 ∨ i.op = 25 then (1, 2) else if i.op = 26 then (1, 1) else if i.op = 16 then (2, 2) else if i.op = 12 ∧ (i.a = 2 ∨ i.a = 4) then (2, 2) else (0, 0)
def operand (i : Ins) : Int × Int := if (named i).1 = 1 then (i.a, (named i).2) else if (named i).1 = 2 then (i.b, (named i).2) else (-1, 0)
/-- an instruction's name is a path of so many parts -/
def insOk (u : Unt) (i : Ins) : Bool := !(decide (0 < (operand i).2) && (decide ((operand i).1 ≥ u.pool.length) || decide ((path (nm u (operand i).1) : Int) ≠ (operand i).2)))
def codesOk (u : Unt) : Bool := u.methods.all fun m => m.code.all (insOk u)
def cdup (u : Unt) (c : Cls) : Bool := dup (c.fields.map fun f => nm u f.name)
def dots (x y : ByteArray) : ByteArray := x ++ ⟨#[46]⟩ ++ y
def heads (u : Unt) : List ByteArray := (u.classes.map fun c => nm u c.name) ++ (u.statics.map fun f => nm u f.name) ++ (u.methods.filter fun m => decide (m.cls = -1)).map fun m => nm u m.name
def fulls (u : Unt) : List ByteArray := (u.methods.filter fun m => !decide (m.cls = -1)).map fun m => dots (nm u m.cls) (nm u m.name)
def doubled (u : Unt) : Bool := dup u.pool || u.classes.any (cdup u) || dup (heads u) || dup (fulls u)
/-- an index of the pool -/
def inP (u : Unt) (i : Int) : Prop := 0 ≤ i ∧ i < u.pool.length
structure Plc (u : Unt) : Prop where
  cn : ∀ c ∈ u.classes, inP u c.name
  fn : ∀ c ∈ u.classes, ∀ f ∈ c.fields, inP u f.name
  sn : ∀ f ∈ u.statics, inP u f.name
  mn : ∀ m ∈ u.methods, inP u m.name
  mc : ∀ m ∈ u.methods, m.cls = -1 ∨ inP u m.cls
theorem plc_of {u : Unt} (h : (refs u).all (refOk u.pool.length) = true) : Plc u := by
  have key : ∀ r ∈ refs u, (r.at' = -1 ∧ r.opt = true) ∨ inP u r.at' := fun r hr => by
    have := List.all_eq_true.1 h r hr
    simp only [refOk, Bool.or_eq_true, Bool.and_eq_true, decide_eq_true_eq, Bool.not_eq_true', Bool.or_eq_false_iff, decide_eq_false_iff_not] at this
    rcases this with h | h
    · exact .inl h
    · exact .inr ⟨by omega, by omega⟩
  have one : ∀ i : Int, ⟨i, 1, false⟩ ∈ refs u → inP u i := fun i hi => by
    rcases key _ hi with ⟨_, h⟩ | h
    · cases h
    · exact h
  have mc : ∀ c ∈ u.classes, ∀ r ∈ cref c, r ∈ refs u := fun c hc r hr => List.mem_append_left _ (List.mem_append_left _ (List.mem_flatMap.2 ⟨c, hc, hr⟩))
  have ms : ∀ f ∈ u.statics, ∀ r ∈ fref f, r ∈ refs u := fun c hc r hr => List.mem_append_left _ (List.mem_append_right _ (List.mem_flatMap.2 ⟨c, hc, hr⟩))
  have mm : ∀ m ∈ u.methods, ∀ r ∈ mref m, r ∈ refs u := fun c hc r hr => List.mem_append_right _ (List.mem_flatMap.2 ⟨c, hc, hr⟩)
  refine ⟨fun c hc => one _ (mc c hc _ (by simp [cref])), fun c hc f hf => one _ (mc c hc _ ?_), fun f hf => one _ (ms f hf _ (by simp [fref])), fun m hm => one _ (mm m hm _ (by simp [mref])), fun m hm => ?_⟩
  · simp only [cref, List.mem_append, List.mem_flatMap]
    exact .inr ⟨f, hf, by simp [fref]⟩
  · rcases key ⟨m.cls, 2, true⟩ (mm m hm _ (by simp [mref])) with h | h
    · exact .inl h.1
    · exact .inr h
end Go.Proofs.YtopjmiklpnejmaaGreatDoor

/- What is known of the types that the operations name: written by a program off the translation. -/
namespace Go.Proofs.YtopjmiklpnejmaaGreatDoor
open Eng
def tab : Tab := [
  (3, ⟨.other, 1, false, [.int .i64 0]⟩),
  (4, ⟨.other, 1, false, [.bool false]⟩),
  (5, ⟨.other, 1, false, [.int .u8 0]⟩),
  (9, ⟨.str, 1, false, [.string ⟨#[]⟩]⟩),
  (25, ⟨.slice 9 1 16, 1, false, [.slice none 0 0]⟩),
  (26, ⟨.slice 58 3 40, 1, false, [.slice none 0 0]⟩),
  (27, ⟨.slice 86 3 24, 1, false, [.slice none 0 0]⟩),
  (28, ⟨.slice 64 7 104, 1, false, [.slice none 0 0]⟩),
  (30, ⟨.struct [(0, 1), (1, 1), (2, 1), (3, 1), (4, 1)], 5, true, [.string ⟨#[]⟩, .slice none 0 0, .slice none 0 0, .slice none 0 0, .slice none 0 0]⟩),
  (45, ⟨.slice 5 1 1, 1, false, [.slice none 0 0]⟩),
  (58, ⟨.struct [(0, 1), (1, 1), (2, 1)], 3, true, [.int .i64 0, .int .i64 0, .slice none 0 0]⟩),
  (59, ⟨.slice 61 2 16, 1, false, [.slice none 0 0]⟩),
  (61, ⟨.struct [(0, 1), (1, 1)], 2, true, [.int .i64 0, .int .i64 0]⟩),
  (62, ⟨.slice 89 3 24, 1, false, [.slice none 0 0]⟩),
  (64, ⟨.struct [(0, 1), (1, 1), (2, 1), (3, 1), (4, 2), (6, 1)], 7, true, [.int .i64 0, .int .i64 0, .slice none 0 0, .slice none 0 0, .int .i64 0, .int .i64 0, .slice none 0 0]⟩),
  (65, ⟨.other, 1, false, [.pointer none]⟩),
  (67, ⟨.struct [(0, 1), (1, 1), (2, 1)], 3, true, [.pointer none, .int .i64 0, .bool false]⟩),
  (74, ⟨.slice 78 3 24, 1, false, [.slice none 0 0]⟩),
  (78, ⟨.struct [(0, 1), (1, 1), (2, 1)], 3, true, [.int .i64 0, .int .i64 0, .bool false]⟩),
  (86, ⟨.struct [(0, 1), (1, 2)], 3, true, [.int .i64 0, .int .i64 0, .int .i64 0]⟩),
  (89, ⟨.struct [(0, 1), (1, 1), (2, 1)], 3, true, [.int .i64 0, .int .i64 0, .int .i64 0]⟩),
  (97, ⟨.slice 4 1 1, 1, false, [.slice none 0 0]⟩),
  (103, ⟨.struct [(0, 1), (1, 1)], 2, true, [.slice none 0 0, .bool false]⟩),
  (117, ⟨.other, 1, false, [.pointer none]⟩),
  (119, ⟨.struct [(0, 1)], 1, true, [.slice none 0 0]⟩),
  (129, ⟨.slice 3 1 8, 1, false, [.slice none 0 0]⟩),
  (141, ⟨.arr 2 59 1, 2, true, [.slice none 0 0, .slice none 0 0]⟩),
  (144, ⟨.other, 1, false, [.nilFunc]⟩),
  (151, ⟨.struct [(0, 1), (1, 1), (2, 1), (3, 1), (4, 1), (5, 1)], 6, true, [.slice none 0 0, .slice none 0 0, .slice none 0 0, .slice none 0 0, .int .i64 0, .bool false]⟩),
  (181, ⟨.struct [(0, 1), (1, 1), (2, 1)], 3, true, [.slice none 0 0, .int .i64 0, .bool false]⟩),
  (198, ⟨.slice 59 1 24, 1, false, [.slice none 0 0]⟩),
  (202, ⟨.struct [(0, 1), (1, 1), (2, 1), (3, 1)], 4, true, [.string ⟨#[]⟩, .int .i64 0, .int .i64 0, .int .i64 0]⟩),
  (214, ⟨.other, 1, false, [.pointer none]⟩),
  (216, ⟨.struct [(0, 1), (1, 1)], 2, true, [.pointer none, .slice none 0 0]⟩),
  (242, ⟨.arr 36 202 4, 144, true, [.string ⟨#[]⟩, .int .i64 0, .int .i64 0, .int .i64 0, .string ⟨#[]⟩, .int .i64 0, .int .i64 0, .int .i64 0, .string ⟨#[]⟩, .int .i64 0, .int .i64 0, .int .i64 0, .string ⟨#[]⟩, .int .i64 0, .int .i64 0, .int .i64 0, .string ⟨#[]⟩, .int .i64 0, .int .i64 0, .int .i64 0, .string ⟨#[]⟩, .int .i64 0, .int .i64 0, .int .i64 0, .string ⟨#[]⟩, .int .i64 0, .int .i64 0, .int .i64 0, .string ⟨#[]⟩, .int .i64 0, .int .i64 0, .int .i64 0, .string ⟨#[]⟩, .int .i64 0, .int .i64 0, .int .i64 0, .string ⟨#[]⟩, .int .i64 0, .int .i64 0, .int .i64 0, .string ⟨#[]⟩, .int .i64 0, .int .i64 0, .int .i64 0, .string ⟨#[]⟩, .int .i64 0, .int .i64 0, .int .i64 0, .string ⟨#[]⟩, .int .i64 0, .int .i64 0, .int .i64 0, .string ⟨#[]⟩, .int .i64 0, .int .i64 0, .int .i64 0, .string ⟨#[]⟩, .int .i64 0, .int .i64 0, .int .i64 0, .string ⟨#[]⟩, .int .i64 0, .int .i64 0, .int .i64 0, .string ⟨#[]⟩, .int .i64 0, .int .i64 0, .int .i64 0, .string ⟨#[]⟩, .int .i64 0, .int .i64 0, .int .i64 0, .string ⟨#[]⟩, .int .i64 0, .int .i64 0, .int .i64 0, .string ⟨#[]⟩, .int .i64 0, .int .i64 0, .int .i64 0, .string ⟨#[]⟩, .int .i64 0, .int .i64 0, .int .i64 0, .string ⟨#[]⟩, .int .i64 0, .int .i64 0, .int .i64 0, .string ⟨#[]⟩, .int .i64 0, .int .i64 0, .int .i64 0, .string ⟨#[]⟩, .int .i64 0, .int .i64 0, .int .i64 0, .string ⟨#[]⟩, .int .i64 0, .int .i64 0, .int .i64 0, .string ⟨#[]⟩, .int .i64 0, .int .i64 0, .int .i64 0, .string ⟨#[]⟩, .int .i64 0, .int .i64 0, .int .i64 0, .string ⟨#[]⟩, .int .i64 0, .int .i64 0, .int .i64 0, .string ⟨#[]⟩, .int .i64 0, .int .i64 0, .int .i64 0, .string ⟨#[]⟩, .int .i64 0, .int .i64 0, .int .i64 0, .string ⟨#[]⟩, .int .i64 0, .int .i64 0, .int .i64 0, .string ⟨#[]⟩, .int .i64 0, .int .i64 0, .int .i64 0, .string ⟨#[]⟩, .int .i64 0, .int .i64 0, .int .i64 0, .string ⟨#[]⟩, .int .i64 0, .int .i64 0, .int .i64 0, .string ⟨#[]⟩, .int .i64 0, .int .i64 0, .int .i64 0, .string ⟨#[]⟩, .int .i64 0, .int .i64 0, .int .i64 0]⟩),
  (245, ⟨.other, 1, false, [.pointer none]⟩),
  (246, ⟨.other, 1, false, [.int .u64 0]⟩),
  (252, ⟨.arr 15 3 1, 15, true, [.int .i64 0, .int .i64 0, .int .i64 0, .int .i64 0, .int .i64 0, .int .i64 0, .int .i64 0, .int .i64 0, .int .i64 0, .int .i64 0, .int .i64 0, .int .i64 0, .int .i64 0, .int .i64 0, .int .i64 0]⟩),
  (259, ⟨.struct [(0, 1), (1, 1)], 2, true, [.int .u8 0, .int .u8 0]⟩),
  (260, ⟨.arr 16 259 2, 32, true, [.int .u8 0, .int .u8 0, .int .u8 0, .int .u8 0, .int .u8 0, .int .u8 0, .int .u8 0, .int .u8 0, .int .u8 0, .int .u8 0, .int .u8 0, .int .u8 0, .int .u8 0, .int .u8 0, .int .u8 0, .int .u8 0, .int .u8 0, .int .u8 0, .int .u8 0, .int .u8 0, .int .u8 0, .int .u8 0, .int .u8 0, .int .u8 0, .int .u8 0, .int .u8 0, .int .u8 0, .int .u8 0, .int .u8 0, .int .u8 0, .int .u8 0, .int .u8 0]⟩)]
theorem tabok : tabOk Tryz.prog tab = true := by kernel_rfl
end Go.Proofs.YtopjmiklpnejmaaGreatDoor

/- Brackets as a machine with a stack. No program stands here. -/
namespace Go.Proofs.YtopjmiklpnejmaaGreatDoor
def opensB (op : Int) : Bool := decide (29 ≤ op) && decide (op ≤ 33)
/-- one instruction: the stack holds the openings that are open, and whether their else has been seen -/
def stepB (s : List (Int × Bool)) (d : Nat) (op : Int) : Option (List (Int × Bool) × Nat) :=
  if opensB op = true then some ((op, false) :: s, max d (s.length + 1))
  else if op = 34 then match s with
    | (o, false) :: r => if o = 29 ∨ o = 33 then some ((o, true) :: r, d) else none
    | _ => none
  else if op = 35 then match s with
    | (o, e) :: r => if o = 33 ∧ e = false then none else some (r, d)
    | [] => none
  else some (s, d)
def runB : List Int → List (Int × Bool) → Nat → Option (List (Int × Bool) × Nat)
  | [], s, d => some (s, d)
  | op :: c, s, d => match stepB s d op with
    | some (s', d') => runB c s' d'
    | none => none
def okB (c : List Int) : Bool := match runB c [] 0 with
  | some ([], d) => decide (d ≤ 6)
  | _ => false
/-- what is never right -/
def badB (c : List Int) : Prop := ∀ s d d', s.length ≤ d → runB c s d ≠ some ([], d')
theorem runB_nil (s : List (Int × Bool)) (d : Nat) : runB [] s d = some (s, d) := rfl
theorem runB_plain {op : Int} {c : List Int} {s : List (Int × Bool)} {d : Nat} (h1 : opensB op = false) (h2 : op ≠ 34) (h3 : op ≠ 35) : runB (op :: c) s d = runB c s d := by
  simp [runB, stepB, h1, h2, h3]
theorem runB_open {op : Int} {c : List Int} {s : List (Int × Bool)} {d : Nat} (h1 : opensB op = true) : runB (op :: c) s d = runB c ((op, false) :: s) (max d (s.length + 1)) := by
  simp [runB, stepB, h1]
theorem runB_else {o : Int} {e : Bool} {c : List Int} {s : List (Int × Bool)} {d : Nat} : runB (34 :: c) ((o, e) :: s) d = if e = false ∧ (o = 29 ∨ o = 33) then runB c ((o, true) :: s) d else none := by
  cases e
  · by_cases h : o = 29 ∨ o = 33 <;> simp [runB, stepB, opensB, h]
  · simp [runB, stepB, opensB]
theorem runB_end {o : Int} {e : Bool} {c : List Int} {s : List (Int × Bool)} {d : Nat} : runB (35 :: c) ((o, e) :: s) d = if o = 33 ∧ e = false then none else runB c s d := by
  by_cases h : o = 33 ∧ e = false
  · obtain ⟨rfl, rfl⟩ := h; simp [runB, stepB, opensB]
  · rw [if_neg h]
    have : stepB ((o, e) :: s) d 35 = some (s, d) := by
      simp [stepB, opensB]
      intro h1
      cases e with
      | true => rfl
      | false => exact absurd ⟨h1, rfl⟩ h
    simp [runB, this]
theorem runB_top {op : Int} {c : List Int} {d : Nat} (h : op = 34 ∨ op = 35) : runB (op :: c) [] d = none := by
  rcases h with rfl | rfl <;> simp [runB, stepB, opensB]
/-- what the document's recursive reading tells of the instructions from 'at' on -/
def partsOk (c : List Int) (i : Nat) (next deep : Int) : Prop :=
  (deep = -1 ∧ badB (c.drop i)) ∨ ∃ n k : Nat, next = n ∧ deep = k ∧ i ≤ n ∧ n ≤ c.length ∧ k ≤ n - i ∧ (n = c.length ∨ c[n]? = some 34 ∨ c[n]? = some 35) ∧ ∀ s D, s.length ≤ D → runB (c.drop i) s D = runB (c.drop n) s (max D (s.length + k))
def bracketOk (c : List Int) (i : Nat) (next deep : Int) : Prop :=
  (deep = -1 ∧ badB (c.drop i)) ∨ ∃ n k : Nat, next = n ∧ deep = k ∧ i < n ∧ n < c.length ∧ k + 1 ≤ n + 1 - i ∧ ∀ s D, s.length ≤ D → runB (c.drop i) s D = runB (c.drop (n + 1)) s (max D (s.length + k + 1))
end Go.Proofs.YtopjmiklpnejmaaGreatDoor

/- Walks: valid instructions, in the program. -/
namespace Go.Proofs.YtopjmiklpnejmaaGreatDoor
open Eng Go.RowKit
def mosts : List Int := [0, 0, 9, 4, 9, 48, 6, 9, 15, 15, 3, 9, 50, 5, 24]
def isPool (r : Nat) : Bool := decide ((r : Int) = 4) || decide ((r : Int) = 6) || decide ((r : Int) = 7) || decide ((r : Int) = 8) || decide ((r : Int) = 9)
def inR (n : Int) (r : Nat) (pooled : Bool) : Bool :=
  if r = 1 then decide (-2147483648 ≤ n) && decide (n ≤ 2147483647) else if r = 3 then decide (2 ≤ n) && decide (n ≤ 4) else if r = 14 then decide (1 ≤ n) && decide (n ≤ 24)
  else if (pooled && isPool r) = true then decide (0 ≤ n) && decide (n < 60) else decide (0 ≤ n) && decide (n ≤ mosts.getD r 0)
/-- the ranges of an operation's operands -/
def rngs : List (Nat × Nat) := [(0, 0), (1, 0), (2, 0), (2, 0), (0, 0), (0, 0), (0, 0), (0, 0), (0, 0), (0, 0), (0, 0), (0, 0), (3, 4), (0, 0), (4, 0), (5, 0), (5, 4), (6, 0), (6, 0), (0, 0), (0, 0), (0, 0), (7, 0), (7, 0), (4, 0), (8, 0), (9, 0), (10, 0), (11, 0), (0, 0), (12, 2), (13, 0), (14, 0), (0, 0), (0, 0), (0, 0)]
def validI (i : Ins) (pooled : Bool) : Bool := decide (0 ≤ i.op) && decide (i.op < 36) && inR i.a (rngs.getD i.op.toNat (0, 0)).1 pooled && inR i.b (rngs.getD i.op.toNat (0, 0)).2 pooled && (decide (¬ i.op = 12) || decide (¬ i.a = 3) || decide (i.b = 0))
theorem w_most (r : Nat) (hr : r < 15) (w : World) : Ret Tryz.prog 216 #[I r] w fun v w' => v = I (mosts.getD r 0) ∧ w' = w := by
  refine entr (vs := [I r]) [0, 2] tabok Tryz.func216 (by kernel_rfl) ?_
  refine bda ?_
  refine ixv (j := r) (v := I (mosts.getD r 0)) ?_ ?_
  rotate_left
  · exact rt1 ⟨rfl, rfl⟩
  · show (mosts.map I)[r * 1]? = _
    rw [Nat.mul_one, List.getElem?_map, List.getD_eq_getElem?_getD]
    obtain ⟨x, hx⟩ := some_of_lt (l := mosts) (k := r) hr
    rw [hx]; rfl
theorem w_pools (r : Nat) (w : World) : Ret Tryz.prog 217 #[I r] w fun v w' => v = .bool (isPool r) ∧ w' = w := by
  refine entr (vs := [I r]) [0, 2] tabok Tryz.func217 (by kernel_rfl) ?_
  exact rt1 ⟨rfl, rfl⟩
theorem w_in (n : Int) (r : Nat) (p : Bool) (hr : r < 15) (w : World) : Ret Tryz.prog 176 #[I n, I r, .bool p] w fun v w' => v = .bool (inR n r p) ∧ w' = w := by
  refine entr (vs := [I n, I r, .bool p]) [0, 1, 2, 6, 7, 16, 25, 35] tabok Tryz.func176 (by kernel_rfl) ?_
  refine br (t := decide ((r : Int) = 1)) (fun h => ?_) (fun h => ?_)
  · have h1 : r = 1 := by have := of_decide_eq_true h; omega
    exact rt1 ⟨vb (by unfold inR; rw [if_pos h1]), rfl⟩
  have n1 : ¬ r = 1 := by have := of_decide_eq_false h; omega
  refine br (t := decide ((r : Int) = 3)) (fun h => ?_) (fun h => ?_)
  · have h1 : r = 3 := by have := of_decide_eq_true h; omega
    exact rt1 ⟨vb (by unfold inR; rw [if_neg n1, if_pos h1]), rfl⟩
  have n3 : ¬ r = 3 := by have := of_decide_eq_false h; omega
  refine br (t := decide ((r : Int) = 14)) (fun h => ?_) (fun h => ?_)
  · have h1 : r = 14 := by have := of_decide_eq_true h; omega
    refine sp (I 0) (fun p1 => ?_) (fun p1 => ?_)
    · refine cl (w_most 14 (by omega) _) ?_
      rintro _ _ ⟨rfl, rfl⟩
      refine rt1 ⟨vb ?_, rfl⟩
      unfold inR; rw [if_neg n1, if_neg n3, if_pos h1]
      rw [show decide (1 ≤ n) = true from p1]; rfl
    · refine rt1 ⟨vb ?_, rfl⟩
      unfold inR; rw [if_neg n1, if_neg n3, if_pos h1]
      rw [show decide (1 ≤ n) = false from p1]; rfl
  have n14 : ¬ r = 14 := by have := of_decide_eq_false h; omega
  refine sp (.bool false) (fun p1 => ?_) (fun p1 => ?_)
  · refine cl (w_pools r _) ?_
    rintro _ _ ⟨rfl, rfl⟩
    refine br (t := isPool r) (fun h => ?_) (fun h => ?_)
    · refine rt1 ⟨vb ?_, rfl⟩
      unfold inR; rw [if_neg n1, if_neg n3, if_neg n14, p1, h, if_pos (by rfl)]
    · refine sp (I 0) (fun p2 => ?_) (fun p2 => ?_)
      · refine cl (w_most r hr _) ?_
        rintro _ _ ⟨rfl, rfl⟩
        refine rt1 ⟨vb ?_, rfl⟩
        unfold inR; rw [if_neg n1, if_neg n3, if_neg n14, p1, h, if_neg (by simp), show decide (0 ≤ n) = true from p2]
      · refine rt1 ⟨vb ?_, rfl⟩
        unfold inR; rw [if_neg n1, if_neg n3, if_neg n14, p1, h, if_neg (by simp), show decide (0 ≤ n) = false from p2]; rfl
  · refine br (fun h => ?_) (fun h => ?_)
    · rw [p1] at h; cases h
    · refine sp (I 0) (fun p2 => ?_) (fun p2 => ?_)
      · refine cl (w_most r hr _) ?_
        rintro _ _ ⟨rfl, rfl⟩
        refine rt1 ⟨vb ?_, rfl⟩
        unfold inR; rw [if_neg n1, if_neg n3, if_neg n14, p1, if_neg (by simp), show decide (0 ≤ n) = true from p2]
      · refine rt1 ⟨vb ?_, rfl⟩
        unfold inR; rw [if_neg n1, if_neg n3, if_neg n14, p1, if_neg (by simp), show decide (0 ≤ n) = false from p2]; rfl
set_option maxRecDepth 200000 in
theorem w_table (w : World) : Ret Tryz.prog 215 #[] w fun v w' => (∃ cs : List Value, v = .agg cs.toArray ∧ cs.length = 144 ∧ cs.all Value.oneCell' = true ∧ ((List.range 36).map fun k => (cs[k * 4 + 1]?, cs[k * 4 + 2]?)) = rngs.map fun r => (some (I r.1), some (I r.2))) ∧ Bl w w' := by
  refine entr (vs := []) [0] tabok Tryz.func215 (by kernel_rfl) ?_
  refine al fun b w1 hn => ?_
  iterate 36 refine bd ?_
  refine bda ?_
  refine stw hn.box ?_ rfl ?_ fun w2 h2 hb2 => ?_
  · rfl
  · rfl
  exact rtc hb2.at ⟨⟨_, rfl, rfl, rfl, rfl⟩, hn.wr h2⟩
theorem w_known (op : Int) (w : World) : Ret Tryz.prog 175 #[I op] w fun v w' => (if 0 ≤ op ∧ op < 36 then ∃ x y, x.oneCell' = true ∧ y.oneCell' = true ∧ v = .tuple #[.agg #[x, I (rngs.getD op.toNat (0, 0)).1, I (rngs.getD op.toNat (0, 0)).2, y], .bool true]
    else v = .tuple #[.agg #[.string ⟨#[]⟩, I 0, I 0, I 0], .bool false]) ∧ Bl w w' := by
  refine entr (vs := [I op]) [0, 2, 3, 4, 11] tabok Tryz.func175 (by kernel_rfl) ?_
  refine al fun b0 w1 h1 => ?_
  refine cl (w_table _) ?_
  rintro _ w2 ⟨⟨cs, rfl, hl, ha, ht⟩, hB2⟩
  refine al fun b3 w3 h3 => ?_
  refine stw h3.box hl rfl ha fun w4 h4 hb4 => ?_
  have hB14 := hB2.trans (h3.wr h4)
  have hb0 := Bl.box hB14 h1.box
  refine br (t := decide (op < 0) || decide (op ≥ 36)) (fun h => ?_) (fun h => ?_)
  · simp only [Bool.or_eq_true, decide_eq_true_eq] at h
    refine bd ?_
    refine sta hb0 fun w5 h5 hb5 => ?_
    refine rtc2 hb5.at ⟨?_, ?_⟩
    · rw [if_neg (by omega)]
    · exact Below.trans (Bl.trans h1.bl hB14) (h5.below (by have := h1.blk; omega))
  · simp only [Bool.or_eq_false_iff, decide_eq_false_iff_not] at h
    obtain ⟨j, rfl⟩ : ∃ j : Nat, op = j := ⟨op.toNat, by omega⟩
    have hj : j < 36 := by omega
    have key : (cs[j * 4 + 1]?, cs[j * 4 + 2]?) = (some (I (rngs.getD j (0, 0)).1), some (I (rngs.getD j (0, 0)).2)) := by
      have := congrArg (fun l => l[j]?) ht
      simp only [List.getElem?_map] at this
      rw [List.getElem?_range hj] at this
      obtain ⟨r, hr⟩ := some_of_lt (l := rngs) (k := j) hj
      rw [hr] at this
      rw [List.getD_eq_getElem?_getD, hr]
      exact Option.some.inj this
    obtain ⟨x, hx⟩ := some_of_lt (l := cs) (k := j * 4) (by omega)
    obtain ⟨y, hy⟩ := some_of_lt (l := cs) (k := j * 4 + 3) (by omega)
    simp only [Prod.mk.injEq] at key
    have hAt : At w4 b3 (0 + j * 4) [x, I (rngs.getD j (0, 0)).1, I (rngs.getD j (0, 0)).2, y] := fun i v hv => by
      rw [Nat.zero_add]
      match i, hv with
      | 0, hv => simp at hv; subst hv; exact hb4.cell hx
      | 1, hv => simp at hv; subst hv; exact hb4.cell key.1
      | 2, hv => simp at hv; subst hv; exact hb4.cell key.2
      | 3, hv => simp at hv; subst hv; exact hb4.cell hy
      | i + 4, hv => simp at hv
    have hx1 : x.oneCell' = true := List.all_eq_true.1 ha x (List.mem_of_getElem? hx)
    have hy1 : y.oneCell' = true := List.all_eq_true.1 ha y (List.mem_of_getElem? hy)
    refine ixa ?_
    refine lda hAt ?_
    refine stw (vs := [x, I (rngs.getD j (0, 0)).1, I (rngs.getD j (0, 0)).2, y]) hb0 rfl rfl (by simp only [List.all_cons, hx1, hy1]; rfl) fun w5 h5 hb5 => ?_
    refine rtc2 hb5.at ⟨?_, ?_⟩
    · rw [if_pos (by omega)]
      exact ⟨x, y, hx1, hy1, rfl⟩
    · exact Below.trans (Bl.trans h1.bl hB14) (h5.below (by have := h1.blk; omega))
end Go.Proofs.YtopjmiklpnejmaaGreatDoor
/- Walks: code.Valid. -/
namespace Go.Proofs.YtopjmiklpnejmaaGreatDoor
open Eng Go.RowKit
theorem rng_lt (j : Nat) : (rngs.getD j (0, 0)).1 < 15 ∧ (rngs.getD j (0, 0)).2 < 15 := by
  by_cases hj : j < 36
  · obtain ⟨r, hr⟩ := some_of_lt (l := rngs) (k := j) hj
    rw [List.getD_eq_getElem?_getD, hr]
    have : rngs.all (fun r => decide (r.1 < 15) && decide (r.2 < 15)) = true := by decide
    have := List.all_eq_true.1 this r (List.mem_of_getElem? hr)
    simpa using this
  · rw [List.getD_eq_getElem?_getD, List.getElem?_eq_none (by show 36 ≤ j; omega)]; simp
theorem w_Valid (i : Ins) (p : Bool) (w : World) : Ret Tryz.prog 129 #[.agg #[I i.op, I i.a, I i.b], .bool p] w fun v w' => v = .bool (validI i p) ∧ Bl w w' := by
  refine entr (vs := [.agg #[I i.op, I i.a, I i.b], .bool p]) [0, 1, 2, 4, 5, 6, 32] tabok Tryz.func129 (by kernel_rfl) ?_
  refine bx (cs := [I i.op, I i.a, I i.b]) fun b w1 hn => ?_
  refine ld (hn.box.cell rfl) ?_
  refine cl (w_known i.op _) ?_
  rintro v w2 ⟨hv, hB⟩
  by_cases hk : 0 ≤ i.op ∧ i.op < 36
  · rw [if_pos hk] at hv
    obtain ⟨x, y, hx1, hy1, rfl⟩ := hv
    have hval : validI i p = (inR i.a (rngs.getD i.op.toNat (0, 0)).1 p && inR i.b (rngs.getD i.op.toNat (0, 0)).2 p && (decide (¬ i.op = 12) || decide (¬ i.a = 3) || decide (i.b = 0))) := by
      unfold validI; rw [decide_eq_true hk.1, decide_eq_true hk.2]; rfl
    obtain ⟨hr1, hr2⟩ := rng_lt i.op.toNat
    generalize (rngs.getD i.op.toNat (0, 0)).1 = ra at *
    generalize (rngs.getD i.op.toNat (0, 0)).2 = rb at *
    refine al fun b5 w3 h5 => ?_
    refine stw (vs := [x, I ra, I rb, y]) h5.box rfl rfl (by simp only [List.all_cons, hx1, hy1]; rfl) fun w4 h6 hb5 => ?_
    have hB4 := hB.trans (h5.wr h6)
    have hb := Bl.box hB4 hn.box
    refine ldg (fun _ => hb.cell rfl) ?_
    refine ldg (fun _ => hb5.cell rfl) ?_
    refine sp (.bool false) (fun _ => ?_) (fun q => ?_)
    rotate_left
    · exact absurd q (by decide)
    refine cl (w_in i.a ra p hr1 _) ?_
    rintro _ _ ⟨rfl, rfl⟩
    refine ldg (fun _ => hb.cell rfl) ?_
    refine ldg (fun _ => hb5.cell rfl) ?_
    refine sp (.bool false) (fun q => ?_) (fun q => ?_)
    · refine cl (w_in i.b rb p hr2 _) ?_
      rintro _ _ ⟨rfl, rfl⟩
      refine br (fun h => ?_) (fun h => ?_)
      · refine rt1 ⟨vb ?_, hn.bl.trans hB4⟩
        rw [hval]; revert q h; cases inR i.a ra p <;> cases inR i.b rb p <;> simp
      · refine ld (hb.cell rfl) ?_
        refine ldg (fun _ => hb.cell rfl) ?_
        refine ldg (fun _ => hb.cell rfl) ?_
        refine rt1 ⟨vb ?_, hn.bl.trans hB4⟩
        rw [hval]; revert q h; cases inR i.a ra p <;> cases inR i.b rb p <;> simp
    · refine br (fun h => ?_) (fun h => ?_)
      · refine rt1 ⟨vb ?_, hn.bl.trans hB4⟩
        rw [hval]; revert q; cases inR i.a ra p <;> simp
      · simp at h
  · rw [if_neg hk] at hv
    subst hv
    refine al fun b5 w3 h5 => ?_
    refine sta h5.box fun w4 h6 hb5 => ?_
    have hB4 := hB.trans (h5.wr h6)
    have hb := Bl.box hB4 hn.box
    refine ldg (fun _ => hb.cell rfl) ?_
    refine ldg (fun _ => hb5.cell rfl) ?_
    refine sp (.bool false) (fun q => ?_) (fun q => ?_)
    · exact absurd q (by decide)
    refine ldg (fun _ => hb.cell rfl) ?_
    refine ldg (fun _ => hb5.cell rfl) ?_
    refine sp (.bool false) (fun q2 => ?_) (fun q2 => ?_)
    · exact absurd q2 (by decide)
    refine br (fun h => ?_) (fun h => ?_)
    · refine rt1 ⟨vb ?_, hn.bl.trans hB4⟩
      unfold validI
      by_cases h1 : 0 ≤ i.op
      · rw [decide_eq_false (p := i.op < 36) (by omega)]; simp
      · rw [decide_eq_false h1]; simp
    · simp at h
end Go.Proofs.YtopjmiklpnejmaaGreatDoor
/- Walks: valid instructions, in the document. Printed by wip/tools/mkval.py. -/
namespace Go.Proofs.YtopjmiklpnejmaaGreatDoor
open Eng Go.RowKit
def opN (op : Int) : Int := if op = 12 ∨ op = 16 ∨ op = 30 then 2 else if op = 1 ∨ op = 2 ∨ op = 3 ∨ op = 14 ∨ op = 15 ∨ op = 17 ∨ op = 18 ∨ op = 22 ∨ op = 23 ∨ op = 24 ∨ op = 25 ∨ op = 26 ∨ op = 27 ∨ op = 28 ∨ op = 31 ∨ op = 32 then 1 else 0
def opE (op : Int) : Int := if op < 0 ∨ 35 < op then 3 else 0
theorem r3_Operands (op : Int) (w : World) : Ret Tryz.prog 179 #[I op] w fun v w' => v = .tuple #[I (opN op), I (opE op)] ∧ w' = w := by
  refine entr (vs := [I op]) [0, 2, 3, 4, 5, 9, 31] tabok Tryz.func179 (by kernel_rfl) ?_
  have fin : ∀ {a b : Int}, opN op = a → opE op = b → Value.tuple #[I a, I b] = .tuple #[I (opN op), I (opE op)] := fun e f => by rw [e, f]
  refine br (t := decide (op = 12)) (fun h => ?_) (fun h => ?_)
  · have e := of_decide_eq_true h
    refine brt ?_ (hp := h)
    subst e
    exact rt2 ⟨fin (a := 2) (b := 0) (by decide) (by decide), rfl⟩
  have n12 := of_decide_eq_false h
  refine br (t := decide (op = 16)) (fun h => ?_) (fun h => ?_)
  · have e := of_decide_eq_true h
    refine brt ?_ (hp := h)
    subst e
    exact rt2 ⟨fin (a := 2) (b := 0) (by decide) (by decide), rfl⟩
  have n16 := of_decide_eq_false h
  refine br (t := decide (op = 30)) (fun h => ?_) (fun h => ?_)
  · have e := of_decide_eq_true h
    subst e
    exact rt2 ⟨fin (a := 2) (b := 0) (by decide) (by decide), rfl⟩
  have n30 := of_decide_eq_false h
  refine br (t := decide (op = 1)) (fun h => ?_) (fun h => ?_)
  · have e := of_decide_eq_true h
    refine brt ?_ (hp := h)
    subst e
    exact rt2 ⟨fin (a := 1) (b := 0) (by decide) (by decide), rfl⟩
  have n1 := of_decide_eq_false h
  refine br (t := decide (op = 2)) (fun h => ?_) (fun h => ?_)
  · have e := of_decide_eq_true h
    refine brt ?_ (hp := h)
    subst e
    exact rt2 ⟨fin (a := 1) (b := 0) (by decide) (by decide), rfl⟩
  have n2 := of_decide_eq_false h
  refine br (t := decide (op = 3)) (fun h => ?_) (fun h => ?_)
  · have e := of_decide_eq_true h
    refine brt ?_ (hp := h)
    subst e
    exact rt2 ⟨fin (a := 1) (b := 0) (by decide) (by decide), rfl⟩
  have n3 := of_decide_eq_false h
  refine br (t := decide (op = 14)) (fun h => ?_) (fun h => ?_)
  · have e := of_decide_eq_true h
    refine brt ?_ (hp := h)
    subst e
    exact rt2 ⟨fin (a := 1) (b := 0) (by decide) (by decide), rfl⟩
  have n14 := of_decide_eq_false h
  refine br (t := decide (op = 15)) (fun h => ?_) (fun h => ?_)
  · have e := of_decide_eq_true h
    refine brt ?_ (hp := h)
    subst e
    exact rt2 ⟨fin (a := 1) (b := 0) (by decide) (by decide), rfl⟩
  have n15 := of_decide_eq_false h
  refine br (t := decide (op = 17)) (fun h => ?_) (fun h => ?_)
  · have e := of_decide_eq_true h
    refine brt ?_ (hp := h)
    subst e
    exact rt2 ⟨fin (a := 1) (b := 0) (by decide) (by decide), rfl⟩
  have n17 := of_decide_eq_false h
  refine br (t := decide (op = 18)) (fun h => ?_) (fun h => ?_)
  · have e := of_decide_eq_true h
    refine brt ?_ (hp := h)
    subst e
    exact rt2 ⟨fin (a := 1) (b := 0) (by decide) (by decide), rfl⟩
  have n18 := of_decide_eq_false h
  refine br (t := decide (op = 22)) (fun h => ?_) (fun h => ?_)
  · have e := of_decide_eq_true h
    refine brt ?_ (hp := h)
    subst e
    exact rt2 ⟨fin (a := 1) (b := 0) (by decide) (by decide), rfl⟩
  have n22 := of_decide_eq_false h
  refine br (t := decide (op = 23)) (fun h => ?_) (fun h => ?_)
  · have e := of_decide_eq_true h
    refine brt ?_ (hp := h)
    subst e
    exact rt2 ⟨fin (a := 1) (b := 0) (by decide) (by decide), rfl⟩
  have n23 := of_decide_eq_false h
  refine br (t := decide (op = 24)) (fun h => ?_) (fun h => ?_)
  · have e := of_decide_eq_true h
    refine brt ?_ (hp := h)
    subst e
    exact rt2 ⟨fin (a := 1) (b := 0) (by decide) (by decide), rfl⟩
  have n24 := of_decide_eq_false h
  refine br (t := decide (op = 25)) (fun h => ?_) (fun h => ?_)
  · have e := of_decide_eq_true h
    refine brt ?_ (hp := h)
    subst e
    exact rt2 ⟨fin (a := 1) (b := 0) (by decide) (by decide), rfl⟩
  have n25 := of_decide_eq_false h
  refine br (t := decide (op = 26)) (fun h => ?_) (fun h => ?_)
  · have e := of_decide_eq_true h
    refine brt ?_ (hp := h)
    subst e
    exact rt2 ⟨fin (a := 1) (b := 0) (by decide) (by decide), rfl⟩
  have n26 := of_decide_eq_false h
  refine br (t := decide (op = 27)) (fun h => ?_) (fun h => ?_)
  · have e := of_decide_eq_true h
    refine brt ?_ (hp := h)
    subst e
    exact rt2 ⟨fin (a := 1) (b := 0) (by decide) (by decide), rfl⟩
  have n27 := of_decide_eq_false h
  refine br (t := decide (op = 28)) (fun h => ?_) (fun h => ?_)
  · have e := of_decide_eq_true h
    refine brt ?_ (hp := h)
    subst e
    exact rt2 ⟨fin (a := 1) (b := 0) (by decide) (by decide), rfl⟩
  have n28 := of_decide_eq_false h
  refine br (t := decide (op = 31)) (fun h => ?_) (fun h => ?_)
  · have e := of_decide_eq_true h
    refine brt ?_ (hp := h)
    subst e
    exact rt2 ⟨fin (a := 1) (b := 0) (by decide) (by decide), rfl⟩
  have n31 := of_decide_eq_false h
  refine br (t := decide (op = 32)) (fun h => ?_) (fun h => ?_)
  · have e := of_decide_eq_true h
    subst e
    exact rt2 ⟨fin (a := 1) (b := 0) (by decide) (by decide), rfl⟩
  have n32 := of_decide_eq_false h
  have e0 : opN op = 0 := by simp [opN, n12, n16, n30, n1, n2, n3, n14, n15, n17, n18, n22, n23, n24, n25, n26, n27, n28, n31, n32]
  refine br (t := decide (op < 0) || decide (op > 35)) (fun h => ?_) (fun h => ?_)
  · simp only [Bool.or_eq_true, decide_eq_true_eq] at h
    exact rt2 ⟨fin (a := 0) (b := 3) e0 (by unfold opE; rw [if_pos (by omega)]), rfl⟩
  · simp only [Bool.or_eq_false_iff, decide_eq_false_iff_not] at h
    exact rt2 ⟨fin (a := 0) (b := 0) e0 (by unfold opE; rw [if_neg (by omega)]), rfl⟩
theorem r3_in (n lo hi : Int) (w : World) : Ret Tryz.prog 180 #[I n, I lo, I hi] w fun v w' => v = .bool (decide (lo ≤ n) && decide (n ≤ hi)) ∧ w' = w := by
  refine entr (vs := [I n, I lo, I hi]) [0, 1, 2, 6] tabok Tryz.func180 (by kernel_rfl) ?_
  exact rt1 ⟨rfl, rfl⟩
theorem r3_most (n : Int) (p : Bool) (w : World) (h0 : 0 ≤ n) (h1 : n ≤ 1000) : Ret Tryz.prog 181 #[I n, .bool p] w fun v w' => v = I (if p = true then 59 else n - 1) ∧ w' = w := by
  refine entr (vs := [I n, .bool p]) [0, 1, 4, 5] tabok Tryz.func181 (by kernel_rfl) ?_
  refine br (fun h => ?_) (fun h => ?_)
  · subst h; exact rt1 ⟨rfl, rfl⟩
  · subst h
    refine rt1 ⟨?_, rfl⟩
    rw [wrap_fit (by omega) (by omega)]; rfl
end Go.Proofs.YtopjmiklpnejmaaGreatDoor
/- Walks: the document's Valid. Printed by wip/tools/mkval2.py. -/
namespace Go.Proofs.YtopjmiklpnejmaaGreatDoor
open Eng Go.RowKit
def vbad (op a b : Int) : Bool := (decide (¬ opE op = 0) || (decide (opN op < 2) && decide (¬ b = 0))) || (decide (opN op < 1) && decide (¬ a = 0))
theorem vgood {op a b : Int} (h : vbad op a b = false) : opE op = 0 ∧ (opN op < 2 → b = 0) ∧ (opN op < 1 → a = 0) := by
  unfold vbad at h
  simp only [Bool.or_eq_false_iff, Bool.and_eq_false_iff, decide_eq_false_iff_not] at h
  omega
theorem valid_bad (op a b : Int) (p : Bool) (h : vbad op a b = true) : validI ⟨op, a, b⟩ p = false := by
  by_cases hr : 0 ≤ op ∧ op ≤ 35
  · have hc : op = 0 ∨ op = 1 ∨ op = 2 ∨ op = 3 ∨ op = 4 ∨ op = 5 ∨ op = 6 ∨ op = 7 ∨ op = 8 ∨ op = 9 ∨ op = 10 ∨ op = 11 ∨ op = 12 ∨ op = 13 ∨ op = 14 ∨ op = 15 ∨ op = 16 ∨ op = 17 ∨ op = 18 ∨ op = 19 ∨ op = 20 ∨ op = 21 ∨ op = 22 ∨ op = 23 ∨ op = 24 ∨ op = 25 ∨ op = 26 ∨ op = 27 ∨ op = 28 ∨ op = 29 ∨ op = 30 ∨ op = 31 ∨ op = 32 ∨ op = 33 ∨ op = 34 ∨ op = 35 := by omega
    rcases hc with rfl | rfl | rfl | rfl | rfl | rfl | rfl | rfl | rfl | rfl | rfl | rfl | rfl | rfl | rfl | rfl | rfl | rfl | rfl | rfl | rfl | rfl | rfl | rfl | rfl | rfl | rfl | rfl | rfl | rfl | rfl | rfl | rfl | rfl | rfl | rfl <;>
      (simp [vbad, opE, opN] at h) <;> (try (cases p <;> (rw [← Bool.not_eq_true]; simp [validI, inR, rngs, isPool, mosts]) <;> omega))
  · unfold validI
    by_cases h1 : 0 ≤ op
    · rw [decide_eq_false (p := op < 36) (by omega)]; simp
    · rw [decide_eq_false h1]; simp
theorem r3_Valid (i : Ins) (p : Bool) (w : World) : Ret Tryz.prog 133 #[.agg #[I i.op, I i.a, I i.b], .bool p] w fun v w' => v = .bool (validI i p) ∧ Bl w w' := by
  obtain ⟨op, a, b⟩ := i
  refine entr (vs := [.agg #[I op, I a, I b], .bool p]) [0, 1, 2, 4, 5, 6, 32, 34, 35, 40, 46, 50, 64, 72, 77, 89, 97, 105, 113, 118, 123, 133, 138] tabok Tryz.func133 (by kernel_rfl) ?_
  refine bx (cs := [I op, I a, I b]) fun bb w1 hn => ?_
  have hx := hn.box
  have hn2 := hn.bl
  refine ld (hx.cell rfl) ?_
  refine cl (r3_Operands op _) ?_
  rintro _ _ ⟨rfl, rfl⟩
  refine ldg2 (fun _ _ => hx.cell rfl) ?_
  refine ldg2 (fun _ _ => hx.cell rfl) ?_
  refine br (t := vbad op a b) (fun h => ?_) (fun hg => ?_)
  · exact rt1 ⟨vb (valid_bad op a b p h).symm, hn.bl⟩
  refine ld (hx.cell rfl) ?_
  refine br (t := decide (op = 1)) (fun h => ?_) (fun h => ?_)
  · have e := of_decide_eq_true h
    subst e
    refine ld (hx.cell rfl) ?_
    refine cl (r3_in _ _ _ _) ?_
    rintro _ _ ⟨rfl, rfl⟩
    refine rt1 ⟨vb ?_, hn2⟩
    obtain ⟨-, g1, g2⟩ := vgood hg
    try (have hb := g1 (by decide); subst hb)
    cases p <;> (rw [Bool.eq_iff_iff]; simp [validI, inR, rngs, isPool, mosts]) <;> omega
  have n1 := of_decide_eq_false h
  refine br (t := decide (op = 2)) (fun h => ?_) (fun h => ?_)
  · have e := of_decide_eq_true h
    refine brt ?_ (hp := h)
    subst e
    refine ld (hx.cell rfl) ?_
    refine cl (r3_in _ _ _ _) ?_
    rintro _ _ ⟨rfl, rfl⟩
    refine rt1 ⟨vb ?_, hn2⟩
    obtain ⟨-, g1, g2⟩ := vgood hg
    try (have hb := g1 (by decide); subst hb)
    cases p <;> (rw [Bool.eq_iff_iff]; simp [validI, inR, rngs, isPool, mosts]) <;> omega
  have n2 := of_decide_eq_false h
  refine br (t := decide (op = 3)) (fun h => ?_) (fun h => ?_)
  · have e := of_decide_eq_true h
    subst e
    refine ld (hx.cell rfl) ?_
    refine cl (r3_in _ _ _ _) ?_
    rintro _ _ ⟨rfl, rfl⟩
    refine rt1 ⟨vb ?_, hn2⟩
    obtain ⟨-, g1, g2⟩ := vgood hg
    try (have hb := g1 (by decide); subst hb)
    cases p <;> (rw [Bool.eq_iff_iff]; simp [validI, inR, rngs, isPool, mosts]) <;> omega
  have n3 := of_decide_eq_false h
  refine br (t := decide (op = 12)) (fun h => ?_) (fun h => ?_)
  · have e := of_decide_eq_true h
    subst e
    refine ld (hx.cell rfl) ?_
    refine br (t := decide (a = 3)) (fun h3 => ?_) (fun h3 => ?_)
    · have e3 := of_decide_eq_true h3
      subst e3
      refine ld (hx.cell rfl) ?_
      refine rt1 ⟨vb ?_, hn2⟩
      cases p <;> (rw [Bool.eq_iff_iff]; simp [validI, inR, rngs, isPool, mosts]) <;> omega
    · refine ds fun w2 h2 => ?_
      have hx := h2.box hx
      have hn2 := hn.bl.trans h2.bl
      refine ld (hx.cell rfl) ?_
      refine clq (r3_in _ _ _ _) ?_
      refine ldg (fun _ => hx.cell rfl) ?_
      refine sp (I 0) (fun q => ?_) (fun q => ?_)
      · refine clq (r3_most 10 p _ (by omega) (by omega)) ?_
        refine sp (.bool false) (fun q2 => ?_) (fun q2 => ?_)
        · refine clq (r3_in _ _ _ _) ?_
          refine rt1 ⟨vb ?_, hn2⟩
          simp only [Bool.and_eq_true, decide_eq_true_eq] at q
          try have h3' := of_decide_eq_false h3
          cases p <;> (rw [Bool.eq_iff_iff]; simp [validI, inR, rngs, isPool, mosts]) <;> omega
        · exact absurd q2 (by decide)
      · refine sp (.bool false) (fun q2 => ?_) (fun q2 => ?_)
        · rw [q] at q2; cases q2
        · refine rt1 ⟨vb ?_, hn2⟩
          rw [q]
          simp only [Bool.not_true, Bool.and_eq_false_iff, decide_eq_false_iff_not] at q
          try have h3' := of_decide_eq_false h3
          cases p <;> (rw [Bool.eq_iff_iff]; simp [validI, inR, rngs, isPool, mosts]) <;> omega
  have n12 := of_decide_eq_false h
  refine br (t := decide (op = 14)) (fun h => ?_) (fun h => ?_)
  · have e := of_decide_eq_true h
    refine brt ?_ (hp := h)
    subst e
    refine ds fun w2 h2 => ?_
    have hx := h2.box hx
    have hn2 := hn.bl.trans h2.bl
    refine ld (hx.cell rfl) ?_
    refine clq (r3_most 10 p _ (by omega) (by omega)) ?_
    refine clq (r3_in _ _ _ _) ?_
    refine rt1 ⟨vb ?_, hn2⟩
    obtain ⟨-, g1, g2⟩ := vgood hg
    try (have hb := g1 (by decide); subst hb)
    cases p <;> (rw [Bool.eq_iff_iff]; simp [validI, inR, rngs, isPool, mosts]) <;> omega
  have n14 := of_decide_eq_false h
  refine br (t := decide (op = 24)) (fun h => ?_) (fun h => ?_)
  · have e := of_decide_eq_true h
    subst e
    refine ds fun w2 h2 => ?_
    have hx := h2.box hx
    have hn2 := hn.bl.trans h2.bl
    refine ld (hx.cell rfl) ?_
    refine clq (r3_most 10 p _ (by omega) (by omega)) ?_
    refine clq (r3_in _ _ _ _) ?_
    refine rt1 ⟨vb ?_, hn2⟩
    obtain ⟨-, g1, g2⟩ := vgood hg
    try (have hb := g1 (by decide); subst hb)
    cases p <;> (rw [Bool.eq_iff_iff]; simp [validI, inR, rngs, isPool, mosts]) <;> omega
  have n24 := of_decide_eq_false h
  refine br (t := decide (op = 15)) (fun h => ?_) (fun h => ?_)
  · have e := of_decide_eq_true h
    subst e
    refine ld (hx.cell rfl) ?_
    refine cl (r3_in _ _ _ _) ?_
    rintro _ _ ⟨rfl, rfl⟩
    refine rt1 ⟨vb ?_, hn2⟩
    obtain ⟨-, g1, g2⟩ := vgood hg
    try (have hb := g1 (by decide); subst hb)
    cases p <;> (rw [Bool.eq_iff_iff]; simp [validI, inR, rngs, isPool, mosts]) <;> omega
  have n15 := of_decide_eq_false h
  refine br (t := decide (op = 16)) (fun h => ?_) (fun h => ?_)
  · have e := of_decide_eq_true h
    subst e
    refine ds fun w2 h2 => ?_
    have hx := h2.box hx
    have hn2 := hn.bl.trans h2.bl
    refine ld (hx.cell rfl) ?_
    refine clq (r3_in _ _ _ _) ?_
    refine ldg (fun _ => hx.cell rfl) ?_
    refine sp (I 0) (fun q => ?_) (fun q => ?_)
    · refine clq (r3_most 10 p _ (by omega) (by omega)) ?_
      refine sp (.bool false) (fun q2 => ?_) (fun q2 => ?_)
      · refine clq (r3_in _ _ _ _) ?_
        refine rt1 ⟨vb ?_, hn2⟩
        simp only [Bool.and_eq_true, decide_eq_true_eq] at q
        try have h3' := of_decide_eq_false h3
        cases p <;> (rw [Bool.eq_iff_iff]; simp [validI, inR, rngs, isPool, mosts]) <;> omega
      · exact absurd q2 (by decide)
    · refine sp (.bool false) (fun q2 => ?_) (fun q2 => ?_)
      · rw [q] at q2; cases q2
      · refine rt1 ⟨vb ?_, hn2⟩
        rw [q]
        simp only [Bool.not_true, Bool.and_eq_false_iff, decide_eq_false_iff_not] at q
        try have h3' := of_decide_eq_false h3
        cases p <;> (rw [Bool.eq_iff_iff]; simp [validI, inR, rngs, isPool, mosts]) <;> omega
  have n16 := of_decide_eq_false h
  refine br (t := decide (op = 17)) (fun h => ?_) (fun h => ?_)
  · have e := of_decide_eq_true h
    refine brt ?_ (hp := h)
    subst e
    refine ds fun w2 h2 => ?_
    have hx := h2.box hx
    have hn2 := hn.bl.trans h2.bl
    refine ld (hx.cell rfl) ?_
    refine clq (r3_most 7 p _ (by omega) (by omega)) ?_
    refine clq (r3_in _ _ _ _) ?_
    refine rt1 ⟨vb ?_, hn2⟩
    obtain ⟨-, g1, g2⟩ := vgood hg
    try (have hb := g1 (by decide); subst hb)
    cases p <;> (rw [Bool.eq_iff_iff]; simp [validI, inR, rngs, isPool, mosts]) <;> omega
  have n17 := of_decide_eq_false h
  refine br (t := decide (op = 18)) (fun h => ?_) (fun h => ?_)
  · have e := of_decide_eq_true h
    subst e
    refine ds fun w2 h2 => ?_
    have hx := h2.box hx
    have hn2 := hn.bl.trans h2.bl
    refine ld (hx.cell rfl) ?_
    refine clq (r3_most 7 p _ (by omega) (by omega)) ?_
    refine clq (r3_in _ _ _ _) ?_
    refine rt1 ⟨vb ?_, hn2⟩
    obtain ⟨-, g1, g2⟩ := vgood hg
    try (have hb := g1 (by decide); subst hb)
    cases p <;> (rw [Bool.eq_iff_iff]; simp [validI, inR, rngs, isPool, mosts]) <;> omega
  have n18 := of_decide_eq_false h
  refine br (t := decide (op = 22)) (fun h => ?_) (fun h => ?_)
  · have e := of_decide_eq_true h
    refine brt ?_ (hp := h)
    subst e
    refine ds fun w2 h2 => ?_
    have hx := h2.box hx
    have hn2 := hn.bl.trans h2.bl
    refine ld (hx.cell rfl) ?_
    refine clq (r3_most 10 p _ (by omega) (by omega)) ?_
    refine clq (r3_in _ _ _ _) ?_
    refine rt1 ⟨vb ?_, hn2⟩
    obtain ⟨-, g1, g2⟩ := vgood hg
    try (have hb := g1 (by decide); subst hb)
    cases p <;> (rw [Bool.eq_iff_iff]; simp [validI, inR, rngs, isPool, mosts]) <;> omega
  have n22 := of_decide_eq_false h
  refine br (t := decide (op = 23)) (fun h => ?_) (fun h => ?_)
  · have e := of_decide_eq_true h
    subst e
    refine ds fun w2 h2 => ?_
    have hx := h2.box hx
    have hn2 := hn.bl.trans h2.bl
    refine ld (hx.cell rfl) ?_
    refine clq (r3_most 10 p _ (by omega) (by omega)) ?_
    refine clq (r3_in _ _ _ _) ?_
    refine rt1 ⟨vb ?_, hn2⟩
    obtain ⟨-, g1, g2⟩ := vgood hg
    try (have hb := g1 (by decide); subst hb)
    cases p <;> (rw [Bool.eq_iff_iff]; simp [validI, inR, rngs, isPool, mosts]) <;> omega
  have n23 := of_decide_eq_false h
  refine br (t := decide (op = 25)) (fun h => ?_) (fun h => ?_)
  · have e := of_decide_eq_true h
    refine brt ?_ (hp := h)
    subst e
    refine ds fun w2 h2 => ?_
    have hx := h2.box hx
    have hn2 := hn.bl.trans h2.bl
    refine ld (hx.cell rfl) ?_
    refine clq (r3_most 16 p _ (by omega) (by omega)) ?_
    refine clq (r3_in _ _ _ _) ?_
    refine rt1 ⟨vb ?_, hn2⟩
    obtain ⟨-, g1, g2⟩ := vgood hg
    try (have hb := g1 (by decide); subst hb)
    cases p <;> (rw [Bool.eq_iff_iff]; simp [validI, inR, rngs, isPool, mosts]) <;> omega
  have n25 := of_decide_eq_false h
  refine br (t := decide (op = 26)) (fun h => ?_) (fun h => ?_)
  · have e := of_decide_eq_true h
    subst e
    refine ds fun w2 h2 => ?_
    have hx := h2.box hx
    have hn2 := hn.bl.trans h2.bl
    refine ld (hx.cell rfl) ?_
    refine clq (r3_most 16 p _ (by omega) (by omega)) ?_
    refine clq (r3_in _ _ _ _) ?_
    refine rt1 ⟨vb ?_, hn2⟩
    obtain ⟨-, g1, g2⟩ := vgood hg
    try (have hb := g1 (by decide); subst hb)
    cases p <;> (rw [Bool.eq_iff_iff]; simp [validI, inR, rngs, isPool, mosts]) <;> omega
  have n26 := of_decide_eq_false h
  refine br (t := decide (op = 27)) (fun h => ?_) (fun h => ?_)
  · have e := of_decide_eq_true h
    subst e
    refine ld (hx.cell rfl) ?_
    refine cl (r3_in _ _ _ _) ?_
    rintro _ _ ⟨rfl, rfl⟩
    refine rt1 ⟨vb ?_, hn2⟩
    obtain ⟨-, g1, g2⟩ := vgood hg
    try (have hb := g1 (by decide); subst hb)
    cases p <;> (rw [Bool.eq_iff_iff]; simp [validI, inR, rngs, isPool, mosts]) <;> omega
  have n27 := of_decide_eq_false h
  refine br (t := decide (op = 28)) (fun h => ?_) (fun h => ?_)
  · have e := of_decide_eq_true h
    subst e
    refine ld (hx.cell rfl) ?_
    refine cl (r3_in _ _ _ _) ?_
    rintro _ _ ⟨rfl, rfl⟩
    refine rt1 ⟨vb ?_, hn2⟩
    obtain ⟨-, g1, g2⟩ := vgood hg
    try (have hb := g1 (by decide); subst hb)
    cases p <;> (rw [Bool.eq_iff_iff]; simp [validI, inR, rngs, isPool, mosts]) <;> omega
  have n28 := of_decide_eq_false h
  refine br (t := decide (op = 30)) (fun h => ?_) (fun h => ?_)
  · have e := of_decide_eq_true h
    subst e
    refine ld (hx.cell rfl) ?_
    refine cl (r3_in _ _ _ _) ?_
    rintro _ _ ⟨rfl, rfl⟩
    refine ldg (fun _ => hx.cell rfl) ?_
    refine sp (.bool false) (fun q => ?_) (fun q => ?_)
    · refine cl (r3_in _ _ _ _) ?_
      rintro _ _ ⟨rfl, rfl⟩
      refine rt1 ⟨vb ?_, hn2⟩
      simp only [Bool.and_eq_true, decide_eq_true_eq] at q
      cases p <;> (rw [Bool.eq_iff_iff]; simp [validI, inR, rngs, isPool, mosts]) <;> omega
    · refine rt1 ⟨vb ?_, hn2⟩
      rw [q]
      simp only [Bool.not_true, Bool.and_eq_false_iff, decide_eq_false_iff_not] at q
      cases p <;> (rw [Bool.eq_iff_iff]; simp [validI, inR, rngs, isPool, mosts]) <;> omega
  have n30 := of_decide_eq_false h
  refine br (t := decide (op = 31)) (fun h => ?_) (fun h => ?_)
  · have e := of_decide_eq_true h
    subst e
    refine ld (hx.cell rfl) ?_
    refine cl (r3_in _ _ _ _) ?_
    rintro _ _ ⟨rfl, rfl⟩
    refine rt1 ⟨vb ?_, hn2⟩
    obtain ⟨-, g1, g2⟩ := vgood hg
    try (have hb := g1 (by decide); subst hb)
    cases p <;> (rw [Bool.eq_iff_iff]; simp [validI, inR, rngs, isPool, mosts]) <;> omega
  have n31 := of_decide_eq_false h
  refine br (t := decide (op = 32)) (fun h => ?_) (fun h => ?_)
  · have e := of_decide_eq_true h
    subst e
    refine ld (hx.cell rfl) ?_
    refine cl (r3_in _ _ _ _) ?_
    rintro _ _ ⟨rfl, rfl⟩
    refine rt1 ⟨vb ?_, hn2⟩
    obtain ⟨-, g1, g2⟩ := vgood hg
    try (have hb := g1 (by decide); subst hb)
    cases p <;> (rw [Bool.eq_iff_iff]; simp [validI, inR, rngs, isPool, mosts]) <;> omega
  have n32 := of_decide_eq_false h
  refine rt1 ⟨vb ?_, hn2⟩
  obtain ⟨g0, g1, g2⟩ := vgood hg
  have hr : 0 ≤ op ∧ op ≤ 35 := by
    unfold opE at g0
    by_cases hb : op < 0 ∨ 35 < op
    · rw [if_pos hb] at g0; omega
    · omega
  have hc : op = 0 ∨ op = 4 ∨ op = 5 ∨ op = 6 ∨ op = 7 ∨ op = 8 ∨ op = 9 ∨ op = 10 ∨ op = 11 ∨ op = 13 ∨ op = 19 ∨ op = 20 ∨ op = 21 ∨ op = 29 ∨ op = 33 ∨ op = 34 ∨ op = 35 := by omega
  rcases hc with rfl | rfl | rfl | rfl | rfl | rfl | rfl | rfl | rfl | rfl | rfl | rfl | rfl | rfl | rfl | rfl | rfl <;>
    (have hb := g1 (by decide); have ha := g2 (by decide); subst hb; subst ha; cases p <;> decide)
end Go.Proofs.YtopjmiklpnejmaaGreatDoor
/- Walks: the document's reading of brackets. -/
namespace Go.Proofs.YtopjmiklpnejmaaGreatDoor
open Eng Go.RowKit
theorem r3_Opens (op : Int) (w : World) : Ret Tryz.prog 182 #[I op] w fun v w' => v = .bool (opensB op) ∧ w' = w := by
  refine entr (vs := [I op]) [0, 2] tabok Tryz.func182 (by kernel_rfl) ?_
  exact rt1 ⟨rfl, rfl⟩
theorem max_nat (a b : Nat) : max (a : Int) (b : Int) = ((max a b : Nat) : Int) := by omega
def PartsC (l : List Ins) (a : Option Addr) (cap : Nat) (w : World) (i : Nat) : Prop :=
  Ret Tryz.prog 134 #[.slice a l.length cap, I i] w fun v w' => (∃ next deep, v = .tuple #[I next, I deep] ∧ partsOk (l.map (·.op)) i next deep) ∧ w' = w
def BracketC (l : List Ins) (a : Option Addr) (cap : Nat) (w : World) (i : Nat) : Prop :=
  Ret Tryz.prog 183 #[.slice a l.length cap, I i] w fun v w' => (∃ alt next deep, v = .tuple #[I alt, I next, I deep] ∧ bracketOk (l.map (·.op)) i next deep) ∧ w' = w
theorem drop_at {l : List Ins} {k : Nat} {x : Ins} (h : l[k]? = some x) : (l.map (·.op)).drop k = x.op :: (l.map (·.op)).drop (k + 1) := by
  obtain ⟨hk, e⟩ := List.getElem?_eq_some_iff.1 h
  rw [List.drop_eq_getElem_cons (by rw [List.length_map]; exact hk)]
  simp [e]
theorem r3_parts (l : List Ins) (a : Option Addr) (cap : Nat) (S : Nat → Prop) (w : World) (hS : Sl eIns S w a l) (i : Nat) (hi : i ≤ l.length)
    (hb : ∀ j, i ≤ j → j < l.length → (∀ x, l[j]? = some x → opensB x.op = true) → BracketC l a cap w j) : PartsC l a cap w i := by
  unfold PartsC
  have hbig := hS.big
  refine entr (vs := [.slice a l.length cap, I i]) [0, 1, 4, 5, 6, 8, 9, 29, 36, 47] tabok Tryz.func134 (by kernel_rfl) ?_
  refine lp [1, 6] [(0, .slice a l.length cap)] (fun m vals w' => ∃ j k : Nat, m = l.length - j ∧ vals = [I j, I k] ∧ i ≤ j ∧ j ≤ l.length ∧ k ≤ j - i ∧ w = w' ∧ ∀ s D, s.length ≤ D → runB ((l.map (·.op)).drop i) s D = runB ((l.map (·.op)).drop j) s (max D (s.length + k))) ⟨rfl, trivial⟩
    ⟨i, 0, rfl, rfl, Nat.le_refl _, hi, Nat.zero_le _, rfl, fun s D h => by rw [Nat.add_zero, Nat.max_eq_left h]⟩ ?_
  rintro m vals _ ⟨j, k, rfl, rfl, hij, hjl, hk, rfl, hrun⟩ ih
  by_cases hlt : j < l.length
  · obtain ⟨x, b, o, cs, hx, rfl, hSb, hAt, rfl⟩ := at_some hS hlt
    refine ixg (fun _ => hlt) ?_
    refine ldg (fun _ => hAt 0 _ rfl) ?_
    refine ixg (fun _ => hlt) ?_
    refine ldg (fun _ => hAt 0 _ rfl) ?_
    have hop : (l.map (·.op))[j]? = some x.op := by rw [List.getElem?_map, hx]; rfl
    have hd := drop_at hx
    refine br (t := (decide ((j : Int) < l.length) && decide (¬ x.op = 34)) && decide (¬ x.op = 35)) (fun h => ?_) (fun h => ?_)
    · simp only [Bool.and_eq_true, decide_eq_true_eq] at h
      refine ix ?_
      refine ld (hAt 0 _ rfl) ?_
      refine cl (r3_Opens x.op _) ?_
      rintro _ _ ⟨rfl, rfl⟩
      refine br (t := !opensB x.op) (fun h2 => ?_) (fun h2 => ?_)
      · have h3 : opensB x.op = false := by simpa using h2
        refine again (ih _ _ _ _ ?_ ⟨rfl, trivial⟩ rfl ⟨j + 1, k, rfl, lst2 (inc hlt) rfl, by omega, hlt, by omega, rfl, fun s D hs => ?_⟩)
        · omega
        · rw [hrun s D hs, hd, runB_plain h3 h.1.2 h.2]
      · have h3 : opensB x.op = true := by simpa using h2
        refine cl (hb j hij hlt (fun y hy => by rw [hx] at hy; obtain rfl := Option.some.inj hy; exact h3)) ?_
        rintro _ _ ⟨⟨alt, next, deep, rfl, hbo⟩, rfl⟩
        refine br (fun h4 => ?_) (fun h4 => ?_)
        · have h5 := of_decide_eq_true h4
          rcases hbo with ⟨rfl, hbad⟩ | ⟨n, k2, _, rfl, _⟩
          · refine rt2 ⟨⟨0, -1, rfl, .inl ⟨rfl, fun s D D' hs e => ?_⟩⟩, rfl⟩
            rw [hrun s D hs] at e
            exact hbad s _ D' (by omega) e
          · omega
        · have h5 := of_decide_eq_false h4
          rcases hbo with ⟨rfl, hbad⟩ | ⟨n, k2, rfl, rfl, hn1, hn2, hk2, hrun2⟩
          · omega
          · rw [List.length_map] at hn2
            refine mx ?_
            refine again (ih _ _ _ _ ?_ ⟨rfl, trivial⟩ rfl ⟨n + 1, max k (k2 + 1), rfl, lst2 (inc (by omega)) (vi ?_), by omega, by omega, by omega, rfl, fun s D hs => ?_⟩)
            · omega
            · rw [wrap_fit (by omega) (by omega)]; omega
            · rw [hrun s D hs, hrun2 s _ (by omega)]
              congr 1; omega
    · refine rt2 ⟨⟨j, k, rfl, .inr ⟨j, k, rfl, rfl, hij, by rw [List.length_map]; exact hjl, hk, .inr ?_, hrun⟩⟩, rfl⟩
      rw [hop]
      simp only [Bool.and_eq_false_iff, decide_eq_false_iff_not] at h
      by_cases h6 : x.op = 34
      · exact .inl (by rw [h6])
      · exact .inr (by congr 1; omega)
  · refine sp (.pointer (some ⟨0, 0, none⟩)) (fun q => ?_) (fun q => ?_)
    · have := of_decide_eq_true q; omega
    refine ldg (v := I 0) (fun e => ?_) ?_
    · have := of_decide_eq_true e; omega
    refine sp (.pointer (some ⟨0, 0, none⟩)) (fun q2 => ?_) (fun q2 => ?_)
    · simp only [Bool.and_eq_true, decide_eq_true_eq] at q2; omega
    refine ldg (v := I 0) (fun e => ?_) ?_
    · simp only [Bool.and_eq_true, decide_eq_true_eq] at e; omega
    refine br (fun h => ?_) (fun h => ?_)
    · simp only [Bool.and_eq_true, decide_eq_true_eq] at h; omega
    · obtain rfl : j = l.length := by omega
      exact rt2 ⟨⟨l.length, k, rfl, .inr ⟨l.length, k, rfl, rfl, hij, by rw [List.length_map]; exact Nat.le_refl _, hk, .inl (by rw [List.length_map]), hrun⟩⟩, rfl⟩
theorem r3_bracket (l : List Ins) (a : Option Addr) (cap : Nat) (S : Nat → Prop) (w : World) (hS : Sl eIns S w a l) (i : Nat) (hi : i < l.length) (x : Ins) (hx : l[i]? = some x) (hox : opensB x.op = true)
    (hp : ∀ j, i < j → j ≤ l.length → PartsC l a cap w j) : BracketC l a cap w i := by
  unfold BracketC
  have hbig := hS.big
  have hp1 : ∀ j : Nat, i ≤ j → j < l.length → Ret Tryz.prog 134 #[.slice a l.length cap, .int .i64 (IntKind.i64.wrap ((j : Int) + 1))] w fun v w' => (∃ next deep, v = .tuple #[I next, I deep] ∧ partsOk (l.map (·.op)) (j + 1) next deep) ∧ w' = w := fun j h1 h2 => by
    rw [wrap_succ h2]; exact hp (j + 1) (by omega) h2
  refine entr (vs := [.slice a l.length cap, I i]) [0, 1, 4, 5, 6, 7, 8, 9, 10, 11, 26, 32, 46, 70, 80] tabok Tryz.func183 (by kernel_rfl) ?_
  refine cl (hp1 i (Nat.le_refl _) hi) ?_
  rintro _ _ ⟨⟨next, deep, rfl, hpo⟩, rfl⟩
  have hd := drop_at hx
  have bad : badB ((l.map (·.op)).drop (i + 1)) → badB ((l.map (·.op)).drop i) := fun hb s D D' hs e => by
    rw [hd, runB_open hox] at e
    exact hb _ _ D' (by simp; omega) e
  refine br (fun h => ?_) (fun h => ?_)
  · refine rt3 ⟨⟨0, 0, -1, rfl, .inl ⟨rfl, ?_⟩⟩, rfl⟩
    simp only [Bool.or_eq_true, decide_eq_true_eq] at h
    rcases hpo with ⟨_, hb⟩ | ⟨n, k, rfl, rfl, _, hn, _, _, hrun⟩
    · exact bad hb
    · rw [List.length_map] at hn
      obtain rfl : n = l.length := by omega
      intro s D D' hs e
      rw [hd, runB_open hox, hrun _ _ (by simp; omega), List.drop_of_length_le (by rw [List.length_map]; exact Nat.le_refl _)] at e
      simp [runB] at e
  simp only [Bool.or_eq_false_iff, decide_eq_false_iff_not] at h
  rcases hpo with ⟨rfl, _⟩ | ⟨n, k, rfl, rfl, hin, hn, hk, hnx, hrun⟩
  · omega
  have hnl : n < l.length := by omega
  obtain ⟨y, b, o, cs, hy, rfl, hSb, hAt, rfl⟩ := at_some hS hnl
  have hyop : (l.map (·.op))[n]? = some y.op := by rw [List.getElem?_map, hy]; rfl
  have hdy := drop_at hy
  rw [hyop] at hnx
  have hnx' : y.op = 34 ∨ y.op = 35 := by
    rcases hnx with h1 | h1 | h1
    · rw [List.length_map] at h1; omega
    · exact .inl (Option.some.inj h1)
    · exact .inr (Option.some.inj h1)
  have hstep : ∀ s D, s.length ≤ D → runB ((l.map (·.op)).drop i) s D = runB (y.op :: (l.map (·.op)).drop (n + 1)) ((x.op, false) :: s) (max D (s.length + 1 + k)) := fun s D hs => by
    rw [hd, runB_open hox, hrun _ _ (by simp; omega), hdy]
    congr 1; simp
  refine ix ?_
  refine ld (hAt 0 _ rfl) ?_
  refine br (fun h34 => ?_) (fun h34 => ?_)
  · have e34 := of_decide_eq_true h34
    obtain ⟨b', o', cs', e', hSb', hAt', rfl⟩ := hS.el i x hx
    simp only [Option.some.injEq, Addr.mk.injEq, and_true] at e'
    obtain ⟨rfl, rfl⟩ := e'
    refine ix ?_
    refine ld (hAt' 0 _ rfl) ?_
    refine ixg (fun _ => hi) ?_
    refine ldg (fun _ => hAt' 0 _ rfl) ?_
    refine br (t := decide (¬ x.op = 29) && decide (¬ x.op = 33)) (fun h2 => ?_) (fun h2 => ?_)
    · simp only [Bool.and_eq_true, decide_eq_true_eq] at h2
      refine rt3 ⟨⟨0, 0, -1, rfl, .inl ⟨rfl, fun s D D' hs e => ?_⟩⟩, rfl⟩
      rw [hstep s D hs, e34, runB_else, if_neg (by omega)] at e; cases e
    have h2' : x.op = 29 ∨ x.op = 33 := by
      simp only [Bool.and_eq_false_iff, decide_eq_false_iff_not] at h2; omega
    have hst2 : ∀ s D, s.length ≤ D → runB ((l.map (·.op)).drop i) s D = runB ((l.map (·.op)).drop (n + 1)) ((x.op, true) :: s) (max D (s.length + 1 + k)) := fun s D hs => by
      rw [hstep s D hs, e34, runB_else, if_pos ⟨rfl, h2'⟩]
    refine cl (hp1 n (by omega) hnl) ?_
    rintro _ _ ⟨⟨next2, deep2, rfl, hpo2⟩, rfl⟩
    refine sp (.pointer (some ⟨0, 0, none⟩)) (fun q => ?_) (fun q => ?_)
    · simp only [Bool.or_eq_false_iff, decide_eq_false_iff_not] at q
      rcases hpo2 with ⟨rfl, _⟩ | ⟨n2, k2, rfl, rfl, hin2, hn2, hk2, hnx2, hrun2⟩
      · omega
      have hnl2 : n2 < l.length := by omega
      obtain ⟨z, b3, o3, cs3, hz, e3, hSb3, hAt3, rfl⟩ := at_some hS hnl2
      simp only [Option.some.injEq, Addr.mk.injEq, and_true] at e3
      obtain ⟨rfl, rfl⟩ := e3
      refine ix ?_
      refine ldg (fun _ => hAt3 0 _ rfl) ?_
      have hdz := drop_at hz
      have hst3 : ∀ s D, s.length ≤ D → runB ((l.map (·.op)).drop i) s D = runB (z.op :: (l.map (·.op)).drop (n2 + 1)) ((x.op, true) :: s) (max (max D (s.length + 1 + k)) (s.length + 1 + k2)) := fun s D hs => by
        rw [hst2 s D hs, hrun2 _ _ (by simp; omega), hdz]; rfl
      have hz' : z.op = 34 ∨ z.op = 35 := by
        rcases hnx2 with h1 | h1 | h1
        · rw [List.length_map] at h1; omega
        · rw [List.getElem?_map, hz] at h1; exact .inl (Option.some.inj h1)
        · rw [List.getElem?_map, hz] at h1; exact .inr (Option.some.inj h1)
      refine br (fun h3 => ?_) (fun h3 => ?_)
      · have h3' : z.op = 34 := by
          rcases hz' with h | h
          · exact h
          · rw [h] at h3; simp at h3
        refine rt3 ⟨⟨0, 0, -1, rfl, .inl ⟨rfl, fun s D D' hs e => ?_⟩⟩, rfl⟩
        rw [hst3 s D hs, h3', runB_else, if_neg (by simp)] at e; cases e
      · have h3' : z.op = 35 := by
          rcases hz' with h | h
          · rw [h] at h3; simp at h3
          · exact h
        refine mx ?_
        rw [max_nat]
        refine rt3 ⟨⟨n, n2, (max k k2 : Nat), rfl, .inr ⟨n2, max k k2, rfl, rfl, by omega, by rw [List.length_map]; exact hnl2, by omega, fun s D hs => ?_⟩⟩, rfl⟩
        rw [hst3 s D hs, h3', runB_end, if_neg (by simp)]
        congr 1; omega
    · refine ldg (v := I 0) (fun e => ?_) ?_
      · rw [q] at e; cases e
      refine br (fun h3 => ?_) (fun h3 => ?_)
      · refine rt3 ⟨⟨0, 0, -1, rfl, .inl ⟨rfl, fun s D D' hs e => ?_⟩⟩, rfl⟩
        simp only [Bool.not_false, Bool.or_eq_true, decide_eq_true_eq] at q
        rcases hpo2 with ⟨_, hb⟩ | ⟨n2, k2, rfl, rfl, _, hn2, _, _, hrun2⟩
        · rw [hst2 s D hs] at e
          exact hb _ _ D' (by simp; omega) e
        · rw [List.length_map] at hn2
          obtain rfl : n2 = l.length := by omega
          rw [hst2 s D hs, hrun2 _ _ (by simp; omega), List.drop_of_length_le (by rw [List.length_map]; exact Nat.le_refl _)] at e
          simp [runB] at e
      · rw [q] at h3; simp at h3
  · have e34 := of_decide_eq_false h34
    have e35 : y.op = 35 := by omega
    obtain ⟨b', o', cs', e', hSb', hAt', rfl⟩ := hS.el i x hx
    simp only [Option.some.injEq, Addr.mk.injEq, and_true] at e'
    obtain ⟨rfl, rfl⟩ := e'
    refine ix ?_
    refine ld (hAt' 0 _ rfl) ?_
    refine br (fun h33 => ?_) (fun h33 => ?_)
    · have e33 := of_decide_eq_true h33
      refine rt3 ⟨⟨0, 0, -1, rfl, .inl ⟨rfl, fun s D D' hs e => ?_⟩⟩, rfl⟩
      rw [hstep s D hs, e35, runB_end, if_pos ⟨e33, rfl⟩] at e; cases e
    · have e33 := of_decide_eq_false h33
      refine rt3 ⟨⟨-1, n, k, rfl, .inr ⟨n, k, rfl, rfl, by omega, by rw [List.length_map]; exact hnl, by omega, fun s D hs => ?_⟩⟩, rfl⟩
      rw [hstep s D hs, e35, runB_end, if_neg (fun hc => e33 hc.1)]
      congr 1; omega
end Go.Proofs.YtopjmiklpnejmaaGreatDoor
/- Walks: the document's Check of code. -/
namespace Go.Proofs.YtopjmiklpnejmaaGreatDoor
open Eng Go.RowKit
theorem r3_tie (l : List Ins) (a : Option Addr) (cap : Nat) (S : Nat → Prop) (w : World) (hS : Sl eIns S w a l) : ∀ N i, l.length - i ≤ N → i ≤ l.length → PartsC l a cap w i
  | 0, i, h, hi => r3_parts l a cap S w hS i hi fun j h1 h2 => by omega
  | N + 1, i, h, hi => r3_parts l a cap S w hS i hi fun j h1 h2 ho => by
    obtain ⟨x, hx⟩ := some_of_lt h2
    exact r3_bracket l a cap S w hS j h2 x hx (ho x hx) fun j' h3 h4 => r3_tie l a cap S w hS N j' (by omega) h4
/-- the document's word on code: how long, valid, brackets -/
def codeE (l : List Ins) (p : Bool) : Int := if 120 < l.length then 2 else if l.all (fun i => validI i p) = true then (if okB (l.map (·.op)) = true then 0 else 7) else 1
theorem okB_parts {c : List Int} {next deep : Int} (h : partsOk c 0 next deep) : okB c = !((decide (deep < 0) || decide (next < c.length)) || decide (deep > 6)) := by
  rcases h with ⟨rfl, hb⟩ | ⟨n, k, rfl, rfl, _, hn, _, hnx, hrun⟩
  · have : okB c = false := by
      unfold okB
      have hb' := hb [] 0
      rw [List.drop_zero] at hb'
      split
      · rename_i d e; exact absurd e (hb' d (Nat.le_refl _))
      · rfl
    rw [this]; rfl
  · have hr := hrun [] 0 (Nat.le_refl _)
    rw [List.drop_zero] at hr
    unfold okB
    rw [hr]
    by_cases hl : n = c.length
    · rw [hl, List.drop_length]
      simp only [runB, List.length_nil]
      rw [decide_eq_false (p := (k : Int) < 0) (by omega), decide_eq_false (p := (c.length : Int) < c.length) (by omega)]
      by_cases h6 : k ≤ 6
      · rw [decide_eq_true (by omega), decide_eq_false (by omega)]; rfl
      · rw [decide_eq_false (by omega), decide_eq_true (by omega)]; rfl
    · have hlt : n < c.length := by omega
      have h34 : c[n] = 34 ∨ c[n] = 35 := by
        rcases hnx with h | h | h
        · exact absurd h hl
        · rw [List.getElem?_eq_getElem hlt] at h; exact .inl (Option.some.inj h)
        · rw [List.getElem?_eq_getElem hlt] at h; exact .inr (Option.some.inj h)
      rw [List.drop_eq_getElem_cons hlt, runB_top h34, decide_eq_true (p := (n : Int) < c.length) (by omega)]
      simp
theorem r3_Check (l : List Ins) (a : Option Addr) (cap : Nat) (p : Bool) (S : Nat → Prop) (w : World) (hS : Sl eIns S w a l) : Ret Tryz.prog 62 #[.slice a l.length cap, .bool p] w fun v w' => v = I (codeE l p) ∧ Bl w w' := by
  have hbig := hS.big
  refine entr (vs := [.slice a l.length cap, .bool p]) [0, 1, 4, 5, 6, 7, 10, 14, 23, 40] tabok Tryz.func62 (by kernel_rfl) ?_
  refine br (fun h => ?_) (fun h => ?_)
  · have h := of_decide_eq_true h
    exact rt1 ⟨vi (by unfold codeE; rw [if_pos (by omega)]), Bl.refl _⟩
  have h120 := of_decide_eq_false h
  refine lpk l.length 5 [] [(0, .slice a l.length cap), (1, .bool p)] (fun k vals w' => vals = [] ∧ ((l.take k).all fun i => validI i p) = true ∧ Bl w w') ⟨rfl, rfl, Bl.refl _⟩ ?_
  rintro k vals w1 hk ⟨rfl, ha, hB⟩ ih
  by_cases hlt : k < l.length
  · refine brT ?_
    obtain ⟨x, b, o, cs, hx, rfl, hSb, hAt, rfl⟩ := at_some (hS.bl hB) hlt
    refine ix ?_
    refine lda hAt ?_
    refine cl (r3_Valid x p _) ?_
    rintro _ w2 ⟨rfl, hB2⟩
    refine br (t := !validI x p) (fun h1 => ?_) (fun h1 => ?_)
    · refine rt1 ⟨vi ?_, hB.trans hB2⟩
      unfold codeE
      rw [if_neg (by omega), all_miss hx (p := fun i => validI i p) (by simpa using h1), if_neg (by simp)]
    · exact ih hlt ⟨rfl, all_snoc' hx ha (by simpa using h1), hB.trans hB2⟩
  refine brF ?_
  obtain rfl : k = l.length := by omega
  have hall := all_end ha
  have hc : codeE l p = if okB (l.map (·.op)) = true then 0 else 7 := by unfold codeE; rw [if_neg (by omega), if_pos hall]
  refine cl (r3_tie l a cap S w1 (hS.bl hB) l.length 0 (by omega) (Nat.zero_le _)) ?_
  rintro _ _ ⟨⟨next, deep, rfl, hpo⟩, rfl⟩
  have hok := okB_parts hpo
  rw [List.length_map] at hok
  refine br (t := (decide (deep < 0) || decide (next < l.length)) || decide (deep > 6)) (fun h => ?_) (fun h => ?_)
  · refine rt1 ⟨vi ?_, hB⟩
    rw [hc, hok, h]; rfl
  · refine rt1 ⟨vi ?_, hB⟩
    rw [hc, hok, h]; rfl
end Go.Proofs.YtopjmiklpnejmaaGreatDoor

/- Walks: names and paths. -/
namespace Go.Proofs.YtopjmiklpnejmaaGreatDoor
open Eng Go.RowKit
theorem w_letter (c : UInt8) (w : World) : Ret Tryz.prog 44 #[.int .u8 (c.toNat : Int)] w fun v w' => v = .bool (low c || upp c) ∧ w' = w := by
  refine entr (vs := [.int .u8 (c.toNat : Int)]) [0, 2] tabok Tryz.func44 (by kernel_rfl) ?_
  exact rt1 ⟨rfl, rfl⟩
theorem w_digit (c : UInt8) (w : World) : Ret Tryz.prog 45 #[.int .u8 (c.toNat : Int)] w fun v w' => v = .bool (dgt c) ∧ w' = w := by
  refine entr (vs := [.int .u8 (c.toNat : Int)]) [0, 2] tabok Tryz.func45 (by kernel_rfl) ?_
  exact rt1 ⟨rfl, rfl⟩
theorem r_Simple (s : ByteArray) (w : World) (hs : s.size ≤ 1048576) : Ret Tryz.prog 15 #[.string s] w fun v w' => v = .bool (simple s) ∧ w' = w := by
  refine entr (vs := [.string s]) [0, 2, 3, 4, 22, 26, 54] tabok Tryz.func15 (by kernel_rfl) ?_
  refine ixsg (j := 0) (fun h => ?_) ?_
  · simp at h; omega
  refine ixsg (j := 0) (fun h => ?_) ?_
  · simp at h; omega
  refine br (fun h => ?_) (fun h => ?_)
  · refine rt1 ⟨congrArg _ ?_, rfl⟩
    simp only [Bool.or_eq_true, decide_eq_true_eq] at h
    symm
    by_cases h0 : s.size = 0
    · exact simple_empty s h0
    by_cases h1 : 12 < s.size
    · exact simple_long s h1
    · exact simple_head s (by omega) (by simp [low]; omega)
  simp only [Bool.or_eq_false_iff, decide_eq_false_iff_not] at h
  refine lp [3] [(0, .string s)] (fun m vals w' => ∃ k : Nat, m = s.size - k ∧ k ≤ s.size ∧ vals = [I k] ∧ (s.data.toList.take k).all alnum = true ∧ w' = w) ⟨rfl, trivial⟩ ⟨0, rfl, Nat.zero_le _, rfl, rfl, rfl⟩ ?_
  rintro m vals _ ⟨k, rfl, hk, rfl, ha, rfl⟩ ih
  by_cases hlt : k < s.size
  · refine brT ?_
    refine ixs ?_
    refine br (t := !alnum (sget s k)) (fun h1 => ?_) (fun h1 => ?_)
    · exact rt1 ⟨vb (simple_at s k hlt (by simpa using h1)).symm, rfl⟩
    · refine again (ih _ _ _ _ ?_ ⟨rfl, trivial⟩ rfl ⟨k + 1, rfl, by omega, ?_, all_snoc hlt ha (by simpa using h1), rfl⟩)
      · omega
      · rw [wrap_succ hlt]
  · refine brF ?_
    obtain rfl : k = s.size := by omega
    exact rt1 ⟨vb (simple_yes s (by omega) (by omega) (by simp [low]; omega) ha).symm, rfl⟩
theorem u_Simple (s : ByteArray) (w : World) (hs : s.size ≤ 1048576) : Ret Tryz.prog 14 #[.string s] w fun v w' => v = .bool (simple s) ∧ w' = w := by
  refine entr (vs := [.string s]) [0, 2, 3, 20, 22, 23, 24, 37] tabok Tryz.func14 (by kernel_rfl) ?_
  refine ixsg (j := 0) (fun h => ?_) ?_
  · simp only [Bool.or_eq_false_iff, decide_eq_false_iff_not, ba_nil] at h; omega
  refine ixsg (j := 0) (fun h => ?_) ?_
  · simp only [Bool.or_eq_false_iff, decide_eq_false_iff_not, ba_nil] at h; omega
  refine br (fun h => ?_) (fun h => ?_)
  · refine rt1 ⟨vb ?_, rfl⟩
    simp only [Bool.or_eq_true, decide_eq_true_eq, ba_nil] at h
    symm
    by_cases h0 : s.size = 0
    · exact simple_empty s h0
    by_cases h1 : 12 < s.size
    · exact simple_long s h1
    · exact simple_head s (by omega) (by simp [low]; omega)
  simp only [Bool.or_eq_false_iff, decide_eq_false_iff_not, ba_nil] at h
  refine lp [23] [(0, .string s), (22, I s.size)] (fun m vals w' => ∃ k : Nat, m = s.size - k ∧ k ≤ s.size ∧ vals = [I k] ∧ (s.data.toList.take k).all alnum = true ∧ w' = w) ⟨rfl, rfl, trivial⟩ ⟨0, rfl, Nat.zero_le _, rfl, rfl, rfl⟩ ?_
  rintro m vals _ ⟨k, rfl, hk, rfl, ha, rfl⟩ ih
  by_cases hlt : k < s.size
  · refine brT ?_
    refine ixs ?_
    refine cl (w_letter _ _) ?_
    rintro _ _ ⟨rfl, rfl⟩
    refine ixsg (fun _ => hlt) ?_
    refine sp (.bool true) (fun h1 => ?_) (fun h1 => ?_)
    · refine cl (w_digit _ _) ?_
      rintro _ _ ⟨rfl, rfl⟩
      refine br (fun h2 => ?_) (fun h2 => ?_)
      · exact rt1 ⟨vb (simple_at s k hlt (by simp_all [alnum])).symm, rfl⟩
      · refine again (ih _ _ _ _ (by omega) ⟨rfl, rfl, trivial⟩ rfl ⟨k + 1, rfl, by omega, lst1 (inc hlt), all_snoc hlt ha (by simp_all [alnum]), rfl⟩)
    · have h1' : alnum (sget s k) = true := by unfold alnum; revert h1; cases low (sget s k) <;> cases upp (sget s k) <;> simp
      refine brf ?_
      refine again (ih _ _ _ _ (by omega) ⟨rfl, rfl, trivial⟩ rfl ⟨k + 1, rfl, by omega, lst1 (inc hlt), all_snoc hlt ha h1', rfl⟩)
  · refine brF ?_
    obtain rfl : k = s.size := by omega
    exact rt1 ⟨vb (simple_yes s (by omega) (by omega) (by simp [low]; omega) ha).symm, rfl⟩
theorem r_Parts (s : ByteArray) (w : World) (hs : s.size ≤ 1048576) : Ret Tryz.prog 43 #[.string s] w fun v w' => ∃ a cap, v = .slice a (partsB s).length cap ∧ Sl eStr T w' a (partsB s) ∧ Bl w w' := by
  refine entr (vs := [.string s]) [0, 2, 3, 4, 9, 15] tabok Tryz.func43 (by kernel_rfl) ?_
  refine bs fun b w1 h1 => ?_
  refine lp [3, 4] [(0, .string s)] (fun m vals w' => ∃ (k : Nat) (a : Option Addr) (cap : Nat), m = s.size - k ∧ k ≤ s.size ∧ vals = [.slice a (cutDot (s.data.toList.take k)).length cap, I k] ∧
    Ow w' w.heap.size 9 1 a (cutDot (s.data.toList.take k)).length cap ((cutDot (s.data.toList.take k)).map fun p => .string (ofL p)) ∧ Bl w w') ⟨rfl, trivial⟩ ⟨0, some ⟨b, 0, none⟩, 1, rfl, Nat.zero_le _, rfl, (Ow.made (n := 1) h1 rfl (by omega)).base (by rw [h1.blk]; exact Nat.le_refl _), h1.bl⟩ ?_
  rintro m vals w2 ⟨k, a, cap, rfl, hk, rfl, hO, hB⟩ ih
  have hn := cutDot_length (s.data.toList.take k)
  have hlen : (s.data.toList.take k).length ≤ k := List.length_take_le _ _
  by_cases hlt : k < s.size
  · refine brT ?_
    refine ixs ?_
    have hg := sget_at hlt
    refine br (fun h1 => ?_) (fun h1 => ?_)
    · have hc : sget s k = 46 := by have := of_decide_eq_true h1; exact UInt8.toNat.inj (by simp at this ⊢; omega)
      have e : cutDot (s.data.toList.take (k + 1)) = cutDot (s.data.toList.take k) ++ [[]] := by rw [take_succ_some hg, hc, cutDot_dot]
      refine bs fun b3 w3 h3 => ?_
      have hbs : w.heap.size ≤ w3.heap.size := by have := h3.size; have := hB.size; omega
      refine ap (hO.bl h3.bl) (.inr ⟨b3, 0, rfl, h3.box.at⟩) hbs (fun a' cap' w4 hO4 hA _ => ?_)
      refine again (ih _ _ _ _ ?_ ⟨rfl, trivial⟩ rfl ⟨k + 1, a', cap', rfl, by omega, lst2 (vsl ?_) (inc hlt), ?_, (hO.bl h3.bl).below hA (hB.trans h3.bl) hbs⟩)
      · omega
      · rw [e, List.length_append]; rfl
      · rw [e]; simpa [ofL_nil] using hO4
    · have hc : sget s k ≠ 46 := fun hc => by rw [hc] at h1; simp at h1
      have e : cutDot (s.data.toList.take (k + 1)) = onLast (· ++ [sget s k]) (cutDot (s.data.toList.take k)) := by rw [take_succ_some hg, cutDot_other _ _ hc]
      have hne := cutDot_ne (s.data.toList.take k)
      have hpos : 0 < (cutDot (s.data.toList.take k)).length := List.length_pos_iff.2 hne
      refine dt 1 fun w3 h3 => ?_
      obtain ⟨p, hp⟩ := some_of_lt (l := cutDot (s.data.toList.take k)) (k := (cutDot (s.data.toList.take k)).length - 1) (by omega)
      rcases hO.shape with ⟨_, h0, _⟩ | ⟨g, cur0, rfl, hg0, _⟩
      · omega
      have hO3 := hO.bl h3.bl
      obtain ⟨cur, hbx, hcl, htk, hnc, hle⟩ := hO3.box
      have hat := hO3.at rfl
      have hw1 : IntKind.i64.wrap (((cutDot (s.data.toList.take k)).length : Int) - 1) = (((cutDot (s.data.toList.take k)).length - 1 : Nat) : Int) := by rw [wrap_fit (by omega) (by omega)]; omega
      refine ix (hij := hw1) ?_
      have hcell := hat _ (.string (ofL p)) (by rw [List.getElem?_map, hp]; rfl)
      refine ld (v := .string (ofL p)) ?_ ?_
      · rw [Nat.mul_one]; exact hcell
      refine sls k (k + 1) ?_ (h2 := by exact ⟨_, inc hlt⟩)
      rw [extract_one hlt]
      have hpl := cutDot_mem (List.mem_of_getElem? hp)
      refine cat ?_ (hab := by rw [ofL_size, ofL_size]; simp; omega)
      rw [ofL_append]
      refine ix (hij := hw1) ?_
      refine stx hbx (fun w4 h4 hb4 => ?_)
      have hO4 := hO3.set hbx (v := .string (ofL (p ++ [sget s k]))) hb4
      refine again (ih _ _ _ _ ?_ ⟨rfl, trivial⟩ rfl ⟨k + 1, _, cap, rfl, by omega, lst2 (vsl ?_) (inc hlt), ?_, Below.trans (Bl.trans hB h3.bl) (h4.below hg0)⟩)
      · omega
      · rw [e, onLast_length]
      · rw [e, onLast_length, onLast_set _ _ p hp, List.map_set]
        rw [Nat.zero_add, Nat.mul_one] at hO4; exact hO4
  · refine brF ?_
    obtain rfl : k = s.size := by omega
    have e : s.data.toList.take s.size = s.data.toList := List.take_of_length_le (by rw [ba_len]; omega)
    rw [e] at hO hn ⊢
    rw [ba_len] at hn
    refine rt1 ⟨a, cap, by rw [partsB_length], ?_, hB⟩
    have hO' : Ow w2 w.heap.size 9 1 a (cutDot s.data.toList).length cap ((partsB s).map Value.string) := by unfold partsB; rw [List.map_map]; exact hO
    exact hO'.strs (by rw [partsB_length]) (by rw [partsB_length]; omega) (fun _ _ => trivial)
theorem r_Path (s : ByteArray) (w : World) (hs : s.size ≤ 1048576) : Ret Tryz.prog 17 #[.string s] w fun v w' => v = I (path s) ∧ Bl w w' := by
  refine entr (vs := [.string s]) [0, 2, 3, 4, 7, 12, 16, 24] tabok Tryz.func17 (by kernel_rfl) ?_
  by_cases h38 : 38 < s.size
  · refine brT ?_
    exact rt1 ⟨by rw [path_long h38], Bl.refl _⟩
  refine brF ?_
  refine cl (r_Parts s w hs) ?_
  rintro _ w1 ⟨a, cap, rfl, hS, hB⟩
  by_cases h3 : 3 < (partsB s).length
  · refine brT ?_
    exact rt1 ⟨by rw [path_parts, if_neg (by omega)], hB⟩
  refine brF ?_
  refine lp [4] [(3, .slice a (partsB s).length cap)] (fun m vals w' => ∃ k : Nat, m = (partsB s).length - k ∧ k ≤ (partsB s).length ∧ vals = [I k] ∧ ((partsB s).take k).all simple = true ∧ w' = w1) ⟨rfl, trivial⟩ ⟨0, rfl, Nat.zero_le _, rfl, rfl, rfl⟩ ?_
  rintro m vals _ ⟨k, rfl, hk, rfl, ha, rfl⟩ ih
  by_cases hlt : k < (partsB s).length
  · refine brT ?_
    obtain ⟨p, b2, o2, _, hp, rfl, _, hAt, rfl⟩ := at_some hS hlt
    refine ix ?_
    refine ld (hAt 0 _ rfl) ?_
    have hps : p.size ≤ 1048576 := by have := partsB_mem (List.mem_of_getElem? hp); omega
    refine cl (r_Simple p _ hps) ?_
    rintro _ _ ⟨rfl, rfl⟩
    refine br (fun h => ?_) (fun h => ?_)
    · refine rt1 ⟨?_, hB⟩
      rw [path_parts, if_neg]
      · rfl
      rintro ⟨_, h2⟩
      have := List.all_eq_true.1 h2 p (List.mem_of_getElem? hp)
      rw [this] at h; cases h
    · refine again (ih _ _ _ _ (by omega) ⟨rfl, trivial⟩ rfl ⟨k + 1, rfl, by omega, lst1 (inc hlt), ?_, rfl⟩)
      rw [take_succ_some hp, List.all_append, ha]; simpa using h
  · refine brF ?_
    refine rt1 ⟨?_, hB⟩
    rw [List.take_of_length_le (by omega)] at ha
    rw [path_parts, if_pos ⟨by omega, ha⟩]
end Go.Proofs.YtopjmiklpnejmaaGreatDoor

/- slices.IndexFunc and slices.ContainsFunc with a function that only makes new blocks. Printed by wip/tools/mkidx.py. -/
namespace Go.Proofs.YtopjmiklpnejmaaGreatDoor
open Eng Go.RowKit
/-- the cells of an element as one value -/
def asV (cs : List Value) : Value := match cs with
  | [v] => v
  | _ => .agg cs.toArray
theorem any_snoc {α : Type} {p : α → Bool} {l : List α} {k : Nat} {x : α} (hx : l[k]? = some x) (h : (l.take k).any p = false) (h2 : p x = false) : (l.take (k + 1)).any p = false := by
  rw [take_succ_some hx, List.any_append, h]; simp [h2]
theorem any_end {α : Type} {p : α → Bool} {l : List α} (h : (l.take l.length).any p = false) : l.any p = false := by rwa [List.take_length] at h
theorem any_hit {α : Type} {p : α → Bool} {l : List α} {k : Nat} {x : α} (hx : l[k]? = some x) (h : p x = true) : l.any p = true := List.any_eq_true.2 ⟨x, List.mem_of_getElem? hx, h⟩
theorem IndexFunc_str (l : List ByteArray) (a : Option Addr) (cap : Nat) (g : FuncId) (caps : List Value) (p : ByteArray → Bool) (S : Nat → Prop) (w : World) (hS : Sl eStr S w a l)
    (hp : ∀ x cs, x ∈ l → ∀ w', Bl w w' → (eStr).rel S w' cs x → Ret Tryz.prog g ([asV cs] ++ caps).toArray w' fun v w'' => v = .bool (p x) ∧ Bl w' w'') :
    Ret Tryz.prog 117 #[.slice a l.length cap, .func (.func g) #[] caps.toArray] w fun v w' => (∃ i : Int, v = I i ∧ decide (i ≥ 0) = l.any p) ∧ Bl w w' := by
  refine entr (vs := [.slice a l.length cap, .func (.func g) #[] caps.toArray]) [0, 1, 4, 5, 7, 8, 9, 16] tabok Tryz.func117 (by kernel_rfl) ?_
  have hbig := hS.big
  refine lp [8] [(0, .slice a l.length cap), (1, .func (.func g) #[] caps.toArray), (7, I l.length)] (fun m vals w' => ∃ k : Nat, m = l.length - k ∧ k ≤ l.length ∧ vals = [I k] ∧ (l.take k).any p = false ∧ Bl w w') ⟨rfl, rfl, rfl, trivial⟩ ⟨0, rfl, Nat.zero_le _, rfl, rfl, Bl.refl _⟩ ?_
  rintro m vals w1 ⟨k, rfl, hk, rfl, ha, hB⟩ ih
  by_cases hlt : k < l.length
  · refine brT ?_
    obtain ⟨x, b, o, cs, hx, rfl, hSb, hAt, rfl⟩ := at_some (hS.bl hB) hlt
    refine ix ?_
    refine ld (hAt 0 _ rfl) ?_
    refine cl (hp x _ (List.mem_of_getElem? hx) _ hB rfl) ?_
    rintro _ w2 ⟨rfl, hB2⟩
    refine br (fun h => ?_) (fun h => ?_)
    · exact rt1 ⟨⟨k, rfl, by rw [any_hit hx h]; simp⟩, hB.trans hB2⟩
    · refine again (ih _ _ _ _ (by omega) ⟨rfl, rfl, rfl, trivial⟩ rfl ⟨k + 1, rfl, by omega, lst1 (inc hlt), any_snoc hx ha h, hB.trans hB2⟩)
  · refine brF ?_
    obtain rfl : k = l.length := by omega
    exact rt1 ⟨⟨-1, rfl, by rw [any_end ha]; rfl⟩, hB⟩
theorem ContainsFunc_str (l : List ByteArray) (a : Option Addr) (cap : Nat) (g : FuncId) (caps : List Value) (p : ByteArray → Bool) (S : Nat → Prop) (w : World) (hS : Sl eStr S w a l)
    (hp : ∀ x cs, x ∈ l → ∀ w', Bl w w' → (eStr).rel S w' cs x → Ret Tryz.prog g ([asV cs] ++ caps).toArray w' fun v w'' => v = .bool (p x) ∧ Bl w' w'') :
    Ret Tryz.prog 47 #[.slice a l.length cap, .func (.func g) #[] caps.toArray] w fun v w' => v = .bool (l.any p) ∧ Bl w w' := by
  refine entr (vs := [.slice a l.length cap, .func (.func g) #[] caps.toArray]) [0, 1, 4] tabok Tryz.func47 (by kernel_rfl) ?_
  refine cl (IndexFunc_str l a cap g caps p S w hS hp) ?_
  rintro _ w1 ⟨⟨i, rfl, hi⟩, hB⟩
  exact rt1 ⟨vb hi, hB⟩
theorem IndexFunc_cls (l : List Cls) (a : Option Addr) (cap : Nat) (g : FuncId) (caps : List Value) (p : Cls → Bool) (S : Nat → Prop) (w : World) (hS : Sl eCls S w a l)
    (hp : ∀ x cs, x ∈ l → ∀ w', Bl w w' → (eCls).rel S w' cs x → Ret Tryz.prog g ([asV cs] ++ caps).toArray w' fun v w'' => v = .bool (p x) ∧ Bl w' w'') :
    Ret Tryz.prog 171 #[.slice a l.length cap, .func (.func g) #[] caps.toArray] w fun v w' => (∃ i : Int, v = I i ∧ decide (i ≥ 0) = l.any p) ∧ Bl w w' := by
  refine entr (vs := [.slice a l.length cap, .func (.func g) #[] caps.toArray]) [0, 1, 4, 5, 7, 8, 9, 16] tabok Tryz.func171 (by kernel_rfl) ?_
  have hbig := hS.big
  refine lp [8] [(0, .slice a l.length cap), (1, .func (.func g) #[] caps.toArray), (7, I l.length)] (fun m vals w' => ∃ k : Nat, m = l.length - k ∧ k ≤ l.length ∧ vals = [I k] ∧ (l.take k).any p = false ∧ Bl w w') ⟨rfl, rfl, rfl, trivial⟩ ⟨0, rfl, Nat.zero_le _, rfl, rfl, Bl.refl _⟩ ?_
  rintro m vals w1 ⟨k, rfl, hk, rfl, ha, hB⟩ ih
  by_cases hlt : k < l.length
  · refine brT ?_
    obtain ⟨x, b, o, cs, hx, rfl, hSb, hAt, af, cf, rfl, hF⟩ := at_some (hS.bl hB) hlt
    refine ix ?_
    refine lda hAt ?_
    refine cl (hp x _ (List.mem_of_getElem? hx) _ hB ⟨af, cf, rfl, hF⟩) ?_
    rintro _ w2 ⟨rfl, hB2⟩
    refine br (fun h => ?_) (fun h => ?_)
    · exact rt1 ⟨⟨k, rfl, by rw [any_hit hx h]; simp⟩, hB.trans hB2⟩
    · refine again (ih _ _ _ _ (by omega) ⟨rfl, rfl, rfl, trivial⟩ rfl ⟨k + 1, rfl, by omega, lst1 (inc hlt), any_snoc hx ha h, hB.trans hB2⟩)
  · refine brF ?_
    obtain rfl : k = l.length := by omega
    exact rt1 ⟨⟨-1, rfl, by rw [any_end ha]; rfl⟩, hB⟩
theorem ContainsFunc_cls (l : List Cls) (a : Option Addr) (cap : Nat) (g : FuncId) (caps : List Value) (p : Cls → Bool) (S : Nat → Prop) (w : World) (hS : Sl eCls S w a l)
    (hp : ∀ x cs, x ∈ l → ∀ w', Bl w w' → (eCls).rel S w' cs x → Ret Tryz.prog g ([asV cs] ++ caps).toArray w' fun v w'' => v = .bool (p x) ∧ Bl w' w'') :
    Ret Tryz.prog 120 #[.slice a l.length cap, .func (.func g) #[] caps.toArray] w fun v w' => v = .bool (l.any p) ∧ Bl w w' := by
  refine entr (vs := [.slice a l.length cap, .func (.func g) #[] caps.toArray]) [0, 1, 4] tabok Tryz.func120 (by kernel_rfl) ?_
  refine cl (IndexFunc_cls l a cap g caps p S w hS hp) ?_
  rintro _ w1 ⟨⟨i, rfl, hi⟩, hB⟩
  exact rt1 ⟨vb hi, hB⟩
theorem IndexFunc_mth (l : List Mth) (a : Option Addr) (cap : Nat) (g : FuncId) (caps : List Value) (p : Mth → Bool) (S : Nat → Prop) (w : World) (hS : Sl eMth S w a l)
    (hp : ∀ x cs, x ∈ l → ∀ w', Bl w w' → (eMth).rel S w' cs x → Ret Tryz.prog g ([asV cs] ++ caps).toArray w' fun v w'' => v = .bool (p x) ∧ Bl w' w'') :
    Ret Tryz.prog 172 #[.slice a l.length cap, .func (.func g) #[] caps.toArray] w fun v w' => (∃ i : Int, v = I i ∧ decide (i ≥ 0) = l.any p) ∧ Bl w w' := by
  refine entr (vs := [.slice a l.length cap, .func (.func g) #[] caps.toArray]) [0, 1, 4, 5, 7, 8, 9, 16] tabok Tryz.func172 (by kernel_rfl) ?_
  have hbig := hS.big
  refine lp [8] [(0, .slice a l.length cap), (1, .func (.func g) #[] caps.toArray), (7, I l.length)] (fun m vals w' => ∃ k : Nat, m = l.length - k ∧ k ≤ l.length ∧ vals = [I k] ∧ (l.take k).any p = false ∧ Bl w w') ⟨rfl, rfl, rfl, trivial⟩ ⟨0, rfl, Nat.zero_le _, rfl, rfl, Bl.refl _⟩ ?_
  rintro m vals w1 ⟨k, rfl, hk, rfl, ha, hB⟩ ih
  by_cases hlt : k < l.length
  · refine brT ?_
    obtain ⟨x, b, o, cs, hx, rfl, hSb, hAt, a1, c1, a2, c2, a3, c3, rfl, hF⟩ := at_some (hS.bl hB) hlt
    refine ix ?_
    refine lda hAt ?_
    refine cl (hp x _ (List.mem_of_getElem? hx) _ hB ⟨a1, c1, a2, c2, a3, c3, rfl, hF⟩) ?_
    rintro _ w2 ⟨rfl, hB2⟩
    refine br (fun h => ?_) (fun h => ?_)
    · exact rt1 ⟨⟨k, rfl, by rw [any_hit hx h]; simp⟩, hB.trans hB2⟩
    · refine again (ih _ _ _ _ (by omega) ⟨rfl, rfl, rfl, trivial⟩ rfl ⟨k + 1, rfl, by omega, lst1 (inc hlt), any_snoc hx ha h, hB.trans hB2⟩)
  · refine brF ?_
    obtain rfl : k = l.length := by omega
    exact rt1 ⟨⟨-1, rfl, by rw [any_end ha]; rfl⟩, hB⟩
theorem ContainsFunc_mth (l : List Mth) (a : Option Addr) (cap : Nat) (g : FuncId) (caps : List Value) (p : Mth → Bool) (S : Nat → Prop) (w : World) (hS : Sl eMth S w a l)
    (hp : ∀ x cs, x ∈ l → ∀ w', Bl w w' → (eMth).rel S w' cs x → Ret Tryz.prog g ([asV cs] ++ caps).toArray w' fun v w'' => v = .bool (p x) ∧ Bl w' w'') :
    Ret Tryz.prog 121 #[.slice a l.length cap, .func (.func g) #[] caps.toArray] w fun v w' => v = .bool (l.any p) ∧ Bl w w' := by
  refine entr (vs := [.slice a l.length cap, .func (.func g) #[] caps.toArray]) [0, 1, 4] tabok Tryz.func121 (by kernel_rfl) ?_
  refine cl (IndexFunc_mth l a cap g caps p S w hS hp) ?_
  rintro _ w1 ⟨⟨i, rfl, hi⟩, hB⟩
  exact rt1 ⟨vb hi, hB⟩
theorem IndexFunc_ins (l : List Ins) (a : Option Addr) (cap : Nat) (g : FuncId) (caps : List Value) (p : Ins → Bool) (S : Nat → Prop) (w : World) (hS : Sl eIns S w a l)
    (hp : ∀ x cs, x ∈ l → ∀ w', Bl w w' → (eIns).rel S w' cs x → Ret Tryz.prog g ([asV cs] ++ caps).toArray w' fun v w'' => v = .bool (p x) ∧ Bl w' w'') :
    Ret Tryz.prog 174 #[.slice a l.length cap, .func (.func g) #[] caps.toArray] w fun v w' => (∃ i : Int, v = I i ∧ decide (i ≥ 0) = l.any p) ∧ Bl w w' := by
  refine entr (vs := [.slice a l.length cap, .func (.func g) #[] caps.toArray]) [0, 1, 4, 5, 7, 8, 9, 16] tabok Tryz.func174 (by kernel_rfl) ?_
  have hbig := hS.big
  refine lp [8] [(0, .slice a l.length cap), (1, .func (.func g) #[] caps.toArray), (7, I l.length)] (fun m vals w' => ∃ k : Nat, m = l.length - k ∧ k ≤ l.length ∧ vals = [I k] ∧ (l.take k).any p = false ∧ Bl w w') ⟨rfl, rfl, rfl, trivial⟩ ⟨0, rfl, Nat.zero_le _, rfl, rfl, Bl.refl _⟩ ?_
  rintro m vals w1 ⟨k, rfl, hk, rfl, ha, hB⟩ ih
  by_cases hlt : k < l.length
  · refine brT ?_
    obtain ⟨x, b, o, cs, hx, rfl, hSb, hAt, rfl⟩ := at_some (hS.bl hB) hlt
    refine ix ?_
    refine lda hAt ?_
    refine cl (hp x _ (List.mem_of_getElem? hx) _ hB rfl) ?_
    rintro _ w2 ⟨rfl, hB2⟩
    refine br (fun h => ?_) (fun h => ?_)
    · exact rt1 ⟨⟨k, rfl, by rw [any_hit hx h]; simp⟩, hB.trans hB2⟩
    · refine again (ih _ _ _ _ (by omega) ⟨rfl, rfl, rfl, trivial⟩ rfl ⟨k + 1, rfl, by omega, lst1 (inc hlt), any_snoc hx ha h, hB.trans hB2⟩)
  · refine brF ?_
    obtain rfl : k = l.length := by omega
    exact rt1 ⟨⟨-1, rfl, by rw [any_end ha]; rfl⟩, hB⟩
theorem ContainsFunc_ins (l : List Ins) (a : Option Addr) (cap : Nat) (g : FuncId) (caps : List Value) (p : Ins → Bool) (S : Nat → Prop) (w : World) (hS : Sl eIns S w a l)
    (hp : ∀ x cs, x ∈ l → ∀ w', Bl w w' → (eIns).rel S w' cs x → Ret Tryz.prog g ([asV cs] ++ caps).toArray w' fun v w'' => v = .bool (p x) ∧ Bl w' w'') :
    Ret Tryz.prog 127 #[.slice a l.length cap, .func (.func g) #[] caps.toArray] w fun v w' => v = .bool (l.any p) ∧ Bl w w' := by
  refine entr (vs := [.slice a l.length cap, .func (.func g) #[] caps.toArray]) [0, 1, 4] tabok Tryz.func127 (by kernel_rfl) ?_
  refine cl (IndexFunc_ins l a cap g caps p S w hS hp) ?_
  rintro _ w1 ⟨⟨i, rfl, hi⟩, hB⟩
  exact rt1 ⟨vb hi, hB⟩
end Go.Proofs.YtopjmiklpnejmaaGreatDoor

/- Walks: the program's matching of brackets, and its Check of code. -/
namespace Go.Proofs.YtopjmiklpnejmaaGreatDoor
open Eng Go.RowKit
/-- blocks that hold just these cells -/
def Has (w : World) (hs : List (Nat × TypeId × List Value)) : Prop := ∀ (i b : Nat) (t : TypeId) (cs : List Value), hs[i]? = some (b, t, cs) → Box w b t cs
theorem Has.bl {w w' : World} {hs : List (Nat × TypeId × List Value)} (h : Has w hs) (k : Bl w w') : Has w' hs := fun i b t cs hi => Bl.box k (h i b t cs hi)
theorem Has.wr {w w' : World} {hs : List (Nat × TypeId × List Value)} (h : Has w hs) (nd : (hs.map (·.1)).Nodup) (i : Nat) {b : Nat} {t : TypeId} {cs cs' : List Value} (hi : hs[i]? = some (b, t, cs)) (hW : Wr w b w') (hb : Box w' b t cs') : Has w' (hs.set i (b, t, cs')) := by
  intro j b' t' c' hj
  by_cases hij : i = j
  · subst hij
    have hl : i < hs.length := (List.getElem?_eq_some_iff.1 hi).1
    rw [List.getElem?_set_self hl] at hj
    simp only [Option.some.injEq, Prod.mk.injEq] at hj
    obtain ⟨rfl, rfl, rfl⟩ := hj; exact hb
  · rw [List.getElem?_set_ne hij] at hj
    refine hW.box (h j b' t' c' hj) fun e => hij ?_
    subst e
    have h1 : (hs.map (·.1))[i]? = some b' := by rw [List.getElem?_map, hi]; rfl
    have h2 : (hs.map (·.1))[j]? = some b' := by rw [List.getElem?_map, hj]; rfl
    obtain ⟨l1, e1⟩ := List.getElem?_eq_some_iff.1 h1
    obtain ⟨l2, e2⟩ := List.getElem?_eq_some_iff.1 h2
    have hp := List.pairwise_iff_getElem.1 nd
    rcases Nat.lt_trichotomy i j with h3 | h3 | h3
    · exact absurd (e1.trans e2.symm) (hp i j l1 l2 h3)
    · exact h3
    · exact absurd (e2.trans e1.symm) (hp j i l2 l1 h3)
theorem Has.ap {w w' : World} {hs : List (Nat × TypeId × List Value)} (h : Has w hs) {a : Option Addr} (k : Ap w a w') (ha : ∀ (i b : Nat) (t : TypeId) (cs : List Value), hs[i]? = some (b, t, cs) → a ≠ some ⟨b, 0, none⟩) : Has w' hs := fun i b t cs hi => k.box (h i b t cs hi) (ha i b t cs hi)
theorem Has.oth {w w' : World} {hs : List (Nat × TypeId × List Value)} (h : Has w hs) {b : Nat} (k : Wr w b w') (hb : b ∉ hs.map (·.1)) : Has w' hs := fun i b' t cs hi => k.box (h i b' t cs hi) fun e => hb (by
  subst e; exact List.mem_map.2 ⟨_, List.mem_of_getElem? hi, rfl⟩)
theorem Has.lt {w : World} {hs : List (Nat × TypeId × List Value)} (h : Has w hs) {i b : Nat} {t : TypeId} {cs : List Value} (hi : hs[i]? = some (b, t, cs)) : b < w.heap.size := (h i b t cs hi).lt
abbrev encNat : Nat → List Value := fun i => [I (i : Int)]
theorem owp_cell {w : World} {base e g cap : Nat} {l : List Nat} (hO : OwP 1 encNat w base e (some ⟨g, 0, none⟩) cap l) {j x : Nat} (hx : l[j]? = some x) : w.cell? ⟨g, j, none⟩ = some (I (x : Int)) := by
  have := flat_get (sz := 1) (enc := encNat) (fun _ => rfl) hx 0 (by decide)
  have h2 := hO.at rfl (j * 1 + 0) (I x) (by rw [this]; rfl)
  simpa using h2
/-- the first elements of an own row -/
theorem Eng.Ow.cut {w : World} {base e esz n cap : Nat} {a : Option Addr} {xs : List Value} (h : Ow w base e esz a n cap xs) {m : Nat} (hm : m ≤ n) : Ow w base e esz a m cap (xs.take (m * esz)) := by
  obtain ⟨h1, h2⟩ := h.own
  have hl : (xs.take (m * esz)).length = m * esz := by rw [List.length_take, h1]; exact Nat.min_eq_left (Nat.mul_le_mul_right _ hm)
  refine ⟨⟨hl, ?_⟩⟩
  rcases h2 with ⟨h2, h3⟩ | ⟨g, cap', cur, h2, h3, h4, h5, h6, h7, h8⟩
  · simp only [Value.slice.injEq] at h2
    obtain ⟨rfl, rfl, rfl⟩ := h2
    have : m = 0 := by omega
    subst this
    exact .inl ⟨rfl, by simp⟩
  · simp only [Value.slice.injEq] at h2
    obtain ⟨rfl, -, rfl⟩ := h2
    exact .inr ⟨g, cap, cur, rfl, h3, h4, by omega, h6, h7, by rw [← h8, List.take_take, Nat.min_eq_left (Nat.mul_le_mul_right _ hm)]⟩
theorem owp_pop {w : World} {base e cap : Nat} {a : Option Addr} {l : List Nat} {x : Nat} (h : OwP 1 encNat w base e a cap (l ++ [x])) : OwP 1 encNat w base e a cap l := by
  have := Eng.Ow.cut h (m := l.length) (by simp)
  have e1 : ((l ++ [x]).flatMap encNat).take (l.length * 1) = l.flatMap encNat := by
    rw [List.flatMap_append, List.take_append_of_le_length (by rw [flat_length (sz := 1) (fun _ => rfl)]; exact Nat.le_refl _), List.take_of_length_le (by rw [flat_length (sz := 1) (fun _ => rfl)]; exact Nat.le_refl _)]
  rw [e1] at this; exact this
theorem rep_ints (n : Nat) : rep n [I 0] = (List.replicate n (0 : Int)).map I := by
  induction n with
  | zero => rfl
  | succ n ih => rw [rep, ih, List.replicate_succ']; simp
theorem runB_app : ∀ (c c' : List Int) (s : List (Int × Bool)) (d : Nat), runB (c ++ c') s d = (match runB c s d with
  | some (s', d') => runB c' s' d'
  | none => none)
  | [], c', s, d => rfl
  | op :: c, c', s, d => by
    simp only [List.cons_append, runB]
    cases stepB s d op with
    | none => rfl
    | some sd => exact runB_app c c' sd.1 sd.2
theorem runB_step {c : List Int} {k : Nat} {op : Int} (hk : c[k]? = some op) {s : List (Int × Bool)} {d : Nat} (h : runB (c.take k) [] 0 = some (s, d)) : runB (c.take (k + 1)) [] 0 = stepB s d op := by
  rw [take_succ_some hk, runB_app, h]
  simp only [runB]
  cases stepB s d op with
  | none => rfl
  | some sd => rfl
theorem okB_fail {c : List Int} {k : Nat} (h : runB (c.take k) [] 0 = none) : okB c = false := by
  have : runB c [] 0 = none := by
    rw [← List.take_append_drop k c, runB_app, h]
  unfold okB; rw [this]
/-- the stack as the program keeps it: indexes, and a row of else's -/
def stk (c : List Int) (E : List Int) (idx : List Nat) : List (Int × Bool) := idx.reverse.map fun o => (c.getD o 0, decide (0 ≤ E.getD o (-1)))
theorem stk_push (c E : List Int) (idx : List Nat) (o : Nat) : stk c E (idx ++ [o]) = (c.getD o 0, decide (0 ≤ E.getD o (-1))) :: stk c E idx := by simp [stk]
theorem stk_set {c E : List Int} {idx : List Nat} {k : Nat} {v : Int} (h : k ∉ idx) : stk c (E.set k v) idx = stk c E idx := by
  unfold stk
  apply List.map_congr_left
  intro o ho
  have : k ≠ o := fun e => h (by rw [e]; exact List.mem_reverse.1 ho)
  rw [List.getD_eq_getElem?_getD (l := E.set k v), List.getElem?_set_ne this, ← List.getD_eq_getElem?_getD]
theorem stk_length (c E : List Int) (idx : List Nat) : (stk c E idx).length = idx.length := by simp [stk]
theorem set_getD {E : List Int} {k : Nat} {v : Int} (h : k < E.length) : (E.set k v).getD k (-1) = v := by rw [List.getD_eq_getElem?_getD, List.getElem?_set_self h]; rfl
theorem stepB_open {op : Int} {s : List (Int × Bool)} {d : Nat} (h : opensB op = true) : stepB s d op = some ((op, false) :: s, max d (s.length + 1)) := by simp [stepB, h]
theorem stepB_plain {op : Int} {s : List (Int × Bool)} {d : Nat} (h1 : opensB op = false) (h2 : op ≠ 34) (h3 : op ≠ 35) : stepB s d op = some (s, d) := by simp [stepB, h1, h2, h3]
theorem stepB_else {o : Int} {e : Bool} {s : List (Int × Bool)} {d : Nat} : stepB ((o, e) :: s) d 34 = if e = false ∧ (o = 29 ∨ o = 33) then some ((o, true) :: s, d) else none := by
  cases e
  · by_cases h : o = 29 ∨ o = 33 <;> simp [stepB, opensB, h]
  · simp [stepB, opensB]
theorem stepB_end {o : Int} {e : Bool} {s : List (Int × Bool)} {d : Nat} : stepB ((o, e) :: s) d 35 = if o = 33 ∧ e = false then none else some (s, d) := by simp [stepB, opensB]
theorem stepB_top {op : Int} {d : Nat} (h : op = 34 ∨ op = 35) : stepB [] d op = none := by rcases h with rfl | rfl <;> simp [stepB, opensB]
end Go.Proofs.YtopjmiklpnejmaaGreatDoor
/- Walks: the program's matching of brackets. -/
namespace Go.Proofs.YtopjmiklpnejmaaGreatDoor
open Eng Go.RowKit
abbrev slv (b n : Nat) : Value := .slice (some ⟨b, 0, none⟩) n n
def shRows (b1 b3 b5 b7 b4 b2 n : Nat) (cO cN cD : List Value) (E : List Int) (D : Nat) : List (Nat × TypeId × List Value) :=
  [(b1, 3, cO), (b3, 3, E.map I), (b5, 3, cN), (b7, 3, cD), (b4, 151, [slv b1 n, slv b3 n, slv b5 n, slv b7 n, I D, .bool true]), (b2, 151, [.slice none 0 0, .slice none 0 0, .slice none 0 0, .slice none 0 0, I 0, .bool false])]
structure ShI (c : List Int) (n b1 b3 b5 b7 b4 b2 B : Nat) (w0 : World) (k : Nat) (a : Option Addr) (cap : Nat) (idx : List Nat) (cO cN cD : List Value) (E : List Int) (D : Nat) (w : World) : Prop where
  own : OwP 1 encNat w B 3 a cap idx
  has : Has w (shRows b1 b3 b5 b7 b4 b2 n cO cN cD E D)
  lO : cO.length = n
  lN : cN.length = n
  lD : cD.length = n
  lE : E.length = n
  lt : ∀ o ∈ idx, o < k
  nd : idx.Nodup
  len : idx.length ≤ k
  run : runB (c.take k) [] 0 = some (stk c E idx, D)
  db : D ≤ k
  bl : Bl w0 w
  sz : B ≤ w.heap.size
theorem cut_addr {a : Option Addr} {n cap esz base : Nat} {xs : List Value} {w : World} {e : Nat} (h : (a = none ∧ n = 0 ∧ cap = 0 ∧ xs = []) ∨ ∃ g cur, a = some ⟨g, 0, none⟩ ∧ base ≤ g ∧ w.heap[g]? = some (.cells cur e (0, 0)) ∧ n ≤ cap ∧ cur.size = cap * esz ∧ cur.toList.take (n * esz) = xs) : a.map (·.add (0 * 1)) = a := by
  rcases h with ⟨rfl, _⟩ | ⟨g, _, rfl, _⟩ <;> rfl
theorem v_Opens (op : Int) (w : World) : Ret Tryz.prog 177 #[I op] w fun v w' => v = .bool (opensB op) ∧ w' = w := by
  refine entr (vs := [I op]) [0, 2] tabok Tryz.func177 (by kernel_rfl) ?_
  refine rt1 ⟨vb ?_, rfl⟩
  unfold opensB
  rw [Bool.eq_iff_iff]
  simp only [Bool.or_eq_true, Bool.and_eq_true, decide_eq_true_eq]
  omega
set_option maxHeartbeats 1000000 in
theorem u_shapeOf (l : List Ins) (a0 : Option Addr) (cap0 : Nat) (S : Nat → Prop) (w : World) (hS : Sl eIns S w a0 l) : Ret Tryz.prog 130 #[.slice a0 l.length cap0] w fun v w' => (∃ c0 c1 c2 c3 c4, v = .agg #[c0, c1, c2, c3, c4, .bool (okB (l.map (·.op)))]) ∧ Bl w w' := by
  have hbig := hS.big
  refine entr (vs := [.slice a0 l.length cap0]) [0, 2, 3, 4, 5, 6, 7, 8, 9, 21, 22, 23, 24, 48, 59, 73, 84, 115, 125, 146] tabok Tryz.func130 (by kernel_rfl) ?_
  refine al fun b2 w1 h1 => ?_
  refine dpar [Pr.cst 12 (I l.length), Pr.box 13 (fun b => slv b l.length) 3 (rep l.length [I 0]), Pr.cst 14 (I l.length), Pr.box 15 (fun b => slv b l.length) 3 (rep l.length [I 0]), Pr.cst 16 (I l.length), Pr.box 17 (fun b => slv b l.length) 3 (rep l.length [I 0]), Pr.cst 18 (I l.length), Pr.box 19 (fun b => slv b l.length) 3 (rep l.length [I 0]),
    Pr.fn 20 [13, 15, 17, 19] (fun vs => .agg (vs ++ [I 0, .bool true]).toArray), Pr.box 4 (fun b => .pointer (some ⟨b, 0, none⟩)) 151 [.slice none 0 0, .slice none 0 0, .slice none 0 0, .slice none 0 0, I 0, .bool false]] (fun _ => False) [10] rfl ?_ ?_ ?_
  · refine ⟨?_, ?_, ?_, ?_, ?_, ?_, ?_, ?_, ?_, ?_, trivial⟩ <;> intro d hd <;> cases hd <;> first | exact Pr.cst_ok _ _ | exact Pr.box_ok _ _ _ _ (fun _ => rfl) | exact Pr.fn_ok _ _ _
  · intro hT w2 h2
    refine ⟨so_move rfl, so_mk hT (fun a w _ hD => hD ⟨0, .data⟩ (by simp) rfl _ rfl) (fun a w _ hD => hD ⟨0, .data⟩ (by simp) rfl _ rfl), so_move rfl, so_mk hT (fun a w _ hD => hD ⟨2, .data⟩ (by simp) rfl _ rfl) (fun a w _ hD => hD ⟨2, .data⟩ (by simp) rfl _ rfl),
      so_move rfl, so_mk hT (fun a w _ hD => hD ⟨4, .data⟩ (by simp) rfl _ rfl) (fun a w _ hD => hD ⟨4, .data⟩ (by simp) rfl _ rfl), so_move rfl, so_mk hT (fun a w _ hD => hD ⟨6, .data⟩ (by simp) rfl _ rfl) (fun a w _ hD => hD ⟨6, .data⟩ (by simp) rfl _ rfl), ?_, so_al hT, trivial⟩
    intro a w' _ _ hD
    obtain ⟨c1, e1, _⟩ := hD ⟨1, .data⟩ (by simp) rfl _ rfl
    obtain ⟨c3, e3, _⟩ := hD ⟨3, .data⟩ (by simp) rfl _ rfl
    obtain ⟨c5, e5, _⟩ := hD ⟨5, .data⟩ (by simp) rfl _ rfl
    obtain ⟨c7, e7, _⟩ := hD ⟨7, .data⟩ (by simp) rfl _ rfl
    refine ⟨.agg #[slv c1 l.length, slv c3 l.length, slv c5 l.length, slv c7 l.length, I 0, .bool true], w', exec_build (pv := [(0, slv c1 l.length), (1, slv c3 l.length), (2, slv c5 l.length), (3, slv c7 l.length), (4, I 0), (5, .bool true)]) rfl (tab_at hT rfl) ?_ rfl, fun d hd g hg hgd => ?_, Bl.refl _, fun h => by cases h⟩
    · show [(0, valsOf a 13), (1, valsOf a 15), (2, valsOf a 17), (3, valsOf a 19), (4, I 0), (5, .bool true)] = _
      rw [e1, e3, e5, e7]
    · cases hd
      show g 20 = .agg ([g 13, g 15, g 17, g 19] ++ [I 0, .bool true]).toArray
      rw [hgd, hg 13 (by decide), hg 15 (by decide), hg 17 (by decide), hg 19 (by decide), e1, e3, e5, e7]; rfl
  intro w2 w3 g h2 hB3 hsp hge hdist
  obtain ⟨b1, e13, x1⟩ := hsp 1 _ rfl
  obtain ⟨b3, e15, x3⟩ := hsp 3 _ rfl
  obtain ⟨b5, e17, x5⟩ := hsp 5 _ rfl
  obtain ⟨b7, e19, x7⟩ := hsp 7 _ rfl
  obtain ⟨b4, e4, x4⟩ := hsp 9 _ rfl
  have e20 : g 20 = .agg #[slv b1 l.length, slv b3 l.length, slv b5 l.length, slv b7 l.length, I 0, .bool true] := by
    have : g 20 = .agg ([g 13, g 15, g 17, g 19] ++ [I 0, .bool true]).toArray := hsp 8 _ rfl
    rw [this, e13, e15, e17, e19]; rfl
  have f1 : fpV (g 13) = some b1 := by rw [e13]; rfl
  have f3 : fpV (g 15) = some b3 := by rw [e15]; rfl
  have f5 : fpV (g 17) = some b5 := by rw [e17]; rfl
  have f7 : fpV (g 19) = some b7 := by rw [e19]; rfl
  have f4 : fpV (g 4) = some b4 := by rw [e4]; rfl
  have d13 := hdist 1 3 _ _ _ _ 13 15 b1 b3 (by decide) rfl rfl rfl rfl rfl rfl rfl rfl f1 f3
  have d15 := hdist 1 5 _ _ _ _ 13 17 b1 b5 (by decide) rfl rfl rfl rfl rfl rfl rfl rfl f1 f5
  have d17 := hdist 1 7 _ _ _ _ 13 19 b1 b7 (by decide) rfl rfl rfl rfl rfl rfl rfl rfl f1 f7
  have d14 := hdist 1 9 _ _ _ _ 13 4 b1 b4 (by decide) rfl rfl rfl rfl rfl rfl rfl rfl f1 f4
  have d35 := hdist 3 5 _ _ _ _ 15 17 b3 b5 (by decide) rfl rfl rfl rfl rfl rfl rfl rfl f3 f5
  have d37 := hdist 3 7 _ _ _ _ 15 19 b3 b7 (by decide) rfl rfl rfl rfl rfl rfl rfl rfl f3 f7
  have d34 := hdist 3 9 _ _ _ _ 15 4 b3 b4 (by decide) rfl rfl rfl rfl rfl rfl rfl rfl f3 f4
  have d57 := hdist 5 7 _ _ _ _ 17 19 b5 b7 (by decide) rfl rfl rfl rfl rfl rfl rfl rfl f5 f7
  have d54 := hdist 5 9 _ _ _ _ 17 4 b5 b4 (by decide) rfl rfl rfl rfl rfl rfl rfl rfl f5 f4
  have d74 := hdist 7 9 _ _ _ _ 19 4 b7 b4 (by decide) rfl rfl rfl rfl rfl rfl rfl rfl f7 f4
  have g1 := hge 1 _ _ 13 b1 rfl rfl rfl rfl f1
  have g3 := hge 3 _ _ 15 b3 rfl rfl rfl rfl f3
  have g5 := hge 5 _ _ 17 b5 rfl rfl rfl rfl f5
  have g7 := hge 7 _ _ 19 b7 rfl rfl rfl rfl f7
  have g4 := hge 9 _ _ 4 b4 rfl rfl rfl rfl f4
  have l2 : b2 < w2.heap.size := (h2.box h1.box).lt
  refine ⟨[(4, .pointer (some ⟨b4, 0, none⟩)), (20, .agg #[slv b1 l.length, slv b3 l.length, slv b5 l.length, slv b7 l.length, I 0, .bool true]), (0, .slice a0 l.length cap0), (2, .pointer (some ⟨b2, 0, none⟩)), (3, I l.length)], ⟨congrArg some e4, congrArg some e20, rfl, rfl, rfl, trivial⟩, ?_⟩
  refine sta x4 (fun w4 h4 y4 => ?_) (hm := wrS (fun h => h))
  have hB2 : Bl w w2 := h1.bl.trans h2.bl
  have hB4 : Bl w w4 := Below.trans (hB2.trans hB3) (h4.below (Nat.le_trans hB2.size g4))
  rw [rep_ints] at x1 x3 x5 x7
  have m1 : b1 < w4.heap.size := by rw [h4.size]; exact x1.lt
  have m3 : b3 < w4.heap.size := by rw [h4.size]; exact x3.lt
  have m5 : b5 < w4.heap.size := by rw [h4.size]; exact x5.lt
  have m7 : b7 < w4.heap.size := by rw [h4.size]; exact x7.lt
  have m4 : b4 < w4.heap.size := y4.lt
  have m2 : b2 < w4.heap.size := by have := hB3.size; rw [h4.size]; omega
  have u1 := Nat.le_trans hB2.size g1
  have u3 := Nat.le_trans hB2.size g3
  have u5 := Nat.le_trans hB2.size g5
  have u7 := Nat.le_trans hB2.size g7
  have u4 := Nat.le_trans hB2.size g4
  have u2 : w.heap.size ≤ b2 := by have := h1.blk; omega
  have nd : [b1, b3, b5, b7, b4, b2].Nodup := by simp only [List.nodup_cons, List.mem_cons, List.mem_nil_iff, or_false, not_or]; refine ⟨⟨d13, d15, d17, d14, by omega⟩, ⟨d35, d37, d34, by omega⟩, ⟨d57, d54, by omega⟩, ⟨d74, by omega⟩, by omega, by simp⟩
  refine lpk l.length 23 [5] [(0, .slice a0 l.length cap0), (2, .pointer (some ⟨b2, 0, none⟩)), (3, I l.length), (4, .pointer (some ⟨b4, 0, none⟩)), (21, .slice a0 l.length cap0), (22, I l.length)]
    (fun k vals w' => ∃ a cap idx cO cN cD E D, vals = [.slice a idx.length cap] ∧ ShI (l.map (·.op)) l.length b1 b3 b5 b7 b4 b2 w4.heap.size w k a cap idx cO cN cD E D w') ?_ ?_
  · refine ⟨none, 0, [], (List.replicate l.length (0 : Int)).map I, (List.replicate l.length (0 : Int)).map I, (List.replicate l.length (0 : Int)).map I, List.replicate l.length 0, 0, rfl, Ow.nil _ _ _ _, ?_, ?_, ?_, ?_, ?_, by simp, by simp, Nat.le_refl _, rfl, Nat.le_refl _, hB4, Nat.le_refl _⟩
    rotate_left
    · simp
    · simp
    · simp
    · simp
    intro i b t cs hi
    rcases i with _ | _ | _ | _ | _ | _ | i
    · cases hi; exact h4.box x1 d14
    · cases hi; exact h4.box x3 d34
    · cases hi; exact h4.box x5 d54
    · cases hi; exact h4.box x7 d74
    · cases hi; exact y4
    · cases hi; exact h4.box (Bl.box hB3 (h2.box h1.box)) (by omega)
    · simp [shRows] at hi
  rintro k vals w5 hk ⟨a, cap, idx, cO, cN, cD, E, D, rfl, hI⟩ ih
  have ilen := hI.len
  by_cases hlt : k < l.length
  · refine brT ?_
    obtain ⟨x, bx, ox, _, hx, rfl, hSb, hAt, rfl⟩ := at_some (hS.bl hI.bl) hlt
    refine ix ?_
    refine lda hAt ?_
    refine al fun b7' w6 h6 => ?_
    refine sta h6.box (fun w7 h7 y7 => ?_)
    have hB7 : Bl w5 w7 := Eng.New.wr h6 h7
    refine dh (· = b4) [0, 1, 2, 3, 4, 5, 6, 7, 8, 9, 10, 11, 12, 13, 14, 15, 16, 17, 18, 19, 20, 21] fun w8 h8 => ?_
    have H8 := (hI.has.bl hB7).bl h8.bl
    have O8 := (hI.own.bl hB7).bl h8.bl
    refine ld ((H8 4 _ _ _ rfl).cell rfl) ?_ (hm := rfl)
    refine ld ((H8 4 _ _ _ rfl).cell rfl) ?_ (hm := rfl)
    refine ld ((H8 4 _ _ _ rfl).cell rfl) ?_ (hm := rfl)
    refine ld ((H8 4 _ _ _ rfl).cell rfl) ?_ (hm := rfl)
    have lO := hI.lO
    have lN := hI.lN
    have lD := hI.lD
    have lE := hI.lE
    refine ix ?_
    refine stx (H8 0 _ _ _ rfl) (fun w9 h9 y9 => ?_) (hm := wrS d14)
    have H9 := H8.wr nd 0 rfl h9 y9
    refine ix ?_
    refine stx (H9 1 _ _ _ rfl) (fun w10 h10 y10 => ?_) (ho := by rw [List.length_map]; omega) (hm := wrS d34)
    have H10 := H9.wr nd 1 rfl h10 y10
    refine ix ?_
    refine stx (H10 2 _ _ _ rfl) (fun w11 h11 y11 => ?_) (hm := wrS d54)
    have H11 := H10.wr nd 2 rfl h11 y11
    refine ix ?_
    refine stx (H11 3 _ _ _ rfl) (fun w12 h12 y12 => ?_) (hm := wrS d74)
    have H12 := H11.wr nd 3 rfl h12 y12
    rw [Nat.zero_add, Nat.mul_one] at H12
    have eE : (E.map I).set k (I (-1)) = (E.set k (-1)).map I := by rw [List.map_set]
    rw [eE] at H12
    have O12 := ((((O8.wr h9 (fun g hg => by have := (O8.lt hg).1; omega)).wr h10 (fun g hg => by have := (O8.lt hg).1; omega)).wr h11 (fun g hg => by have := (O8.lt hg).1; omega)).wr h12 (fun g hg => by have := (O8.lt hg).1; omega))
    have hB12 : Bl w w12 := Below.trans (Below.trans (Below.trans (Below.trans ((hI.bl.trans hB7).trans h8.bl) (h9.below u1)) (h10.below u3)) (h11.below u5)) (h12.below u7)
    have s12 : w4.heap.size ≤ w12.heap.size := by have := hI.sz; have := hB7.size; have := h8.bl.size; rw [h12.size, h11.size, h10.size, h9.size]; omega
    have v7 : w4.heap.size ≤ b7' := by have := hI.sz; have := h6.blk; omega
    have y12 : Box w12 b7' _ _ := h12.box (h11.box (h10.box (h9.box (h8.box y7) (by omega)) (by omega)) (by omega)) (by omega)
    have kn : k ∉ idx := fun h => Nat.lt_irrefl _ (hI.lt k h)
    have hop : (l.map (·.op))[k]? = some x.op := by rw [List.getElem?_map, hx]; rfl
    have hopD : (l.map (·.op)).getD k 0 = x.op := by rw [List.getD_eq_getElem?_getD, hop]; rfl
    have hrun : runB ((l.map (·.op)).take k) [] 0 = some (stk (l.map (·.op)) (E.set k (-1)) idx, D) := by rw [stk_set kn]; exact hI.run
    have hst := runB_step hop hrun
    have lE1 : (E.set k (-1)).length = l.length := by rw [List.length_set]; exact lE
    have gE1 : (E.set k (-1)).getD k (-1) = -1 := set_getD (by omega)
    have hdb := hI.db
    refine br (fun h0 => ?_) (fun h0 => ?_)
    · have h0 := of_decide_eq_true h0
      obtain ⟨o, ho⟩ := some_of_lt (l := idx) (k := idx.length - 1) (by omega)
      rcases O12.shape with ⟨_, h00, _⟩ | ⟨g, cur, rfl, hg, _⟩
      · omega
      refine dh (fun i => i = b4 ∨ i = g) [0, 1, 2, 3, 4, 5, 6, 7, 8, 9, 10] fun w13 h13 => ?_
      have H13 := H12.bl h13.bl
      have O13 := O12.bl h13.bl
      have hw1 : IntKind.i64.wrap ((idx.length : Int) - 1) = ((idx.length - 1 : Nat) : Int) := by rw [wrap_fit (by omega) (by omega)]; omega
      refine ld ((H13 4 _ _ _ rfl).cell rfl) ?_ (hm := (Or.inl rfl : b4 = b4 ∨ b4 = g))
      refine ix (hij := hw1) ?_
      refine ld (b := g) (o := 0 + (idx.length - 1) * 1) (v := I o) (by simpa using owp_cell O13 ho) ?_ (hm := (Or.inr rfl : g = b4 ∨ g = g))
      refine ix ?_
      refine stx (H13 0 _ _ _ rfl) (fun w14 h14 y14 => ?_) (ho := by simp; omega) (hm := wrS (by rintro (e | e) <;> omega))
      have H14 := H13.wr nd 0 rfl h14 y14
      rw [Nat.zero_add, Nat.mul_one] at H14
      have O14 := O13.wr h14 (fun g hg => by have := (O13.lt hg).1; omega)
      have B14 : Bl w w14 := Below.trans (hB12.trans h13.bl) (h14.below u1)
      have s14 : w4.heap.size ≤ w14.heap.size := by have := h13.bl.size; rw [h14.size]; omega
      have Y14 := h14.box (h13.box y12) (by omega)
      have lO14 : ((cO.set k (I (-1))).set k (I o)).length = l.length := by simp [lO]
      have cO14 : ∀ o', idx[idx.length - 1]? = some o' → ((cO.set k (I (-1))).set k (I o))[k]? = some (I o') := fun o' h' => by rw [ho] at h'; obtain rfl := Option.some.inj h'; rw [List.getElem?_set_self (by simp; omega)]
      refine ld (Y14.cell rfl) ?_
      refine cl (v_Opens x.op _) ?_
      rintro _ _ ⟨rfl, rfl⟩
      refine br (fun h1 => ?_) (fun h1 => ?_)
      · -- an opening
        refine bs fun b15 w15 h15 => ?_
        have H15 := H14.bl h15.bl
        have O15 := O14.bl h15.bl
        refine apl (l1 := [k]) O15 (.inr ⟨b15, 0, rfl, h15.box.at⟩) (by have := h15.bl.size; omega) (fun a' cap' w16 O16 hA _ => ?_)
        have H16 : Has w16 _ := H15.ap hA (fun i b t cs hi e => by
          have := (O15.lt e).1
          have : b ∈ [b1, b3, b5, b7, b4, b2] := (List.mem_map (f := fun e : Nat × TypeId × List Value => e.1)).2 ⟨(b, t, cs), List.mem_of_getElem? hi, rfl⟩
          simp only [List.mem_cons, List.mem_nil_iff, or_false] at this
          omega)
        have B16 : Bl w w16 := Below.trans (B14.trans h15.bl) (hA.below (by have := (B14.trans h15.bl).size; omega) (fun g hg => by have := (O15.lt hg).1; omega))
        refine ld ((H16 4 _ _ _ rfl).cell rfl) ?_
        refine mx ?_
        rw [max_nat]
        refine st (H16 4 _ _ _ rfl) (fun w17 h17 y17 => ?_)
        have H17 := H16.wr nd 4 rfl h17 y17
        have O17 := O16.wr h17 (fun g hg => by have := (O16.lt hg).1; omega)
        refine ih hlt ⟨a', cap', idx ++ [k], _, _, _, E.set k (-1), max D (idx ++ [k]).length, rfl, O17, H17, lO14, by simp [lN], by simp [lD], lE1, fun o ho => ?_, ?_, by simp; omega, ?_, ?_, Below.trans B16 (h17.below u4), ?_⟩
        · rcases List.mem_append.1 ho with h | h
          · have := hI.lt o h; omega
          · simp at h; omega
        · rw [List.nodup_append]
          exact ⟨hI.nd, by simp, fun a ha b hb e => by simp at hb; subst hb; subst e; exact kn ha⟩
        · rw [hst, stepB_open h1, stk_push, hopD, gE1, stk_length, List.length_append]; rfl
        · simp; omega
        · have := hA.size; have := h15.bl.size; rw [h17.size]; omega
      refine ld (Y14.cell rfl) ?_
      refine ldg (fun _ => Y14.cell rfl) ?_
      refine br (t := decide (x.op = 34) || decide (x.op = 35)) (fun h2 => ?_) (fun h2 => ?_)
      · have h34 : x.op = 34 ∨ x.op = 35 := by simpa using h2
        refine br (fun h3 => ?_) (fun h3 => ?_)
        · have h3 := of_decide_eq_true h3
          obtain rfl : idx = [] := List.eq_nil_of_length_eq_zero (by omega)
          refine st (H14 4 _ _ _ rfl) (fun w15 h15 y15 => ?_)
          have H15 := H14.wr nd 4 rfl h15 y15
          refine lda (H15 4 _ _ _ rfl).at ?_
          refine sta (H15 5 _ _ _ rfl) (fun w16 h16 y16 => ?_)
          refine rtc y16.at ⟨⟨slv b1 l.length, slv b3 l.length, slv b5 l.length, slv b7 l.length, I D, ?_⟩, Below.trans (Below.trans B14 (h15.below u4)) (h16.below u2)⟩
          rw [okB_fail (k := k + 1) (by rw [hst]; exact stepB_top h34)]
        have h3 := of_decide_eq_false h3
        obtain ⟨idx0, o2, rfl⟩ : ∃ idx0 o2, idx = idx0 ++ [o2] := by
          rcases List.eq_nil_or_concat idx with h | ⟨i0, o2, h⟩
          · rw [h] at h3; simp at h3
          · exact ⟨i0, o2, by rw [h, List.concat_eq_append]⟩
        have e1 : (idx0 ++ [o2]).length = idx0.length + 1 := by simp
        have hw2 : IntKind.i64.wrap (((idx0 ++ [o2]).length : Int) - 1) = (idx0.length : Nat) := by rw [wrap_fit (by omega) (by omega)]; omega
        have ok : o2 < k := hI.lt o2 (by simp)
        have on : o2 < l.length := by omega
        have ond : o2 ∉ idx0 := fun h => by
          have := (List.nodup_append.1 hI.nd).2.2 o2 h o2 (by simp)
          exact this rfl
        refine ld ((H14 4 _ _ _ rfl).cell rfl) ?_
        refine ix ?_
        refine stx (H14 3 _ _ _ rfl) (fun w15 h15 y15 => ?_) (ho := by simp; omega)
        have H15 := H14.wr nd 3 rfl h15 y15
        have O15 := O14.wr h15 (fun g hg => by have := (O14.lt hg).1; omega)
        have B15 : Bl w w15 := Below.trans B14 (h15.below u7)
        have Y15 := h15.box Y14 (by omega)
        refine ld ((H15 4 _ _ _ rfl).cell rfl) ?_
        refine ix ?_
        refine ld (b := b1) (o := 0 + k * 1) (v := I o2) ?_ ?_
        · rw [Nat.zero_add, Nat.mul_one]; exact (H15 0 _ _ _ rfl).cell (cO14 o2 (by simp))
        obtain ⟨y, b', o', _, hy, ey, _, hAty, rfl⟩ := at_some (hS.bl B15) (i := o2) (by omega)
        simp only [Option.some.injEq, Addr.mk.injEq, and_true] at ey
        obtain ⟨rfl, rfl⟩ := ey
        have hyD : (l.map (·.op)).getD o2 0 = y.op := by rw [List.getD_eq_getElem?_getD, List.getElem?_map, hy]; rfl
        obtain ⟨e, he⟩ := some_of_lt (l := E.set k (-1)) (k := o2) (by omega)
        have hEo : ((E.set k (-1)).map I)[o2]? = some (I e) := by rw [List.getElem?_map, he]; rfl
        have heD : (E.set k (-1)).getD o2 (-1) = e := by rw [List.getD_eq_getElem?_getD, he]; rfl
        have hst2 : runB ((l.map (·.op)).take (k + 1)) [] 0 = stepB ((y.op, decide (0 ≤ e)) :: stk (l.map (·.op)) (E.set k (-1)) idx0) D x.op := by rw [hst, stk_push, hyD, heD]
        have fail : stepB ((y.op, decide (0 ≤ e)) :: stk (l.map (·.op)) (E.set k (-1)) idx0) D x.op = none → okB (l.map (·.op)) = false := fun h => okB_fail (k := k + 1) (by rw [hst2]; exact h)
        refine ix ?_
        refine ld (hAty 0 _ rfl) ?_
        refine ixg (fun _ => on) ?_
        refine ldg (fun _ => hAty 0 _ rfl) ?_
        refine ld (Y15.cell rfl) ?_
        refine br (fun h4 => ?_) (fun h4 => ?_)
        · have h4 := of_decide_eq_true h4
          refine ldg (fun _ => (H15 4 _ _ _ rfl).cell rfl) ?_
          refine ixg (fun _ => on) ?_
          refine ldg (b := b3) (o := 0 + o2 * 1) (v := I e) (fun _ => ?_) ?_
          · rw [Nat.zero_add, Nat.mul_one]; exact (H15 1 _ _ _ rfl).cell hEo
          refine br (t := (!(decide (y.op = 29) || decide (y.op = 33))) || decide (0 ≤ e)) (fun h5 => ?_) (fun h5 => ?_)
          · refine st (H15 4 _ _ _ rfl) (fun w16 h16 y16 => ?_)
            have H16 := H15.wr nd 4 rfl h16 y16
            refine lda (H16 4 _ _ _ rfl).at ?_
            refine sta (H16 5 _ _ _ rfl) (fun w17 h17 y17 => ?_)
            refine rtc y17.at ⟨⟨slv b1 l.length, slv b3 l.length, slv b5 l.length, slv b7 l.length, I D, ?_⟩, Below.trans (Below.trans B15 (h16.below u4)) (h17.below u2)⟩
            rw [fail]
            rw [h4, stepB_else, if_neg]
            rintro ⟨h6, h7⟩
            simp only [Bool.or_eq_true, Bool.not_eq_true', Bool.or_eq_false_iff, decide_eq_true_eq, decide_eq_false_iff_not] at h5 h6
            omega
          · simp only [Bool.or_eq_false_iff, Bool.not_eq_false', Bool.or_eq_true, decide_eq_true_eq, decide_eq_false_iff_not] at h5
            refine ld ((H15 4 _ _ _ rfl).cell rfl) ?_
            refine ix ?_
            refine stx (H15 1 _ _ _ rfl) (fun w16 h16 y16 => ?_) (ho := by simp; omega)
            have H16 := H15.wr nd 1 rfl h16 y16
            have O16 := O15.wr h16 (fun g hg => by have := (O15.lt hg).1; omega)
            have eE2 : ((E.set k (-1)).map I).set (0 + o2 * 1) (I k) = ((E.set k (-1)).set o2 k).map I := by rw [Nat.zero_add, Nat.mul_one, List.map_set (l := E.set k (-1))]
            rw [eE2] at H16
            refine ih hlt ⟨_, _, idx0 ++ [o2], _, _, _, (E.set k (-1)).set o2 k, D, rfl, O16, H16, lO14, by simp [lN], by simp [lD], by simp [lE], fun o ho => ?_, hI.nd, by omega, ?_, by omega, Below.trans B15 (h16.below u3), ?_⟩
            · have := hI.lt o ho; omega
            · rw [hst2, h4, stepB_else, if_pos ⟨decide_eq_false h5.2, h5.1⟩, stk_push, stk_set ond, hyD, set_getD (by rw [List.length_set]; omega), decide_eq_true (by omega)]
            · rw [h16.size, h15.size]; exact s14
        · have h4 := of_decide_eq_false h4
          have h35 : x.op = 35 := by omega
          refine ix ?_
          refine ld (hAty 0 _ rfl) ?_
          refine ldg (fun _ => (H15 4 _ _ _ rfl).cell rfl) ?_
          refine ixg (fun _ => on) ?_
          refine ldg (b := b3) (o := 0 + o2 * 1) (v := I e) (fun _ => ?_) ?_
          · rw [Nat.zero_add, Nat.mul_one]; exact (H15 1 _ _ _ rfl).cell hEo
          refine br (t := decide (y.op = 33) && decide (e < 0)) (fun h5 => ?_) (fun h5 => ?_)
          · simp only [Bool.and_eq_true, decide_eq_true_eq] at h5
            refine st (H15 4 _ _ _ rfl) (fun w16 h16 y16 => ?_)
            have H16 := H15.wr nd 4 rfl h16 y16
            refine lda (H16 4 _ _ _ rfl).at ?_
            refine sta (H16 5 _ _ _ rfl) (fun w17 h17 y17 => ?_)
            refine rtc y17.at ⟨⟨slv b1 l.length, slv b3 l.length, slv b5 l.length, slv b7 l.length, I D, ?_⟩, Below.trans (Below.trans B15 (h16.below u4)) (h17.below u2)⟩
            rw [fail]
            rw [h35, stepB_end, if_pos ⟨h5.1, decide_eq_false (by omega)⟩]
          · simp only [Bool.and_eq_false_iff, decide_eq_false_iff_not] at h5
            refine ld ((H15 4 _ _ _ rfl).cell rfl) ?_
            refine ix ?_
            refine stx (H15 2 _ _ _ rfl) (fun w16 h16 y16 => ?_) (ho := by simp; omega)
            have H16 := H15.wr nd 2 rfl h16 y16
            have O16 := O15.wr h16 (fun g hg => by have := (O15.lt hg).1; omega)
            have hcap : (idx0 ++ [o2]).length ≤ cap := by
              rcases O16.shape with ⟨_, h00, _⟩ | ⟨_, _, _, _, _, hc, _⟩
              · omega
              · exact hc
            refine sl 0 idx0.length ?_ (h2 := by exact ⟨.i64, vi hw2⟩)
            refine ih hlt ⟨_, cap, idx0, _, _, _, E.set k (-1), D, lst1 ?_, owp_pop O16, H16, lO14, by simp [lN], by simp [lD], lE1, fun o ho => ?_, (List.nodup_append.1 hI.nd).1, by omega, ?_, by omega, Below.trans B15 (h16.below u5), ?_⟩
            · rw [if_neg (by omega), cut_addr O16.shape]; rfl
            · have := hI.lt o (List.mem_append_left _ ho); omega
            · rw [hst2, h35, stepB_end, if_neg (fun ⟨h6, h7⟩ => by have := of_decide_eq_false h7; omega)]
            · rw [h16.size, h15.size]; exact s14
      · simp only [Bool.or_eq_false_iff, decide_eq_false_iff_not] at h2
        refine ih hlt ⟨_, _, idx, _, _, _, E.set k (-1), D, rfl, O14, H14, lO14, by simp [lN], by simp [lD], lE1, fun o ho => ?_, hI.nd, by omega, ?_, by omega, B14, s14⟩
        · have := hI.lt o ho; omega
        · rw [hst, stepB_plain h1 h2.1 h2.2]
    · have h0 := of_decide_eq_false h0
      have H14 := H12
      have O14 := O12
      have B14 := hB12
      have s14 := s12
      have Y14 := y12
      have lO14 : (cO.set k (I (-1))).length = l.length := by simp [lO]
      have cO14 : ∀ o, idx[idx.length - 1]? = some o → (cO.set k (I (-1)))[k]? = some (I o) := fun o' ho' => by have := (List.getElem?_eq_some_iff.1 ho').1; omega
      refine ld (Y14.cell rfl) ?_
      refine cl (v_Opens x.op _) ?_
      rintro _ _ ⟨rfl, rfl⟩
      refine br (fun h1 => ?_) (fun h1 => ?_)
      · -- an opening
        refine bs fun b15 w15 h15 => ?_
        have H15 := H14.bl h15.bl
        have O15 := O14.bl h15.bl
        refine apl (l1 := [k]) O15 (.inr ⟨b15, 0, rfl, h15.box.at⟩) (by have := h15.bl.size; omega) (fun a' cap' w16 O16 hA _ => ?_)
        have H16 : Has w16 _ := H15.ap hA (fun i b t cs hi e => by
          have := (O15.lt e).1
          have : b ∈ [b1, b3, b5, b7, b4, b2] := (List.mem_map (f := fun e : Nat × TypeId × List Value => e.1)).2 ⟨(b, t, cs), List.mem_of_getElem? hi, rfl⟩
          simp only [List.mem_cons, List.mem_nil_iff, or_false] at this
          omega)
        have B16 : Bl w w16 := Below.trans (B14.trans h15.bl) (hA.below (by have := (B14.trans h15.bl).size; omega) (fun g hg => by have := (O15.lt hg).1; omega))
        refine ld ((H16 4 _ _ _ rfl).cell rfl) ?_
        refine mx ?_
        rw [max_nat]
        refine st (H16 4 _ _ _ rfl) (fun w17 h17 y17 => ?_)
        have H17 := H16.wr nd 4 rfl h17 y17
        have O17 := O16.wr h17 (fun g hg => by have := (O16.lt hg).1; omega)
        refine ih hlt ⟨a', cap', idx ++ [k], _, _, _, E.set k (-1), max D (idx ++ [k]).length, rfl, O17, H17, lO14, by simp [lN], by simp [lD], lE1, fun o ho => ?_, ?_, by simp; omega, ?_, ?_, Below.trans B16 (h17.below u4), ?_⟩
        · rcases List.mem_append.1 ho with h | h
          · have := hI.lt o h; omega
          · simp at h; omega
        · rw [List.nodup_append]
          exact ⟨hI.nd, by simp, fun a ha b hb e => by simp at hb; subst hb; subst e; exact kn ha⟩
        · rw [hst, stepB_open h1, stk_push, hopD, gE1, stk_length, List.length_append]; rfl
        · simp; omega
        · have := hA.size; have := h15.bl.size; rw [h17.size]; omega
      refine ld (Y14.cell rfl) ?_
      refine ldg (fun _ => Y14.cell rfl) ?_
      refine br (t := decide (x.op = 34) || decide (x.op = 35)) (fun h2 => ?_) (fun h2 => ?_)
      · have h34 : x.op = 34 ∨ x.op = 35 := by simpa using h2
        refine br (fun h3 => ?_) (fun h3 => ?_)
        · have h3 := of_decide_eq_true h3
          obtain rfl : idx = [] := List.eq_nil_of_length_eq_zero (by omega)
          refine st (H14 4 _ _ _ rfl) (fun w15 h15 y15 => ?_)
          have H15 := H14.wr nd 4 rfl h15 y15
          refine lda (H15 4 _ _ _ rfl).at ?_
          refine sta (H15 5 _ _ _ rfl) (fun w16 h16 y16 => ?_)
          refine rtc y16.at ⟨⟨slv b1 l.length, slv b3 l.length, slv b5 l.length, slv b7 l.length, I D, ?_⟩, Below.trans (Below.trans B14 (h15.below u4)) (h16.below u2)⟩
          rw [okB_fail (k := k + 1) (by rw [hst]; exact stepB_top h34)]
        have h3 := of_decide_eq_false h3
        obtain ⟨idx0, o2, rfl⟩ : ∃ idx0 o2, idx = idx0 ++ [o2] := by
          rcases List.eq_nil_or_concat idx with h | ⟨i0, o2, h⟩
          · rw [h] at h3; simp at h3
          · exact ⟨i0, o2, by rw [h, List.concat_eq_append]⟩
        have e1 : (idx0 ++ [o2]).length = idx0.length + 1 := by simp
        have hw2 : IntKind.i64.wrap (((idx0 ++ [o2]).length : Int) - 1) = (idx0.length : Nat) := by rw [wrap_fit (by omega) (by omega)]; omega
        have ok : o2 < k := hI.lt o2 (by simp)
        have on : o2 < l.length := by omega
        have ond : o2 ∉ idx0 := fun h => by
          have := (List.nodup_append.1 hI.nd).2.2 o2 h o2 (by simp)
          exact this rfl
        refine ld ((H14 4 _ _ _ rfl).cell rfl) ?_
        refine ix ?_
        refine stx (H14 3 _ _ _ rfl) (fun w15 h15 y15 => ?_) (ho := by simp; omega)
        have H15 := H14.wr nd 3 rfl h15 y15
        have O15 := O14.wr h15 (fun g hg => by have := (O14.lt hg).1; omega)
        have B15 : Bl w w15 := Below.trans B14 (h15.below u7)
        have Y15 := h15.box Y14 (by omega)
        refine ld ((H15 4 _ _ _ rfl).cell rfl) ?_
        refine ix ?_
        refine ld (b := b1) (o := 0 + k * 1) (v := I o2) ?_ ?_
        · rw [Nat.zero_add, Nat.mul_one]; exact (H15 0 _ _ _ rfl).cell (cO14 o2 (by simp))
        obtain ⟨y, b', o', _, hy, ey, _, hAty, rfl⟩ := at_some (hS.bl B15) (i := o2) (by omega)
        simp only [Option.some.injEq, Addr.mk.injEq, and_true] at ey
        obtain ⟨rfl, rfl⟩ := ey
        have hyD : (l.map (·.op)).getD o2 0 = y.op := by rw [List.getD_eq_getElem?_getD, List.getElem?_map, hy]; rfl
        obtain ⟨e, he⟩ := some_of_lt (l := E.set k (-1)) (k := o2) (by omega)
        have hEo : ((E.set k (-1)).map I)[o2]? = some (I e) := by rw [List.getElem?_map, he]; rfl
        have heD : (E.set k (-1)).getD o2 (-1) = e := by rw [List.getD_eq_getElem?_getD, he]; rfl
        have hst2 : runB ((l.map (·.op)).take (k + 1)) [] 0 = stepB ((y.op, decide (0 ≤ e)) :: stk (l.map (·.op)) (E.set k (-1)) idx0) D x.op := by rw [hst, stk_push, hyD, heD]
        have fail : stepB ((y.op, decide (0 ≤ e)) :: stk (l.map (·.op)) (E.set k (-1)) idx0) D x.op = none → okB (l.map (·.op)) = false := fun h => okB_fail (k := k + 1) (by rw [hst2]; exact h)
        refine ix ?_
        refine ld (hAty 0 _ rfl) ?_
        refine ixg (fun _ => on) ?_
        refine ldg (fun _ => hAty 0 _ rfl) ?_
        refine ld (Y15.cell rfl) ?_
        refine br (fun h4 => ?_) (fun h4 => ?_)
        · have h4 := of_decide_eq_true h4
          refine ldg (fun _ => (H15 4 _ _ _ rfl).cell rfl) ?_
          refine ixg (fun _ => on) ?_
          refine ldg (b := b3) (o := 0 + o2 * 1) (v := I e) (fun _ => ?_) ?_
          · rw [Nat.zero_add, Nat.mul_one]; exact (H15 1 _ _ _ rfl).cell hEo
          refine br (t := (!(decide (y.op = 29) || decide (y.op = 33))) || decide (0 ≤ e)) (fun h5 => ?_) (fun h5 => ?_)
          · refine st (H15 4 _ _ _ rfl) (fun w16 h16 y16 => ?_)
            have H16 := H15.wr nd 4 rfl h16 y16
            refine lda (H16 4 _ _ _ rfl).at ?_
            refine sta (H16 5 _ _ _ rfl) (fun w17 h17 y17 => ?_)
            refine rtc y17.at ⟨⟨slv b1 l.length, slv b3 l.length, slv b5 l.length, slv b7 l.length, I D, ?_⟩, Below.trans (Below.trans B15 (h16.below u4)) (h17.below u2)⟩
            rw [fail]
            rw [h4, stepB_else, if_neg]
            rintro ⟨h6, h7⟩
            simp only [Bool.or_eq_true, Bool.not_eq_true', Bool.or_eq_false_iff, decide_eq_true_eq, decide_eq_false_iff_not] at h5 h6
            omega
          · simp only [Bool.or_eq_false_iff, Bool.not_eq_false', Bool.or_eq_true, decide_eq_true_eq, decide_eq_false_iff_not] at h5
            refine ld ((H15 4 _ _ _ rfl).cell rfl) ?_
            refine ix ?_
            refine stx (H15 1 _ _ _ rfl) (fun w16 h16 y16 => ?_) (ho := by simp; omega)
            have H16 := H15.wr nd 1 rfl h16 y16
            have O16 := O15.wr h16 (fun g hg => by have := (O15.lt hg).1; omega)
            have eE2 : ((E.set k (-1)).map I).set (0 + o2 * 1) (I k) = ((E.set k (-1)).set o2 k).map I := by rw [Nat.zero_add, Nat.mul_one, List.map_set (l := E.set k (-1))]
            rw [eE2] at H16
            refine ih hlt ⟨_, _, idx0 ++ [o2], _, _, _, (E.set k (-1)).set o2 k, D, rfl, O16, H16, lO14, by simp [lN], by simp [lD], by simp [lE], fun o ho => ?_, hI.nd, by omega, ?_, by omega, Below.trans B15 (h16.below u3), ?_⟩
            · have := hI.lt o ho; omega
            · rw [hst2, h4, stepB_else, if_pos ⟨decide_eq_false h5.2, h5.1⟩, stk_push, stk_set ond, hyD, set_getD (by rw [List.length_set]; omega), decide_eq_true (by omega)]
            · rw [h16.size, h15.size]; exact s14
        · have h4 := of_decide_eq_false h4
          have h35 : x.op = 35 := by omega
          refine ix ?_
          refine ld (hAty 0 _ rfl) ?_
          refine ldg (fun _ => (H15 4 _ _ _ rfl).cell rfl) ?_
          refine ixg (fun _ => on) ?_
          refine ldg (b := b3) (o := 0 + o2 * 1) (v := I e) (fun _ => ?_) ?_
          · rw [Nat.zero_add, Nat.mul_one]; exact (H15 1 _ _ _ rfl).cell hEo
          refine br (t := decide (y.op = 33) && decide (e < 0)) (fun h5 => ?_) (fun h5 => ?_)
          · simp only [Bool.and_eq_true, decide_eq_true_eq] at h5
            refine st (H15 4 _ _ _ rfl) (fun w16 h16 y16 => ?_)
            have H16 := H15.wr nd 4 rfl h16 y16
            refine lda (H16 4 _ _ _ rfl).at ?_
            refine sta (H16 5 _ _ _ rfl) (fun w17 h17 y17 => ?_)
            refine rtc y17.at ⟨⟨slv b1 l.length, slv b3 l.length, slv b5 l.length, slv b7 l.length, I D, ?_⟩, Below.trans (Below.trans B15 (h16.below u4)) (h17.below u2)⟩
            rw [fail]
            rw [h35, stepB_end, if_pos ⟨h5.1, decide_eq_false (by omega)⟩]
          · simp only [Bool.and_eq_false_iff, decide_eq_false_iff_not] at h5
            refine ld ((H15 4 _ _ _ rfl).cell rfl) ?_
            refine ix ?_
            refine stx (H15 2 _ _ _ rfl) (fun w16 h16 y16 => ?_) (ho := by simp; omega)
            have H16 := H15.wr nd 2 rfl h16 y16
            have O16 := O15.wr h16 (fun g hg => by have := (O15.lt hg).1; omega)
            have hcap : (idx0 ++ [o2]).length ≤ cap := by
              rcases O16.shape with ⟨_, h00, _⟩ | ⟨_, _, _, _, _, hc, _⟩
              · omega
              · exact hc
            refine sl 0 idx0.length ?_ (h2 := by exact ⟨.i64, vi hw2⟩)
            refine ih hlt ⟨_, cap, idx0, _, _, _, E.set k (-1), D, lst1 ?_, owp_pop O16, H16, lO14, by simp [lN], by simp [lD], lE1, fun o ho => ?_, (List.nodup_append.1 hI.nd).1, by omega, ?_, by omega, Below.trans B15 (h16.below u5), ?_⟩
            · rw [if_neg (by omega), cut_addr O16.shape]; rfl
            · have := hI.lt o (List.mem_append_left _ ho); omega
            · rw [hst2, h35, stepB_end, if_neg (fun ⟨h6, h7⟩ => by have := of_decide_eq_false h7; omega)]
            · rw [h16.size, h15.size]; exact s14
      · simp only [Bool.or_eq_false_iff, decide_eq_false_iff_not] at h2
        refine ih hlt ⟨_, _, idx, _, _, _, E.set k (-1), D, rfl, O14, H14, lO14, by simp [lN], by simp [lD], lE1, fun o ho => ?_, hI.nd, by omega, ?_, by omega, B14, s14⟩
        · have := hI.lt o ho; omega
        · rw [hst, stepB_plain h1 h2.1 h2.2]
  refine brF ?_
  obtain rfl : k = l.length := by omega
  have H := hI.has
  have hrun := hI.run
  rw [List.take_of_length_le (by simp)] at hrun
  refine ldg (fun _ => (H 4 _ _ _ rfl).cell rfl) ?_
  refine st (H 4 _ _ _ rfl) (fun w6 h6 y6 => ?_)
  have H6 := H.wr nd 4 rfl h6 y6
  refine lda (H6 4 _ _ _ rfl).at ?_
  refine sta (H6 5 _ _ _ rfl) (fun w7 h7 y7 => ?_)
  refine rtc y7.at ⟨⟨slv b1 l.length, slv b3 l.length, slv b5 l.length, slv b7 l.length, I D, ?_⟩, Below.trans (Below.trans hI.bl (h6.below u4)) (h7.below u2)⟩
  have : okB (l.map (·.op)) = (decide ((idx.length : Int) = 0) && decide ((D : Int) ≤ 6)) := by
    unfold okB
    rw [hrun]
    cases idx with
    | nil =>
      show decide (D ≤ 6) = (true && decide ((D : Int) ≤ 6))
      rw [Bool.true_and]
      by_cases h : D ≤ 6
      · rw [decide_eq_true h, decide_eq_true (by omega)]
      · rw [decide_eq_false h, decide_eq_false (by omega)]
    | cons i0 idx => 
      have : ((i0 :: idx).length : Int) ≠ 0 := by simp; omega
      rw [decide_eq_false this]
      have h2 : stk (l.map (·.op)) E (i0 :: idx) ≠ [] := by simp [stk]
      cases hs : stk (l.map (·.op)) E (i0 :: idx) with
      | nil => exact absurd hs h2
      | cons => rfl
  rw [this]
/-- the program's word on code -/
theorem u_codeCheck (l : List Ins) (a : Option Addr) (cap : Nat) (p : Bool) (S : Nat → Prop) (w : World) (hS : Sl eIns S w a l) : Ret Tryz.prog 55 #[.slice a l.length cap, .bool p] w fun v w' => v = I (codeE l p) ∧ Bl w w' := by
  have hbig := hS.big
  refine entr (vs := [.slice a l.length cap, .bool p]) [0, 1, 3, 4, 5, 9, 13] tabok Tryz.func55 (by kernel_rfl) ?_
  refine bx (cs := [.bool p]) fun b w1 h1 => ?_
  refine br (fun h => ?_) (fun h => ?_)
  · have h := of_decide_eq_true h
    exact rt1 ⟨vi (by unfold codeE; rw [if_pos (by omega)]), h1.bl⟩
  have h120 := of_decide_eq_false h
  have hS1 := hS.bl h1.bl
  refine cl (ContainsFunc_ins l _ cap 128 [.pointer (some ⟨b, 0, none⟩)] (fun i => !validI i p) S w1 hS1 (fun x cs hx w2 hB2 hr => ?_)) ?_
  · obtain rfl : cs = [I x.op, I x.a, I x.b] := hr
    refine entr (vs := [.agg #[I x.op, I x.a, I x.b], .pointer (some ⟨b, 0, none⟩)]) [0, 1, 2, 3] tabok Tryz.func128 (by kernel_rfl) ?_
    refine bx (cs := [I x.op, I x.a, I x.b]) fun b3 w3 h3 => ?_
    refine lda h3.box.at ?_
    refine ld ((Bl.box h3.bl (Bl.box hB2 h1.box)).cell rfl) ?_
    refine cl (w_Valid x p _) ?_
    rintro _ w4 ⟨rfl, hB4⟩
    exact rt1 ⟨rfl, h3.bl.trans hB4⟩
  rintro _ w2 ⟨rfl, hB2⟩
  refine br (t := l.any fun i => !validI i p) (fun h => ?_) (fun h => ?_)
  · refine rt1 ⟨vi ?_, h1.bl.trans hB2⟩
    unfold codeE
    obtain ⟨x, hx, hv⟩ := List.any_eq_true.1 h
    rw [if_neg (by omega), if_neg (fun ha => by have := List.all_eq_true.1 ha x hx; rw [this] at hv; cases hv)]
  have hall : (l.all fun i => validI i p) = true := List.all_eq_true.2 fun x hx => by have := List.any_eq_false.1 h x hx; simpa using this
  have hc : codeE l p = if okB (l.map (·.op)) = true then 0 else 7 := by unfold codeE; rw [if_neg (by omega), if_pos hall]
  refine cl (u_shapeOf l _ cap S _ (hS1.bl hB2)) ?_
  rintro _ w3 ⟨⟨c0, c1, c2, c3, c4, rfl⟩, hB3⟩
  refine fd 5 ?_
  refine br (t := !okB (l.map (·.op))) (fun h => ?_) (fun h => ?_)
  · refine rt1 ⟨vi ?_, (h1.bl.trans hB2).trans hB3⟩
    rw [hc, if_neg (by simpa using h)]
  · refine rt1 ⟨vi ?_, (h1.bl.trans hB2).trans hB3⟩
    rw [hc, if_pos (by simpa using h)]
end Go.Proofs.YtopjmiklpnejmaaGreatDoor

/- strings.Split at a point is the cutting at points. No program stands here. -/
namespace Go.Proofs.YtopjmiklpnejmaaGreatDoor
open Go
theorem ib_nat (l : List UInt8) (c : UInt8) : Lib.indexByte l c = -1 ∨ ∃ i : Nat, Lib.indexByte l c = i := by
  have := Lib.indexByte_ge l c
  by_cases h : Lib.indexByte l c = -1
  · exact .inl h
  · exact .inr ⟨(Lib.indexByte l c).toNat, by omega⟩
theorem cut_miss : ∀ (l : List UInt8), Lib.indexByte l 46 = -1 → cutDot l = [l] ∧ l.count 46 = 0
  | [], _ => ⟨rfl, rfl⟩
  | b :: l, h => by
    unfold Lib.indexByte at h
    by_cases hb : b = 46
    · subst hb; simp at h
    · have hb' : (b == 46) = false := by simpa using hb
      rw [hb'] at h
      have h2 : Lib.indexByte l 46 = -1 := by
        have := Lib.indexByte_ge l 46
        by_cases h3 : Lib.indexByte l 46 = -1
        · exact h3
        · have : (Lib.indexByte l 46 == -1) = false := by simpa using h3
          rw [this] at h; simp at h; omega
      obtain ⟨e1, e2⟩ := cut_miss l h2
      exact ⟨by simp [cutDot, hb, e1], by rw [List.count_cons_of_ne (by simpa using hb), e2]⟩
theorem cut_hit : ∀ (l : List UInt8) (i : Nat), Lib.indexByte l 46 = i → cutDot l = l.take i :: cutDot (l.drop (i + 1)) ∧ l.count 46 = 1 + (l.drop (i + 1)).count 46
  | [], i, h => by simp [Lib.indexByte] at h
  | b :: l, i, h => by
    unfold Lib.indexByte at h
    by_cases hb : b = 46
    · subst hb
      simp at h
      have : i = 0 := by omega
      subst this
      simp [cutDot]; omega
    · have hb' : (b == 46) = false := by simpa using hb
      rw [hb'] at h
      rcases ib_nat l 46 with h2 | ⟨j, h2⟩
      · rw [h2] at h; simp at h
      · have hne : (Lib.indexByte l 46 == -1) = false := by rw [h2]; simp
        rw [hne] at h
        simp only [Bool.false_eq_true, if_false] at h
        have : i = j + 1 := by omega
        subst this
        obtain ⟨e1, e2⟩ := cut_hit l j h2
        refine ⟨?_, ?_⟩
        · simp only [cutDot, if_neg hb, e1, List.take_succ_cons, List.drop_succ_cons]
        · rw [List.count_cons_of_ne (by simpa using hb), e2, List.drop_succ_cons]
theorem splitK_cut : ∀ (k : Nat) (l : List UInt8), l.count 46 = k → Lib.splitK [46] 0 k l = cutDot l
  | 0, l, h => by
    rcases ib_nat l 46 with h2 | ⟨j, h2⟩
    · rw [(cut_miss l h2).1]; rfl
    · have := (cut_hit l j h2).2; omega
  | k + 1, l, h => by
    unfold Lib.splitK
    rw [Lib.index_one]
    rcases ib_nat l 46 with h2 | ⟨j, h2⟩
    · have := (cut_miss l h2).2; omega
    · obtain ⟨e1, e2⟩ := cut_hit l j h2
      rw [h2, if_neg (by simp), e1, splitK_cut k _ (by simp at e2 ⊢; omega)]
      simp
def dotB : ByteArray := ⟨#[46]⟩
theorem split_parts (s : ByteArray) : Lib.splitB dotB 0 (Lib.countB s dotB) s = partsB s ∧ Lib.countB s dotB + 1 = (partsB s).length := by
  have hc : Lib.countB s dotB = s.data.toList.count 46 := Lib.count_one 46 s.data.toList
  have h := Lib.splitB_data dotB 0 (Lib.countB s dotB) s
  have h2 : Lib.splitK dotB.data.toList 0 (Lib.countB s dotB) s.data.toList = cutDot s.data.toList := splitK_cut _ _ hc.symm
  rw [h2] at h
  have e : Lib.splitB dotB 0 (Lib.countB s dotB) s = partsB s := by
    unfold partsB
    rw [← h, List.map_map]
    have : (ofL ∘ fun x : ByteArray => x.data.toList) = id := funext fun x => ofL_toL x
    rw [this, List.map_id]
  refine ⟨e, ?_⟩
  have : ∀ (k : Nat) (l : List UInt8), l.count 46 = k → (cutDot l).length = k + 1 := by
    intro k
    induction k with
    | zero =>
      intro l hl
      rcases ib_nat l 46 with h2 | ⟨j, h2⟩
      · rw [(cut_miss l h2).1]; rfl
      · have := (cut_hit l j h2).2; omega
    | succ k ih =>
      intro l hl
      rcases ib_nat l 46 with h2 | ⟨j, h2⟩
      · have := (cut_miss l h2).2; omega
      · obtain ⟨e1, e2⟩ := cut_hit l j h2
        rw [e1, List.length_cons, ih _ (by omega)]
  rw [partsB_length, this _ _ rfl, hc]
end Go.Proofs.YtopjmiklpnejmaaGreatDoor

/- Walks: the program's path. -/
namespace Go.Proofs.YtopjmiklpnejmaaGreatDoor
open Eng Go.RowKit
/-- the library's one variable holds a number -/
def Gl (w : World) : Prop := ∃ m, w.cell? ⟨0, 0, none⟩ = some (.int .i64 m)
theorem Gl.bl {w w' : World} (h : Gl w) (k : Bl w w') : Gl w' := let ⟨m, hm⟩ := h; ⟨m, k.kp T _ _ _ trivial hm⟩
theorem Gl.kp {w w' : World} {S : Nat → Prop} (h : Gl w) (k : Kp S w w') (hs : S 0) : Gl w' := let ⟨m, hm⟩ := h; ⟨m, k _ _ _ hs hm⟩
theorem c_Split (s : ByteArray) (w : World) (hs : s.size ≤ 1048576) (hG : Gl w) : Ret Tryz.prog 46 #[.string s, .string dotB] w fun v w' => ∃ b n, v = .slice (some ⟨b, 0, none⟩) (partsB s).length n ∧ (partsB s).length ≤ n ∧ Sl eStr T w' (some ⟨b, 0, none⟩) (partsB s) ∧ Bl w w' := by
  obtain ⟨m, hm⟩ := hG
  refine ⟨by kernel_rfl, (Tryz.strings_Split s dotB m w (by omega) hm (by decide)).mono ?_⟩
  rintro e w' ⟨rfl, rfl⟩
  obtain ⟨e1, e2⟩ := split_parts s
  rw [e1, e2]
  have hl := partsB_length s
  have hn := cutDot_length s.data.toList
  rw [ba_len] at hn
  have hnew : New w w.heap.size 9 ((partsB s).map Value.string) (w.alloc (.cells ((partsB s).map Value.string).toArray 9)) := ⟨rfl, rfl⟩
  refine ⟨_, _, rfl, Nat.le_refl _, ?_, hnew.bl⟩
  have hO := Ow.made (n := (partsB s).length) (esz := 1) hnew (by simp) (by omega)
  exact hO.strs rfl (by omega) (fun _ _ => trivial)
theorem u_Path1 (s : ByteArray) (w : World) (hs : s.size ≤ 1048576) : Ret Tryz.prog 48 #[.string s] w fun v w' => v = .bool (!simple s) ∧ Bl w w' := by
  refine entr (vs := [.string s]) [0, 2] tabok Tryz.func48 (by kernel_rfl) ?_
  refine cl (u_Simple s w hs) ?_
  rintro _ _ ⟨rfl, rfl⟩
  exact rt1 ⟨rfl, Bl.refl _⟩
theorem u_Path (s : ByteArray) (w : World) (hs : s.size ≤ 1048576) (hG : Gl w) : Ret Tryz.prog 16 #[.string s] w fun v w' => v = I (path s) ∧ Bl w w' := by
  refine entr (vs := [.string s]) [0, 2, 3, 12] tabok Tryz.func16 (by kernel_rfl) ?_
  refine cl (c_Split s w hs hG) ?_
  rintro _ w1 ⟨b, n, rfl, hn, hS, hB⟩
  refine sp (.bool true) (fun h1 => ?_) (fun h1 => ?_)
  · refine cl (ContainsFunc_str (partsB s) _ n 48 [] (fun x => !simple x) T w1 hS ?_) ?_
    · rintro x _ hx w' _ rfl
      exact u_Path1 x w' (by have := partsB_mem hx; omega)
    rintro _ w2 ⟨rfl, hB2⟩
    have h3 : (partsB s).length ≤ 3 := by have := of_decide_eq_false h1; omega
    refine br (t := (partsB s).any fun x => !simple x) (fun h => ?_) (fun h => ?_)
    · refine rt1 ⟨?_, hB.trans hB2⟩
      rw [path_parts, if_neg]
      · rfl
      rintro ⟨_, h2⟩
      obtain ⟨x, hx, h3⟩ := List.any_eq_true.1 h
      rw [List.all_eq_true.1 h2 x hx] at h3; cases h3
    · refine rt1 ⟨?_, hB.trans hB2⟩
      rw [path_parts, if_pos]
      refine ⟨h3, List.all_eq_true.2 fun x hx => ?_⟩
      have := List.any_eq_false.1 h x hx
      simpa using this
  · refine brt ?_
    have h3 : 3 < (partsB s).length := by have := of_decide_eq_true h1; omega
    refine rt1 ⟨?_, hB⟩
    rw [path_parts, if_neg (by omega)]; rfl
end Go.Proofs.YtopjmiklpnejmaaGreatDoor

/- Walks: a list of texts that has one twice, by sorting. -/
namespace Go.Proofs.YtopjmiklpnejmaaGreatDoor
open Eng Go.RowKit Go.Sort
abbrev toL (s : ByteArray) : List UInt8 := s.data.toList
abbrev sEnc : List UInt8 → Value := Go.Proofs.encStr
theorem sEnc_toL (s : ByteArray) : sEnc (toL s) = .string s := by cases s; simp [sEnc, Go.Proofs.encStr]
theorem consec_nodup : ∀ {l : List (List UInt8)}, l.Pairwise (· ≤ ·) → ((∀ (j : Nat) x y, l[j]? = some x → l[j + 1]? = some y → x ≠ y) ↔ l.Nodup)
  | [], _ => by simp
  | [x], _ => by simp
  | x :: y :: r, h => by
    rw [List.pairwise_cons] at h
    have ih := consec_nodup h.2
    constructor
    · intro hc
      have hxy : x ≠ y := hc 0 x y rfl rfl
      have hn := ih.1 fun j a b h1 h2 => hc (j + 1) a b (by simpa using h1) (by simpa using h2)
      rw [List.nodup_cons]
      refine ⟨fun hm => ?_, hn⟩
      have h2 := List.pairwise_cons.1 h.2
      have hxley := h.1 y (List.mem_cons_self ..)
      cases hm with
      | head => exact hxy rfl
      | tail _ hm => exact hxy (List.le_antisymm hxley (h2.1 x hm))
    · intro hn j a b h1 h2 e
      subst e
      have hp := List.pairwise_iff_getElem.1 hn
      obtain ⟨l1, e1⟩ := List.getElem?_eq_some_iff.1 h1
      obtain ⟨l2, e2⟩ := List.getElem?_eq_some_iff.1 h2
      exact hp j (j + 1) l1 l2 (by omega) (e1.trans e2.symm)
theorem compact_len {zs : List (List UInt8)} (hs : zs.Pairwise (· ≤ ·)) : ((Lib.compact zs).length < zs.length ↔ ¬ zs.Nodup) ∧ (Lib.compact zs).length ≤ zs.length := by
  have hlen : (Lib.compact zs).length = ((List.range zs.length).filter (Lib.keeps zs.toArray)).length := by unfold Lib.compact Lib.compactUpTo; rw [List.length_map]
  have hle : (Lib.compact zs).length ≤ zs.length := by rw [hlen]; exact Nat.le_trans (List.length_filter_le _ _) (by simp)
  refine ⟨?_, hle⟩
  have hall : (Lib.compact zs).length = zs.length ↔ ∀ j, j < zs.length → Lib.keeps zs.toArray j = true := by
    rw [hlen]
    constructor
    · intro h j hj
      have h2 : ((List.range zs.length).filter (Lib.keeps zs.toArray)).length = (List.range zs.length).length := by rw [h, List.length_range]
      exact (List.length_filter_eq_length_iff.1 h2) j (List.mem_range.2 hj)
    · intro h
      rw [List.filter_eq_self.2 fun j hj => h j (List.mem_range.1 hj), List.length_range]
  have hk : (∀ j, j < zs.length → Lib.keeps zs.toArray j = true) ↔ zs.Nodup := by
    rw [← consec_nodup hs]
    constructor
    · intro h j x y hx hy e
      obtain ⟨l2, e2⟩ := List.getElem?_eq_some_iff.1 hy
      obtain ⟨l1, e1⟩ := List.getElem?_eq_some_iff.1 hx
      have := h (j + 1) l2
      unfold Lib.keeps at this
      simp [l1, l2, e1, e2, e] at this
    · intro h j hj
      unfold Lib.keeps
      rw [decide_eq_true_eq]
      by_cases h0 : j = 0
      · exact .inl h0
      · right
        have hx := List.getElem?_eq_getElem (l := zs) (i := j - 1) (by omega)
        have hy := List.getElem?_eq_getElem (l := zs) (i := j) hj
        have := h (j - 1) _ _ hx (by rw [show j - 1 + 1 = j by omega]; exact hy)
        simp [hj, show j - 1 < zs.length by omega]
        exact fun e => this e.symm
  rw [← hk, ← hall]; omega
theorem dup_nodup (l : List ByteArray) : dup l = true ↔ ¬ (l.map toL).Nodup := by
  have : l.Nodup ↔ (l.map toL).Nodup := by
    rw [List.nodup_iff_pairwise_ne, List.nodup_iff_pairwise_ne, List.pairwise_map]
    exact ⟨fun h => h.imp fun hne e => hne (ba_ext e), fun h => h.imp fun hne e => hne (by rw [e])⟩
  rw [← this]
  induction l with
  | nil => simp [dup]
  | cons x r ih =>
    simp only [dup, Bool.or_eq_true, hasB_iff, List.nodup_cons]
    have ih' : dup r = true ↔ ¬ r.Nodup := by
      apply ih
      rw [List.nodup_iff_pairwise_ne, List.nodup_iff_pairwise_ne, List.pairwise_map]
      exact ⟨fun h => h.imp fun hne e => hne (ba_ext e), fun h => h.imp fun hne e => hne (by rw [e])⟩
    rw [ih']
    by_cases h1 : x ∈ r <;> simp [h1]
theorem sorted_le (l : List (List UInt8)) : (l.mergeSort fun x y => decide (x ≤ y)).Pairwise (· ≤ ·) := by
  have := List.pairwise_mergeSort (le := fun x y : List UInt8 => decide (x ≤ y)) (fun a b c h1 h2 => by simp only [decide_eq_true_eq] at *; exact List.le_trans h1 h2) (fun a b => by simp only [Bool.or_eq_true, decide_eq_true_eq]; exact List.le_total a b) l
  exact this.imp fun h => of_decide_eq_true h
theorem grown_bl {w w' : World} {g : Nat} (h : w.grownBy w' (some g)) {B : Nat} (hB : B ≤ g) (hw : B ≤ w.heap.size) {w0 : World} (h0 : Below B w0 w) : Below B w0 w' :=
  h0.grown h hw (fun k e => by cases e; exact hB)
theorem u_twice (l : List ByteArray) (a : Option Addr) (cap : Nat) (S : Nat → Prop) (w : World) (hS : Sl eStr S w a l) : Ret Tryz.prog 69 #[.slice a l.length cap] w fun v w' => v = .bool (dup l) ∧ Bl w w' := by
  have hbig := hS.big
  refine entr (vs := [.slice a l.length cap]) [0, 2] tabok Tryz.func69 (by kernel_rfl) ?_
  refine cl (R := fun v w' => ∃ b, v = .func (.func 185) #[] #[.pointer (some ⟨b, 0, none⟩)] ∧ New w b 25 [.slice a l.length cap] w') ?_ ?_
  · refine entr (vs := [.slice a l.length cap]) [0, 1, 2] tabok Tryz.func137 (by kernel_rfl) ?_
    refine bx (cs := [.slice a l.length cap]) fun b w1 h1 => ?_
    exact rt1 ⟨b, rfl, h1⟩
  rintro _ w1 ⟨b, rfl, h1⟩
  have hS1 := hS.bl h1.bl
  have hlt1 : ∀ (j : Nat) x, (l.map toL)[j]? = some x → ∃ b off, a = some ⟨b, off, none⟩ ∧ b < w1.heap.size ∧ w1.cell? ⟨b, off + j, none⟩ = some (sEnc x) := fun j x hx => by
    rw [List.getElem?_map] at hx
    cases hl : l[j]? with
    | none => rw [hl] at hx; cases hx
    | some s =>
      rw [hl] at hx
      obtain rfl := Option.some.inj hx
      obtain ⟨b', o', cs, e, _, hAt, rfl⟩ := hS1.el j s hl
      have hc := hAt 0 _ rfl
      have hc' : w1.cell? ⟨b', o' + j, none⟩ = some (.string s) := by simpa [eStr, plainEl] using hc
      exact ⟨b', o', e, cell_lt hc', by rw [hc', sEnc_toL]⟩
  have hlen : (l.map toL).length = l.length := List.length_map ..
  refine cl (R := fun v w' => ∃ a' cap', v = .slice a' l.length cap' ∧ Ow w' w1.heap.size 9 1 a' l.length cap' (((l.map toL).mergeSort fun x y => decide (x ≤ y)).map sEnc) ∧ Bl w1 w') ⟨by kernel_rfl, (c_sorted (l.map toL) a cap b w1 (by rw [hlen]; exact hbig) (by rw [hlen]; exact h1.box.cell rfl) h1.box.lt hlt1).mono ?_⟩ ?_
  · rintro e w2 ⟨v, rfl, hrow, hb⟩
    rw [hlen] at hrow
    have hr := hrow
    rcases hrow.2 with ⟨rfl, h0⟩ | ⟨g, cap', cur, rfl, _⟩
    · exact ⟨none, 0, by rw [h0], ⟨by rw [h0] at hr ⊢; exact hr⟩, hb⟩
    · exact ⟨_, cap', rfl, ⟨hr⟩, hb⟩
  rintro _ w2 ⟨a', cap', rfl, hO, hB2⟩
  have hsl : ((l.map toL).mergeSort fun x y => decide (x ≤ y)).length = l.length := by rw [List.length_mergeSort, hlen]
  have hres : dup l = decide ((Lib.compact ((l.map toL).mergeSort fun x y => decide (x ≤ y))).length < l.length) := by
    rw [Bool.eq_iff_iff, dup_nodup, decide_eq_true_eq, ← hsl, (compact_len (sorted_le _)).1, List.Perm.nodup_iff (List.mergeSort_perm _ _)]
  refine cl (R := fun v w' => ∃ cap2, v = .slice a' (Lib.compact ((l.map toL).mergeSort fun x y => decide (x ≤ y))).length cap2 ∧ Bl w w') ?_ ?_
  · rcases hO.shape with ⟨rfl, h0, rfl, _⟩ | ⟨g, cur, rfl, hg, hgb, hn, hcs, htk⟩
    · refine ⟨by kernel_rfl, ?_⟩
      have he : ((l.map toL).mergeSort fun x y => decide (x ≤ y)) = [] := List.eq_nil_of_length_eq_zero (by rw [hsl, h0])
      rw [h0, he]
      refine (Tryz.slices_Compact_string_empty none 0 w2).mono ?_
      rintro e w3 ⟨rfl, rfl⟩
      exact ⟨0, rfl, h1.bl.trans hB2⟩
    · refine ⟨by kernel_rfl, ?_⟩
      have hH : Holds sEnc w2 g 0 ((l.map toL).mergeSort fun x y => decide (x ≤ y)).toArray := holds_of_block hgb (by rw [hsl]; simpa using htk)
      have := Tryz.slices_Compact_string g 0 cap' ((l.map toL).mergeSort fun x y => decide (x ≤ y)) w2 hH (by rw [hsl]; omega) (by rw [hsl]; exact hn)
      rw [hsl] at this
      refine this.mono ?_
      rintro e w3 ⟨rfl, q, hw3⟩
      refine ⟨cap', rfl, h1.bl.trans ?_⟩
      rw [← Go.Sort.grow_empty (putRow _ _ _ _ _)] at hw3
      rw [hw3]
      exact grown_bl (grownBy_sorted _) hg hB2.size hB2
  rintro _ w3 ⟨cap2, rfl, hB3⟩
  refine rt1 ⟨vb ?_, hB3⟩
  rw [hres, Bool.eq_iff_iff, decide_eq_true_eq, decide_eq_true_eq]; omega
end Go.Proofs.YtopjmiklpnejmaaGreatDoor
