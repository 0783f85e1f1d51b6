/- The engine, tenth part: a region whose first operations, in any order, only make new blocks. -/
import Derived.Test.YtopjmiklpnejmaaGreatDoorEng8
namespace Go.Proofs.YtopjmiklpnejmaaGreatDoor.Eng
open Go Go.RowKit
/-- the block that a value points to -/
def fpV : Value → Option Nat
  | .pointer (some a) => some a.block
  | .slice (some a) _ _ => some a.block
  | _ => none
/-- what one of the first operations gives, read off the slots -/
structure Pr where
  rd : List Nat
  nw : Bool
  sp : (Nat → Value) → World → Prop
structure PrOk (p : Pr) (d : Nat) : Prop where
  mono : ∀ {g w w'}, Bl w w' → p.sp g w → p.sp g w'
  loc : ∀ {g g' w}, (∀ j ∈ p.rd, g j = g' j) → p.sp g w → p.sp g' w
  lt : ∀ {g w b}, p.nw = true → p.sp g w → fpV (g d) = some b → b < w.heap.size
def valsOf (a : Act) : Nat → Value := fun d => a.tmps.getD d undef
/-- a value that is known -/
def Pr.cst (d : Nat) (v : Value) : Pr := ⟨[d], false, fun g _ => g d = v⟩
theorem Pr.cst_ok (d : Nat) (v : Value) : PrOk (Pr.cst d v) d := ⟨fun _ h => h, fun h k => (h d (List.mem_singleton.2 rfl)).symm.trans k, fun h => by cases h⟩
/-- a new block -/
def Pr.box (d : Nat) (f : Nat → Value) (t : TypeId) (cs : List Value) : Pr := ⟨[d], true, fun g w => ∃ b, g d = f b ∧ Box w b t cs⟩
theorem Pr.box_ok (d : Nat) (f : Nat → Value) (t : TypeId) (cs : List Value) (hf : ∀ b, fpV (f b) = some b) : PrOk (Pr.box d f t cs) d :=
  ⟨fun h ⟨b, e, k⟩ => ⟨b, e, Bl.box h k⟩, fun h ⟨b, e, k⟩ => ⟨b, (h d (List.mem_singleton.2 rfl)).symm.trans e, k⟩, fun _ ⟨b, e, k⟩ hb => by
    rw [e, hf] at hb; cases hb; exact k.lt⟩
/-- what is read off other slots -/
def Pr.fn (d : Nat) (rs : List Nat) (f : List Value → Value) : Pr := ⟨d :: rs, false, fun g _ => g d = f (rs.map g)⟩
theorem Pr.fn_ok (d : Nat) (rs : List Nat) (f : List Value → Value) : PrOk (Pr.fn d rs f) d :=
  ⟨fun _ h => h, fun {g g' w} h k => by
    have e : rs.map g = rs.map g' := List.map_congr_left fun j hj => h j (List.mem_cons_of_mem _ hj)
    show g' d = f (rs.map g')
    rw [← e, ← h d (List.mem_cons_self ..)]; exact k, fun h => by cases h⟩
def nthD (ops : List Oper) (i : Nat) : Option Nat := match ops[i]? with
  | some o => o.dst
  | none => none
def memN (d : Nat) : List Nat → Bool
  | [] => false
  | j :: r => Nat.beq j d || memN d r
theorem memN_iff {d : Nat} : ∀ {l : List Nat}, memN d l = true ↔ d ∈ l
  | [] => by simp [memN]
  | j :: r => by
    simp only [memN, Bool.or_eq_true, List.mem_cons, memN_iff (l := r)]
    constructor
    · rintro (h | h)
      · exact .inl (Nat.eq_of_beq_eq_true h).symm
      · exact .inr h
    · rintro (h | h)
      · exact .inl (by rw [h]; exact Nat.beq_refl _)
      · exact .inr h
def dstIs (ops : Array Oper) (j r : Nat) : Bool := match ops.toList[j]? with
  | some oj => (match oj.dst with | some dj => Nat.beq dj r | none => false)
  | none => false
theorem dstIs_of {ops : Array Oper} {j r : Nat} (h : dstIs ops j r = true) : ∃ o, ops[j]? = some o ∧ o.dst = some r := by
  unfold dstIs at h
  split at h
  · rename_i o ho
    split at h
    · rename_i d hd
      exact ⟨o, by rw [← Array.getElem?_toList]; exact ho, by rw [hd, Nat.eq_of_beq_eq_true h]⟩
    · cases h
  · cases h
/-- one operation of the first part is in form -/
def parOp (n : Nat) (l : Env) (ops : Array Oper) (i : Nat) (o : Oper) (p : Pr) : Bool := match o.dst with
  | none => false
  | some d => Nat.blt d n && isNone (look l d) && o.guard.isNone && (match o.op with | .select .. => false | _ => true) &&
    (o.after.all fun e => !Region.binds .any e || Nat.blt e.on i) &&
    (p.rd.all fun r => Nat.beq r d || (o.after.any fun e => Region.binds .any e && dstIs ops e.on r))
def parB (n : Nat) (l : Env) (ops : Array Oper) : Nat → List Pr → List Oper → Bool
  | _, [], _ => true
  | i, p :: ps, o :: os => parOp n l ops i o p && parB n l ops (i + 1) ps os
  | _, _, _ => false
/-- the others wait for all of the first part -/
def waitB (m : Nat) (os : List Oper) : Bool := os.all fun o => (List.range m).all fun j => o.after.any fun e => Region.binds .any e && Nat.beq e.on j
/-- no slot is written twice -/
def distB : List Nat → Bool
  | [] => true
  | d :: r => !memN d r && distB r
def dsts : List Oper → List Nat
  | [] => []
  | o :: os => match o.dst with
    | some d => d :: dsts os
    | none => dsts os
def penv : List Oper → (Nat → Value) → Env → Env
  | [], _, l => l
  | o :: os, g, l => match o.dst with
    | some d => (d, g d) :: penv os g l
    | none => penv os g l
theorem penv_knows {a : Act} {l : Env} (hk : Knows l a) : ∀ os : List Oper, Knows (penv os (valsOf a) l) a
  | [] => hk
  | o :: os => by
    simp only [penv]
    cases o.dst with
    | none => exact penv_knows hk os
    | some d =>
      intro j v hj
      simp only [look] at hj
      cases hb : Nat.beq d j with
      | true => simp only [hb, cond_true, Option.some.injEq] at hj; have := Nat.eq_of_beq_eq_true hb; subst this; exact hj
      | false => simp only [hb, cond_false] at hj; exact penv_knows hk os j v hj
theorem parB_at {n : Nat} {l : Env} {ops : Array Oper} : ∀ {ps : List Pr} {os : List Oper} {i : Nat}, parB n l ops i ps os = true → ∀ {j : Nat} {p : Pr}, ps[j]? = some p → ∃ o, os[j]? = some o ∧ parOp n l ops (i + j) o p = true
  | [], _, _, _, j, p, hp => by simp at hp
  | p :: ps, [], _, h, _, _, _ => by simp [parB] at h
  | p :: ps, o :: os, i, h, 0, q, hq => by
    simp only [parB, Bool.and_eq_true] at h
    simp at hq; subst hq; exact ⟨o, rfl, h.1⟩
  | p :: ps, o :: os, i, h, j + 1, q, hq => by
    simp only [parB, Bool.and_eq_true] at h
    obtain ⟨o', h1, h2⟩ := parB_at h.2 (j := j) (by simpa using hq)
    exact ⟨o', by simpa using h1, by rw [show i + (j + 1) = i + 1 + j by omega]; exact h2⟩
theorem dsts_ne : ∀ {os : List Oper}, distB (dsts os) = true → ∀ {i j : Nat} {oi oj : Oper} {d : Nat}, os[i]? = some oi → os[j]? = some oj → oi.dst = some d → oj.dst = some d → i = j
  | [], _, i, _, _, _, _, h, _, _, _ => by simp at h
  | o :: os, h, i, j, oi, oj, d, hi, hj, di, dj => by
    have mem : ∀ {k : Nat} {ok : Oper}, os[k]? = some ok → ok.dst = some d → d ∈ dsts os := fun {k ok} hk dk => by
      have := List.mem_of_getElem? hk
      clear hk h hi hj
      induction os with
      | nil => cases this
      | cons x os ih =>
        cases this with
        | head => simp [dsts, dk]
        | tail _ hm =>
          simp only [dsts]
          split
          · exact List.mem_cons_of_mem _ (ih hm)
          · exact ih hm
    have h' : distB (dsts os) = true := by
      simp only [dsts] at h
      split at h
      · simp only [distB, Bool.and_eq_true] at h; exact h.2
      · exact h
    cases i with
    | zero =>
      simp at hi; subst hi
      cases j with
      | zero => rfl
      | succ j =>
        exfalso
        simp only [dsts, di, distB, Bool.and_eq_true, Bool.not_eq_true'] at h
        have := memN_iff.2 (mem (k := j) (by simpa using hj) dj)
        rw [this] at h; exact absurd h.1 (by simp)
    | succ i =>
      cases j with
      | zero =>
        exfalso
        simp at hj; subst hj
        simp only [dsts, dj, distB, Bool.and_eq_true, Bool.not_eq_true'] at h
        have := memN_iff.2 (mem (k := i) (by simpa using hi) di)
        rw [this] at h; exact absurd h.1 (by simp)
      | succ j => rw [dsts_ne h' (i := i) (j := j) (by simpa using hi) (by simpa using hj) di dj]
/-- one operation of the first part, run wherever it may stand -/
def StepOk (C : Cx) (l : Env) (w0 : World) (o : Oper) (p : Pr) (deps : (Nat → Value) → World → Prop) : Prop :=
  ∀ (a : Act) (w : World), Bl w0 w → Knows l a → deps (valsOf a) w → ∃ v w', (execOp a.eval o).run C.P w = .ok (.value v) w' ∧ (∀ d, o.dst = some d → ∀ g, (∀ j, j ≠ d → g j = valsOf a j) → g d = v → p.sp g w') ∧ Bl w w' ∧ (p.nw = true → ∀ b, fpV v = some b → w.heap.size ≤ b)
def depsOf (prs : List Pr) (o : Oper) (g : Nat → Value) (w : World) : Prop := ∀ e ∈ o.after, Region.binds .any e = true → ∀ p, prs[e.on]? = some p → p.sp g w
theorem getD_ones (m k j : Nat) : ((List.replicate m true ++ List.replicate k false).toArray.getD j true) = decide (j < m ∨ m + k ≤ j) := by
  rw [Array.getD_eq_getD_getElem?, List.getElem?_toArray]
  by_cases h : j < m
  · rw [List.getElem?_append_left (by simpa using h)]; simp [h]
  · rw [List.getElem?_append_right (by simpa using h), List.getElem?_replicate]
    simp only [List.length_replicate]
    by_cases h2 : j - m < k
    · rw [if_pos h2]; simp; omega
    · rw [if_neg h2]; simp; omega
section
variable {C : Cx} {ops : Array Oper} {prs : List Pr} {l : Env} {w0 : World} {k : List Item} {S : Nat → Prop}
structure PInv (C : Cx) (ops : Array Oper) (prs : List Pr) (l : Env) (w0 : World) (listed : Array Bool) (a : Act) (w : World) : Prop where
  ok : OkA C a l []
  bl : Bl w0 w
  sz : listed.size = ops.size
  hi : ∀ j, prs.length ≤ j → j < ops.size → listed.getD j true = false
  sp : ∀ j p, prs[j]? = some p → listed.getD j true = true → p.sp (valsOf a) w
  dep : ∀ j o e, j < prs.length → ops[j]? = some o → listed.getD j true = true → e ∈ o.after → Region.binds .any e = true → listed.getD e.on true = true
  ge : ∀ (i : Nat) (p : Pr) (o : Oper) (d b : Nat), prs[i]? = some p → ops[i]? = some o → o.dst = some d → listed.getD i true = true → p.nw = true → fpV (valsOf a d) = some b → w0.heap.size ≤ b
  dist : ∀ (i j : Nat) (pi pj : Pr) (oi oj : Oper) (di dj bi bj : Nat), i ≠ j → prs[i]? = some pi → prs[j]? = some pj → ops[i]? = some oi → ops[j]? = some oj → oi.dst = some di → oj.dst = some dj → listed.getD i true = true → listed.getD j true = true → pi.nw = true → pj.nw = true → fpV (valsOf a di) = some bi → fpV (valsOf a dj) = some bj → bi ≠ bj
theorem valsOf_put {a : Act} {d : Nat} {v : Value} (hd : d < a.tmps.size) (j : Nat) : valsOf (a.put (some d) v) j = if j = d then v else valsOf a j := get_put hd
def unl (m : Nat) (listed : Array Bool) : Nat := ((List.range m).filter fun j => !listed.getD j true).length
theorem unl_set {m i : Nat} {listed : Array Bool} (hi : i < m) (h : listed.getD i true = false) : unl m (listed.setIfInBounds i true) + 1 = unl m listed := by
  unfold unl
  have hil : i < listed.size := by
    rcases Nat.lt_or_ge i listed.size with h' | h'
    · exact h'
    · rw [Array.getD_eq_getD_getElem?, Array.getElem?_eq_none h'] at h; cases h
  have key : ∀ L : List Nat, L.Nodup → i ∈ L → (L.filter fun j => !(listed.setIfInBounds i true).getD j true).length + 1 = (L.filter fun j => !listed.getD j true).length := by
    intro L
    induction L with
    | nil => intro _ h; cases h
    | cons x L ih =>
      intro hn hm
      rw [List.nodup_cons] at hn
      by_cases hx : x = i
      · subst hx
        have e1 : (!(listed.setIfInBounds x true).getD x true) = false := by
          rw [Array.getD_eq_getD_getElem?, Array.getElem?_setIfInBounds_self_of_lt hil]; rfl
        have e2 : (!listed.getD x true) = true := by rw [h]; rfl
        rw [List.filter_cons, if_neg (by rw [e1]; simp), List.filter_cons, if_pos e2, List.length_cons]
        congr 1
        congr 1
        apply List.filter_congr
        intro y hy
        have hne : x ≠ y := fun e => hn.1 (e ▸ hy)
        rw [getD_set_ne true hne]
      · have hm' : i ∈ L := by
          cases hm with
          | head => exact absurd rfl hx
          | tail _ h => exact h
        have e1 : (listed.setIfInBounds i true).getD x true = listed.getD x true := getD_set_ne true (Ne.symm hx)
        have := ih hn.2 hm'
        rw [List.filter_cons, List.filter_cons, e1]
        split
        · simp only [List.length_cons]; omega
        · exact this
  exact key _ List.nodup_range (List.mem_range.2 hi)
theorem unl_zero {m : Nat} {listed : Array Bool} (h : unl m listed = 0) {j : Nat} (hj : j < m) : listed.getD j true = true := by
  unfold unl at h
  have := List.eq_nil_of_length_eq_zero h
  by_cases hc : listed.getD j true = true
  · exact hc
  · exfalso
    have hm : j ∈ ((List.range m).filter fun j => !listed.getD j true) := List.mem_filter.2 ⟨List.mem_range.2 hj, by simpa using hc⟩
    rw [this] at hm; cases hm
theorem par_run (hlen : prs.length ≤ ops.size) (hB : parB C.n l ops 0 prs (ops.toList.take prs.length) = true) (hd : distB (dsts (ops.toList.take prs.length)) = true) (hwt : waitB prs.length (ops.toList.drop prs.length) = true)
    (hok : ∀ (i : Nat) (o : Oper) (p : Pr) (d : Nat), ops[i]? = some o → prs[i]? = some p → o.dst = some d → PrOk p d) (hstep : ∀ (i : Nat) (o : Oper) (p : Pr), ops[i]? = some o → prs[i]? = some p → StepOk C l w0 o p (depsOf prs o))
    (fuel0 : Nat) {Q : Exit → Act → World → Prop}
    (hend : ∀ a w, PInv C ops prs l w0 (List.replicate prs.length true ++ List.replicate (ops.size - prs.length) false).toArray a w → wpM C.P .any ops Q S (ops.size - 0) fuel0 (List.replicate prs.length true ++ List.replicate (ops.size - prs.length) false).toArray a w) :
    ∀ (u : Nat) (listed : Array Bool) (a : Act) (w : World), unl prs.length listed = u → PInv C ops prs l w0 listed a w → wpM C.P .any ops Q S (ops.size - 0) (fuel0 + u) listed a w := by
  have opOf : ∀ {i : Nat} {p : Pr}, prs[i]? = some p → ∃ o, ops[i]? = some o ∧ parOp C.n l ops i o p = true := fun {i p} hp => by
    obtain ⟨o, h1, h2⟩ := parB_at hB hp
    rw [Nat.zero_add] at h2
    have hi := (List.getElem?_eq_some_iff.1 hp).1
    rw [List.getElem?_take, if_pos hi, Array.getElem?_toList] at h1
    exact ⟨o, h1, h2⟩
  intro u
  induction u with
  | zero =>
    intro listed a w hu hI
    have e : listed = (List.replicate prs.length true ++ List.replicate (ops.size - prs.length) false).toArray := by
      apply Array.ext
      · rw [hI.sz]; simp; omega
      · intro j h1 h2
        have e1 : listed[j] = listed.getD j true := by simp [Array.getD, h1]
        have e2 : (List.replicate prs.length true ++ List.replicate (ops.size - prs.length) false).toArray[j] = (List.replicate prs.length true ++ List.replicate (ops.size - prs.length) false).toArray.getD j true := by unfold Array.getD; rw [dif_pos h2]; rfl
        rw [e1, e2, getD_ones]
        by_cases hj : j < prs.length
        · rw [unl_zero hu hj, decide_eq_true (.inl hj)]
        · rw [hI.hi j (by omega) (by rw [← hI.sz]; exact h1), decide_eq_false]
          rw [hI.sz] at h1; omega
    rw [e] at hI ⊢
    exact hend a w hI
  | succ u ih =>
    intro listed a w hu hI
    have hun : ∃ i, i < prs.length ∧ listed.getD i true = false ∧ ∀ j, j < i → listed.getD j true = true := by
      have hex : ∃ i, i < prs.length ∧ listed.getD i true = false := by
        unfold unl at hu
        obtain ⟨i, hi⟩ := List.exists_mem_of_ne_nil (l := (List.range prs.length).filter fun j => !listed.getD j true) (by intro h0; rw [h0] at hu; cases hu)
        rw [List.mem_filter, List.mem_range] at hi
        exact ⟨i, hi.1, by simpa using hi.2⟩
      obtain ⟨i, h1, h2⟩ := hex
      induction i using Nat.strongRecOn with
      | _ i ihi =>
        by_cases hall : ∀ j, j < i → listed.getD j true = true
        · exact ⟨i, h1, h2, hall⟩
        · have ⟨j, hj⟩ := Classical.not_forall.1 hall
          have ⟨hj1, hj2⟩ := Classical.not_imp.1 hj
          exact ihi j hj1 (by omega) (by simpa using hj2)
    refine ⟨fun h0 => ?_, fun i hi => ?_⟩
    · exfalso
      obtain ⟨i, h1, h2, h3⟩ := hun
      obtain ⟨p, hp⟩ := some_of_lt h1
      obtain ⟨o, ho, hpo⟩ := opOf hp
      have : i ∈ Region.ready .any ops listed := by
        rw [mem_ready]
        refine ⟨h2, o, ho, fun e he hb => ?_⟩
        unfold parOp at hpo
        cases hdst : o.dst with
        | none => rw [hdst] at hpo; cases hpo
        | some d =>
          rw [hdst] at hpo
          simp only [Bool.and_eq_true] at hpo
          have := Array.all_eq_true_iff_forall_mem.1 hpo.1.2 e he
          rw [hb] at this
          have hlt : e.on < i := blt_lt (by simpa using this)
          have := h3 e.on hlt
          have hsz : e.on < listed.size := by rw [hI.sz]; omega
          simpa [Array.getD, hsz] using this
      rw [h0] at this; cases this
    · obtain ⟨hil, o, ho, hall⟩ := mem_ready.1 hi
      have hisz : i < ops.size := (Array.getElem?_eq_some_iff.1 ho).1
      have him : i < prs.length := by
        rcases Nat.lt_or_ge i prs.length with h | h
        · exact h
        · exfalso
          obtain ⟨i1, h1, h2, _⟩ := hun
          have hm : o ∈ ops.toList.drop prs.length := by
            rw [List.mem_iff_getElem?]
            exact ⟨i - prs.length, by rw [List.getElem?_drop, show prs.length + (i - prs.length) = i by omega, Array.getElem?_toList]; exact ho⟩
          have := List.all_eq_true.1 (List.all_eq_true.1 hwt o hm) i1 (List.mem_range.2 h1)
          obtain ⟨e, he, hb⟩ := Array.any_eq_true'.1 this
          simp only [Bool.and_eq_true] at hb
          have e1 := hall e he hb.1
          rw [Nat.eq_of_beq_eq_true hb.2] at e1
          have hsz : i1 < listed.size := by rw [hI.sz]; omega
          simp [Array.getD, hsz] at e1 h2
          rw [h2] at e1; cases e1
      obtain ⟨p, hp⟩ := some_of_lt him
      obtain ⟨o', ho', hpo⟩ := opOf hp
      rw [ho] at ho'
      obtain rfl := Option.some.inj ho'
      unfold parOp at hpo
      cases hdst : o.dst with
      | none => rw [hdst] at hpo; cases hpo
      | some d =>
        rw [hdst] at hpo
        simp only [Bool.and_eq_true] at hpo
        obtain ⟨⟨⟨⟨⟨g1, g2⟩, g3⟩, g4⟩, g5⟩, g6⟩ := hpo
        have hdn : d < a.tmps.size := by rw [hI.ok.size]; exact blt_lt g1
        have hdeps : depsOf prs o (valsOf a) w := fun e he hb q hq => by
          refine hI.sp e.on q hq ?_
          have := hall e he hb
          have hsz : e.on < listed.size := by
            rcases Nat.lt_or_ge e.on listed.size with h | h
            · exact h
            · rw [Array.getD_eq_getD_getElem?, Array.getElem?_eq_none h] at this; cases this
          simpa [Array.getD, hsz] using this
        obtain ⟨v, w', hr, hsp, hbl, hfp⟩ := hstep i o p ho hp a w hI.bl hI.ok.k hdeps
        have hwanted : Region.wanted o (yielded ops a.tmps) = true := by
          unfold Region.wanted
          cases hg : o.guard with
          | none => rfl
          | some x => rw [hg] at g3; cases g3
        unfold wpOp
        simp only [ho, hwanted, if_true]
        left
        unfold Oper.wp
        rw [hr]
        show (_ → Kp S w w') ∧ wpM C.P .any ops Q S (ops.size - 0) (fuel0 + u) (listed.setIfInBounds i true) (a.put o.dst v) w'
        rw [hdst]
        refine ⟨fun _ => hbl.kp S, ih _ _ _ ?_ ?_⟩
        · have := unl_set him hil; omega
        have hne : ∀ j, j ≠ i → (listed.setIfInBounds i true).getD j true = listed.getD j true := fun j hj => getD_set_ne true (Ne.symm hj)
        have hpv : ∀ j, j ≠ d → valsOf (a.put (some d) v) j = valsOf a j := fun j hj => by rw [valsOf_put hdn, if_neg hj]
        have hpd : valsOf (a.put (some d) v) d = v := by rw [valsOf_put hdn, if_pos rfl]
        have hdne : ∀ {j oj dj}, j ≠ i → j < prs.length → ops[j]? = some oj → oj.dst = some dj → dj ≠ d := fun {j oj dj} hj hjm hoj hdj e => by
          subst e
          refine hj (dsts_ne hd (i := j) (j := i) ?_ ?_ hdj hdst)
          · rw [List.getElem?_take, if_pos hjm, Array.getElem?_toList]; exact hoj
          · rw [List.getElem?_take, if_pos him, Array.getElem?_toList]; exact ho
        have hspj : ∀ j q, j ≠ i → prs[j]? = some q → listed.getD j true = true → q.sp (valsOf (a.put (some d) v)) w' := fun j q hj hq hl => by
          have hjm := (List.getElem?_eq_some_iff.1 hq).1
          obtain ⟨oj, hoj, hpj⟩ := opOf hq
          unfold parOp at hpj
          cases hdj : oj.dst with
          | none => rw [hdj] at hpj; cases hpj
          | some dj =>
            have hq' := hok j oj q dj hoj hq hdj
            refine hq'.mono hbl (hq'.loc (fun r hr => ?_) (hI.sp j q hq hl))
            rw [hdj] at hpj
            simp only [Bool.and_eq_true] at hpj
            have hr' := List.all_eq_true.1 hpj.2 r hr
            rw [Bool.or_eq_true] at hr'
            refine (hpv r ?_).symm
            rcases hr' with hr' | hr'
            · rw [Nat.eq_of_beq_eq_true hr']; exact hdne hj hjm hoj hdj
            · obtain ⟨e, he, hb⟩ := Array.any_eq_true'.1 hr'
              rw [Bool.and_eq_true] at hb
              have hlt : e.on < j := by
                have := Array.all_eq_true_iff_forall_mem.1 hpj.1.2 e he
                rw [hb.1] at this
                exact blt_lt (by simpa using this)
              intro hrd
              subst hrd
              obtain ⟨oe, hoe, hde⟩ := dstIs_of hb.2
              have hei : e.on ≠ i := fun hei => by
                have := hI.dep j oj e hjm hoj hl he hb.1
                rw [hei, hil] at this; cases this
              exact hdne hei (by omega) hoe hde rfl
        have hspi : p.sp (valsOf (a.put (some d) v)) w' := hsp d hdst _ hpv hpd
        have hIok := hI.ok
        refine ⟨⟨by simp [Act.put, hIok.size], by simpa [Act.put] using hIok.defers, fun j x hx => ?_, knows_nil _⟩, Below.trans hI.bl (hbl.mono hI.bl.size), by simp [hI.sz], fun j h1 h2 => ?_, fun j q hq hl => ?_, fun j oj e hjm hoj hl he hb => ?_, fun j q oj dj b hq hoj hdj hl hm hb => ?_, fun i1 j1 pi pj oi oj di dj bi bj hij hpi hpj hoi hoj hdi hdj hli hlj hmi hmj hbi hbj => ?_⟩
        · have hjd : j ≠ d := fun e => by
            subst e
            rw [hx] at g2; cases g2
          have := hI.ok.k j x hx
          exact (hpv j hjd).trans this
        · rw [hne j (by omega)]; exact hI.hi j h1 h2
        · by_cases hj : j = i
          · subst hj; rw [hp] at hq; obtain rfl := Option.some.inj hq; exact hspi
          · rw [hne j hj] at hl; exact hspj j q hj hq hl
        · have hlist : listed.getD e.on true = true := by
            by_cases hj : j = i
            · subst hj
              rw [ho] at hoj; obtain rfl := Option.some.inj hoj
              have := hall e he hb
              have hsz : e.on < listed.size := by
                rcases Nat.lt_or_ge e.on listed.size with h | h
                · exact h
                · rw [Array.getD_eq_getD_getElem?, Array.getElem?_eq_none h] at this; cases this
              simpa [Array.getD, hsz] using this
            · rw [hne j hj] at hl; exact hI.dep j oj e hjm hoj hl he hb
          by_cases he2 : e.on = i
          · rw [he2, hil] at hlist; cases hlist
          · rw [hne _ he2]; exact hlist
        · by_cases hj : j = i
          · subst hj
            rw [ho] at hoj; obtain rfl := Option.some.inj hoj
            rw [hp] at hq; obtain rfl := Option.some.inj hq
            rw [hdst] at hdj; obtain rfl := Option.some.inj hdj
            rw [hpd] at hb
            exact Nat.le_trans hI.bl.size (hfp hm b hb)
          · rw [hne j hj] at hl
            rw [hpv dj (hdne hj (List.getElem?_eq_some_iff.1 hq).1 hoj hdj)] at hb
            exact hI.ge j q oj dj b hq hoj hdj hl hm hb
        · have old : ∀ {j q oj dj b}, j ≠ i → prs[j]? = some q → ops[j]? = some oj → oj.dst = some dj → listed.getD j true = true → q.nw = true → fpV (valsOf a dj) = some b → b < w.heap.size := fun {j q oj dj b} hj hq hoj hdj hl hm hb => (hok j oj q dj hoj hq hdj).lt hm (hI.sp j q hq hl) hb
          by_cases h1 : i1 = i
          · subst h1
            have h2 : j1 ≠ i1 := Ne.symm hij
            rw [ho] at hoi; obtain rfl := Option.some.inj hoi
            rw [hp] at hpi; obtain rfl := Option.some.inj hpi
            rw [hdst] at hdi; obtain rfl := Option.some.inj hdi
            rw [hpd] at hbi
            rw [hpv dj (hdne h2 (List.getElem?_eq_some_iff.1 hpj).1 hoj hdj)] at hbj
            rw [hne j1 h2] at hlj
            have := hfp hmi bi hbi
            have := old h2 hpj hoj hdj hlj hmj hbj
            omega
          · rw [hne i1 h1] at hli
            rw [hpv di (hdne h1 (List.getElem?_eq_some_iff.1 hpi).1 hoi hdi)] at hbi
            by_cases h2 : j1 = i
            · subst h2
              rw [ho] at hoj; obtain rfl := Option.some.inj hoj
              rw [hp] at hpj; obtain rfl := Option.some.inj hpj
              rw [hdst] at hdj; obtain rfl := Option.some.inj hdj
              rw [hpd] at hbj
              have := hfp hmj bj hbj
              have := old h1 hpi hoi hdi hli hmi hbi
              omega
            · rw [hne j1 h2] at hlj
              rw [hpv dj (hdne h2 (List.getElem?_eq_some_iff.1 hpj).1 hoj hdj)] at hbj
              exact hI.dist i1 j1 pi pj oi oj di dj bi bj hij hpi hpj hoi hoj hdi hdj hli hlj hmi hmj hbi hbj
def StepsOk (C : Cx) (l : Env) (w0 : World) (prs : List Pr) : List Oper → List Pr → Prop
  | o :: os, p :: ps => StepOk C l w0 o p (depsOf prs o) ∧ StepsOk C l w0 prs os ps
  | _, _ => True
def PrsOk : List Oper → List Pr → Prop
  | o :: os, p :: ps => (∀ d, o.dst = some d → PrOk p d) ∧ PrsOk os ps
  | _, _ => True
theorem stepsOk_at {C : Cx} {l : Env} {w0 : World} {prs : List Pr} : ∀ {os : List Oper} {ps : List Pr}, StepsOk C l w0 prs os ps → ∀ {i : Nat} {o : Oper} {p : Pr}, os[i]? = some o → ps[i]? = some p → StepOk C l w0 o p (depsOf prs o)
  | o :: os, p :: ps, h, 0, _, _, ho, hp => by simp at ho hp; subst ho; subst hp; exact h.1
  | o :: os, p :: ps, h, i + 1, _, _, ho, hp => stepsOk_at h.2 (i := i) (by simpa using ho) (by simpa using hp)
  | [], _, _, i, _, _, ho, _ => by simp at ho
  | _ :: _, [], _, i, _, _, _, hp => by simp at hp
theorem prsOk_at : ∀ {os : List Oper} {ps : List Pr}, PrsOk os ps → ∀ {i : Nat} {o : Oper} {p : Pr} {d : Nat}, os[i]? = some o → ps[i]? = some p → o.dst = some d → PrOk p d
  | o :: os, p :: ps, h, 0, _, _, d, ho, hp, hd => by simp at ho hp; subst ho; subst hp; exact h.1 d hd
  | o :: os, p :: ps, h, i + 1, _, _, d, ho, hp, hd => prsOk_at h.2 (i := i) (by simpa using ho) (by simpa using hp) hd
  | [], _, _, i, _, _, _, ho, _, _ => by simp at ho
  | _ :: _, [], _, i, _, _, _, _, hp, _ => by simp at hp
/-- two blocks that were made differ -/
def distP : List Oper → List Pr → (Nat → Value) → Prop := fun os ps g => ∀ (i j : Nat) (pi pj : Pr) (oi oj : Oper) (di dj bi bj : Nat), i ≠ j → ps[i]? = some pi → ps[j]? = some pj → os[i]? = some oi → os[j]? = some oj → oi.dst = some di → oj.dst = some dj → pi.nw = true → pj.nw = true → fpV (g di) = some bi → fpV (g dj) = some bj → bi ≠ bj
/-- a region whose first operations, in any order, only make new blocks; the others in an order of ours -/
theorem dpar (prs : List Pr) (S : Nat → Prop) (ord : List Nat) {s : St} {w : World} {i : Nat} {ops : Array Oper} {k : List Item} {l : Env}
    (hs : adv C.tab C.n C.ks 400 s = .code (.code (.region i ops true) :: k) l)
    (hok : PrsOk ops.toList prs) (hstep : tabOk C.P C.tab = true → ∀ w0, Dr w w0 → StepsOk C l w0 prs ops.toList prs)
    (h : ∀ w0 w' g, Dr w w0 → Bl w0 w' → (∀ (i : Nat) (p : Pr), prs[i]? = some p → p.sp g w') → (∀ (i : Nat) (p : Pr) (o : Oper) (d b : Nat), prs[i]? = some p → ops.toList[i]? = some o → o.dst = some d → p.nw = true → fpV (g d) = some b → w0.heap.size ≤ b) → distP ops.toList prs g →
      ∃ l', Sub l' (penv (ops.toList.take prs.length) g l) ∧ Wk C (.reg (some (.h S 0)) ops (pickO ops.toList ord) k l' []) w')
    (hlen : Nat.ble prs.length ops.size = true := by kernel_rfl) (hB : parB C.n l ops 0 prs (ops.toList.take prs.length) = true := by kernel_rfl) (hd : distB (dsts (ops.toList.take prs.length)) = true := by kernel_rfl) (hwt : waitB prs.length (ops.toList.drop prs.length) = true := by kernel_rfl)
    (hsel : Region.noSelect ops = true := by kernel_rfl) (hn : Nat.beq (prs.length + ord.length) ops.size = true := by kernel_rfl) (hH : heldB ops (ops.size - 0) ord (List.replicate prs.length true ++ List.replicate (ops.size - prs.length) false).toArray = true := by kernel_rfl) : Wk C s w := by
  refine by_adv hs ⟨fun ht hfn a hA => runs_wp (wp_region_any (tab_mixed ht) ?_)⟩
  have hlen' := Nat.le_of_ble_eq_true hlen
  have hn' := Nat.eq_of_beq_eq_true hn
  have toL : ∀ {j : Nat} {o : Oper}, ops[j]? = some o → ops.toList[j]? = some o := fun hj => by rw [Array.getElem?_toList]; exact hj
  refine wpAny_of_M (S := S) (m := ops.size - 0) _ _ _ _ ?_
  have hun : unl prs.length (Array.replicate ops.size false) = prs.length := by
    unfold unl
    rw [List.filter_eq_self.2, List.length_range]
    intro j hj
    have := List.mem_range.1 hj
    simp [Array.getD, show j < ops.size by omega]
  have := par_run (C := C) (ops := ops) (prs := prs) (l := l) (w0 := w.drew) (S := S) hlen' hB hd hwt (fun i o p d ho hp hd => prsOk_at hok (toL ho) hp hd) (fun i o p ho hp => stepsOk_at (hstep ht _ ⟨rfl⟩) (toL ho) hp) (ord.length + (ops.size - (ops.size - 0))) (Q := nq C k) (fun a w' hI => heldS_ok (Nat.sub_le ..) hsel (fun c a w hq => by cases hq.1) ord _ a w' hH ?_) prs.length (Array.replicate ops.size false) a w.drew hun ?_
  · rw [show ord.length + (ops.size - (ops.size - 0)) + prs.length = ops.size by omega] at this; exact this
  · have ones : ∀ j, j < prs.length → (List.replicate prs.length true ++ List.replicate (ops.size - prs.length) false).toArray.getD j true = true := fun j hj => by rw [getD_ones, decide_eq_true (.inl hj)]
    obtain ⟨l', hsub, hw⟩ := h w.drew w' (valsOf a) ⟨rfl⟩ hI.bl (fun i p hp => hI.sp i p hp (ones i (List.getElem?_eq_some_iff.1 hp).1)) (fun i p o d b hp ho hd hm hb => hI.ge i p o d b hp (by rw [← Array.getElem?_toList]; exact ho) hd (ones i (List.getElem?_eq_some_iff.1 hp).1) hm hb) (fun i j pi pj oi oj di dj bi bj hij hpi hpj hoi hoj hdi hdj hmi hmj hbi hbj =>
      hI.dist i j pi pj oi oj di dj bi bj hij hpi hpj (by rw [← Array.getElem?_toList]; exact hoi) (by rw [← Array.getElem?_toList]; exact hoj) hdi hdj (ones i (List.getElem?_eq_some_iff.1 hpi).1) (ones j (List.getElem?_eq_some_iff.1 hpj).1) hmi hmj hbi hbj)
    exact hw.run ht hfn a ⟨hI.ok.size, hI.ok.defers, fun j v hj => penv_knows hI.ok.k _ j v (sub_look hsub hj), knows_nil a⟩
  · have nof : ∀ j, (Array.replicate ops.size false).getD j true = true → ops.size ≤ j := fun j hj => by
      rcases Nat.lt_or_ge j ops.size with h | h
      · simp [Array.getD, h] at hj
      · exact h
    refine ⟨hA, Bl.refl _, by simp, fun j _ h2 => by simp [Array.getD, h2], fun j p hp hl => ?_, fun j o e hj ho hl _ _ => ?_, fun i p _ _ _ hp _ _ hl _ _ => ?_, fun i j pi pj oi oj di dj bi bj _ hpi _ _ _ _ _ hl _ _ _ _ _ => ?_⟩
    · have := nof j hl; have := (List.getElem?_eq_some_iff.1 hp).1; omega
    · have := nof j hl; omega
    · have := nof i hl; have := (List.getElem?_eq_some_iff.1 hp).1; omega
    · have := nof i hl; have := (List.getElem?_eq_some_iff.1 hpi).1; omega
/-- the steps of the first part -/
theorem so_move {C : Cx} {l : Env} {w0 : World} {d : Nat} {x : Operand} {ty : TypeId} {pos : String} {af : Array Edge} {g : Option (Nat × Bool)} {v : Value} {D : (Nat → Value) → World → Prop} (hx : evq l x = some v) : StepOk C l w0 ⟨some d, .move x, ty, pos, af, g⟩ (Pr.cst d v) D :=
  fun a w _ hk _ => ⟨v, w, by simp only [execOp, evq_ok hk hx]; rfl, fun d' hd g _ hg => by cases hd; exact hg, Bl.refl _, fun h => by cases h⟩
theorem so_mk {C : Cx} (hT : tabOk C.P C.tab = true) {l : Env} {w0 : World} {d : Nat} {T : TypeId} {x y : Operand} {ty : TypeId} {pos : String} {af : Array Edge} {g : Option (Nat × Bool)} {D : (Nat → Value) → World → Prop} {e esz by' sz m n : Nat} {ag : Bool} {zr : List Value} {tk : TK} {ag' : Bool} {zr' : List Value}
    (hx : ∀ a w, Knows l a → D (valsOf a) w → a.eval x = I m) (hy : ∀ a w, Knows l a → D (valsOf a) w → a.eval y = I n) (ht : C.tab.at T = some ⟨.slice e esz by', sz, ag, zr⟩ := by rfl) (he : C.tab.at e = some ⟨tk, esz, ag', zr'⟩ := by rfl) (hmn : m ≤ n := by omega) (hn : n ≤ 8388608 := by omega) (hb : Nat.ble by' 4096 = true := by rfl) :
    StepOk C l w0 ⟨some d, .makeSlice T x y, ty, pos, af, g⟩ (Pr.box d (fun b => .slice (some ⟨b, 0, none⟩) m n) e (rep n zr')) D :=
  fun a w _ hk hD => by
    refine ⟨_, _, exec_mk rfl (tab_at hT ht) (tab_at hT he) (hx a w hk hD) (hy a w hk hD) hmn hn hb, fun d' hd g _ hg => ?_, New.bl ⟨rfl, rfl⟩, fun _ b hb => ?_⟩
    · cases hd; exact ⟨_, hg, New.box ⟨rfl, rfl⟩⟩
    · simp only [fpV, Option.some.injEq] at hb; omega
theorem so_al {C : Cx} (hT : tabOk C.P C.tab = true) {l : Env} {w0 : World} {d : Nat} {T : TypeId} {ty : TypeId} {pos : String} {af : Array Edge} {g : Option (Nat × Bool)} {D : (Nat → Value) → World → Prop} {tk : TK} {sz : Nat} {ag : Bool} {zr : List Value}
    (ht : C.tab.at T = some ⟨tk, sz, ag, zr⟩ := by rfl) : StepOk C l w0 ⟨some d, .alloc T, ty, pos, af, g⟩ (Pr.box d (fun b => .pointer (some ⟨b, 0, none⟩)) T zr) D :=
  fun a w _ hk hD => by
    obtain ⟨z, hz, hc⟩ := zero_run (tab_at hT ht) w
    refine ⟨.pointer (some ⟨w.heap.size, 0, none⟩), w.alloc (.cells zr.toArray T), ?_, fun d' hd g _ hg => ?_, New.bl ⟨rfl, rfl⟩, fun _ b hb => ?_⟩
    · simp only [execOp]
      refine (run_bind_ok (P := C.P) (x := .pointer (some ⟨w.heap.size, 0, none⟩)) (w' := w.alloc (.cells zr.toArray T)) ?_).trans rfl
      unfold Instr.alloc
      rw [run_bind_ok hz]
      simp only [newVar, newRow, hc]; rfl
    · cases hd; exact ⟨_, hg, New.box ⟨rfl, rfl⟩⟩
    · simp only [fpV, Option.some.injEq] at hb; omega
end
end Go.Proofs.YtopjmiklpnejmaaGreatDoor.Eng
