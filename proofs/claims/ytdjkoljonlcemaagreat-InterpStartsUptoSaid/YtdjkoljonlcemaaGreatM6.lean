import Derived.Test.YtdjkoljonlcemaaGreatM5
import Derived.Laws.Externs
import Derived.AtR
import Derived.RangeFuncIn
/- A runner, regions that draw their order: steps that come late. No program stands here. -/
namespace Go.Proofs.YtdjkoljonlcemaaGreat.Zr
open Go Go.RowKit Eng
def allL : Nat → Bool := fun _ => true
section
variable {P : Program} {ops : Array Oper} {M : List Nat}
/-- what is known of the steps that were taken, whatever was listed -/
structure Sta (c : Cxt) (ops : Array Oper) (M : List Nat) (n : Nat) (rs : List Rec) (h : AH) : Prop where
  msk : maskB ops M ops.size = true
  nd : ∀ rs1 r rs2, rs = rs1 ++ r :: rs2 → ∀ k ∈ rs1, k.i ≠ r.i
  op : ∀ r ∈ rs, r.i < ops.size ∧ r.d = dstI ops r.i ∧ (∀ d, r.d = some d → d < n)
  dep : ∀ rs1 r rs2, rs = rs1 ++ r :: rs2 → ∀ d ∈ depsI ops r.i, ∃ k ∈ rs1, k.i = d
  cf : ∀ rs1 r rs2, rs = rs1 ++ r :: rs2 → ∀ k ∈ rs1, confB k.d r.d (slotsI ops k.i) (slotsI ops r.i) = true → bitB M r.i k.i = true
  idl : ∀ r ∈ rs, ∀ x, r.id = some x → x < h.nx ∧ ¬ c.pd x
  uq : ∀ r ∈ rs, ∀ r' ∈ rs, ∀ x, r.id = some x → r'.id = some x → r.i = r'.i
/-- a step that was taken by the runner, and waits -/
def LateF (P : Program) (ops : Array Oper) (h : AH) (eP : En) (r : Rec) : Prop :=
  ∃ o, ops.toList[r.i]? = some o ∧
    ((wantA ops eP o = some false ∧ r.v = .tup [] ∧ r.id = none) ∨
     (wantA ops eP o = some true ∧ r.id = none ∧ qop P (restr eP (slotsO ops o)) (oneH h (readId (restr eP (slotsO ops o)) o.op)) o.op = some r.v) ∨
     (wantA ops eP o = some true ∧ makesB o.op = true ∧ ∃ hA ob, r.id = some hA.nx ∧ eop P (restr eP (slotsO ops o)) hA o.op = some (r.v, hA.new ob) ∧ h.o.get hA.nx = some ob))
def pdL (c : Cxt) (rs : List Rec) (L : Array Bool) : Cxt := ⟨c.w, fun i => c.pd i ∨ ∃ r ∈ rs, lst L r.i = false ∧ r.id = some i⟩
structure Inv (P : Program) (c : Cxt) (ops : Array Oper) (n : Nat) (ds : List Deferred) (e0 : En) (rs : List Rec) (T : List Rec) (h : AH) (L : Array Bool) (R : Ren) (a : Act) (w : World) : Prop where
  rep : Rep (pdL c rs L) R h w
  env : EO R (envL (lst L) rs e0) a
  size : a.tmps.size = n
  dfr : a.defers = ds
  sub : ∀ j, lst L j = true → ∃ r ∈ rs, r.i = j
  down : ∀ j, lst L j = true → ∀ d ∈ depsI ops j, lst L d = true
  lsz : L.size = ops.size
  tt : ∀ r ∈ rs, lst L r.i = false → r ∈ T
  late : ∀ rs1 r rs2, rs = rs1 ++ r :: rs2 → lst L r.i = false → LateF P ops h (envL allL rs1 e0) r
theorem Rep.sub_pd {w0 : World} {p p' : Nat → Prop} {R : Ren} {h : AH} {w : World} (k : Rep ⟨w0, p⟩ R h w) (s : ∀ i, p' i → p i) : Rep ⟨w0, p'⟩ R h w := ⟨k.obj, k.inj, k.frs, fun i x => k.pnd i (s i x), k.live, k.bl⟩
/-- a block that was named is made -/
theorem Rep.here {w0 : World} {p : Nat → Prop} {R : Ren} {h : AH} {w w' : World} {id : Nat} {ob : AO} (k : Rep ⟨w0, p⟩ R h w) (hp : p id) (hi : h.o.get id = some ob) (hb : Bl w w') (ho : OR (R.put id ⟨w.heap.size, 0, 0⟩) ob ⟨w.heap.size, 0, 0⟩ w') :
    Sb R (R.put id ⟨w.heap.size, 0, 0⟩) ∧ Rep ⟨w0, fun i => p i ∧ i ≠ id⟩ (R.put id ⟨w.heap.size, 0, 0⟩) h w' := by
  have hn := (k.pnd id hp).1
  have hlt := (k.pnd id hp).2
  have hs : Sb R (R.put id ⟨w.heap.size, 0, 0⟩) := Ren.put_sb hn
  refine ⟨hs, ⟨fun i o L hi' hL => ?_, fun i j oi oj Li Lj hi' hj ri rj hne => ?_, fun i hi' => ?_, fun i hi' => ?_, k.live, k.bl.trans hb⟩⟩
  · by_cases e : i = id
    · subst e
      rw [Ren.put_self] at hL; cases hL
      rw [hi] at hi'; cases hi'
      exact ⟨ho, k.bl.size⟩
    · unfold Ren.put at hL
      rw [if_neg e] at hL
      obtain ⟨h2, h3⟩ := k.obj i o L hi' hL
      exact ⟨(h2.mono hs).stay (hb.block _ h2.lt), h3⟩
  · unfold Ren.put at ri rj
    by_cases e : i = id
    · rw [if_pos e] at ri; cases ri
      rw [if_neg (fun q => hne (e.trans q.symm))] at rj
      have := (k.obj j oj Lj hj rj).1.lt
      exact fun q => by simp only at q; omega
    · rw [if_neg e] at ri
      by_cases e2 : j = id
      · rw [if_pos e2] at rj; cases rj
        have := (k.obj i oi Li hi' ri).1.lt
        exact fun q => by simp only at q; omega
      · rw [if_neg e2] at rj
        exact k.inj i j oi oj Li Lj hi' hj ri rj hne
  · unfold Ren.put
    rw [if_neg (by omega)]; exact k.frs i hi'
  · unfold Ren.put
    rw [if_neg hi'.2]; exact k.pnd i hi'.1
theorem lst_set {L : Array Bool} {i : Nat} (hi : i < L.size) (j : Nat) : lst (L.setIfInBounds i true) j = if j = i then true else lst L j := by
  unfold lst
  simp only [Array.getD_eq_getD_getElem?, Array.getElem?_setIfInBounds]
  by_cases h : i = j
  · subst h; simp [hi]
  · rw [if_neg h, if_neg (Ne.symm h)]
theorem toOp {i : Nat} {o : Oper} (h : ops.toList[i]? = some o) : ops[i]? = some o := by rw [← Array.getElem?_toList]; exact h
theorem deps_of {i : Nat} {o : Oper} (h : ops.toList[i]? = some o) {L : Array Bool} (hr : i ∈ Region.ready .any ops L) : ∀ d ∈ depsI ops i, lst L d = true := by
  intro d hd
  obtain ⟨_, o', ho', hall⟩ := mem_ready.1 hr
  rw [toOp h] at ho'; cases ho'
  unfold depsI at hd
  rw [h] at hd
  simp only [List.mem_map, List.mem_filter] at hd
  obtain ⟨e, ⟨he, hb⟩, rfl⟩ := hd
  exact hall e (by simpa using he) hb
theorem ready_of {i : Nat} {o : Oper} (h : ops.toList[i]? = some o) {L : Array Bool} (hl : L.size = ops.size) (hu : lst L i = false) (hd : ∀ d ∈ depsI ops i, lst L d = true) : i ∈ Region.ready .any ops L := by
  have ho := toOp h
  have hlt := (Array.getElem?_eq_some_iff.1 ho).1
  refine mem_ready.2 ⟨?_, o, ho, fun e he hb => ?_⟩
  · unfold lst at hu
    simp only [Array.getD_eq_getD_getElem?] at hu ⊢
    rw [Array.getElem?_eq_getElem (by omega)] at hu ⊢
    exact hu
  · refine hd e.on ?_
    unfold depsI
    rw [h]
    simp only [List.mem_map, List.mem_filter]
    exact ⟨e, ⟨by simpa using he, hb⟩, rfl⟩
theorem unlisted {i : Nat} {L : Array Bool} (hl : L.size = ops.size) (hr : i ∈ Region.ready .any ops L) : lst L i = false ∧ i < ops.size := by
  obtain ⟨h1, o, ho, _⟩ := mem_ready.1 hr
  have hlt := (Array.getElem?_eq_some_iff.1 ho).1
  refine ⟨?_, hlt⟩
  unfold lst
  simp only [Array.getD_eq_getD_getElem?] at h1 ⊢
  rw [Array.getElem?_eq_getElem (by omega)] at h1 ⊢
  exact h1
theorem conf_w {k r : Rec} {sk si : List Nat} {t : Nat} (hk : k.d = some t) (ht : t ∈ si) : confB k.d r.d sk si = true := by
  unfold confB
  rw [hk]
  simp [memN_iff.2 ht]
theorem conf_d {k r : Rec} {sk si : List Nat} {t : Nat} (hk : k.d = some t) (ht : r.d = some t) : confB k.d r.d sk si = true := by
  unfold confB
  rw [hk, ht]
  simp
theorem conf_r {k r : Rec} {sk si : List Nat} {t : Nat} (hr : r.d = some t) (ht : t ∈ sk) : confB k.d r.d sk si = true := by
  unfold confB
  rw [hr]
  simp [memN_iff.2 ht]
/-- the slots that a step looks at, when it is ready, hold what they held for the runner -/
theorem slots_then {c : Cxt} {n : Nat} {e0 : En} {rs1 rs2 : List Rec} {r : Rec} {h : AH} {L : Array Bool} (hS : Sta c ops M n (rs1 ++ r :: rs2) h) (hlsz : L.size = ops.size) (hdown : ∀ j, lst L j = true → ∀ d ∈ depsI ops j, lst L d = true)
    (hr : r.i ∈ Region.ready .any ops L) : (∀ t ∈ slotsI ops r.i, (envL (lst L) (rs1 ++ r :: rs2) e0).get t = (envL allL rs1 e0).get t) ∧ (∀ k ∈ rs2, confB r.d k.d (slotsI ops r.i) (slotsI ops k.i) = true → lst L k.i = false) ∧ (∀ k ∈ rs1, confB k.d r.d (slotsI ops k.i) (slotsI ops r.i) = true → lst L k.i = true) := by
  obtain ⟨hu, hlt⟩ := unlisted hlsz hr
  have hro : ∃ o, ops.toList[r.i]? = some o := ⟨_, List.getElem?_eq_getElem (by rw [Array.length_toList]; exact hlt)⟩
  obtain ⟨o, ho⟩ := hro
  have hd := deps_of ho hr
  have hanc := anc_listed hS.msk (L := lst L) hdown (r.i + 1) r.i (by omega) hlt hd
  have h1 : ∀ k ∈ rs1, confB k.d r.d (slotsI ops k.i) (slotsI ops r.i) = true → lst L k.i = true := fun k hk hc => hanc _ (hS.cf rs1 r rs2 rfl k hk hc)
  have h2 : ∀ k ∈ rs2, confB r.d k.d (slotsI ops r.i) (slotsI ops k.i) = true → lst L k.i = false := by
    intro k hk hc
    obtain ⟨s1, s2, rfl⟩ := List.append_of_mem hk
    have hb := hS.cf (rs1 ++ r :: s1) k s2 (by simp) r (by simp) hc
    cases hl : lst L k.i with
    | false => rfl
    | true =>
      have hki : k.i < ops.size := (hS.op k (by simp)).1
      have := anc_listed hS.msk (L := lst L) hdown (k.i + 1) k.i (by omega) hki (hdown k.i hl) _ hb
      rw [hu] at this; cases this
  refine ⟨fun t ht => ?_, h2, h1⟩
  rw [envL_app]
  simp only [envL, hu]
  rw [envL_skip (t := t) fun k hk hkd => h2 k hk (conf_r hkd ht)]
  exact envL_get rfl fun k hk hkd => by rw [h1 k hk (conf_w hkd ht)]; rfl
theorem wantA_eq {e e' : En} {o : Oper} (h : ∀ t ∈ slotsO ops o, e.get t = e'.get t) : wantA ops e o = wantA ops e' o := by
  unfold wantA
  cases hg : o.guard with
  | none => rfl
  | some g =>
    obtain ⟨j, want⟩ := g
    simp only
    cases hs : guardSlot ops j with
    | none => rfl
    | some s =>
      simp only
      rw [h s (by unfold slotsO; rw [hg]; simp only [hs]; exact List.mem_cons_self ..)]
theorem wantA_ok {R : Ren} {e : En} {a : Act} {o : Oper} {b : Bool} (h : EO R e a) (q : wantA ops e o = some b) : Region.wanted o (yielded ops a.tmps) = b := by
  unfold wantA at q
  split at q
  · rename_i hg
    simp only [Option.some.injEq] at q; subst q
    simp [Region.wanted, hg]
  · rename_i j want hg
    split at q <;> try (cases q; done)
    rename_i s hs
    have hw := wanted_path (a := a) hg hs
    split at q <;> try (cases q; done)
    · rename_i c hc
      simp only [Option.some.injEq] at q; subst q
      have := h _ _ hc
      generalize hx : a.tmps.getD s undef = x at this hw
      cases this
      cases hb : Region.wanted o (yielded ops a.tmps) with
      | true =>
        have := hw.1 hb
        simp only [Value.bool.injEq] at this; subst this
        cases c <;> rfl
      | false =>
        cases c <;> cases want <;> simp [boolBeq] <;> simp [hb] at hw
    · rename_i hc
      simp only [Option.some.injEq] at q; subst q
      have := h _ _ hc
      generalize hx : a.tmps.getD s undef = x at this hw
      cases this
      cases hb : Region.wanted o (yielded ops a.tmps) with
      | true => have := hw.1 hb; cases this
      | false => rfl
/-- the slots behind a step that came late -/
theorem env_then {c : Cxt} {n : Nat} {e0 : En} {rs1 rs2 : List Rec} {r : Rec} {h : AH} {L : Array Bool} {R R' : Ren} {a : Act} {x : Value} (hS : Sta c ops M n (rs1 ++ r :: rs2) h) (hlsz : L.size = ops.size) (hdown : ∀ j, lst L j = true → ∀ d ∈ depsI ops j, lst L d = true)
    (henv : EO R (envL (lst L) (rs1 ++ r :: rs2) e0) a) (hsize : a.tmps.size = n)
    (hr : r.i ∈ Region.ready .any ops L) (hs : Sb R R') (hx : VR R' r.v x) : EO R' (envL (lst (L.setIfInBounds r.i true)) (rs1 ++ r :: rs2) e0) (a.put r.d x) := by
  obtain ⟨hu, hlt⟩ := unlisted hlsz hr
  obtain ⟨_, h2, h1⟩ := slots_then (e0 := e0) hS hlsz hdown hr
  have hset := lst_set (L := L) (i := r.i) (by rw [hlsz]; exact hlt)
  have hd := (hS.op r (by simp)).2.2
  intro t v hv
  have key : (envL (lst (L.setIfInBounds r.i true)) (rs1 ++ r :: rs2) e0).get t = if r.d = some t then some r.v else (envL (lst L) (rs1 ++ r :: rs2) e0).get t := by
    have n1 : ∀ k ∈ rs1, lst (L.setIfInBounds r.i true) k.i = lst L k.i := fun k hk => by rw [hset, if_neg (hS.nd rs1 r rs2 rfl k hk)]
    have n2 : ∀ k ∈ rs2, lst (L.setIfInBounds r.i true) k.i = lst L k.i := fun k hk => by
      obtain ⟨s1, s2, rfl⟩ := List.append_of_mem hk
      rw [hset, if_neg (fun q => hS.nd (rs1 ++ r :: s1) k s2 (by simp) r (by simp) q.symm)]
    rw [envL_app, envL_app]
    simp only [envL, hu, hset, if_true]
    rw [envL_all n1]
    by_cases ht : r.d = some t
    · rw [if_pos ht, envL_skip (t := t) (fun k hk hkd => by rw [n2 k hk]; exact h2 k hk (conf_d ht hkd)), stepE_get, if_pos ht]
    · rw [if_neg ht]
      exact envL_get (by rw [stepE_get, if_neg ht]) (fun k hk _ => n2 k hk)
  rw [key] at hv
  cases hdd : r.d with
  | none => rw [hdd] at hv; rw [if_neg (by simp)] at hv; exact (henv t v hv).mono hs
  | some d =>
    rw [get_put (by rw [hsize]; exact hd d hdd)]
    rw [hdd] at hv
    by_cases ht : t = d
    · subst ht; rw [if_pos rfl] at hv ⊢; cases hv; exact hx
    · rw [if_neg (fun q => ht (Option.some.inj q).symm)] at hv
      rw [if_neg ht]
      exact (henv t v hv).mono hs
/-- a step that comes late -/
theorem late_step {c : Cxt} {n : Nat} {ds : List Deferred} {e0 : En} {rs1 rs2 T : List Rec} {r : Rec} {h : AH} {L : Array Bool} {R : Ren} {a : Act} {w : World} {Q : Exit → Act → World → Prop} {K : Act → World → Prop} (hS : Sta c ops M n (rs1 ++ r :: rs2) h) (hI : Inv P c ops n ds e0 (rs1 ++ r :: rs2) T h L R a w)
    (hr : r.i ∈ Region.ready .any ops L) (hK : ∀ R' a' w' T1 T2, Sb R R' → T = T1 ++ r :: T2 → Inv P c ops n ds e0 (rs1 ++ r :: rs2) (T1 ++ T2) h (L.setIfInBounds r.i true) R' a' w' → K a' w') : wpOp P ops Q r.i K a w := by
  obtain ⟨hu, hlt⟩ := unlisted hI.lsz hr
  obtain ⟨hsl, _, _⟩ := slots_then (e0 := e0) hS hI.lsz hI.down hr
  obtain ⟨o, ho, hcase⟩ := hI.late rs1 r rs2 rfl hu
  have hset := lst_set (L := L) (i := r.i) (by rw [hI.lsz]; exact hlt)
  have hslo : slotsI ops r.i = slotsO ops o := by unfold slotsI; rw [ho]
  rw [hslo] at hsl
  have hdst : r.d = o.dst := by rw [(hS.op r (by simp)).2.1]; unfold dstI; rw [ho]
  obtain ⟨T1, T2, rfl⟩ := List.append_of_mem (hI.tt r (by simp) hu)
  -- what all ways share
  have next : ∀ R' x w', Sb R R' → Rep (pdL c (rs1 ++ r :: rs2) (L.setIfInBounds r.i true)) R' h w' → VR R' r.v x → K (a.put o.dst x) w' := by
    intro R' x w' hs hR' hx
    refine hK R' _ w' T1 T2 hs rfl ⟨hR', by rw [← hdst]; exact env_then hS hI.lsz hI.down hI.env hI.size hr hs hx, ?_, ?_, ?_, ?_, by rw [Array.size_setIfInBounds]; exact hI.lsz, ?_, ?_⟩
    · rw [← hI.size]; unfold Act.put; split <;> simp
    · rw [← hI.dfr]; unfold Act.put; split <;> rfl
    · intro j hj
      rw [hset] at hj
      by_cases e : j = r.i
      · exact ⟨r, by simp, e.symm⟩
      · rw [if_neg e] at hj; exact hI.sub j hj
    · intro j hj d hd
      rw [hset] at hj
      rw [hset]
      by_cases e : d = r.i
      · rw [if_pos e]
      · rw [if_neg e]
        by_cases e2 : j = r.i
        · subst e2; exact deps_of ho hr d hd
        · rw [if_neg e2] at hj; exact hI.down j hj d hd
    · intro k hk hl
      rw [hset] at hl
      by_cases e : k.i = r.i
      · rw [if_pos e] at hl; cases hl
      · rw [if_neg e] at hl
        have := hI.tt k hk hl
        rw [List.mem_append, List.mem_cons] at this
        rw [List.mem_append]
        rcases this with h1 | rfl | h1
        · exact .inl h1
        · exact absurd rfl e
        · exact .inr h1
    · intro s1 k s2 hk hl
      rw [hset] at hl
      by_cases e : k.i = r.i
      · rw [if_pos e] at hl; cases hl
      · rw [if_neg e] at hl; exact hI.late s1 k s2 hk hl
  have pdsub : ∀ i, (pdL c (rs1 ++ r :: rs2) (L.setIfInBounds r.i true)).pd i → (pdL c (rs1 ++ r :: rs2) L).pd i := by
    rintro i (hp | ⟨k, hk, hl, hid⟩)
    · exact .inl hp
    · refine .inr ⟨k, hk, ?_, hid⟩
      rw [hset] at hl
      by_cases e : k.i = r.i
      · rw [if_pos e] at hl; cases hl
      · rw [if_neg e] at hl; exact hl
  have hE : EO R (restr (envL allL rs1 e0) (slotsO ops o)) a := by
    intro t v hv
    rw [restr_get] at hv
    by_cases ht : t ∈ slotsO ops o
    · rw [if_pos ht, ← hsl t ht] at hv; exact hI.env t v hv
    · rw [if_neg ht] at hv; cases hv
  have hw := wantA_eq (ops := ops) (o := o) (fun t ht => hsl t ht)
  unfold wpOp
  rw [toOp ho]
  simp only
  rcases hcase with ⟨q1, q2, _⟩ | ⟨q1, _, q2⟩ | ⟨q1, q2, hA, ob, q3, q4, q5⟩
  · rw [← hw] at q1
    rw [if_neg (by rw [wantA_ok hI.env q1]; decide)]
    exact next R undef w (Sb.refl R) (Rep.sub_pd hI.rep pdsub) (by rw [q2]; exact .tup .nil)
  · rw [← hw] at q1
    rw [if_pos (wantA_ok hI.env q1)]
    refine .inl ?_
    obtain ⟨x, h1, h2⟩ := qop_ok (P := P) (oneH_rp hI.rep.rp) hE q2
    unfold Oper.wp
    rw [h1]
    exact next R x w (Sb.refl R) (Rep.sub_pd hI.rep pdsub) h2
  · rw [← hw] at q1
    rw [if_pos (wantA_ok hI.env q1)]
    refine .inl ?_
    obtain ⟨ob', x, w', h1, h2, h3, _, h4⟩ := nop_ok (P := P) (R := R) (w := w) hE q2 q4
    have hob : ob' = ob := by
      have e1 : (hA.new ob').o.get hA.nx = some ob' := by simp [AH.new, Tr.get_set]
      have e2 : (hA.new ob).o.get hA.nx = some ob := by simp [AH.new, Tr.get_set]
      rw [← h2, e2] at e1
      exact (Option.some.inj e1).symm
    subst hob
    have hp : (pdL c (rs1 ++ r :: rs2) L).pd hA.nx := .inr ⟨r, by simp, hu, q3⟩
    have hn := (hI.rep.pnd _ hp).1
    have hsb : Sb R (R.put hA.nx ⟨w.heap.size, 0, 0⟩) := Ren.put_sb hn
    obtain ⟨k1, k2⟩ := h4 _ hsb (Ren.put_self ..)
    obtain ⟨_, hrep⟩ := Rep.here (w0 := c.w) (p := (pdL c (rs1 ++ r :: rs2) L).pd) hI.rep hp q5 h3 k2
    unfold Oper.wp
    rw [h1]
    refine next _ x w' hsb (Rep.sub_pd hrep fun i hi => ⟨pdsub i hi, fun e => ?_⟩) k1
    subst e
    rcases hi with hi | ⟨k, hk, hl, hid⟩
    · exact (hS.idl r (by simp) _ q3).2 hi
    · have := hS.uq r (by simp) k hk _ q3 hid
      rw [hset, if_pos this.symm] at hl; cases hl
end
end Go.Proofs.YtdjkoljonlcemaaGreat.Zr

/- A runner: a map that is copied by the library. No program stands here. -/
namespace Go.Proofs.YtdjkoljonlcemaaGreat.Zr
open Go Go.RowKit Eng
section
variable {P : Program} {w0 : Cxt} {R : Ren} {h : AH} {w : World}
def isClone (P : Program) (g : FuncId) : Bool := match P.funcs[g]? with
  | some fn => match fn.body with
    | some _ => false
    | none => match fn.name == "maps.clone" with
      | true => fn.origin == ""
      | false => false
  | none => false
def extM (P : Program) (g : FuncId) (h : AH) (args : List AV) : Option (AV × AH) := match args with
  | [.iface t (.map r)] => match h.o.get r with
    | some (.map es clock) => match isClone P g with
      | true => some (.iface t (.map h.nx), h.new (.map es clock))
      | false => none
    | _ => none
  | _ => none
theorem clone_next {fn : Func} (h1 : fn.name = "maps.clone") (h2 : fn.origin = "") : Extern.findNext fn = none := by
  unfold Extern.findNext
  simp only [h1, h2]
  rw [show Extern.allNextRows.lookup "maps.clone" = none by kernel_rfl, show Extern.allNextRows.lookup "" = none by kernel_rfl]
  rfl
theorem clone_find {fn : Func} (h1 : fn.name = "maps.clone") : Extern.find fn = some Extern.MapsClone.clone := by
  unfold Extern.find
  simp only [h1]
  rw [show Extern.allGenericRows.lookup "maps.clone" = none by kernel_rfl, show Extern.allTypedRows.lookup "maps.clone" = none by kernel_rfl, show Extern.allRows.lookup "maps.clone" = some Extern.MapsClone.clone by kernel_rfl]
  rfl
theorem clone_call {g : FuncId} (hc : isClone P g = true) (args : Array Value) {x : Value} {w' : World} (hr : (Extern.MapsClone.clone args).run P w = .ok x w') : (callFunc g args).run P w = .ok (.value x) w' := by
  unfold isClone at hc
  split at hc <;> try (cases hc; done)
  rename_i fn hf
  split at hc <;> try (cases hc; done)
  rename_i hb
  split at hc <;> try (cases hc; done)
  rename_i hn
  have h1 := eq_of_beq hn
  have h2 := eq_of_beq hc
  rw [run_callFunc_extern hf (by rw [h1]; kernel_rfl) (by rw [hb]; rfl) (clone_next h1 h2) (clone_find h1), hr]
  rfl
theorem clone_new {t : TypeId} {r clock : Nat} {es : List (AV × AV × Nat)} {L : Loc} (hR : Rep w0 R h w) (hr : h.o.get r = some (.map es clock)) (hL : R r = some L) :
    NewF P R w h (Extern.MapsClone.clone #[.iface t (.map (some L.blk))]) (.iface t (.map h.nx)) (h.new (.map es clock)) := by
  obtain ⟨L', xs, g1, g2, g3⟩ := hR.map hr hL
  rw [hL] at g1; cases g1
  have hbl : Bl w (w.alloc (.map xs.toArray clock)) := (Below.refl _ _).alloc (Nat.le_refl _) _
  have hget : (w.alloc (.map xs.toArray clock)).heap[w.heap.size]? = some (.map xs.toArray clock) := by show (w.heap.push _)[w.heap.size]? = _; simp
  have hsz : (w.alloc (.map xs.toArray clock)).heap.size = w.heap.size + 1 := by show (w.heap.push _).size = _; simp
  refine ⟨_, .iface t (.map (some w.heap.size)), w.alloc (.map xs.toArray clock), ?_, rfl, hbl, hsz, fun R' s k => ⟨.iface (.map (L := ⟨w.heap.size, 0, 0⟩) k), xs, hget, g3.mono s⟩⟩
  have e : Extern.MapsClone.clone #[.iface t (.map (some L.blk))] = (getObj L.blk >>= fun o => match o with
      | .map entries clock => (newObj (.map entries clock) >>= fun n => pure (.iface t (.map (some n))))
      | _ => stuck "maps.clone: a map expected") := rfl
  rw [e, run_bind_ok (getObj_run g2 rfl)]
  rfl
end
end Go.Proofs.YtdjkoljonlcemaaGreat.Zr

/- A runner, ninth part: functions, their blocks, loops and regions; what the runner gives is what the machine gives. No program stands here. -/
namespace Go.Proofs.YtdjkoljonlcemaaGreat.Zr
open Go Go.RowKit Eng
def dstA (n : Nat) (e : En) (d : Option Nat) (v : AV) : Option En := match d with
  | none => some e
  | some d => match Nat.blt d n with
    | true => some (e.set d (some v))
    | false => none
def numA : Nat → List AV → En → En
  | _, [], e => e
  | i, v :: vs, e => numA (i + 1) vs (e.set i (some v))
def outsA (P : Program) (h : AH) (e : En) : List ResultVar → Option (List AV)
  | [] => some []
  | .tmp t :: r => match e.get t with
    | some v => match outsA P h e r with
      | some vs => some (v :: vs)
      | none => none
    | none => none
  | .cell d t :: r => match e.get d with
    | some p => match opLoad P h t p with
      | some v => match outsA P h e r with
        | some vs => some (v :: vs)
        | none => none
      | none => none
    | none => none
def wholeA : List AV → AV
  | [v] => v
  | vs => .tup vs
inductive Task where
  | call (f : FuncId) (args : List AV)
  | code (f : FuncId) (fn : Func) (ro : Option Nat) (D : List Nat) (k : List Item) (e : En)
  | ops (f : FuncId) (fn : Func) (ro : Option Nat) (D : List Nat) (ops : Array Oper) (l : List Oper) (k : List Item) (e : En)
  | held (fn : Func) (ops : Array Oper) (M l : List Nat) (V : List (Nat × Nat)) (e : En)
  | turn (e : En) (o : Oper)
inductive Res where
  | val (v : AV) (h : AH)
  | held (e : En) (h : AH)
def isCall : Op → Option (Operand × List Operand)
  | .call c => match c.callee with
    | .value fx => some (fx, c.args.toList)
    | _ => none
  | _ => none
/-- a function without a body, on values without addresses -/
def extA (P : Program) (g : FuncId) (args : List AV) : Option AV := match P.funcs[g]? with
  | some fn => match fn.body with
    | some _ => none
    | none => match svL args with
      | some xs => match runP P 60 (callFunc g xs.toArray) with
        | some (.value r) => cv r
        | _ => none
      | none => none
  | none => none
/-- the blocks for the rounds' deferred calls are given back -/
def popD (h : AH) : List Nat → Option AH
  | [] => some h
  | i :: D => match h.o.get i with
    | some .dfr => popD (h.gone i) D
    | _ => none
def retA (P : Program) (h : AH) (D : List Nat) (e : En) (fn : Func) : Option Res := match popD h D with
  | some h' => match outsA P h' e fn.results.toList with
    | some vs => some (.val (wholeA vs) h')
    | none => none
  | none => none
def isNoneB {α : Type} : Option α → Bool
  | none => true
  | some _ => false
/-- a round's end -/
def endR (h : AH) (l : Nat) (jump : Option Code) : Option Res := match h.o.get l with
  | some (.loop f n e ps asg body _ _ d) => some (.val (.bool (isNoneB jump)) (h.put l (.loop f n e ps asg body (match jump with | none => .ready | some _ => .done) jump d)))
  | _ => none
def beginR (h : AH) (l : Nat) : Option AH := match h.o.get l with
  | some (.loop f n e ps asg body st pend d) => match st with
    | .ready => some (h.put l (.loop f n e ps asg body .busy pend d))
    | _ => none
  | _ => none
def endL (h : AH) (l : Nat) : Option (Option Code × AH) := match h.o.get l with
  | some (.loop f n e ps asg body st pend d) => match st with
    | .busy => none
    | _ => some (pend, h.put l (.loop f n e ps asg body .exhausted pend d))
  | _ => none
def jumpK : Option Code → List Item → List Item
  | none, k => k
  | some c, k => .code c :: k
def setPs (n : Nat) : List Tmp → List AV → En → Option En
  | [], [], e => some e
  | t :: ts, v :: vs, e => match Nat.blt t n with
    | true => setPs n ts vs (e.set t (some v))
    | false => none
  | _, _, _ => none
/-- where the rounds' deferred calls go -/
def loopD (h : AH) : Option Nat → Option (Nat × AH × List Nat)
  | none => some (h.nx, h.new .dfr, [h.nx])
  | some l => match h.o.get l with
    | some (.loop _ _ _ _ _ _ _ _ d) => some (d, h, [])
    | _ => none
/-- what a turning step wrote was not looked at by steps that may still wait -/
def quietV (M : List Nat) (i : Nat) (lg : List Nat) : List (Nat × Nat) → Bool
  | [] => true
  | (k, x) :: V => match bitB M i k with
    | true => quietV M i lg V
    | false => match memN x lg with
      | true => false
      | false => quietV M i lg V
def noteV (i : Nat) (r : Option Nat) (V : List (Nat × Nat)) : List (Nat × Nat) := match r with
  | none => V
  | some x => (i, x) :: V
def oldB (nx : Nat) : Option Nat → Bool
  | none => true
  | some x => Nat.blt x nx
def run (P : Program) : Nat → Task → AH → Option Res
  | 0, _, _ => none
  | n + 1, t, h => match t with
    | .call f args => match P.funcs[f]? with
      | some fn => match fn.body with
        | some c => match callable P f && Nat.ble args.length fn.ntmps with
          | true => run P n (.code f fn none [] [.code c] (numA 0 args .nil)) h
          | false => none
        | none => none
      | none => none
    | .code f fn ro D k e => match k with
      | [] => match ro with
        | none => retA P h D e fn
        | some l => endR h l none
      | .code c :: k => match c with
        | .seq a b => run P n (.code f fn ro D (.code a :: .code b :: k) e) h
        | .skip => run P n (.code f fn ro D k e) h
        | .label _ => run P n (.code f fn ro D k e) h
        | .block i c => run P n (.code f fn ro D (.code c :: .inBlock i :: k) e) h
        | .loop c => run P n (.code f fn ro D (.code c :: .inLoop c :: k) e) h
        | .cond c x y => match evo e c with
          | some (.bool true) => run P n (.code f fn ro D (.code x :: k) e) h
          | some (.bool false) => run P n (.code f fn ro D (.code y :: k) e) h
          | _ => none
        | .exit i => match exitTo i k with
          | some k' => run P n (.code f fn ro D k' e) h
          | none => match ro with
            | none => none
            | some l => endR h l (some (.exit i))
        | .ret => match ro with
          | none => retA P h D e fn
          | some l => endR h l (some .ret)
        | .rangeFunc g ps asg body => match evo e g with
          | some (.func gf first cap) => match loopD h ro with
            | some (d, h1, D') => match run P n (.call gf (first ++ ([.yield h1.nx] ++ cap))) (h1.new (.loop f fn.ntmps e ps asg body .ready none d)) with
              | some (.val _ h3) => match endL h3 h1.nx with
                | some (jump, h4) => run P n (.code f fn ro (D' ++ D) (jumpK jump k) e) h4
                | none => none
              | _ => none
            | none => none
          | _ => none
        | .region _ ops d => match d with
          | false => run P n (.ops f fn ro D ops ops.toList k e) h
          | true => match ro with
            | some _ => none
            | none => match orderF ops.size 0 (infoF 0 ops.toList) with
              | none => none
              | some l => match okReg ops (masks ops ops.size []) l with
                | false => none
                | true => match run P n (.held fn ops (masks ops ops.size []) l [] e) h with
                  | some (.held e' h') => run P n (.code f fn none D k e') h'
                  | _ => none
        | _ => none
      | .inBlock _ :: k => run P n (.code f fn ro D k e) h
      | .inLoop c :: k => run P n (.code f fn ro D (.code c :: .inLoop c :: k) e) h
      | .beginRound :: k => match ro with
        | none => none
        | some l => match beginR h l with
          | some h' => run P n (.code f fn ro D k e) h'
          | none => none
      | _ => none
    | .ops f fn ro D ops l k e => match l with
      | [] => run P n (.code f fn ro D k e) h
      | o :: l => match wantA ops e o with
        | none => none
        | some false => match dstA fn.ntmps e o.dst (.tup []) with
          | some e' => run P n (.ops f fn ro D ops l k e') h
          | none => none
        | some true => match isCall o.op with
          | some (fx, args) => match evo e fx with
            | some (.func g first cap) => match evoL e args with
              | some vs => match extA P g (first ++ (vs ++ cap)) with
                | some v => match dstA fn.ntmps e o.dst v with
                  | some e' => run P n (.ops f fn ro D ops l k e') h
                  | none => none
                | none => match extM P g h (first ++ (vs ++ cap)) with
                  | some (v, h') => match dstA fn.ntmps e o.dst v with
                    | some e' => run P n (.ops f fn ro D ops l k e') h'
                    | none => none
                  | none => match run P n (.call g (first ++ (vs ++ cap))) h with
                    | some (.val v h') => match dstA fn.ntmps e o.dst v with
                      | some e' => run P n (.ops f fn ro D ops l k e') h'
                      | none => none
                    | _ => none
              | none => none
            | some (.yield y) => match evoL e args with
              | some vs => match h.o.get y with
                | some (.loop f' n' e' ps asg body _ _ _) => match P.funcs[f']? with
                  | some fn' => match Nat.beq fn'.ntmps n' with
                    | true => match setPs n' ps.toList vs e' with
                      | some e'' => match run P n (.code f' fn' (some y) [] [.code asg, .beginRound, .code body] e'') h with
                        | some (.val v h') => match dstA fn.ntmps e o.dst v with
                          | some e3 => run P n (.ops f fn ro D ops l k e3) h'
                          | none => none
                        | _ => none
                      | none => none
                    | false => none
                  | none => none
                | _ => none
              | none => none
            | _ => none
          | none => match qop P e h o.op with
            | some v => match dstA fn.ntmps e o.dst v with
              | some e' => run P n (.ops f fn ro D ops l k e') h
              | none => none
            | none => match eop P e h o.op with
              | some (v, h') => match dstA fn.ntmps e o.dst v with
                | some e' => run P n (.ops f fn ro D ops l k e') h'
                | none => none
              | none => none
    | .held fn ops M l V e => match l with
      | [] => some (.held e h)
      | i :: l => match ops.toList[i]? with
        | none => none
        | some o => match wantA ops e o with
          | none => none
          | some false => match dstA fn.ntmps e o.dst (.tup []) with
            | some e' => run P n (.held fn ops M l V e') h
            | none => none
          | some true => match turnB o.op with
            | true => match run P n (.turn (restr e (slotsO ops o)) o) ⟨h.o, h.nx, []⟩ with
              | some (.val v h1) => match quietV M i h1.lg V with
                | true => match dstA fn.ntmps e o.dst v with
                  | some e' => run P n (.held fn ops M l V e') ⟨h1.o, h1.nx, h1.lg ++ h.lg⟩
                  | none => none
                | false => none
              | _ => none
            | false => match makesB o.op with
              | true => match eop P (restr e (slotsO ops o)) h o.op with
                | some (v, h') => match dstA fn.ntmps e o.dst v with
                  | some e' => run P n (.held fn ops M l ((i, h.nx) :: V) e') h'
                  | none => none
                | none => none
              | false => match oldB h.nx (readId (restr e (slotsO ops o)) o.op) with
                | true => match qop P (restr e (slotsO ops o)) (oneH h (readId (restr e (slotsO ops o)) o.op)) o.op with
                  | some v => match dstA fn.ntmps e o.dst v with
                    | some e' => run P n (.held fn ops M l (noteV i (readId (restr e (slotsO ops o)) o.op) V) e') h
                    | none => none
                  | none => none
                | false => none
    | .turn e o => match isCall o.op with
      | some (fx, args) => match evo e fx with
        | some (.func g first cap) => match evoL e args with
          | some vs => match extA P g (first ++ (vs ++ cap)) with
            | some v => some (.val v h)
            | none => run P n (.call g (first ++ (vs ++ cap))) h
          | none => none
        | _ => none
      | none => match eop P e h o.op with
        | some (v, h') => some (.val v h')
        | none => none
/-- the marks of the loops' blocks -/
inductive DR (R : Ren) : List Nat → List Deferred → Prop
  | nil : DR R [] []
  | cons {i : Nat} {L : Loc} {D : List Nat} {ds : List Deferred} (h : R i = some L) (k : DR R D ds) : DR R (i :: D) ({ target := .collected L.blk, args := #[] } :: ds)
theorem DR.mono {R R' : Ren} (s : Sb R R') : ∀ {D : List Nat} {ds : List Deferred}, DR R D ds → DR R' D ds
  | _, _, .nil => .nil
  | _, _, .cons h k => .cons (s _ _ h) (k.mono s)
theorem DR.app {R : Ren} : ∀ {D D' : List Nat} {ds ds' : List Deferred}, DR R D ds → DR R D' ds' → DR R (D ++ D') (ds ++ ds')
  | _, _, _, _, .nil, k => k
  | _, _, _, _, .cons h k, k' => .cons h (k.app k')
structure OkE (R : Ren) (fn : Func) (e : En) (D : List Nat) (a : Act) : Prop where
  size : a.tmps.size = fn.ntmps
  defers : DR R D a.defers
  k : EO R e a
section
variable {P : Program} {w0 : Cxt}
theorem OkE.put {R : Ren} {fn : Func} {e e' : En} {D : List Nat} {a : Act} {d : Option Nat} {v : AV} {x : Value} (h : OkE R fn e D a) (hv : VR R v x) (q : dstA fn.ntmps e d v = some e') : OkE R fn e' D (a.put d x) := by
  unfold dstA at q
  split at q
  · simp only [Option.some.injEq] at q; subst q; exact h
  · rename_i d
    split at q <;> try (cases q; done)
    rename_i hd
    have hd := blt_lt hd
    simp only [Option.some.injEq] at q; subst q
    refine ⟨by simp [Act.put, h.size], h.defers, fun t u hu => ?_⟩
    rw [get_put (by rw [h.size]; exact hd)]
    rw [Tr.get_set] at hu
    by_cases ht : t = d
    · rw [if_pos ht] at hu ⊢; cases hu; exact hv
    · rw [if_neg ht] at hu ⊢; exact h.k _ _ hu
theorem OkE.mono {R R' : Ren} {fn : Func} {e : En} {D : List Nat} {a : Act} (h : OkE R fn e D a) (s : Sb R R') : OkE R' fn e D a := ⟨h.size, h.defers.mono s, h.k.mono s⟩
theorem numA_get : ∀ (vs : List AV) (i : Nat) (e : En) (t : Nat) (v : AV), (numA i vs e).get t = some v → (i ≤ t ∧ vs[t - i]? = some v) ∨ e.get t = some v
  | [], _, _, _, _, h => .inr h
  | u :: vs, i, e, t, v, h => by
    simp only [numA] at h
    rcases numA_get vs (i + 1) _ t v h with ⟨h1, h2⟩ | h1
    · left
      refine ⟨by omega, ?_⟩
      rw [show t - i = (t - (i + 1)) + 1 by omega]; simpa using h2
    · rw [Tr.get_set] at h1
      by_cases e1 : t = i
      · rw [if_pos e1] at h1; cases h1
        left; exact ⟨by omega, by rw [e1]; simp⟩
      · rw [if_neg e1] at h1; exact .inr h1
theorem VL.get {R : Ren} : ∀ {n : Nat} {vs : List AV} {xs : List Value} {v : AV}, VL R vs xs → vs[n]? = some v → ∃ x, xs[n]? = some x ∧ VR R v x := fun h e => by rw [← nth_eq] at e; exact h.nth e
theorem numA_ok {R : Ren} {fn : Func} {args : List AV} {xs : List Value} (h : VL R args xs) (hl : args.length ≤ fn.ntmps) : OkE R fn (numA 0 args .nil) [] { tmps := xs.toArray ++ Array.replicate (fn.ntmps - xs.toArray.size) undef, defers := [] } := by
  refine ⟨by simp [h.len]; omega, .nil, fun t v hv => ?_⟩
  rcases numA_get _ _ _ _ _ hv with ⟨_, h2⟩ | h2
  · obtain ⟨x, h3, h4⟩ := VL.get h h2
    simp only [Nat.sub_zero] at h3
    obtain ⟨hlt, e⟩ := List.getElem?_eq_some_iff.1 h3
    have : ({ tmps := xs.toArray ++ Array.replicate (fn.ntmps - xs.toArray.size) undef, defers := [] } : Act).tmps.getD t undef = x := by simp [Array.getElem?_append, hlt, e]
    rw [this]; exact h4
  · rw [Tr.nil_get] at h2; cases h2
theorem opLoad_addr {R : Ren} {h : AH} {w : World} (hR : Rp R h w) {t : TypeId} {p v : AV} {x : Value} (hp : VR R p x) (e : opLoad P h t p = some v) : ∃ A y, x = .pointer (some A) ∧ (loadVar t A).run P w = .ok y w ∧ VR R v y := by
  obtain ⟨y, h1, h2⟩ := opLoad_ok hR hp e
  cases hp <;> simp only [opLoad] at e <;> try (cases e; done)
  exact ⟨_, y, rfl, h1, h2⟩
def rvF (tmps : Array Value) : ResultVar → Sem Value
  | .tmp t => pure (tmps.getD t undef)
  | .cell d t => do loadVar t (← asAddr (tmps.getD d undef))
theorem outsA_ok {R : Ren} {h : AH} {w : World} {e : En} {a : Act} (hR : Rp R h w) (hE : EO R e a) : ∀ {rs : List ResultVar} {vs : List AV}, outsA P h e rs = some vs →
    ∃ xs, (rs.mapM (rvF a.tmps)).run P w = .ok xs w ∧ VL R vs xs
  | [], vs, q => by simp only [outsA, Option.some.injEq] at q; subst q; exact ⟨[], rfl, .nil⟩
  | .tmp t :: r, vs, q => by
    simp only [outsA] at q
    split at q <;> try (cases q; done)
    rename_i v hv
    split at q <;> try (cases q; done)
    rename_i us hus
    simp only [Option.some.injEq] at q; subst q
    obtain ⟨xs, h1, h2⟩ := outsA_ok hR hE hus
    refine ⟨a.tmps.getD t undef :: xs, ?_, .cons (hE _ _ hv) h2⟩
    rw [List.mapM_cons, run_bind_ok (show (rvF a.tmps (.tmp t)).run P w = .ok (a.tmps.getD t undef) w from rfl), run_bind_ok h1]; rfl
  | .cell d t :: r, vs, q => by
    simp only [outsA] at q
    split at q <;> try (cases q; done)
    rename_i p hp
    split at q <;> try (cases q; done)
    rename_i v hv
    split at q <;> try (cases q; done)
    rename_i us hus
    simp only [Option.some.injEq] at q; subst q
    obtain ⟨xs, h1, h2⟩ := outsA_ok hR hE hus
    obtain ⟨A, y, g1, g2, g3⟩ := opLoad_addr (P := P) hR (hE _ _ hp) hv
    refine ⟨y :: xs, ?_, .cons g3 h2⟩
    rw [List.mapM_cons]
    have : (rvF a.tmps (.cell d t)).run P w = .ok y w := by
      simp only [rvF]
      rw [g1, run_bind_ok (show (asAddr (.pointer (some A))).run P w = .ok A w from rfl)]; exact g2
    rw [run_bind_ok this, run_bind_ok h1]; rfl
theorem wholeA_ok {R : Ren} {vs : List AV} {xs : List Value} (h : VL R vs xs) : VR R (wholeA vs) (whole xs) := by
  cases h with
  | nil => exact .tup .nil
  | cons h h' => cases h' with
    | nil => exact h
    | cons k k' => exact .tup (.cons h (.cons k k'))
theorem resultsA {R : Ren} {h : AH} {w : World} {fn : Func} {e : En} {a : Act} {vs : List AV} (hR : Rp R h w) (hE : EO R e a) (q : outsA P h e fn.results.toList = some vs) : ∃ x, (results fn a.tmps).run P w = .ok x w ∧ VR R (wholeA vs) x := by
  obtain ⟨xs, h1, h2⟩ := outsA_ok (P := P) hR hE q
  refine ⟨whole xs, ?_, wholeA_ok h2⟩
  have hm : (fn.results.mapM (rvF a.tmps)).run P w = .ok xs.toArray w := by
    rw [← Array.toArray_toList (xs := fn.results), List.mapM_toArray]; exact run_map_ok h1
  have e : results fn a.tmps = (do let vs ← fn.results.mapM (rvF a.tmps); pure (if h : vs.size = 1 then vs[0] else .tuple vs)) := by
    unfold results
    congr 1
  rw [e, run_bind_ok hm]
  cases xs with
  | nil => simp [whole, pure]
  | cons v r => cases r with
    | nil => simp [whole, pure]
    | cons u r => simp [whole, pure]
/-- what a call leaves -/
def Post (c : Cxt) (R : Ren) (r : AV) (h' : AH) (v : Value) (w' : World) : Prop := ∃ R', Sb R R' ∧ Rep c R' h' w' ∧ VR R' r v
theorem Post.trans {R R' : Ren} {h' : AH} {w' : World} {r : AV} {v : Value} (s : Sb R R') (p : Post w0 R' r h' v w') : Post w0 R r h' v w' := by
  obtain ⟨R'', a, b, c⟩ := p
  exact ⟨R'', s.trans a, b, c⟩
theorem Rep.lgs {R : Ren} {o : Tr AO} {nx : Nat} {l : List Nat} {w : World} (k : Rep w0 R ⟨o, nx, l⟩ w) (l' : List Nat) : Rep w0 R ⟨o, nx, l'⟩ w := ⟨k.obj, k.inj, k.frs, k.pnd, k.live, k.bl⟩
theorem Rep.drew {R : Ren} {h : AH} {w : World} (k : Rep w0 R h w) : Rep w0 R h { w with drawn := w.drawn + 1 } := by
  refine ⟨fun i o L x y => ?_, k.inj, k.frs, k.pnd, k.live, ?_⟩
  · obtain ⟨h2, h3⟩ := k.obj i o L x y
    exact ⟨h2.stay rfl, h3⟩
  · have := k.bl; exact ⟨this.os, this.tape, this.output, this.size, this.block⟩
/-- the notes grow, and what is not noted is as it was -/
structure LG (h h' : AH) : Prop where
  nx : h.nx ≤ h'.nx
  lg : ∀ i, i ∈ h.lg → i ∈ h'.lg
  sm : ∀ i, i < h.nx → i ∉ h'.lg → h'.o.get i = h.o.get i
theorem LG.refl (h : AH) : LG h h := ⟨Nat.le_refl _, fun _ x => x, fun _ _ _ => rfl⟩
theorem LG.trans {a b c : AH} (h : LG a b) (k : LG b c) : LG a c := ⟨Nat.le_trans h.nx k.nx, fun i x => k.lg i (h.lg i x), fun i x y => (k.sm i (Nat.lt_of_lt_of_le x h.nx) y).trans (h.sm i x fun z => y (k.lg i z))⟩
/-- a frame, in a round or not -/
def bsR (f : FuncId) (ro : Option Nat) : Frame := { (default : Frame) with fn := f, kind := .normal, roundOf := ro }
/-- where a frame is to come -/
def Goal (P : Program) (f : FuncId) (ro : Option Nat) (Q : Value → World → Prop) (cs : List Frame) (m : Machine) : Prop := match ro with
  | none => ∃ e w' fr, retQ Q e w' ∧ Comes P m (lone fr cs w') e ∧ fr.fn = f ∧ fr.leaving P w' e
  | some _ => ∀ c cs', cs = c :: cs' → ∃ v w', Q v w' ∧ Steps P m (lone (c.finish v) cs' w')
theorem Goal.steps {f : FuncId} {ro : Option Nat} {Q : Value → World → Prop} {cs : List Frame} {m m' : Machine} (h : Steps P m m') (g : Goal P f ro Q cs m') : Goal P f ro Q cs m := by
  cases ro with
  | none => obtain ⟨e, w', fr, hq, hc, hr⟩ := g; exact ⟨e, w', fr, hq, .of_steps h hc, hr⟩
  | some l => intro c cs' e; obtain ⟨v, w', hq, hs⟩ := g c cs' e; exact ⟨v, w', hq, h.trans hs⟩
def runsR (P : Program) (f : FuncId) (ro : Option Nat) (Q : Value → World → Prop) (a : Act) (k : List Item) (w : World) : Prop := ∀ cs, Goal P f ro Q cs (lone ((bsR f ro).atR a k) cs w)
def RoR (R : Ren) : Option Nat → Option Nat → Prop
  | none, r => r = none
  | some l, r => ∃ L, R l = some L ∧ r = some L.blk
theorem RoR.mono {R R' : Ren} (s : Sb R R') {a b : Option Nat} (h : RoR R a b) : RoR R' a b := by
  cases a with
  | none => exact h
  | some l => obtain ⟨L, h1, h2⟩ := h; exact ⟨L, s _ _ h1, h2⟩
/-- the blocks that taken steps look at -/
def VOk (ops : Array Oper) (V : List (Nat × Nat)) (rs : List Rec) (e0 : En) (nx : Nat) : Prop :=
  (∀ p ∈ V, p.2 < nx) ∧ ∀ rs1 r rs2, rs = rs1 ++ r :: rs2 → ∀ o, ops.toList[r.i]? = some o → wantA ops (envL allL rs1 e0) o = some true → ∀ x, (r.id = some x ∨ readId (restr (envL allL rs1 e0) (slotsO ops o)) o.op = some x) → (r.i, x) ∈ V
/-- what a task's answer says -/
def Spec (P : Program) : Task → AH → Res → Prop
  | .call f args, h, .val r h' => ∀ c R w xs, Rep c R h w → VL R args xs → Ret P f xs.toArray w (Post c R r h')
  | .code f fn ro D k e, h, .val r h' => P.funcs[f]? = some fn → ∀ c R w a ro' (Q : Value → World → Prop), Rep c R h w → OkE R fn e D a → RoR R ro ro' → (∀ v w', Post c R r h' v w' → Q v w') → runsR P f ro' Q a k w
  | .ops f fn ro D ops l k e, h, .val r h' => P.funcs[f]? = some fn → ∀ c R w a ro' (Q : Value → World → Prop) (i : Nat), Rep c R h w → OkE R fn e D a → RoR R ro ro' → (∀ j, l[j]? = ops[i + j]?) → (∀ v w', Post c R r h' v w' → Q v w') →
      runsR P f ro' Q a (.inRegion ops (List.range' i l.length) :: k) w
  | .held fn ops M l V e, h, .held e' h' => ∀ (c : Cxt) (R0 : Ren) (ds : List Deferred) (e0 : En) (rs T : List Rec) (L : Array Bool) (R : Ren) (a : Act) (w : World) (Qx : Exit → Act → World → Prop),
      Sta c ops M fn.ntmps rs h → e = envL allL rs e0 → VOk ops V rs e0 h.nx → regB ops M (rs.map Rec.i) l = true → Sb R0 R → Inv P c ops fn.ntmps ds e0 rs T h L R a w →
      (∀ R' a' w', Sb R0 R' → Rep c R' h' w' → EO R' e' a' → a'.tmps.size = fn.ntmps → a'.defers = ds → Qx .normal a' w') →
      wpAny P .any ops Qx (l.length + T.length) L a w
  | .turn e o, h, .val v h' => ∀ c R w a (nx : Act → World → Prop) (Qx : Exit → Act → World → Prop), Rep c R h w → EO R e a → (∀ x w', Post c R v h' x w' → nx (a.put o.dst x) w') → o.wp P a w nx Qx
  | _, _, _ => False
theorem isCall_ok {op : Op} {fx : Operand} {args : List Operand} (q : isCall op = some (fx, args)) : ∃ asg tys, op = .call ⟨.value fx, asg, tys⟩ ∧ asg.toList = args := by
  unfold isCall at q
  split at q <;> try (cases q; done)
  rename_i c
  split at q <;> try (cases q; done)
  rename_i f hf
  simp only [Option.some.injEq, Prod.mk.injEq] at q
  obtain ⟨rfl, rfl⟩ := q
  obtain ⟨cal, asg, tys⟩ := c
  simp only at hf; subst hf
  exact ⟨asg, tys, rfl, rfl⟩
/-- an operation that calls -/
theorem call_wp {R : Ren} {h h' : AH} {w : World} {e : En} {a : Act} {o : Oper} {fx : Operand} {args : List Operand} {g : FuncId} {first cap vs : List AV} {v : AV} {nx : Act → World → Prop} {Qx : Exit → Act → World → Prop}
    (hR : Rep w0 R h w) (hE : EO R e a) (hc : isCall o.op = some (fx, args)) (hf : evo e fx = some (.func g first cap)) (hv : evoL e args = some vs) (hs : Spec P (.call g (first ++ (vs ++ cap))) h (.val v h'))
    (hn : ∀ x w', Post w0 R v h' x w' → nx (a.put o.dst x) w') : o.wp P a w nx Qx := by
  obtain ⟨asg, tys, ho, rfl⟩ := isCall_ok hc
  have hfx := evo_ok hE hf
  generalize hfv : a.eval fx = fv at hfx
  cases hfx with
  | func h1 h2 =>
    rename_i xs ys
    have hargs := evoL_ok hE hv
    have hret := hs w0 R w _ hR (h1.app (hargs.app h2))
    unfold Oper.wp
    rw [call_run (av := xs ++ (asg.toList.map a.eval ++ ys)) ho hret.ok hfv rfl (by simp)]
    refine hret.run.mono fun en w' r => ?_
    cases en with
    | returned x => exact hn x w' r
    | panicked ch => exact r.elim
    | outgrown => exact r.elim
theorem ext_run {R : Ren} {w : World} {e : En} {a : Act} {o : Oper} {fx : Operand} {args : List Operand} {g : FuncId} {first cap vs : List AV} {v : AV}
    (hE : EO R e a) (hc : isCall o.op = some (fx, args)) (hf : evo e fx = some (.func g first cap)) (hv : evoL e args = some vs) (hs : extA P g (first ++ (vs ++ cap)) = some v) : ∃ x, (execOp a.eval o).run P w = .ok (.value x) w ∧ VR R v x := by
  obtain ⟨asg, tys, ho, rfl⟩ := isCall_ok hc
  have hfx := evo_ok hE hf
  generalize hfv : a.eval fx = fv at hfx
  cases hfx with
  | func h1 h2 =>
    rename_i xs ys
    have hargs := evoL_ok hE hv
    have hall := h1.app (hargs.app h2)
    unfold extA at hs
    split at hs <;> try (cases hs; done)
    split at hs <;> try (cases hs; done)
    split at hs <;> try (cases hs; done)
    rename_i zs hz
    have := svL_ok hz hall; subst this
    split at hs <;> try (cases hs; done)
    rename_i r hr
    have hrun := runP_ok hr w
    have eo : execOp a.eval o = callFunc g (xs ++ (asg.toList.map a.eval ++ ys)).toArray := by
      have e1 : asg.map a.eval = (asg.toList.map a.eval).toArray := args_two rfl
      have e2 : xs.toArray ++ (asg.toList.map a.eval).toArray ++ ys.toArray = (xs ++ (asg.toList.map a.eval ++ ys)).toArray := by simp
      unfold execOp
      simp only [ho, resolve, hfv, e1, Deferred.ofValue]
      show (Sem.bind (Sem.pure _) _) = _
      simp only [Sem.bind, invoke, e2]
    exact ⟨r, by rw [eo]; exact hrun, cv_ok hs⟩
theorem extM_run {R : Ren} {h h' : AH} {w : World} {e : En} {a : Act} {o : Oper} {fx : Operand} {args : List Operand} {g : FuncId} {first cap vs : List AV} {v : AV}
    (hR : Rep w0 R h w) (hE : EO R e a) (hc : isCall o.op = some (fx, args)) (hf : evo e fx = some (.func g first cap)) (hv : evoL e args = some vs) (hs : extM P g h (first ++ (vs ++ cap)) = some (v, h')) : Eo P w0 R w h a.eval o v h' := by
  obtain ⟨asg, tys, ho, rfl⟩ := isCall_ok hc
  have hfx := evo_ok hE hf
  generalize hfv : a.eval fx = fv at hfx
  cases hfx with
  | func h1 h2 =>
    rename_i xs ys
    have hargs := evoL_ok hE hv
    have hall := h1.app (hargs.app h2)
    have eo : execOp a.eval o = callFunc g (xs ++ (asg.toList.map a.eval ++ ys)).toArray := by
      have e1 : asg.map a.eval = (asg.toList.map a.eval).toArray := args_two rfl
      have e2 : xs.toArray ++ (asg.toList.map a.eval).toArray ++ ys.toArray = (xs ++ (asg.toList.map a.eval ++ ys)).toArray := by simp
      unfold execOp
      simp only [ho, resolve, hfv, e1, Deferred.ofValue]
      show (Sem.bind (Sem.pure _) _) = _
      simp only [Sem.bind, invoke, e2]
    generalize hz : xs ++ (asg.toList.map a.eval ++ ys) = zs at hall eo
    generalize ha : first ++ (vs ++ cap) = az at hall hs
    unfold extM at hs
    split at hs <;> try (cases hs; done)
    split at hs <;> try (cases hs; done)
    rename_i es clock hr
    split at hs <;> try (cases hs; done)
    rename_i hcl
    simp only [Option.some.injEq, Prod.mk.injEq] at hs
    obtain ⟨rfl, rfl⟩ := hs
    cases hall with
    | cons hx hn =>
      cases hn
      cases hx with
      | iface hm =>
        cases hm with
        | map hL =>
          obtain ⟨R', x, w', k1, k2⟩ := (clone_new (P := P) hR hr hL).ef hR
          exact ⟨R', x, w', .inl (by rw [eo]; exact clone_call hcl _ k1), k2⟩
theorem lg_extM {g : FuncId} {h h' : AH} {l : List AV} {v : AV} (q : extM P g h l = some (v, h')) : ∃ o, h' = h.new o := by
  unfold extM at q
  split at q <;> try (cases q; done)
  split at q <;> try (cases q; done)
  split at q <;> try (cases q; done)
  simp only [Option.some.injEq, Prod.mk.injEq] at q
  exact ⟨_, q.2.symm⟩
theorem ext_wp {R : Ren} {w : World} {e : En} {a : Act} {o : Oper} {fx : Operand} {args : List Operand} {g : FuncId} {first cap vs : List AV} {v : AV} {nx : Act → World → Prop} {Qx : Exit → Act → World → Prop}
    (hE : EO R e a) (hc : isCall o.op = some (fx, args)) (hf : evo e fx = some (.func g first cap)) (hv : evoL e args = some vs) (hs : extA P g (first ++ (vs ++ cap)) = some v)
    (hn : ∀ x, VR R v x → nx (a.put o.dst x) w) : o.wp P a w nx Qx := by
  obtain ⟨x, h1, h2⟩ := ext_run (P := P) (w := w) hE hc hf hv hs
  unfold Oper.wp
  rw [h1]; exact hn x h2
theorem eff_wp {R : Ren} {h h' : AH} {w : World} {e : En} {a : Act} {o : Oper} {v : AV} {nx : Act → World → Prop} {Qx : Exit → Act → World → Prop} (hR : Rep w0 R h w) (hE : EO R e a) (q : eop P e h o.op = some (v, h'))
    (hn : ∀ x w', Post w0 R v h' x w' → nx (a.put o.dst x) w') : o.wp P a w nx Qx := by
  obtain ⟨R', x, w', h1, h2, h3, h4, _⟩ := eop_ok (P := P) hR hE q
  unfold Oper.wp
  rcases h1 with h1 | ⟨h1, rfl⟩
  · rw [h1]; exact hn x w' ⟨R', h2, h3, h4⟩
  · rw [h1]; exact hn undef w' ⟨R', h2, h3, h4⟩
end
end Go.Proofs.YtdjkoljonlcemaaGreat.Zr

/- A runner, tenth part: what the runner gives is what the machine gives. No program stands here. -/
namespace Go.Proofs.YtdjkoljonlcemaaGreat.Zr
open Go Go.RowKit Eng
section
variable {P : Program} {w0 : Cxt}
theorem lg_new (h : AH) (o : AO) : LG h (h.new o) := ⟨Nat.le_succ _, fun _ x => x, fun i hi _ => by simp only [AH.new, Tr.get_set]; rw [if_neg (by omega)]⟩
theorem lg_put (h : AH) (i : Nat) (o : AO) : LG h (h.put i o) := ⟨Nat.le_refl _, fun _ x => List.mem_cons_of_mem _ x, fun j _ hj => by
  simp only [AH.put, Tr.get_set, List.mem_cons, not_or] at hj ⊢; rw [if_neg hj.1]⟩
theorem lg_gone (h : AH) (i : Nat) : LG h (h.gone i) := ⟨Nat.le_refl _, fun _ x => List.mem_cons_of_mem _ x, fun j _ hj => by
  simp only [AH.gone, Tr.get_set, List.mem_cons, not_or] at hj ⊢; rw [if_neg hj.1]⟩
theorem lg_alias (h : AH) (i : Nat) (o : AO) : LG h (h.alias i o) := ⟨Nat.le_succ _, fun _ x => List.mem_cons_of_mem _ x, fun j hj hl => by
  simp only [AH.alias, Tr.get_set, List.mem_cons, not_or] at hl ⊢; rw [if_neg (by omega), if_neg hl.1]⟩
theorem lg_alloc {h h' : AH} {t : TypeId} {v : AV} (q : opAlloc P h t = some (v, h')) : LG h h' := by
  unfold opAlloc at q
  repeat' (split at q)
  all_goals first
    | (cases q; done)
    | (simp only [Option.some.injEq, Prod.mk.injEq] at q; obtain ⟨_, rfl⟩ := q; first | exact LG.refl _ | exact lg_new _ _ | exact lg_name _ | exact (lg_name _).trans (lg_name _))
theorem lg_buildSlice {h h' : AH} {t : TypeId} {n : Nat} {ps : List (Nat × AV)} {v : AV} (q : opBuildSlice P h t n ps = some (v, h')) : LG h h' := by
  unfold opBuildSlice at q
  repeat' (split at q)
  all_goals first
    | (cases q; done)
    | (simp only [Option.some.injEq, Prod.mk.injEq] at q; obtain ⟨_, rfl⟩ := q; first | exact LG.refl _ | exact lg_new _ _ | exact lg_name _ | exact (lg_name _).trans (lg_name _))
theorem lg_makeSlice {h h' : AH} {t : TypeId} {a b v : AV} (q : opMakeSlice P h t a b = some (v, h')) : LG h h' := by
  unfold opMakeSlice at q
  repeat' (split at q)
  all_goals first
    | (cases q; done)
    | (simp only [Option.some.injEq, Prod.mk.injEq] at q; obtain ⟨_, rfl⟩ := q; first | exact LG.refl _ | exact lg_new _ _ | exact lg_name _ | exact (lg_name _).trans (lg_name _))
theorem lg_makeMap {h h' : AH} {t : TypeId} {r : Option AV} {v : AV} (q : opMakeMap P h t r = some (v, h')) : LG h h' := by
  unfold opMakeMap at q
  repeat' (split at q)
  all_goals first
    | (cases q; done)
    | (simp only [Option.some.injEq, Prod.mk.injEq] at q; obtain ⟨_, rfl⟩ := q; first | exact LG.refl _ | exact lg_new _ _ | exact lg_name _ | exact (lg_name _).trans (lg_name _))
theorem lg_range {h h' : AH} {t : TypeId} {a v : AV} (q : opRange P h t a = some (v, h')) : LG h h' := by
  unfold opRange at q
  repeat' (split at q)
  all_goals first
    | (cases q; done)
    | (simp only [Option.some.injEq, Prod.mk.injEq] at q; obtain ⟨_, rfl⟩ := q; exact lg_new _ _)
theorem lg_next {h h' : AH} {a v : AV} (q : opNext h a = some (v, h')) : LG h h' := by
  unfold opNext at q
  repeat' (split at q)
  all_goals first
    | (cases q; done)
    | (simp only [Option.some.injEq, Prod.mk.injEq] at q; obtain ⟨_, rfl⟩ := q; first | exact LG.refl _ | exact lg_put _ _ _)
theorem lg_slice {h h' : AH} {t : TypeId} {a v : AV} {lo hi mx : Option AV} (q : opSlice P h t a lo hi mx = some (v, h')) : LG h h' := by
  unfold opSlice at q
  repeat' (split at q)
  all_goals first
    | (cases q; done)
    | (simp only [Option.some.injEq, Prod.mk.injEq] at q; obtain ⟨_, rfl⟩ := q; first | exact LG.refl _ | exact lg_new _ _ | exact lg_name _ | exact (lg_name _).trans (lg_name _))
theorem lg_append {h h' : AH} {t t' : TypeId} {a b v : AV} (q : opAppend P h t t' a b = some (v, h')) : LG h h' := by
  unfold opAppend at q
  repeat' (split at q)
  all_goals first
    | (cases q; done)
    | (simp only [Option.some.injEq, Prod.mk.injEq] at q; obtain ⟨_, rfl⟩ := q; first | exact LG.refl _ | exact lg_new _ _ | exact lg_name _ | exact (lg_name _).trans (lg_name _))
    | (simp only [Option.some.injEq, Prod.mk.injEq] at q; obtain ⟨_, rfl⟩ := q; first | exact lg_put _ _ _ | exact lg_gone _ _ | exact lg_alias _ _ _)
theorem lg_appendZ {h h' : AH} {t t' : TypeId} {a b v : AV} (q : opAppendZ P h t t' a b = some (v, h')) : LG h h' := by
  unfold opAppendZ at q
  repeat' (split at q)
  all_goals first
    | (cases q; done)
    | (simp only [Option.some.injEq, Prod.mk.injEq] at q; obtain ⟨_, rfl⟩ := q; exact lg_new _ _)
theorem lg_app {h h' : AH} {t t' : TypeId} {a b v : AV} (q : opApp P h t t' a b = some (v, h')) : LG h h' := by
  unfold opApp at q
  split at q
  · rename_i r hr; simp only [Option.some.injEq] at q; subst q; exact lg_append hr
  · exact lg_appendZ q
theorem lg_store {h : AH} {hh : Option AH} {h' : AH} {t : TypeId} {p x : AV} {v : AV} (e : hh = opStore P h t p x) (q : unitA hh = some (v, h')) : LG h h' := by
  unfold unitA at q
  split at q <;> try (cases q; done)
  simp only [Option.some.injEq, Prod.mk.injEq] at q
  obtain ⟨_, rfl⟩ := q
  unfold opStore at e
  repeat' (split at e)
  all_goals first
    | (cases e; done)
    | (simp only [Option.some.injEq] at e; subst e; first | exact lg_put _ _ _ | exact lg_gone _ _ | exact lg_alias _ _ _)
theorem lg_mapUpdate {h : AH} {hh : Option AH} {h' : AH} {t : TypeId} {m k x : AV} {v : AV} (e : hh = opMapUpdate P h t m k x) (q : unitA hh = some (v, h')) : LG h h' := by
  unfold unitA at q
  split at q <;> try (cases q; done)
  simp only [Option.some.injEq, Prod.mk.injEq] at q
  obtain ⟨_, rfl⟩ := q
  unfold opMapUpdate at e
  repeat' (split at e)
  all_goals first
    | (cases e; done)
    | (simp only [Option.some.injEq] at e; subst e; first | exact lg_put _ _ _ | exact lg_gone _ _ | exact lg_alias _ _ _)
theorem lg_mapEntry {h h' : AH} {t : TypeId} {m k v : AV} (q : opMapEntry P h t m k = some (v, h')) : LG h h' := by
  unfold opMapEntry at q
  repeat' (split at q)
  all_goals first
    | (cases q; done)
    | (simp only [Option.some.injEq, Prod.mk.injEq] at q; obtain ⟨_, rfl⟩ := q; exact lg_put _ _ _)
theorem lg_entryStore {h : AH} {hh : Option AH} {h' : AH} {m s x : AV} {v : AV} (e : hh = opEntryStore h m s x) (q : unitA hh = some (v, h')) : LG h h' := by
  unfold unitA at q
  split at q <;> try (cases q; done)
  simp only [Option.some.injEq, Prod.mk.injEq] at q
  obtain ⟨_, rfl⟩ := q
  unfold opEntryStore at e
  repeat' (split at e)
  all_goals first
    | (cases e; done)
    | (simp only [Option.some.injEq] at e; subst e; exact lg_put _ _ _)
theorem lg_clear {h h' : AH} {t : TypeId} {a v : AV} (q : opClear P h t a = some (v, h')) : LG h h' := by
  unfold opClear at q
  repeat' (split at q)
  all_goals first
    | (cases q; done)
    | (simp only [Option.some.injEq, Prod.mk.injEq] at q; obtain ⟨_, rfl⟩ := q; first | exact LG.refl _ | exact lg_put _ _ _)
set_option maxHeartbeats 2000000 in
theorem lg_eop {e : En} {h h' : AH} {op : Op} {v : AV} (q : eop P e h op = some (v, h')) : LG h h' := by
  cases op <;> simp only [eop] at q <;> try (cases q; done)
  all_goals repeat' (split at q)
  all_goals first
    | (cases q; done)
    | exact lg_alloc q
    | exact lg_buildSlice q
    | exact lg_makeSlice q
    | exact lg_makeMap q
    | exact lg_range q
    | exact lg_next q
    | exact lg_slice q
    | exact lg_app q
    | exact lg_clear q
    | exact lg_store rfl q
    | exact lg_mapUpdate rfl q
    | exact lg_mapEntry q
    | exact lg_entryStore rfl q
    | (simp only [opBox, Option.some.injEq, Prod.mk.injEq] at q; obtain ⟨_, rfl⟩ := q; first | exact LG.refl _ | exact lg_new _ _ | exact lg_name _ | exact (lg_name _).trans (lg_name _))
theorem runsR_step {f : FuncId} {ro : Option Nat} {Q : Value → World → Prop} {a a' : Act} {k k' : List Item} {w w' : World} (hs : ∀ cs, step P (lone ((bsR f ro).atR a k) cs w) = .next (lone ((bsR f ro).atR a' k') cs w')) (h : runsR P f ro Q a' k' w') : runsR P f ro Q a k w :=
  fun cs => (h cs).steps (.one (hs cs))
/-- a step inside a function -/
theorem spec_admin {f : FuncId} {fn : Func} {ro : Option Nat} {D : List Nat} {k k' : List Item} {e : En} {h h' : AH} {r : AV} (hs : ∀ (b : Frame) (a : Act) cs w, step P (lone (b.atR a k) cs w) = .next (lone (b.atR a k') cs w)) (q : Spec P (.code f fn ro D k' e) h (.val r h')) : Spec P (.code f fn ro D k e) h (.val r h') := by
  intro hf cx R w a ro' Q hR hE hro hQ
  exact runsR_step (fun cs => hs _ a cs w) (q hf cx R w a ro' Q hR hE hro hQ)
theorem step_mark {b : Frame} {a : Act} {k : List Item} {cs : List Frame} {w : World} {r : Nat} {ds : List Deferred} (hr : w.heap[r]? = some (.deferred (some []))) :
    step P (lone { b.atR { a with defers := { target := .collected r, args := #[] } :: ds } k with mode := .returning } cs w) = .next (lone { b.atR { a with defers := ds } k with mode := .returning } cs { w with heap := w.heap.setIfInBounds r (.deferred none) }) := by
  refine step_lone_go ?_
  have h1 : (Instr.takeDeferred r).run P w = .ok [] { w with heap := w.heap.setIfInBounds r (.deferred none) } := by
    unfold Instr.takeDeferred
    rw [run_bind_ok (getObj_run hr rfl)]
    simp only
    rw [run_bind_ok (setObj_run hr rfl)]; rfl
  simp [stepG, unwind, Frame.atR, Sem.runT_eq, h1]
theorem popD_ok {fn : Func} : ∀ {D : List Nat} {R : Ren} {h h' : AH} {w : World} {a : Act} {k : List Item} {f : FuncId} {e : En}, Rep w0 R h w → OkE R fn e D a → popD h D = some h' →
    ∃ w', (∀ cs, Steps P (lone { (bsR f none).atR a k with mode := .returning } cs w) (lone { (bsR f none).atR { a with defers := [] } k with mode := .returning } cs w')) ∧ Rep w0 R h' w' ∧ LG h h'
  | [], R, h, h', w, a, k, f, e, hR, hE, q => by
    simp only [popD, Option.some.injEq] at q; subst q
    have hd := hE.defers
    obtain ⟨tmps, ds⟩ := a
    simp only at hd
    cases hd
    exact ⟨w, fun cs => .refl _ _, hR, LG.refl _⟩
  | i :: D, R, h, h', w, a, k, f, e, hR, hE, q => by
    simp only [popD] at q
    split at q <;> try (cases q; done)
    rename_i hi
    have hd := hE.defers
    obtain ⟨tmps, ds⟩ := a
    simp only at hd
    cases hd with
    | cons hL hd' =>
      rename_i L ds
      obtain ⟨h2, _⟩ := hR.obj i _ _ hi hL
      have hw := setObj_wr w L.blk (.deferred none)
      obtain ⟨g1, _⟩ := hR.gone hi hL hw
      obtain ⟨w', s1, s2, s4⟩ := popD_ok (a := ⟨tmps, ds⟩) (k := k) (f := f) (e := e) g1 ⟨hE.size, hd', hE.k⟩ q
      exact ⟨w', fun cs => .head (step_mark (a := ⟨tmps, []⟩) (ds := ds) h2) (s1 cs), s2, (lg_gone h i).trans s4⟩
/-- a function's end -/
theorem spec_out {f : FuncId} {fn : Func} {D : List Nat} {k : List Item} {e : En} {h h' : AH} {v : AV} (hs : ∀ (a : Act) cs w, step P (lone ((bsR f none).atR a k) cs w) = .next (lone { (bsR f none).atR a k with mode := .returning } cs w)) (q : retA P h D e fn = some (.val v h')) : Spec P (.code f fn none D k e) h (.val v h') := by
  intro hf cx R w a ro' Q hR hE hro hQ
  have : ro' = none := hro
  subst this
  unfold retA at q
  split at q <;> try (cases q; done)
  rename_i h1 hp
  split at q <;> try (cases q; done)
  rename_i vs hvs
  simp only [Option.some.injEq, Res.val.injEq] at q
  obtain ⟨rfl, rfl⟩ := q
  obtain ⟨w', s1, s2, _⟩ := popD_ok (P := P) (k := k) (f := f) hR hE hp
  obtain ⟨x, r1, r2⟩ := resultsA (P := P) (fn := fn) (a := a) s2.rp hE.k hvs
  intro cs
  exact ⟨.returned x, w', _, hQ _ _ ⟨R, Sb.refl R, s2, r2⟩, Steps.head (hs a cs w) (s1 cs), rfl, rfl, rfl, rfl, fn, hf, r1⟩
theorem spec_call {f : FuncId} {fn : Func} {c : Code} {args : List AV} {h h' : AH} {r : AV} (hf : P.funcs[f]? = some fn) (hb : fn.body = some c) (hok : callable P f = true) (hl : args.length ≤ fn.ntmps) (q : Spec P (.code f fn none [] [.code c] (numA 0 args .nil)) h (.val r h')) : Spec P (.call f args) h (.val r h') := by
  intro cx R w xs hR hx
  refine ⟨hok, fun cs => ?_⟩
  have henter : Frame.enter P f xs.toArray .normal = (bsR f none).atR { tmps := xs.toArray ++ Array.replicate (fn.ntmps - xs.toArray.size) undef, defers := [] } [.code c] := by
    simp [Frame.enter, Frame.atR, hf, hb, bsR]
  rw [henter]
  exact q hf cx R w _ none (Post cx R r h') hR (numA_ok hx hl) rfl (fun _ _ p => p) cs
theorem spec_cond {f : FuncId} {fn : Func} {ro : Option Nat} {D : List Nat} {c : Operand} {x y : Code} {k : List Item} {e : En} {h h' : AH} {r : AV} {b : Bool} (hc : evo e c = some (.bool b)) (q : Spec P (.code f fn ro D (.code (if b then x else y) :: k) e) h (.val r h')) : Spec P (.code f fn ro D (.code (.cond c x y) :: k) e) h (.val r h') := by
  intro hf cx R w a ro' Q hR hE hro hQ
  have hv := evo_ok hE.k hc
  generalize hx : a.eval c = cv at hv
  cases hv
  exact runsR_step (fun cs => stepR_cond hx) (q hf cx R w a ro' Q hR hE hro hQ)
theorem spec_region {f : FuncId} {fn : Func} {ro : Option Nat} {D : List Nat} {i : Nat} {ops : Array Oper} {k : List Item} {e : En} {h h' : AH} {r : AV} (q : Spec P (.ops f fn ro D ops ops.toList k e) h (.val r h')) : Spec P (.code f fn ro D (.code (.region i ops false) :: k) e) h (.val r h') := by
  intro hf cx R w a ro' Q hR hE hro hQ
  have := q hf cx R w a ro' Q 0 hR hE hro (fun j => by rw [Nat.zero_add, Array.getElem?_toList]) hQ
  rw [Array.length_toList, ← List.range_eq_range'] at this
  exact runsR_step (fun cs => stepR_region) this
/-- a step of a region -/
theorem step_value {b : Frame} {a : Act} {ops : Array Oper} {i : Nat} {rest : List Nat} {k : List Item} {cs : List Frame} {w w' : World} {o : Oper} {v : Value} (ho : ops[i]? = some o) (hw : Region.wanted o (yielded ops a.tmps) = true) (hd : ∀ c, o.op ≠ .defer c) (hr : (execOp a.eval o).run P w = .ok (.value v) w') :
    step P (lone (b.atR a (.inRegion ops (i :: rest) :: k)) cs w) = .next (lone (b.atR (a.put o.dst v) (.inRegion ops rest :: k)) cs w') := by
  have hfin : (b.atR a (.inRegion ops (i :: rest) :: k)).finish v = b.atR (a.put o.dst v) (.inRegion ops rest :: k) := by rw [Frame.finish_atR, ho]; rfl
  refine step_lone_go ?_
  rw [stepGR_op ho hw, Oper.semAt_eq _ _ _ hd, ← hfin]; simp [stepG.apply, hr]
theorem step_skip' {b : Frame} {a : Act} {ops : Array Oper} {i : Nat} {rest : List Nat} {k : List Item} {cs : List Frame} {w w' : World} {o : Oper} (ho : ops[i]? = some o) (hw : Region.wanted o (yielded ops a.tmps) = true) (hd : ∀ c, o.op ≠ .defer c) (hr : (execOp a.eval o).run P w = .ok .skip w') :
    step P (lone (b.atR a (.inRegion ops (i :: rest) :: k)) cs w) = .next (lone (b.atR (a.put o.dst undef) (.inRegion ops rest :: k)) cs w') := by
  have hfin : (b.atR a (.inRegion ops (i :: rest) :: k)).finish undef = b.atR (a.put o.dst undef) (.inRegion ops rest :: k) := by rw [Frame.finish_atR, ho]; rfl
  refine step_lone_go ?_
  rw [stepGR_op ho hw, Oper.semAt_eq _ _ _ hd, ← hfin]; simp [stepG.apply, hr]
theorem step_enter {b : Frame} {a : Act} {ops : Array Oper} {i : Nat} {rest : List Nat} {k : List Item} {cs : List Frame} {w w' : World} {o : Oper} {g : FuncId} {args : Array Value} (ho : ops[i]? = some o) (hw : Region.wanted o (yielded ops a.tmps) = true) (hd : ∀ c, o.op ≠ .defer c) (hr : (execOp a.eval o).run P w = .ok (.enter g args) w') :
    step P (lone (b.atR a (.inRegion ops (i :: rest) :: k)) cs w) = .next (lone (Frame.enter P g args .normal) (b.atR a (.inRegion ops (i :: rest) :: k) :: cs) w') := by
  refine step_lone_go ?_
  rw [stepGR_op ho hw, Oper.semAt_eq _ _ _ hd]; simp [stepG.apply, hr, Frame.atR]
theorem step_round {b : Frame} {a : Act} {ops : Array Oper} {i : Nat} {rest : List Nat} {k : List Item} {cs : List Frame} {w w' : World} {o : Oper} {l : Nat} {g : FuncId} {tmps : Array Value} {asg body : Code} (ho : ops[i]? = some o) (hw : Region.wanted o (yielded ops a.tmps) = true) (hd : ∀ c, o.op ≠ .defer c) (hr : (execOp a.eval o).run P w = .ok (.round l g tmps asg body) w') :
    step P (lone (b.atR a (.inRegion ops (i :: rest) :: k)) cs w) = .next (lone (Frame.round l g tmps asg body .normal) (b.atR a (.inRegion ops (i :: rest) :: k) :: cs) w') := by
  refine step_lone_go ?_
  rw [stepGR_op ho hw, Oper.semAt_eq _ _ _ hd]; simp [stepG.apply, hr, Frame.atR]
theorem call_nd {o : Oper} {x : Operand × List Operand} (h : isCall o.op = some x) : ∀ c, o.op ≠ .defer c := fun c e => by rw [e] at h; simp [isCall] at h
theorem qop_nd {e : En} {h : AH} {o : Oper} {v : AV} (q : qop P e h o.op = some v) : ∀ c, o.op ≠ .defer c := fun c e => by rw [e] at q; simp [qop] at q
theorem eop_nd {e : En} {h : AH} {o : Oper} {x : AV × AH} (q : eop P e h o.op = some x) : ∀ c, o.op ≠ .defer c := fun c e => by rw [e] at q; simp [eop] at q
theorem row_head {ops : Array Oper} {o : Oper} {l : List Oper} {i : Nat} (hl : ∀ j, (o :: l)[j]? = ops[i + j]?) : ops[i]? = some o ∧ ∀ j, l[j]? = ops[i + 1 + j]? := by
  refine ⟨by have := hl 0; simpa using this.symm, fun j => ?_⟩
  have := hl (j + 1)
  rw [List.getElem?_cons_succ] at this
  rw [this]; congr 1; omega
theorem spec_ops_nil {f : FuncId} {fn : Func} {ro : Option Nat} {D : List Nat} {ops : Array Oper} {k : List Item} {e : En} {h h' : AH} {r : AV} (q : Spec P (.code f fn ro D k e) h (.val r h')) : Spec P (.ops f fn ro D ops [] k e) h (.val r h') := by
  intro hf cx R w a ro' Q i hR hE hro hl hQ
  exact runsR_step (fun cs => stepR_region_end) (q hf cx R w a ro' Q hR hE hro hQ)
theorem spec_ops_skip {f : FuncId} {fn : Func} {ro : Option Nat} {D : List Nat} {ops : Array Oper} {o : Oper} {l : List Oper} {k : List Item} {e e' : En} {h h' : AH} {r : AV} (hw : wantA ops e o = some false) (hd : dstA fn.ntmps e o.dst (.tup []) = some e') (q : Spec P (.ops f fn ro D ops l k e') h (.val r h')) : Spec P (.ops f fn ro D ops (o :: l) k e) h (.val r h') := by
  intro hf cx R w a ro' Q i hR hE hro hl hQ
  obtain ⟨ho, hl'⟩ := row_head hl
  have H := q hf cx R w _ ro' Q (i + 1) hR (hE.put (x := undef) (.tup .nil) hd) hro hl' hQ
  refine runsR_step (fun cs => ?_) H
  rw [List.length_cons, List.range'_succ]
  have := stepR_op_skip (P := P) (b := bsR f ro') (a := a) (k := k) (cs := cs) (w := w) (ops := ops) (i := i) (rest := List.range' (i + 1) l.length) (by simp [ho, wantA_ok hE.k hw])
  rw [ho] at this; exact this
theorem spec_ops_val {f : FuncId} {fn : Func} {ro : Option Nat} {D : List Nat} {ops : Array Oper} {o : Oper} {l : List Oper} {k : List Item} {e e' : En} {h h1 h' : AH} {r v : AV} (hw : wantA ops e o = some true) (hnd : ∀ c, o.op ≠ .defer c)
    (hx : ∀ c R w a, Rep c R h w → OkE R fn e D a → Eo P c R w h a.eval o v h1) (hd : dstA fn.ntmps e o.dst v = some e') (q : Spec P (.ops f fn ro D ops l k e') h1 (.val r h')) : Spec P (.ops f fn ro D ops (o :: l) k e) h (.val r h') := by
  intro hfn cx R w a ro' Q i hR hE hro hl hQ
  obtain ⟨ho, hl'⟩ := row_head hl
  obtain ⟨R', x, w', h1', s, hR', hv, _⟩ := hx cx R w a hR hE
  have H := q hfn cx R' w' _ ro' Q (i + 1) hR' ((hE.mono s).put hv hd) (hro.mono s) hl' (fun v w'' p => hQ v w'' (p.trans s))
  refine runsR_step (fun cs => ?_) H
  rw [List.length_cons, List.range'_succ]
  rcases h1' with h1' | ⟨h1', rfl⟩
  · exact step_value ho (wantA_ok hE.k hw) hnd h1'
  · exact step_skip' ho (wantA_ok hE.k hw) hnd h1'
theorem spec_ops_call {f : FuncId} {fn : Func} {ro : Option Nat} {D : List Nat} {ops : Array Oper} {o : Oper} {l : List Oper} {k : List Item} {e e' : En} {h h1 h' : AH} {r v : AV} {fx : Operand} {args : List Operand} {g : FuncId} {first cap vs : List AV} (hw : wantA ops e o = some true)
    (hc : isCall o.op = some (fx, args)) (hf : evo e fx = some (.func g first cap)) (hv : evoL e args = some vs) (hs : Spec P (.call g (first ++ (vs ++ cap))) h (.val v h1)) (hd : dstA fn.ntmps e o.dst v = some e') (q : Spec P (.ops f fn ro D ops l k e') h1 (.val r h')) : Spec P (.ops f fn ro D ops (o :: l) k e) h (.val r h') := by
  intro hfn cx R w a ro' Q i hR hE hro hl hQ
  obtain ⟨ho, hl'⟩ := row_head hl
  obtain ⟨asg, tys, hop, rfl⟩ := isCall_ok hc
  have hfx := evo_ok hE.k hf
  generalize hfv : a.eval fx = fv at hfx
  cases hfx with
  | func h1' h2' =>
    rename_i xs ys
    have hargs := evoL_ok hE.k hv
    have hret := hs cx R w _ hR (h1'.app (hargs.app h2'))
    have hrun := call_run (P := P) (w := w) (av := xs ++ (asg.toList.map a.eval ++ ys)) hop hret.ok hfv rfl (by simp)
    intro cs
    rw [List.length_cons, List.range'_succ]
    obtain ⟨en, w', fr, hq, hcom, hfr, hlv⟩ := hret.run ((bsR f ro').atR a (.inRegion ops (i :: List.range' (i + 1) l.length) :: k) :: cs)
    cases en with
    | panicked ch => exact hq.elim
    | outgrown => exact hq.elim
    | returned x =>
      obtain ⟨R', s, hR', hx⟩ := hq
      have H := q hfn cx R' w' _ ro' Q (i + 1) hR' ((hE.mono s).put hx hd) (hro.mono s) hl' (fun v w'' p => hQ v w'' (p.trans s))
      refine (H cs).steps (.head (step_enter ho (wantA_ok hE.k hw) (call_nd hc) hrun) (Steps.trans hcom (.one ?_)))
      have hfin : ((bsR f ro').atR a (.inRegion ops (i :: List.range' (i + 1) l.length) :: k)).finish x = (bsR f ro').atR (a.put o.dst x) (.inRegion ops (List.range' (i + 1) l.length) :: k) := by rw [Frame.finish_atR, ho]; rfl
      rw [← hfin]; exact step_leave_returned hlv
theorem ext_eo {R : Ren} {h : AH} {w : World} {fn : Func} {e : En} {D : List Nat} {a : Act} {o : Oper} {fx : Operand} {args : List Operand} {g : FuncId} {first cap vs : List AV} {v : AV}
    (hR : Rep w0 R h w) (hE : OkE R fn e D a) (hc : isCall o.op = some (fx, args)) (hf : evo e fx = some (.func g first cap)) (hv : evoL e args = some vs) (hs : extA P g (first ++ (vs ++ cap)) = some v) : Eo P w0 R w h a.eval o v h := by
  obtain ⟨x, h1, h2⟩ := ext_run (P := P) (w := w) hE.k hc hf hv hs
  exact ⟨R, x, w, .inl h1, Sb.refl R, hR, h2, Fr.refl R h w⟩
theorem quiet_eo {R : Ren} {h : AH} {w : World} {fn : Func} {e : En} {D : List Nat} {a : Act} {o : Oper} {v : AV} (hR : Rep w0 R h w) (hE : OkE R fn e D a) (q : qop P e h o.op = some v) : Eo P w0 R w h a.eval o v h := by
  obtain ⟨x, h1, h2⟩ := qop_ok (P := P) hR.rp hE.k q
  exact ⟨R, x, w, .inl h1, Sb.refl R, hR, h2, Fr.refl R h w⟩
end
end Go.Proofs.YtdjkoljonlcemaaGreat.Zr

/- A runner: regions that draw their order. No program stands here. -/
namespace Go.Proofs.YtdjkoljonlcemaaGreat.Zr
open Go Go.RowKit Eng
section
variable {P : Program} {ops : Array Oper} {M : List Nat}
theorem all_of_none {L : Array Bool} (hM : maskB ops M ops.size = true) (hl : L.size = ops.size) (h : Region.ready .any ops L = []) : ∀ (n i : Nat), i < n → i < ops.size → lst L i = true
  | 0, _, hn, _ => by omega
  | n + 1, i, hn, hi => by
    cases hu : lst L i with
    | true => rfl
    | false =>
      have ho : ∃ o, ops.toList[i]? = some o := ⟨_, List.getElem?_eq_getElem (by rw [Array.length_toList]; exact hi)⟩
      obtain ⟨o, ho⟩ := ho
      have hd := (maskB_at hM hi).2
      have : i ∈ Region.ready .any ops L := ready_of ho hl hu (fun d hdm => all_of_none hM hl h n d (by have := hd d hdm; omega) (by have := hd d hdm; omega))
      rw [h] at this; cases this
theorem Inv.done {c : Cxt} {n : Nat} {ds : List Deferred} {e0 : En} {rs T : List Rec} {h : AH} {L : Array Bool} {R : Ren} {a : Act} {w : World} (hI : Inv P c ops n ds e0 rs T h L R a w) (hS : Sta c ops M n rs h) (hall : ∀ i, i < ops.size → lst L i = true) : Rep c R h w ∧ EO R (envL allL rs e0) a := by
  refine ⟨Rep.sub_pd hI.rep fun i hi => .inl hi, ?_⟩
  have : envL (lst L) rs e0 = envL allL rs e0 := envL_all fun r hr => by rw [hall r.i (hS.op r hr).1]; rfl
  rw [← this]; exact hI.env
theorem past_step {c : Cxt} {n : Nat} {ds : List Deferred} {e0 : En} {rs T : List Rec} {h : AH} {L : Array Bool} {R : Ren} {a : Act} {w : World} {Q : Exit → Act → World → Prop} {K : Act → World → Prop} {j : Nat} (hS : Sta c ops M n rs h) (hI : Inv P c ops n ds e0 rs T h L R a w)
    (hr : j ∈ Region.ready .any ops L) (hj : ∃ r ∈ rs, r.i = j) (hK : ∀ R' a' w' T', Sb R R' → T.length = T'.length + 1 → Inv P c ops n ds e0 rs T' h (L.setIfInBounds j true) R' a' w' → K a' w') : wpOp P ops Q j K a w := by
  obtain ⟨r, hm, rfl⟩ := hj
  obtain ⟨rs1, rs2, rfl⟩ := List.append_of_mem hm
  exact late_step hS hI hr fun R' a' w' T1 T2 s e k => hK R' a' w' (T1 ++ T2) s (by rw [e]; simp; omega) k
/-- when all steps were taken -/
theorem late_any {c : Cxt} {n : Nat} {ds : List Deferred} {e0 : En} {rs : List Rec} {h : AH} {Qx : Exit → Act → World → Prop} {R0 : Ren} (hS : Sta c ops M n rs h) (hall : ∀ j, j < ops.size → ∃ r ∈ rs, r.i = j)
    (hfin : ∀ R' a' w', Sb R0 R' → Rep c R' h w' → EO R' (envL allL rs e0) a' → a'.tmps.size = n → a'.defers = ds → Qx .normal a' w') : ∀ (m : Nat) (T : List Rec) (L : Array Bool) (R : Ren) (a : Act) (w : World), T.length = m → Sb R0 R → Inv P c ops n ds e0 rs T h L R a w → wpAny P .any ops Qx m L a w := by
  intro m
  induction m with
  | zero =>
    intro T L R a w hT hs hI
    have hno : Region.ready .any ops L = [] := by
      cases hr : Region.ready .any ops L with
      | nil => rfl
      | cons j r =>
        obtain ⟨hu, hlt⟩ := unlisted hI.lsz (by rw [hr]; exact List.mem_cons_self .. : j ∈ Region.ready .any ops L)
        obtain ⟨k, hk, rfl⟩ := hall j hlt
        have := hI.tt k hk hu
        rw [List.length_eq_zero_iff.1 hT] at this; cases this
    obtain ⟨g1, g2⟩ := hI.done hS fun i hi => all_of_none hS.msk hI.lsz hno (i + 1) i (by omega) hi
    exact ⟨hno, hfin R a w hs g1 g2 hI.size hI.dfr⟩
  | succ m ih =>
    intro T L R a w hT hs hI
    refine ⟨fun hno => ?_, fun j hj => ?_⟩
    · obtain ⟨g1, g2⟩ := hI.done hS fun i hi => all_of_none hS.msk hI.lsz hno (i + 1) i (by omega) hi
      exact hfin R a w hs g1 g2 hI.size hI.dfr
    · exact past_step hS hI hj (hall j (unlisted hI.lsz hj).2) fun R' a' w' T' s e k => ih T' _ R' a' w' (by omega) (hs.trans s) k
theorem spec_held_nil {fn : Func} {V : List (Nat × Nat)} {e : En} {h : AH} : Spec P (.held fn ops M [] V e) h (.held e h) := by
  intro c R0 ds e0 rs T L R a w Qx hS he hV hreg hs hI hfin
  subst he
  simp only [regB, List.all_eq_true, List.mem_range] at hreg
  rw [List.length_nil, Nat.zero_add]
  exact late_any hS (fun j hj => by
    have := memN_iff.1 (hreg j hj)
    obtain ⟨r, h1, h2⟩ := List.mem_map.1 this
    exact ⟨r, h1, h2⟩) hfin T.length T L R a w rfl hs hI
theorem snoc_split {α : Type} {rs rs1 rs2 : List α} {r k : α} (h : rs ++ [r] = rs1 ++ k :: rs2) : (rs2 = [] ∧ k = r ∧ rs1 = rs) ∨ ∃ rs3, rs2 = rs3 ++ [r] ∧ rs = rs1 ++ k :: rs3 := by
  rcases List.eq_nil_or_concat rs2 with rfl | ⟨rs3, x, rfl⟩
  · left
    have h' : rs ++ [r] = rs1 ++ [k] := h
    obtain ⟨a, b⟩ := List.append_inj' h' rfl
    exact ⟨rfl, by simpa using b.symm, a.symm⟩
  · right
    rw [List.concat_eq_append] at h ⊢
    have h' : rs ++ [r] = (rs1 ++ k :: rs3) ++ [x] := by rw [h]; simp
    obtain ⟨a, b⟩ := List.append_inj' h' rfl
    simp only [List.cons.injEq, and_true] at b
    subst b
    exact ⟨rs3, rfl, a⟩
theorem Sta.snoc {c : Cxt} {n : Nat} {rs : List Rec} {h h' : AH} {r : Rec} (hS : Sta c ops M n rs h) (hnx : h.nx ≤ h'.nx) (h1 : ∀ k ∈ rs, k.i ≠ r.i) (hop : r.i < ops.size ∧ r.d = dstI ops r.i ∧ ∀ d, r.d = some d → d < n) (hdep : ∀ d ∈ depsI ops r.i, ∃ k ∈ rs, k.i = d)
    (hcf : ∀ k ∈ rs, confB k.d r.d (slotsI ops k.i) (slotsI ops r.i) = true → bitB M r.i k.i = true) (hid : ∀ x, r.id = some x → h.nx ≤ x ∧ x < h'.nx ∧ ¬ c.pd x) : Sta c ops M n (rs ++ [r]) h' := by
  refine ⟨hS.msk, ?_, ?_, ?_, ?_, ?_, ?_⟩
  · intro rs1 k rs2 e
    rcases snoc_split e with ⟨_, rfl, rfl⟩ | ⟨rs3, rfl, e'⟩
    · exact h1
    · exact hS.nd rs1 k rs3 e'
  · intro k hk
    rcases List.mem_append.1 hk with hk | hk
    · exact hS.op k hk
    · rw [List.mem_singleton] at hk; subst hk; exact hop
  · intro rs1 k rs2 e
    rcases snoc_split e with ⟨_, rfl, rfl⟩ | ⟨rs3, rfl, e'⟩
    · exact hdep
    · exact hS.dep rs1 k rs3 e'
  · intro rs1 k rs2 e
    rcases snoc_split e with ⟨_, rfl, rfl⟩ | ⟨rs3, rfl, e'⟩
    · exact hcf
    · exact hS.cf rs1 k rs3 e'
  · intro k hk x hx
    rcases List.mem_append.1 hk with hk | hk
    · obtain ⟨a, b⟩ := hS.idl k hk x hx
      exact ⟨Nat.lt_of_lt_of_le a hnx, b⟩
    · rw [List.mem_singleton] at hk; subst hk; exact (hid x hx).2
  · intro k hk k' hk' x hx hx'
    rcases List.mem_append.1 hk with hk | hk <;> rcases List.mem_append.1 hk' with hk' | hk'
    · exact hS.uq k hk k' hk' x hx hx'
    · rw [List.mem_singleton] at hk'; subst hk'
      have := (hid x hx').1; have := (hS.idl k (by assumption) x hx).1; omega
    · rw [List.mem_singleton] at hk; subst hk
      have := (hid x hx).1; have := (hS.idl k' (by assumption) x hx').1; omega
    · rw [List.mem_singleton] at hk hk'; subst hk; subst hk'; rfl
theorem LateF.stay {h h' : AH} {eP : En} {r : Rec} (hl : LateF P ops h eP r) (hid : ∀ x, (r.id = some x ∨ ∃ o, ops.toList[r.i]? = some o ∧ wantA ops eP o = some true ∧ readId (restr eP (slotsO ops o)) o.op = some x) → (∃ o, ops.toList[r.i]? = some o ∧ wantA ops eP o = some true) → h'.o.get x = h.o.get x) : LateF P ops h' eP r := by
  obtain ⟨o, ho, hc⟩ := hl
  refine ⟨o, ho, ?_⟩
  rcases hc with hc | ⟨q1, q2, q3⟩ | ⟨q1, q2, hA, ob, q3, q4, q5⟩
  · exact .inl hc
  · refine .inr (.inl ⟨q1, q2, ?_⟩)
    have : oneH h' (readId (restr eP (slotsO ops o)) o.op) = oneH h (readId (restr eP (slotsO ops o)) o.op) := by
      cases hx : readId (restr eP (slotsO ops o)) o.op with
      | none => rfl
      | some x => simp only [oneH]; rw [hid x (.inr ⟨o, ho, q1, hx⟩) ⟨o, ho, q1⟩]
    rw [this]; exact q3
  · exact .inr (.inr ⟨q1, q2, hA, ob, q3, q4, by rw [hid hA.nx (.inl q3) ⟨o, ho, q1⟩]; exact q5⟩)
theorem Rep.count {c : Cxt} {p : Nat → Prop} {R : Ren} {h : AH} {w : World} (k : Rep ⟨c.w, p⟩ R h w) (ob : AO) : Rep ⟨c.w, fun i => p i ∨ i = h.nx⟩ R (h.new ob) w := by
  have hn := k.frs h.nx (Nat.le_refl _)
  have key : ∀ i o L, (h.new ob).o.get i = some o → R i = some L → h.o.get i = some o := by
    intro i o L hi hL
    simp only [AH.new, Tr.get_set] at hi
    by_cases e : i = h.nx
    · subst e; rw [hn] at hL; cases hL
    · rw [if_neg e] at hi; exact hi
  refine ⟨fun i o L hi hL => k.obj i o L (key i o L hi hL) hL, fun i j oi oj Li Lj hi hj ri rj hne => k.inj i j oi oj Li Lj (key i oi Li hi ri) (key j oj Lj hj rj) ri rj hne, fun i hi => k.frs i (Nat.le_of_succ_le hi), fun i hi => ?_, fun i o hi => ?_, k.bl⟩
  · rcases hi with hi | rfl
    · exact ⟨(k.pnd i hi).1, Nat.lt_succ_of_lt (k.pnd i hi).2⟩
    · exact ⟨hn, Nat.lt_succ_self _⟩
  · simp only [AH.new, Tr.get_set] at hi ⊢
    by_cases e : i = h.nx
    · omega
    · rw [if_neg e] at hi; have := k.live i o hi; omega
/-- a step that turns nothing is taken -/
theorem spec_held_late {fn : Func} {i : Nat} {o : Oper} {l : List Nat} {V V' : List (Nat × Nat)} {e e' e'' : En} {h h' h'' : AH} {v : AV} {id : Option Nat} (ho : ops.toList[i]? = some o) (hd : dstA fn.ntmps e o.dst v = some e') (hid : (id = none ∧ h' = h) ∨ ∃ ob, id = some h.nx ∧ h' = h.new ob)
    (hl : LateF P ops h' e ⟨i, o.dst, v, id⟩) (hV : ∀ p ∈ V, p ∈ V') (hV2 : wantA ops e o = some true → ∀ x, (id = some x ∨ readId (restr e (slotsO ops o)) o.op = some x) → (i, x) ∈ V') (hV3 : (∀ p ∈ V, p.2 < h.nx) → ∀ p ∈ V', p.2 < h'.nx)
    (q : Spec P (.held fn ops M l V' e') h' (.held e'' h'')) : Spec P (.held fn ops M (i :: l) V e) h (.held e'' h'') := by
  intro c R0 ds e0 rs T L R a w Qx hS he hVo hreg hs hI hfin
  subst he
  unfold regB at hreg
  rw [ho] at hreg
  simp only [Bool.and_eq_true, Bool.not_eq_true', List.all_eq_true] at hreg
  obtain ⟨⟨⟨⟨r1, r2⟩, r3⟩, r4⟩, r5⟩ := hreg
  have hnew : ∀ k ∈ rs, k.i ≠ i := fun k hk e => by
    have := memN_iff.2 (List.mem_map.2 ⟨k, hk, e⟩ : i ∈ rs.map Rec.i)
    rw [r1] at this; cases this
  have hlt : i < ops.size := (Array.getElem?_eq_some_iff.1 (toOp ho)).1
  have hdl : ∀ d, o.dst = some d → d < fn.ntmps := by
    intro d hd'
    unfold dstA at hd
    rw [hd'] at hd
    simp only at hd
    split at hd <;> try (cases hd; done)
    rename_i hb; exact blt_lt hb
  have hdsti : o.dst = dstI ops i := by unfold dstI; rw [ho]
  have hsli : slotsO ops o = slotsI ops i := by unfold slotsI; rw [ho]
  have hnx : h.nx ≤ h'.nx := by
    rcases hid with ⟨_, rfl⟩ | ⟨ob, _, rfl⟩
    · exact Nat.le_refl _
    · exact Nat.le_succ _
  have hpn : ¬ c.pd h.nx := fun x => by have := (hI.rep.pnd _ (.inl x)).2; omega
  have hun : lst L i = false := by
    cases hu : lst L i with
    | false => rfl
    | true => obtain ⟨k, hk, e⟩ := hI.sub i hu; exact absurd e (hnew k hk)
  have hS' : Sta c ops M fn.ntmps (rs ++ [⟨i, o.dst, v, id⟩]) h' := by
    refine hS.snoc hnx hnew ⟨hlt, hdsti, hdl⟩ (fun d hdm => ?_) (fun k hk hc => ?_) (fun x hx => ?_)
    · obtain ⟨k, h1, h2⟩ := List.mem_map.1 (memN_iff.1 (r2 d hdm))
      exact ⟨k, h1, h2⟩
    · have := r3 k.i (List.mem_map.2 ⟨k, hk, rfl⟩)
      rw [hsli, ← (hS.op k hk).2.1] at this
      simp only [hc, Bool.not_true, Bool.false_or] at this
      exact this
    · rcases hid with ⟨e, _⟩ | ⟨ob, e, rfl⟩
      · simp only at hx; rw [e] at hx; cases hx
      · simp only at hx; rw [e] at hx; cases hx
        exact ⟨Nat.le_refl _, Nat.lt_succ_self _, hpn⟩
  have hrep : Rep (pdL c (rs ++ [⟨i, o.dst, v, id⟩]) L) R h' w := by
    rcases hid with ⟨e, rfl⟩ | ⟨ob, e, rfl⟩
    · refine Rep.sub_pd hI.rep fun j hj => ?_
      rcases hj with hj | ⟨k, hk, hkl, hki⟩
      · exact .inl hj
      · rcases List.mem_append.1 hk with hk | hk
        · exact .inr ⟨k, hk, hkl, hki⟩
        · rw [List.mem_singleton] at hk; subst hk; simp only at hki; rw [e] at hki; cases hki
    · refine Rep.sub_pd (Rep.count (c := c) hI.rep ob) fun j hj => ?_
      rcases hj with hj | ⟨k, hk, hkl, hki⟩
      · exact .inl (.inl hj)
      · rcases List.mem_append.1 hk with hk | hk
        · exact .inl (.inr ⟨k, hk, hkl, hki⟩)
        · rw [List.mem_singleton] at hk; subst hk; simp only at hki; rw [e] at hki; cases hki; exact .inr rfl
  have hsame : ∀ p ∈ V, h'.o.get p.2 = h.o.get p.2 := by
    intro p hp
    rcases hid with ⟨_, rfl⟩ | ⟨ob, _, rfl⟩
    · rfl
    · simp only [AH.new, Tr.get_set]
      rw [if_neg (by have := hVo.1 p hp; omega)]
  have hI' : Inv P c ops fn.ntmps ds e0 (rs ++ [⟨i, o.dst, v, id⟩]) (T ++ [⟨i, o.dst, v, id⟩]) h' L R a w := by
    refine ⟨hrep, ?_, hI.size, hI.dfr, fun j hj => ?_, hI.down, hI.lsz, fun k hk hkl => ?_, fun s1 k s2 hk hkl => ?_⟩
    · rw [envL_app]; simp only [envL, hun]; exact hI.env
    · obtain ⟨k, hk, e⟩ := hI.sub j hj
      exact ⟨k, List.mem_append.2 (.inl hk), e⟩
    · rcases List.mem_append.1 hk with hk | hk
      · exact List.mem_append.2 (.inl (hI.tt k hk hkl))
      · exact List.mem_append.2 (.inr hk)
    · rcases snoc_split hk with ⟨_, rfl, rfl⟩ | ⟨s3, rfl, e⟩
      · exact hl
      · refine (hI.late s1 k s3 e hkl).stay fun x hx hw => ?_
        obtain ⟨o', ho', hw'⟩ := hw
        refine hsame (k.i, x) (hVo.2 s1 k s3 e o' ho' hw' x ?_)
        rcases hx with hx | ⟨o'', ho'', _, hx⟩
        · exact .inl hx
        · rw [ho'] at ho''; cases ho''; exact .inr hx
  have H := q c R0 ds e0 (rs ++ [⟨i, o.dst, v, id⟩]) (T ++ [⟨i, o.dst, v, id⟩]) L R a w Qx hS' ?_ ?_ (by rw [List.map_append]; exact r5) hs hI' hfin
  · have : l.length + (T ++ [(⟨i, o.dst, v, id⟩ : Rec)]).length = (i :: l).length + T.length := by simp; omega
    rw [this] at H; exact H
  · rw [envL_app]
    simp only [envL, allL, stepE]
    unfold dstA at hd
    cases hdd : o.dst with
    | none => rw [hdd] at hd; simp only [Option.some.injEq] at hd; exact hd.symm
    | some d =>
      rw [hdd] at hd; simp only at hd
      split at hd <;> try (cases hd; done)
      simp only [Option.some.injEq] at hd; exact hd.symm
  · refine ⟨hV3 hVo.1, fun s1 k s2 e o' ho' hw' x hx => ?_⟩
    rcases snoc_split e with ⟨_, rfl, rfl⟩ | ⟨s3, rfl, e2⟩
    · simp only at ho' hx ⊢
      rw [ho] at ho'; cases ho'
      exact hV2 hw' x hx
    · exact hV _ (hVo.2 s1 k s3 e2 o' ho' hw' x hx)
theorem arr_go : ∀ (past : List Nat) (L : Array Bool) (n : Nat), L.size = n → (past.foldl (fun L i => L.setIfInBounds i true) L).size = n ∧ ∀ j, lst (past.foldl (fun L i => L.setIfInBounds i true) L) j = true → lst L j = true ∨ j ∈ past
  | [], L, n, h => ⟨h, fun j x => .inl x⟩
  | i :: past, L, n, h => by
    obtain ⟨a, b⟩ := arr_go past (L.setIfInBounds i true) n (by rw [Array.size_setIfInBounds]; exact h)
    refine ⟨a, fun j x => ?_⟩
    rcases b j x with x | x
    · by_cases e : j = i
      · exact .inr (by rw [e]; exact List.mem_cons_self ..)
      · left
        unfold lst at x ⊢
        simp only [Array.getD_eq_getD_getElem?, Array.getElem?_setIfInBounds, if_neg (Ne.symm e)] at x ⊢
        exact x
    · exact .inr (List.mem_cons_of_mem _ x)
theorem arr_in : ∀ (past : List Nat) (L : Array Bool) (j : Nat), j < L.size → (lst L j = true ∨ j ∈ past) → lst (past.foldl (fun L i => L.setIfInBounds i true) L) j = true
  | [], L, j, _, h => by
    rcases h with h | h
    · exact h
    · cases h
  | i :: past, L, j, hj, h => by
    refine arr_in past (L.setIfInBounds i true) j (by rw [Array.size_setIfInBounds]; exact hj) ?_
    rcases h with h | h
    · left
      unfold lst at h ⊢
      simp only [Array.getD_eq_getD_getElem?, Array.getElem?_setIfInBounds] at h ⊢
      by_cases e : i = j
      · subst e; simp [hj]
      · rw [if_neg e]; exact h
    · cases h with
      | head => left; unfold lst; simp [Array.getD_eq_getD_getElem?, hj]
      | tail _ h => exact .inr h
theorem quietV_ok {i : Nat} {lg : List Nat} : ∀ {V : List (Nat × Nat)}, quietV M i lg V = true → ∀ p ∈ V, bitB M i p.1 = true ∨ p.2 ∉ lg
  | [], _, p, hp => by cases hp
  | (k, x) :: V, h, p, hp => by
    simp only [quietV] at h
    split at h
    · rename_i hb
      cases hp with
      | head => exact .inl hb
      | tail _ hp => exact quietV_ok h p hp
    · split at h
      · cases h
      · rename_i hm
        cases hp with
        | head => exact .inr fun q => by rw [memN_iff.2 q] at hm; cases hm
        | tail _ hp => exact quietV_ok h p hp
/-- a step that turns the heap, or calls, is taken -/
theorem spec_held_turn {fn : Func} {i : Nat} {o : Oper} {l : List Nat} {V : List (Nat × Nat)} {e e' e'' : En} {h h1 h'' : AH} {v : AV} (ho : ops.toList[i]? = some o) (hw : wantA ops e o = some true) (ht : turnB o.op = true) (hlg : LG ⟨h.o, h.nx, []⟩ h1) (hr : Spec P (.turn (restr e (slotsO ops o)) o) ⟨h.o, h.nx, []⟩ (.val v h1))
    (hq : quietV M i h1.lg V = true) (hd : dstA fn.ntmps e o.dst v = some e') (q : Spec P (.held fn ops M l V e') ⟨h1.o, h1.nx, h1.lg ++ h.lg⟩ (.held e'' h'')) : Spec P (.held fn ops M (i :: l) V e) h (.held e'' h'') := by
  intro c R0 ds e0 rs T L R a w Qx hS he hVo hreg hs hI hfin
  subst he
  unfold regB at hreg
  rw [ho] at hreg
  simp only [Bool.and_eq_true, Bool.not_eq_true', List.all_eq_true] at hreg
  obtain ⟨⟨⟨⟨r1, r2⟩, r3⟩, r4⟩, r5⟩ := hreg
  simp only [ht, Bool.not_true, Bool.false_or, decide_eq_true_eq] at r4
  have hnew : ∀ k ∈ rs, k.i ≠ i := fun k hk e => by
    have := memN_iff.2 (List.mem_map.2 ⟨k, hk, e⟩ : i ∈ rs.map Rec.i)
    rw [r1] at this; cases this
  have hlt : i < ops.size := (Array.getElem?_eq_some_iff.1 (toOp ho)).1
  have hdl : ∀ d, o.dst = some d → d < fn.ntmps := by
    intro d hd'
    unfold dstA at hd
    rw [hd'] at hd
    simp only at hd
    split at hd <;> try (cases hd; done)
    rename_i hb; exact blt_lt hb
  have hdsti : o.dst = dstI ops i := by unfold dstI; rw [ho]
  have hsli : slotsO ops o = slotsI ops i := by unfold slotsI; rw [ho]
  have hS' : Sta c ops M fn.ntmps (rs ++ [⟨i, o.dst, v, none⟩]) ⟨h1.o, h1.nx, h1.lg ++ h.lg⟩ := by
    refine hS.snoc hlg.nx hnew ⟨hlt, hdsti, hdl⟩ (fun d hdm => ?_) (fun k hk hc => ?_) (fun x hx => by cases hx)
    · obtain ⟨k, h1, h2⟩ := List.mem_map.1 (memN_iff.1 (r2 d hdm))
      exact ⟨k, h1, h2⟩
    · have := r3 k.i (List.mem_map.2 ⟨k, hk, rfl⟩)
      rw [hsli, ← (hS.op k hk).2.1] at this
      simp only [hc, Bool.not_true, Bool.false_or] at this
      exact this
  have he' : e' = envL allL (rs ++ [⟨i, o.dst, v, none⟩]) e0 := by
    rw [envL_app]
    simp only [envL, allL, stepE]
    unfold dstA at hd
    cases hdd : o.dst with
    | none => rw [hdd] at hd; simp only [Option.some.injEq] at hd; exact hd.symm
    | some d =>
      rw [hdd] at hd; simp only at hd
      split at hd <;> try (cases hd; done)
      simp only [Option.some.injEq] at hd; exact hd.symm
  have hVo' : VOk ops V (rs ++ [⟨i, o.dst, v, none⟩]) e0 h1.nx := by
    refine ⟨fun p hp => Nat.lt_of_lt_of_le (hVo.1 p hp) hlg.nx, fun s1 k s2 e o' ho' hw' x hx => ?_⟩
    rcases snoc_split e with ⟨_, rfl, rfl⟩ | ⟨s3, rfl, e2⟩
    · simp only at ho' hx ⊢
      rw [ho] at ho'; cases ho'
      exfalso
      rcases hx with hx | hx
      · cases hx
      · cases hop : o.op <;> rw [hop] at hx ht <;> simp only [readId, turnB, Bool.false_eq_true] at hx ht <;> try (cases hx; done)
        split at hx <;> try (cases hx; done)
        rename_i hcl
        rw [hcl] at ht
        simp at ht
    · exact hVo.2 s1 k s3 e2 o' ho' hw' x hx
  have step : ∀ (T : List Rec) (L : Array Bool) (R : Ren) (a : Act) (w : World), (∀ (T' : List Rec) (L' : Array Bool) (R' : Ren) (a' : Act) (w' : World), T.length = T'.length + 1 → Sb R0 R' → Inv P c ops fn.ntmps ds e0 rs T' h L' R' a' w' → wpAny P .any ops Qx (l.length + T'.length + 1) L' a' w') →
      Sb R0 R → Inv P c ops fn.ntmps ds e0 rs T h L R a w → wpAny P .any ops Qx (l.length + T.length + 1) L a w := by
    intro T L R a w ih hs hI
    have hun : lst L i = false := by
      cases hu : lst L i with
      | false => rfl
      | true => obtain ⟨k, hk, e⟩ := hI.sub i hu; exact absurd e (hnew k hk)
    refine ⟨fun hno => ?_, fun j hj => ?_⟩
    · have := all_of_none hS.msk hI.lsz hno (i + 1) i (by omega) hlt
      rw [hun] at this; cases this
    · by_cases hjp : ∃ r ∈ rs, r.i = j
      · refine past_step hS hI hj hjp fun R' a' w' T' s e k => ?_
        rw [e]
        have := ih T' _ R' a' w' e (hs.trans s) k
        rw [show l.length + (T'.length + 1) = l.length + T'.length + 1 by omega]
        exact this
      · -- it is the turning step itself
        have hji : j = i := by
          obtain ⟨hu, hjl⟩ := unlisted hI.lsz hj
          have hjo : ∃ o, ops.toList[j]? = some o := ⟨_, List.getElem?_eq_getElem (by rw [Array.length_toList]; exact hjl)⟩
          obtain ⟨oj, hjo⟩ := hjo
          have hdj := deps_of hjo hj
          obtain ⟨g1, g2⟩ := arr_go (rs.map Rec.i) (Array.replicate ops.size false) ops.size (by simp)
          have hrep : ∀ k, lst (Array.replicate ops.size false) k = false := fun k => by
            unfold lst
            simp only [Array.getD_eq_getD_getElem?, Array.getElem?_replicate]
            split <;> rfl
          have : j ∈ Region.ready .any ops (arrOf ops.size (rs.map Rec.i)) := by
            refine ready_of hjo g1 ?_ (fun d hdm => ?_)
            · cases hx : lst (arrOf ops.size (rs.map Rec.i)) j with
              | false => rfl
              | true =>
                rcases g2 j hx with h' | h'
                · rw [hrep] at h'; cases h'
                · obtain ⟨k, hk, e⟩ := List.mem_map.1 h'; exact absurd ⟨k, hk, e⟩ hjp
            · obtain ⟨k, hk, e⟩ := hI.sub d (hdj d hdm)
              refine arr_in _ _ d ?_ (.inr (List.mem_map.2 ⟨k, hk, e⟩))
              rw [Array.size_replicate, ← e]; exact (hS.op k hk).1
          rw [r4] at this
          simpa using this
        subst hji
        have hset := lst_set (L := L) (i := j) (by rw [hI.lsz]; exact hlt)
        have hd' := deps_of ho hj
        obtain ⟨hsl, _, _⟩ := slots_then (e0 := e0) (r := ⟨j, o.dst, v, none⟩) (rs2 := []) hS' hI.lsz hI.down hj
        have henv0 : envL (lst L) (rs ++ [⟨j, o.dst, v, none⟩]) e0 = envL (lst L) rs e0 := by rw [envL_app]; simp only [envL, hun]
        simp only [henv0] at hsl
        rw [← hsli] at hsl
        have hanc := anc_listed hS.msk (L := lst L) hI.down (j + 1) j (by omega) hlt hd'
        have hE : EO R (restr (envL allL rs e0) (slotsO ops o)) a := by
          intro t v hv
          rw [restr_get] at hv
          by_cases htm : t ∈ slotsO ops o
          · rw [if_pos htm, ← hsl t htm] at hv; exact hI.env t v hv
          · rw [if_neg htm] at hv; cases hv
        have hw2 := hw
        rw [← wantA_eq (ops := ops) (o := o) (fun t htm => hsl t htm)] at hw2
        unfold wpOp
        rw [toOp ho]
        simp only
        rw [if_pos (wantA_ok hI.env hw2)]
        refine .inl (hr (pdL c rs L) R w a _ _ (Rep.lgs (l := h.lg) hI.rep []) hE fun x w' p => ?_)
        obtain ⟨R', s, hR', hx⟩ := p
        refine q c R0 ds e0 (rs ++ [⟨j, o.dst, v, none⟩]) T (L.setIfInBounds j true) R' _ w' Qx hS' he' hVo' (by rw [List.map_append]; exact r5) (hs.trans s) ?_ hfin
        refine ⟨?_, ?_, ?_, ?_, fun k hk => ?_, fun k hk d hdm => ?_, by rw [Array.size_setIfInBounds]; exact hI.lsz, fun k hk hl => ?_, fun s1 k s2 hk hl => ?_⟩
        · refine Rep.sub_pd (Rep.lgs (l := h1.lg) hR' (h1.lg ++ h.lg)) fun k hk => ?_
          rcases hk with hk | ⟨k', hk', hl, hid⟩
          · exact .inl hk
          · rw [hset] at hl
            rcases List.mem_append.1 hk' with hk' | hk'
            · rw [if_neg (hnew k' hk')] at hl; exact .inr ⟨k', hk', hl, hid⟩
            · rw [List.mem_singleton] at hk'; subst hk'; cases hid
        · exact env_then (e0 := e0) (r := ⟨j, o.dst, v, none⟩) (rs2 := []) hS' hI.lsz hI.down (by rw [henv0]; exact hI.env) hI.size hj s hx
        · rw [← hI.size]; unfold Act.put; split <;> simp
        · rw [← hI.dfr]; unfold Act.put; split <;> rfl
        · rw [hset] at hk
          by_cases e : k = j
          · exact ⟨⟨j, o.dst, v, none⟩, by simp, e.symm⟩
          · rw [if_neg e] at hk
            obtain ⟨k', hk', e'⟩ := hI.sub k hk
            exact ⟨k', List.mem_append.2 (.inl hk'), e'⟩
        · rw [hset] at hk
          rw [hset]
          by_cases e : d = j
          · rw [if_pos e]
          · rw [if_neg e]
            by_cases e2 : k = j
            · subst e2; exact hd' d hdm
            · rw [if_neg e2] at hk; exact hI.down k hk d hdm
        · rw [hset] at hl
          rcases List.mem_append.1 hk with hk | hk
          · rw [if_neg (hnew k hk)] at hl; exact hI.tt k hk hl
          · rw [List.mem_singleton] at hk; subst hk; rw [if_pos rfl] at hl; cases hl
        · rw [hset] at hl
          rcases snoc_split hk with ⟨_, rfl, rfl⟩ | ⟨s3, rfl, e⟩
          · rw [if_pos rfl] at hl; cases hl
          · have hkm : k ∈ rs := by rw [e]; simp
            rw [if_neg (hnew k hkm)] at hl
            refine (hI.late s1 k s3 e hl).stay fun y hy hwy => ?_
            obtain ⟨o', ho', hw'⟩ := hwy
            have hin := hVo.2 s1 k s3 e o' ho' hw' y (by
              rcases hy with hy | ⟨o'', ho'', _, hy⟩
              · exact .inl hy
              · rw [ho'] at ho''; cases ho''; exact .inr hy)
            rcases quietV_ok hq _ hin with hb | hb
            · have := hanc _ hb
              rw [hl] at this; cases this
            · exact hlg.sm y (hVo.1 _ hin) hb
  have main : ∀ (m : Nat) (T : List Rec) (L : Array Bool) (R : Ren) (a : Act) (w : World), T.length = m → Sb R0 R → Inv P c ops fn.ntmps ds e0 rs T h L R a w → wpAny P .any ops Qx (l.length + T.length + 1) L a w := by
    intro m
    induction m with
    | zero => exact fun T L R a w hT => step T L R a w (fun T' _ _ _ _ e => by omega)
    | succ m ih => exact fun T L R a w hT => step T L R a w (fun T' L' R' a' w' e s k => ih T' L' R' a' w' (by omega) s k)
  have := main T.length T L R a w rfl hs hI
  rw [show (i :: l).length + T.length = l.length + T.length + 1 by simp; omega]
  exact this
/-- a region that draws its order -/
theorem spec_draw (hm : P.follows .mixedOrders = true) {f : FuncId} {fn : Func} {D : List Nat} {i : Nat} {l : List Nat} {k : List Item} {e e' : En} {h h1 h' : AH} {r : AV} (ho : okReg ops M l = true)
    (q1 : Spec P (.held fn ops M l [] e) h (.held e' h1)) (q : Spec P (.code f fn none D k e') h1 (.val r h')) : Spec P (.code f fn none D (.code (.region i ops true) :: k) e) h (.val r h') := by
  intro hf cx R w a ro' Q hR hE hro hQ
  have : ro' = none := hro
  subst this
  unfold okReg at ho
  simp only [Bool.and_eq_true] at ho
  obtain ⟨⟨⟨o1, o2⟩, o3⟩, o4⟩ := ho
  have o2 := Nat.eq_of_beq_eq_true o2
  have hrepl : ∀ k, lst (Array.replicate ops.size false) k = false := fun k => by
    unfold lst
    simp only [Array.getD_eq_getD_getElem?, Array.getElem?_replicate]
    split <;> rfl
  have hrep0 : Rep (pdL cx [] (Array.replicate ops.size false)) R h { w with drawn := w.drawn + 1 } := by
    refine Rep.sub_pd hR.drew fun j hj => ?_
    rcases hj with hj | ⟨k, hk, _⟩
    · exact hj
    · cases hk
  have hwp : (Code.region i ops true).wp P (fun ex a' w' => ex = .normal ∧ runsR P f none Q a' k w') a w := by
    refine wp_region_any hm ?_
    have := q1 cx R a.defers e [] [] (Array.replicate ops.size false) R a { w with drawn := w.drawn + 1 } (fun ex a' w' => ex = .normal ∧ runsR P f none Q a' k w')
      ⟨o3, fun rs1 r rs2 e => by simp at e, fun r hr => by (cases hr), fun rs1 r rs2 e => by simp at e, fun rs1 r rs2 e => by simp at e, fun r hr => by (cases hr), fun r hr => by (cases hr)⟩
      rfl ⟨fun p hp => by (cases hp), fun rs1 r rs2 e => by simp at e⟩ o4 (Sb.refl R)
      ⟨hrep0, hE.k, hE.size, rfl, fun j hj => by (rw [hrepl] at hj; cases hj), fun j hj => by (rw [hrepl] at hj; cases hj), by simp, fun r hr => by (cases hr), fun rs1 r rs2 e => by simp at e⟩
      (fun R' a' w' s hR' hE' hz hdf => ⟨rfl, q hf cx R' w' a' none Q hR' ⟨hz, by rw [hdf]; exact hE.defers.mono s, hE'⟩ rfl (fun v w'' p => hQ v w'' (p.trans s))⟩)
    rw [List.length_nil, Nat.add_zero, o2] at this
    exact this
  intro cs
  obtain ⟨ex, a', w', ⟨rfl, hr⟩, harr⟩ := hwp (bsR f none) k cs
  rw [Frame.atR_of_none rfl]
  have := hr cs
  rw [Frame.atR_of_none rfl] at this
  exact this.steps harr
theorem spec_turn_ext {e : En} {o : Oper} {h : AH} {v : AV} {fx : Operand} {args : List Operand} {g : FuncId} {first cap vs : List AV} (hc : isCall o.op = some (fx, args)) (hf : evo e fx = some (.func g first cap)) (hv : evoL e args = some vs) (hs : extA P g (first ++ (vs ++ cap)) = some v) : Spec P (.turn e o) h (.val v h) := by
  intro c R w a nx Qx hR hE hn
  exact ext_wp hE hc hf hv hs fun x hx => hn x w ⟨R, Sb.refl R, hR, hx⟩
theorem spec_turn_call {e : En} {o : Oper} {h h' : AH} {v : AV} {fx : Operand} {args : List Operand} {g : FuncId} {first cap vs : List AV} (hc : isCall o.op = some (fx, args)) (hf : evo e fx = some (.func g first cap)) (hv : evoL e args = some vs) (hs : Spec P (.call g (first ++ (vs ++ cap))) h (.val v h')) : Spec P (.turn e o) h (.val v h') := by
  intro c R w a nx Qx hR hE hn
  exact call_wp hR hE hc hf hv hs hn
theorem spec_turn_eff {e : En} {o : Oper} {h h' : AH} {v : AV} (hq : eop P e h o.op = some (v, h')) : Spec P (.turn e o) h (.val v h') := by
  intro c R w a nx Qx hR hE hn
  exact eff_wp hR hE hq hn
theorem new_of {e : En} {h h' : AH} {op : Op} {v : AV} (hm : makesB op = true) (q : eop P e h op = some (v, h')) : ∃ ob, h' = h.new ob := by
  cases op <;> simp only [makesB, Bool.false_eq_true] at hm <;> simp only [eop] at q
  all_goals try unfold opAlloc at q
  all_goals try unfold opBuildSlice at q
  all_goals try unfold opMakeSlice at q
  all_goals try unfold opMakeMap at q
  all_goals try unfold opBox at q
  all_goals repeat' (split at q)
  all_goals first
    | (cases q; done)
    | (simp only [Option.some.injEq, Prod.mk.injEq] at q; obtain ⟨_, rfl⟩ := q; exact ⟨_, rfl⟩)
theorem make_read {e : En} {op : Op} (hm : makesB op = true) : readId e op = none := by
  cases op <;> simp only [makesB, Bool.false_eq_true] at hm <;> rfl
theorem spec_held_skip {fn : Func} {i : Nat} {o : Oper} {l : List Nat} {V : List (Nat × Nat)} {e e' e'' : En} {h h'' : AH} (ho : ops.toList[i]? = some o) (hw : wantA ops e o = some false) (hd : dstA fn.ntmps e o.dst (.tup []) = some e') (q : Spec P (.held fn ops M l V e') h (.held e'' h'')) : Spec P (.held fn ops M (i :: l) V e) h (.held e'' h'') :=
  spec_held_late ho hd (id := none) (.inl ⟨rfl, rfl⟩) ⟨o, ho, .inl ⟨hw, rfl, rfl⟩⟩ (fun _ x => x) (fun h' => by rw [hw] at h'; cases h') (fun x => x) q
theorem spec_held_make {fn : Func} {i : Nat} {o : Oper} {l : List Nat} {V : List (Nat × Nat)} {e e' e'' : En} {h h' h'' : AH} {v : AV} (ho : ops.toList[i]? = some o) (hw : wantA ops e o = some true) (hm : makesB o.op = true) (hq : eop P (restr e (slotsO ops o)) h o.op = some (v, h')) (hd : dstA fn.ntmps e o.dst v = some e')
    (q : Spec P (.held fn ops M l ((i, h.nx) :: V) e') h' (.held e'' h'')) : Spec P (.held fn ops M (i :: l) V e) h (.held e'' h'') := by
  obtain ⟨ob, rfl⟩ := new_of hm hq
  refine spec_held_late ho hd (id := some h.nx) (.inr ⟨ob, rfl, rfl⟩) ⟨o, ho, .inr (.inr ⟨hw, hm, h, ob, rfl, hq, by simp [AH.new, Tr.get_set]⟩)⟩ (fun _ x => List.mem_cons_of_mem _ x) (fun _ x hx => ?_) (fun hx p hp => ?_) q
  · rcases hx with hx | hx
    · cases hx; exact List.mem_cons_self ..
    · rw [make_read hm] at hx; cases hx
  · cases hp with
    | head => exact Nat.lt_succ_self _
    | tail _ hp => exact Nat.lt_succ_of_lt (hx p hp)
theorem spec_held_read {fn : Func} {i : Nat} {o : Oper} {l : List Nat} {V : List (Nat × Nat)} {e e' e'' : En} {h h'' : AH} {v : AV} (ho : ops.toList[i]? = some o) (hw : wantA ops e o = some true) (hb : oldB h.nx (readId (restr e (slotsO ops o)) o.op) = true) (hq : qop P (restr e (slotsO ops o)) (oneH h (readId (restr e (slotsO ops o)) o.op)) o.op = some v) (hd : dstA fn.ntmps e o.dst v = some e')
    (q : Spec P (.held fn ops M l (noteV i (readId (restr e (slotsO ops o)) o.op) V) e') h (.held e'' h'')) : Spec P (.held fn ops M (i :: l) V e) h (.held e'' h'') := by
  refine spec_held_late ho hd (id := none) (.inl ⟨rfl, rfl⟩) ⟨o, ho, .inr (.inl ⟨hw, rfl, hq⟩)⟩ (fun p x => ?_) (fun _ x hx => ?_) (fun hx p hp => ?_) q
  · unfold noteV; split
    · exact x
    · exact List.mem_cons_of_mem _ x
  · rcases hx with hx | hx
    · cases hx
    · unfold noteV; rw [hx]; exact List.mem_cons_self ..
  · unfold noteV at hp
    split at hp
    · exact hx p hp
    · rename_i y hy
      cases hp with
      | head => rw [hy] at hb; exact blt_lt hb
      | tail _ hp => exact hx p hp
end
end Go.Proofs.YtdjkoljonlcemaaGreat.Zr

/- A runner, eleventh part: loops over functions, their rounds; the whole. No program stands here. -/
namespace Go.Proofs.YtdjkoljonlcemaaGreat.Zr
open Go Go.RowKit Eng
section
variable {P : Program} {w0 : Cxt}
theorem Rep.loop {R : Ren} {h : AH} {w : World} (hR : Rep w0 R h w) {l : Nat} {f : FuncId} {n : Nat} {e : Tr AV} {ps : Array Tmp} {asg body : Code} {st : LoopState} {pend : Option Code} {d : Nat} {L : Loc} (hl : h.o.get l = some (.loop f n e ps asg body st pend d)) (hL : R l = some L) :
    ∃ tmps Ld, w.heap[L.blk]? = some (.loop { state := st, pending := pend, fn := f, tmps, params := ps, assign := asg, body, defers := Ld.blk }) ∧ tmps.size = n ∧ ET R e tmps ∧ R d = some Ld := by
  obtain ⟨⟨tmps, Ld, h2, h3, h4, h5⟩, _⟩ := hR.obj l _ _ hl hL
  exact ⟨tmps, Ld, h2, h3, h4, h5⟩
theorem getLoop_run {w : World} {b : Nat} {r : Loop} (h : w.heap[b]? = some (.loop r)) : (Instr.getLoop b).run P w = .ok r w := by
  unfold Instr.getLoop
  rw [run_bind_ok (getObj_run h rfl)]; rfl
/-- a record turned -/
theorem loop_put {R : Ren} {h : AH} {w : World} (hR : Rep w0 R h w) {l : Nat} {f : FuncId} {n : Nat} {e : Tr AV} {ps : Array Tmp} {asg body : Code} {st : LoopState} {pend : Option Code} {d : Nat} {L Ld : Loc} {tmps : Array Value} (hl : h.o.get l = some (.loop f n e ps asg body st pend d)) (hL : R l = some L)
    (h2 : w.heap[L.blk]? = some (.loop { state := st, pending := pend, fn := f, tmps, params := ps, assign := asg, body, defers := Ld.blk })) (h3 : tmps.size = n) (h4 : ET R e tmps) (h5 : R d = some Ld) (st' : LoopState) (pend' : Option Code) :
    Rep w0 R (h.put l (.loop f n e ps asg body st' pend' d)) { w with heap := w.heap.setIfInBounds L.blk (.loop { state := st', pending := pend', fn := f, tmps, params := ps, assign := asg, body, defers := Ld.blk }) } ∧
      Fr R h (h.put l (.loop f n e ps asg body st' pend' d)) w { w with heap := w.heap.setIfInBounds L.blk (.loop { state := st', pending := pend', fn := f, tmps, params := ps, assign := asg, body, defers := Ld.blk }) } := by
  have hlt : L.blk < w.heap.size := (Array.getElem?_eq_some_iff.1 h2).1
  exact hR.wr hl hL (setObj_wr w L.blk _) ⟨tmps, Ld, setObj_get hlt, h3, h4, h5⟩
theorem endR_ok {R : Ren} {h h' : AH} {w : World} {l : Nat} {L : Loc} {jump : Option Code} {v : AV} (hR : Rep w0 R h w) (hL : R l = some L) (q : endR h l jump = some (.val v h')) :
    ∃ x w', (Instr.endRound L.blk jump).run P w = .ok x w' ∧ Rep w0 R h' w' ∧ VR R v x := by
  unfold endR at q
  split at q <;> try (cases q; done)
  rename_i f n e ps asg body st pend d hl
  simp only [Option.some.injEq, Res.val.injEq] at q
  obtain ⟨rfl, rfl⟩ := q
  obtain ⟨tmps, Ld, h2, h3, h4, h5⟩ := hR.loop hl hL
  obtain ⟨g1, _⟩ := loop_put hR hl hL h2 h3 h4 h5 (match jump with | none => .ready | some _ => .done) jump
  refine ⟨.bool jump.isNone, _, ?_, g1, ?_⟩
  · unfold Instr.endRound
    rw [run_bind_ok (getLoop_run h2), run_bind_ok (setObj_run h2 rfl)]
    cases jump <;> rfl
  · cases jump <;> exact .bool _
theorem lg_endR {h h' : AH} {l : Nat} {jump : Option Code} {v : AV} (q : endR h l jump = some (.val v h')) : LG h h' := by
  unfold endR at q
  split at q <;> try (cases q; done)
  simp only [Option.some.injEq, Res.val.injEq] at q
  obtain ⟨_, rfl⟩ := q
  exact lg_put _ _ _
theorem endR_val {h : AH} {l : Nat} {jump : Option Code} {res : Res} (q : endR h l jump = some res) : ∃ v h', res = .val v h' := by
  unfold endR at q
  split at q <;> try (cases q; done)
  simp only [Option.some.injEq] at q; exact ⟨_, _, q.symm⟩
theorem spec_rend {f : FuncId} {fn : Func} {l : Nat} {D : List Nat} {k : List Item} {e : En} {h h' : AH} {v : AV} {jump : Option Code}
    (hs : ∀ (b : Frame) (a : Act) (c : Frame) cs w w' l' x, b.roundOf = some l' → b.kind = .normal → (Instr.endRound l' jump).run P w = .ok x w' → step P (lone (b.atR a k) (c :: cs) w) = .next (lone (c.finish x) cs w')) (q : endR h l jump = some (.val v h')) : Spec P (.code f fn (some l) D k e) h (.val v h') := by
  intro hf cx R w a ro' Q hR hE hro hQ
  obtain ⟨L, hL, rfl⟩ := hro
  obtain ⟨x, w', h1, h2, h3⟩ := endR_ok (P := P) hR hL q
  intro cs c cs' ecs
  subst ecs
  exact ⟨x, w', hQ _ _ ⟨R, Sb.refl R, h2, h3⟩, .one (hs (bsR f (some L.blk)) a c cs' w w' L.blk x rfl rfl h1)⟩
theorem spec_begin {f : FuncId} {fn : Func} {l : Nat} {D : List Nat} {k : List Item} {e : En} {h h1 h' : AH} {v : AV} (q : beginR h l = some h1) (hq : Spec P (.code f fn (some l) D k e) h1 (.val v h')) : Spec P (.code f fn (some l) D (.beginRound :: k) e) h (.val v h') := by
  intro hf cx R w a ro' Q hR hE hro hQ
  obtain ⟨L, hL, rfl⟩ := hro
  unfold beginR at q
  split at q <;> try (cases q; done)
  rename_i f' n e' ps asg body st pend d hl
  split at q <;> try (cases q; done)
  simp only [Option.some.injEq] at q; subst q
  obtain ⟨tmps, Ld, g2, g3, g4, g5⟩ := hR.loop hl hL
  obtain ⟨k1, _⟩ := loop_put hR hl hL g2 g3 g4 g5 .busy pend
  have H := hq hf cx R _ a (some L.blk) Q k1 hE ⟨L, hL, rfl⟩ hQ
  refine runsR_step (fun cs => stepR_beginRound rfl ?_) H
  unfold Instr.beginRound
  rw [run_bind_ok (getLoop_run g2), run_bind_ok (setObj_run g2 rfl)]; rfl
theorem lg_begin {h h' : AH} {l : Nat} (q : beginR h l = some h') : LG h h' := by
  unfold beginR at q
  split at q <;> try (cases q; done)
  split at q <;> try (cases q; done)
  simp only [Option.some.injEq] at q; subst q
  exact lg_put _ _ _
/-- the round's slots -/
theorem setPs_ok {R : Ren} {n : Nat} : ∀ {ts : List Tmp} {vs : List AV} {xs : List Value} {e e' : En} {tmps : Array Value}, VL R vs xs → tmps.size = n → ET R e tmps → setPs n ts vs e = some e' →
    ts.length = xs.length ∧ ET R e' ((ts.zip xs).foldl (fun tmps (p : Tmp × Value) => tmps.setIfInBounds p.1 p.2) tmps) ∧ ((ts.zip xs).foldl (fun tmps (p : Tmp × Value) => tmps.setIfInBounds p.1 p.2) tmps).size = n
  | [], vs, xs, e, e', tmps, hv, hn, hE, q => by
    cases hv with
    | nil => simp only [setPs, Option.some.injEq] at q; subst q; exact ⟨rfl, hE, hn⟩
    | cons _ _ => simp [setPs] at q
  | t :: ts, vs, xs, e, e', tmps, hv, hn, hE, q => by
    cases hv with
    | nil => simp [setPs] at q
    | cons h1 h2 =>
      rename_i v x vs xs
      simp only [setPs] at q
      split at q <;> try (cases q; done)
      rename_i hlt
      have hlt := blt_lt hlt
      have hE' : ET R (e.set t (some v)) (tmps.setIfInBounds t x) := by
        intro u y hy
        rw [Tr.get_set] at hy
        simp only [Array.getD_eq_getD_getElem?, Array.getElem?_setIfInBounds]
        by_cases hu : u = t
        · subst hu; rw [if_pos rfl] at hy; cases hy
          simp [hn, hlt]; exact h1
        · rw [if_neg hu] at hy
          rw [if_neg (Ne.symm hu)]
          have := hE u y hy
          rwa [Array.getD_eq_getD_getElem?] at this
      obtain ⟨a1, a2, a3⟩ := setPs_ok h2 (by rw [Array.size_setIfInBounds]; exact hn) hE' q
      exact ⟨by simp [a1], a2, a3⟩
theorem spec_yield {f : FuncId} {fn : Func} {ro : Option Nat} {D : List Nat} {ops : Array Oper} {o : Oper} {l : List Oper} {k : List Item} {e e3 : En} {h h1 h' : AH} {r v : AV} {fx : Operand} {args : List Operand} {y : Nat} {vs : List AV}
    {f' : FuncId} {fn' : Func} {n' : Nat} {e' e'' : En} {ps : Array Tmp} {asg body : Code} {st : LoopState} {pend : Option Code} {d : Nat} (hw : wantA ops e o = some true)
    (hc : isCall o.op = some (fx, args)) (hf : evo e fx = some (.yield y)) (hv : evoL e args = some vs) (hl : h.o.get y = some (.loop f' n' e' ps asg body st pend d)) (hfn' : P.funcs[f']? = some fn') (hn' : fn'.ntmps = n') (hps : setPs n' ps.toList vs e' = some e'')
    (hs : Spec P (.code f' fn' (some y) [] [.code asg, .beginRound, .code body] e'') h (.val v h1)) (hd : dstA fn.ntmps e o.dst v = some e3) (q : Spec P (.ops f fn ro D ops l k e3) h1 (.val r h')) : Spec P (.ops f fn ro D ops (o :: l) k e) h (.val r h') := by
  intro hfn cx R w a ro' Q i hR hE hro hll hQ
  obtain ⟨ho, hl'⟩ := row_head hll
  obtain ⟨as', tys, hop, rfl⟩ := isCall_ok hc
  have hfx := evo_ok hE.k hf
  generalize hfv : a.eval fx = fv at hfx
  cases hfx with
  | yield hL =>
    rename_i L
    obtain ⟨tmps, Ld, g2, g3, g4, g5⟩ := hR.loop hl hL
    have hargs := evoL_ok hE.k hv
    obtain ⟨p1, p2, p3⟩ := setPs_ok hargs g3 g4 hps
    have hsz : (as'.map a.eval).size = ps.size := by
      have := p1
      simp only [List.length_map, Array.length_toList] at this
      simp [this]
    have hrun : (execOp a.eval o).run P w = .ok (.round L.blk f' ((ps.toList.zip (as'.toList.map a.eval)).foldl (fun tmps (p : Tmp × Value) => tmps.setIfInBounds p.1 p.2) tmps) asg body) w := by
      unfold execOp
      simp only [hop, resolve, hfv, Deferred.ofValue]
      show (Sem.bind (Sem.pure _) _).run P w = _
      simp only [Sem.bind, invoke]
      unfold Instr.yield
      rw [run_bind_ok (getLoop_run g2)]
      simp only [Array.empty_append]
      rw [if_neg (by simpa using hsz)]
      have : ps.zip (as'.map a.eval) = (ps.toList.zip (as'.toList.map a.eval)).toArray := by
        apply Array.ext'
        simp
      show Sem.run P (pure (Next.round L.blk f' ((ps.zip (as'.map a.eval)).foldl (fun tmps (x : Tmp × Value) => tmps.setIfInBounds x.1 x.2) tmps) asg body)) w = _
      rw [this, List.foldl_toArray]; rfl
    have hround := hs hfn' cx R w { tmps := (ps.toList.zip (as'.toList.map a.eval)).foldl (fun tmps (p : Tmp × Value) => tmps.setIfInBounds p.1 p.2) tmps, defers := [] } (some L.blk) (Post cx R v h1) hR ⟨by rw [p3, hn'], .nil, p2⟩ ⟨L, hL, rfl⟩ (fun _ _ p => p)
    intro cs
    rw [List.length_cons, List.range'_succ]
    obtain ⟨x, w', hp, hsteps⟩ := hround ((bsR f ro').atR a (.inRegion ops (i :: List.range' (i + 1) l.length) :: k) :: cs) _ _ rfl
    obtain ⟨R', s, hR', hx⟩ := hp
    have H := q hfn cx R' w' _ ro' Q (i + 1) hR' ((hE.mono s).put hx hd) (hro.mono s) hl' (fun v w'' p => hQ v w'' (p.trans s))
    refine (H cs).steps (.head (step_round ho (wantA_ok hE.k hw) (call_nd hc) hrun) ?_)
    have hfin : ((bsR f ro').atR a (.inRegion ops (i :: List.range' (i + 1) l.length) :: k)).finish x = (bsR f ro').atR (a.put o.dst x) (.inRegion ops (List.range' (i + 1) l.length) :: k) := by rw [Frame.finish_atR, ho]; rfl
    rw [← hfin]
    exact hsteps
/-- the loop's block and record are made -/
theorem loopD_ok {R : Ren} {h h1 : AH} {w : World} {ro ro' : Option Nat} {d : Nat} {D' : List Nat} (hR : Rep w0 R h w) (hro : RoR R ro ro') (q : loopD h ro = some (d, h1, D')) (f : FuncId) {tmps : Array Value} {e : En} (hE : ET R e tmps) (ps : Array Tmp) (asg body : Code) :
    ∃ R' w' l mark, (Instr.enterLoop f tmps ps asg body ro').run P w = .ok (l, mark) w' ∧ Sb R R' ∧ Rep w0 R' (h1.new (.loop f tmps.size e ps asg body .ready none d)) w' ∧ (∃ L, R' h1.nx = some L ∧ l = L.blk) ∧ DR R' D' mark := by
  cases ro with
  | none =>
    have : ro' = none := hro
    subst this
    simp only [loopD, Option.some.injEq, Prod.mk.injEq] at q
    obtain ⟨rfl, rfl, rfl⟩ := q
    have hb1 : Bl w (w.alloc (.deferred (some []))) := (Below.refl _ _).alloc (Nat.le_refl _) _
    have hg1 : (w.alloc (.deferred (some []))).heap[w.heap.size]? = some (.deferred (some [])) := by show (w.heap.push _)[w.heap.size]? = _; simp
    obtain ⟨r1, s1, f1⟩ := hR.new (o := .dfr) (c := 0) hb1 (show OR _ .dfr ⟨w.heap.size, 0, 0⟩ _ from hg1)
    have hL1 : (R.put h.nx ⟨w.heap.size, 0, 0⟩) h.nx = some ⟨w.heap.size, 0, 0⟩ := Ren.put_self ..
    generalize hw1 : w.alloc (.deferred (some [])) = w1 at *
    generalize R.put h.nx ⟨w.heap.size, 0, 0⟩ = R1 at *
    have hb2 : Bl w1 (w1.alloc (.loop { state := .ready, pending := none, fn := f, tmps, params := ps, assign := asg, body, defers := w.heap.size })) := (Below.refl _ _).alloc (Nat.le_refl _) _
    have hg2 : (w1.alloc (.loop { state := .ready, pending := none, fn := f, tmps, params := ps, assign := asg, body, defers := w.heap.size })).heap[w1.heap.size]? = some (.loop { state := .ready, pending := none, fn := f, tmps, params := ps, assign := asg, body, defers := w.heap.size }) := by show (w1.heap.push _)[w1.heap.size]? = _; simp
    have hs2 : Sb R1 (R1.put (h.new .dfr).nx ⟨w1.heap.size, 0, 0⟩) := Ren.put_sb (r1.frs _ (Nat.le_refl _))
    obtain ⟨r2, s2, f2⟩ := r1.new (o := .loop f tmps.size e ps asg body .ready none h.nx) (c := 0) hb2 (show OR _ (.loop f tmps.size e ps asg body .ready none h.nx) ⟨w1.heap.size, 0, 0⟩ _ from ⟨tmps, ⟨w.heap.size, 0, 0⟩, hg2, rfl, (hE.mono s1).mono hs2, hs2 _ _ hL1⟩)
    refine ⟨_, _, _, _, ?_, s1.trans s2, r2, ⟨_, Ren.put_self .., rfl⟩, .cons (s2 _ _ hL1) .nil⟩
    subst hw1
    rfl
  | some l0 =>
    obtain ⟨L0, hL0, rfl⟩ := hro
    simp only [loopD] at q
    split at q <;> try (cases q; done)
    rename_i f0 n0 e0 ps0 as0 body0 st0 pend0 d0 hl0
    simp only [Option.some.injEq, Prod.mk.injEq] at q
    obtain ⟨rfl, rfl, rfl⟩ := q
    obtain ⟨tmps0, Ld, g2, g3, g4, g5⟩ := hR.loop hl0 hL0
    have hb2 : Bl w (w.alloc (.loop { state := .ready, pending := none, fn := f, tmps, params := ps, assign := asg, body, defers := Ld.blk })) := (Below.refl _ _).alloc (Nat.le_refl _) _
    have hg2 : (w.alloc (.loop { state := .ready, pending := none, fn := f, tmps, params := ps, assign := asg, body, defers := Ld.blk })).heap[w.heap.size]? = some (.loop { state := .ready, pending := none, fn := f, tmps, params := ps, assign := asg, body, defers := Ld.blk }) := by show (w.heap.push _)[w.heap.size]? = _; simp
    have hs2 : Sb R (R.put h.nx ⟨w.heap.size, 0, 0⟩) := Ren.put_sb (hR.frs _ (Nat.le_refl _))
    obtain ⟨r2, s2, f2⟩ := hR.new (o := .loop f tmps.size e ps asg body .ready none d0) (c := 0) hb2 (show OR _ (.loop f tmps.size e ps asg body .ready none d0) ⟨w.heap.size, 0, 0⟩ _ from ⟨tmps, Ld, hg2, rfl, hE.mono hs2, hs2 _ _ g5⟩)
    refine ⟨_, _, _, _, ?_, s2, r2, ⟨_, Ren.put_self .., rfl⟩, .nil⟩
    unfold Instr.enterLoop
    simp only
    rw [run_bind_ok (getLoop_run g2)]
    rfl
theorem endL_ok {R : Ren} {h h' : AH} {w : World} {l : Nat} {L : Loc} {jump : Option Code} (hR : Rep w0 R h w) (hL : R l = some L) (q : endL h l = some (jump, h')) :
    ∃ w', (Instr.endLoop L.blk).run P w = .ok jump w' ∧ Rep w0 R h' w' := by
  unfold endL at q
  split at q <;> try (cases q; done)
  rename_i f n e ps asg body st pend d hl
  obtain ⟨tmps, Ld, h2, h3, h4, h5⟩ := hR.loop hl hL
  split at q <;> try (cases q; done)
  rename_i hst
  simp only [Option.some.injEq, Prod.mk.injEq] at q
  obtain ⟨rfl, rfl⟩ := q
  obtain ⟨g1, _⟩ := loop_put hR hl hL h2 h3 h4 h5 .exhausted pend
  refine ⟨_, ?_, g1⟩
  unfold Instr.endLoop
  rw [run_bind_ok (getLoop_run h2)]
  simp only
  rw [if_neg (by cases st <;> first | decide | exact absurd rfl hst)]
  rw [run_bind_ok (setObj_run h2 rfl)]; rfl
theorem lg_endL {h h' : AH} {l : Nat} {jump : Option Code} (q : endL h l = some (jump, h')) : LG h h' := by
  unfold endL at q
  split at q <;> try (cases q; done)
  split at q <;> try (cases q; done)
  simp only [Option.some.injEq, Prod.mk.injEq] at q
  obtain ⟨_, rfl⟩ := q
  exact lg_put _ _ _
theorem lg_loopD {h h' : AH} {ro : Option Nat} {d : Nat} {D : List Nat} (q : loopD h ro = some (d, h', D)) : LG h h' := by
  unfold loopD at q
  split at q
  · simp only [Option.some.injEq, Prod.mk.injEq] at q; obtain ⟨_, rfl, _⟩ := q; exact lg_new _ _
  · split at q <;> try (cases q; done)
    simp only [Option.some.injEq, Prod.mk.injEq] at q; obtain ⟨_, rfl, _⟩ := q; exact LG.refl _
theorem spec_rangeFunc {f : FuncId} {fn : Func} {ro : Option Nat} {D D' : List Nat} {g : Operand} {ps : Array Tmp} {asg body : Code} {k : List Item} {e : En} {h h1 h3 h4 h' : AH} {r v : AV} {gf : FuncId} {first cap : List AV} {d : Nat} {jump : Option Code}
    (hg : evo e g = some (.func gf first cap)) (hd : loopD h ro = some (d, h1, D')) (hs : Spec P (.call gf (first ++ ([.yield h1.nx] ++ cap))) (h1.new (.loop f fn.ntmps e ps asg body .ready none d)) (.val v h3)) (he : endL h3 h1.nx = some (jump, h4))
    (q : Spec P (.code f fn ro (D' ++ D) (jumpK jump k) e) h4 (.val r h')) : Spec P (.code f fn ro D (.code (.rangeFunc g ps asg body) :: k) e) h (.val r h') := by
  intro hfn cx R w a ro' Q hR hE hro hQ
  obtain ⟨R1, w1, l, mark, hrun, s1, hR1, ⟨L, hL, rfl⟩, hD⟩ := loopD_ok (P := P) hR hro hd f (tmps := a.tmps) hE.k ps asg body
  rw [hE.size] at hR1
  have hgx := evo_ok hE.k hg
  generalize hgv : a.eval g = gv at hgx
  cases hgx with
  | func a1 a2 =>
    rename_i xs ys
    have hvl : VL R1 (first ++ ([AV.yield h1.nx] ++ cap)) (xs ++ ([Value.func (.yield L.blk) #[] #[]] ++ ys)) := (VL.mono s1 a1).app ((VL.cons (.yield hL) .nil).app (VL.mono s1 a2))
    have hret := hs cx R1 w1 _ hR1 hvl
    have hres : (resolve a.eval (rangeCall g L.blk) 0).run P w1 = .ok { target := .fn (.func gf) ys.toArray, args := xs.toArray ++ #[Value.func (.yield L.blk) #[] #[]] } w1 := by
      unfold resolve
      simp only [hgv, Deferred.ofValue]
      have : (#[Operand.const (.func (.yield L.blk) #[] #[])]).map a.eval = #[Value.func (.yield L.blk) #[] #[]] := by simp [Act.eval]
      rw [this]; rfl
    have hinv : (invoke (.fn (.func gf) ys.toArray) (xs.toArray ++ #[Value.func (.yield L.blk) #[] #[]])).run P w1 = .ok (.enter gf (xs ++ ([Value.func (.yield L.blk) #[] #[]] ++ ys)).toArray) w1 := by
      have hok := hret.ok
      unfold callable at hok
      cases hf : P.funcs[gf]? with
      | none => rw [hf] at hok; cases hok
      | some fg =>
        rw [hf] at hok
        simp only [Bool.and_eq_true, Bool.not_eq_true'] at hok
        have e2 : xs.toArray ++ #[Value.func (.yield L.blk) #[] #[]] ++ ys.toArray = (xs ++ ([Value.func (.yield L.blk) #[] #[]] ++ ys)).toArray := by simp
        simp only [invoke, callFunc, e2]
        rw [run_bind_ok (show (program).run P w1 = .ok P w1 from rfl), hf]
        simp only [hok.2]
        rw [if_neg (by simp), if_neg (by have := hok.1; cases hbd : fg.body <;> simp_all)]
        rfl
    intro cs
    obtain ⟨en, w3, fr, hq, hcom, hfr, hlv⟩ := hret.run ((bsR f ro').atR { a with defers := mark ++ a.defers } (.inRangeFunc L.blk :: k) :: cs)
    cases en with
    | panicked ch => exact hq.elim
    | outgrown => exact hq.elim
    | returned x =>
      obtain ⟨R', s, hR', hx⟩ := hq
      obtain ⟨w4, e1, e2⟩ := endL_ok (P := P) hR' (s _ _ hL) he
      have H := q hfn cx R' w4 { a with defers := mark ++ a.defers } ro' Q e2 ⟨hE.size, (hD.mono s).app ((hE.defers.mono s1).mono s), (hE.k.mono s1).mono s⟩ ((hro.mono s1).mono s) (fun v w'' p => hQ v w'' ((p.trans s).trans s1))
      refine (H cs).steps (.head (stepR_rangeFunc (b := bsR f ro') hrun hres hinv) (Steps.trans hcom (.head (m₁ := lone ((bsR f ro').atR { a with defers := mark ++ a.defers } (.endRangeFunc L.blk :: k)) cs w3) ?_ (.one ?_))))
      · rw [← finish_atR_inRangeFunc L.blk x]; exact step_leave_returned hlv
      · have := stepR_endRangeFunc (P := P) (b := bsR f ro') (a := { a with defers := mark ++ a.defers }) (k := k) (cs := cs) e1
        rw [this]
        cases jump <;> rfl
/-- what a task's answer says, and that the notes only grow -/
def heapR : Res → AH
  | .val _ h => h
  | .held _ h => h
def Sp (P : Program) (t : Task) (h : AH) (res : Res) : Prop := LG h (heapR res) ∧ Spec P t h res
theorem Sp.code {t t' : Task} {h : AH} {res : Res} (q : Sp P t' h res) (hf : ∀ e h', ¬ Spec P t' h (.held e h')) (hs : ∀ r h', Spec P t' h (.val r h') → Spec P t h (.val r h')) : Sp P t h res := by
  cases res with
  | val r h' => exact ⟨q.1, hs r h' q.2⟩
  | held e h' => exact absurd q.2 (hf e h')
/-- the same behind a step that turned the heap -/
theorem Sp.via {t t' : Task} {h h1 : AH} {res : Res} (q : Sp P t' h1 res) (hl : LG h h1) (hf : ∀ e h', ¬ Spec P t' h1 (.held e h')) (hs : ∀ r h', Spec P t' h1 (.val r h') → Spec P t h (.val r h')) : Sp P t h res := by
  cases res with
  | val r h' => exact ⟨hl.trans q.1, hs r h' q.2⟩
  | held e h' => exact absurd q.2 (hf e h')
theorem Sp.held {t t' : Task} {h h1 : AH} {res : Res} (q : Sp P t' h1 res) (hl : LG h h1) (hf : ∀ r h', ¬ Spec P t' h1 (.val r h')) (hs : ∀ e h', Spec P t' h1 (.held e h') → Spec P t h (.held e h')) : Sp P t h res := by
  cases res with
  | held e h' => exact ⟨hl.trans q.1, hs e h' q.2⟩
  | val r h' => exact absurd q.2 (hf r h')
theorem lg_reset {h h1 : AH} (g : LG ⟨h.o, h.nx, []⟩ h1) : LG h ⟨h1.o, h1.nx, h1.lg ++ h.lg⟩ := ⟨g.nx, fun _ x => List.mem_append.2 (.inr x), fun i x y => g.sm i x fun z => y (List.mem_append.2 (.inl z))⟩
theorem lg_popD : ∀ {D : List Nat} {h h' : AH}, popD h D = some h' → LG h h'
  | [], h, h', q => by simp only [popD, Option.some.injEq] at q; subst q; exact LG.refl _
  | i :: D, h, h', q => by
    simp only [popD] at q
    split at q <;> try (cases q; done)
    exact LG.trans (lg_gone _ _) (lg_popD q)
theorem lg_retA {h : AH} {D : List Nat} {e : En} {fn : Func} {res : Res} (q : retA P h D e fn = some res) : ∃ v h', res = .val v h' ∧ LG h h' := by
  unfold retA at q
  split at q <;> try (cases q; done)
  rename_i h1 hp
  split at q <;> try (cases q; done)
  simp only [Option.some.injEq] at q
  exact ⟨_, _, q.symm, lg_popD hp⟩
theorem Sp.out {f : FuncId} {fn : Func} {D : List Nat} {k : List Item} {e : En} {h : AH} {res : Res} (q : retA P h D e fn = some res) (hs : ∀ v h', retA P h D e fn = some (.val v h') → Spec P (.code f fn none D k e) h (.val v h')) : Sp P (.code f fn none D k e) h res := by
  obtain ⟨v, h', rfl, hl⟩ := lg_retA q
  exact ⟨hl, hs _ _ q⟩
theorem Sp.rend {t : Task} {l : Nat} {jump : Option Code} {h : AH} {res : Res} (q : endR h l jump = some res) (hs : ∀ v h', endR h l jump = some (.val v h') → Spec P t h (.val v h')) : Sp P t h res := by
  obtain ⟨v, h', rfl⟩ := endR_val q
  exact ⟨lg_endR q, hs _ _ q⟩
set_option maxHeartbeats 4000000 in
theorem run_sp (hm : P.follows .mixedOrders = true) : ∀ (n : Nat) (t : Task) (h : AH) (res : Res), run P n t h = some res → Sp P t h res
  | 0, t, h, res, q => by simp [run] at q
  | n + 1, t, h, res, q => by
    have ih := run_sp hm n
    unfold run at q
    cases t with
    | call f args =>
      simp only at q
      split at q <;> try (cases q; done)
      rename_i fn hf
      split at q <;> try (cases q; done)
      rename_i c hb
      split at q <;> try (cases q; done)
      rename_i hc
      rw [Bool.and_eq_true] at hc
      exact Sp.code (ih _ _ _ q) (fun _ _ x => x) (fun r h' => spec_call hf hb hc.1 (Nat.le_of_ble_eq_true hc.2))
    | code f fn ro D k e =>
      simp only at q
      cases k with
      | nil =>
        simp only at q
        cases ro with
        | none => exact Sp.out q (fun _ _ => spec_out (fun _ _ _ => stepR_end rfl))
        | some l => exact Sp.rend q (fun _ _ => spec_rend (fun b a c cs w w' l' x h1 h2 h3 => stepR_round_end h1 h2 h3))
      | cons it k =>
        cases it with
        | code c =>
          simp only at q
          cases c with
          | seq a b => exact Sp.code (ih _ _ _ q) (fun _ _ x => x) (fun _ _ => spec_admin fun _ _ _ _ => stepR_seq)
          | skip => exact Sp.code (ih _ _ _ q) (fun _ _ x => x) (fun _ _ => spec_admin fun _ _ _ _ => stepR_skip)
          | label i => exact Sp.code (ih _ _ _ q) (fun _ _ x => x) (fun _ _ => spec_admin fun _ _ _ _ => stepR_label)
          | block i c => exact Sp.code (ih _ _ _ q) (fun _ _ x => x) (fun _ _ => spec_admin fun _ _ _ _ => stepR_block)
          | loop c => exact Sp.code (ih _ _ _ q) (fun _ _ x => x) (fun _ _ => spec_admin fun _ _ _ _ => stepR_loop)
          | cond c x y =>
            simp only at q
            split at q <;> try (cases q; done)
            · rename_i hc
              exact Sp.code (ih _ _ _ q) (fun _ _ x => x) (fun _ _ => spec_cond hc)
            · rename_i hc
              exact Sp.code (ih _ _ _ q) (fun _ _ x => x) (fun _ _ => spec_cond hc)
          | exit i =>
            simp only at q
            split at q
            · rename_i k' hk
              exact Sp.code (ih _ _ _ q) (fun _ _ x => x) (fun _ _ => spec_admin fun _ _ _ _ => stepR_exit hk)
            · rename_i hk
              cases ro with
              | none => cases q
              | some l => exact Sp.rend q (fun _ _ => spec_rend (fun b a c cs w w' l' x h1 h2 h3 => stepR_round_exit h1 h2 hk h3))
          | ret =>
            simp only at q
            cases ro with
            | none => exact Sp.out q (fun _ _ => spec_out (fun _ _ _ => stepR_ret rfl))
            | some l => exact Sp.rend q (fun _ _ => spec_rend (fun b a c cs w w' l' x h1 h2 h3 => stepR_round_ret h1 h2 h3))
          | rangeFunc g ps asg body =>
            simp only at q
            split at q <;> try (cases q; done)
            rename_i gf first cap hg
            split at q <;> try (cases q; done)
            rename_i d h1 D' hd
            split at q <;> try (cases q; done)
            rename_i v h3 hr
            split at q <;> try (cases q; done)
            rename_i jump h4 he
            have g1 := ih _ _ _ hr
            have hl : LG h h4 := (lg_loopD hd).trans (LG.trans (b := h1.new (.loop f fn.ntmps e ps asg body .ready none d)) (lg_new _ _) (g1.1.trans (lg_endL he)))
            exact Sp.via (ih _ _ _ q) hl (fun _ _ x => x) (fun _ _ => spec_rangeFunc hg hd g1.2 he)
          | region i ops d =>
            cases d with
            | false => exact Sp.code (ih _ _ _ q) (fun _ _ x => x) (fun _ _ => spec_region)
            | true =>
              simp only at q
              cases ro with
              | some l => cases q
              | none =>
                simp only at q
                split at q <;> try (cases q; done)
                rename_i l hl
                split at q <;> try (cases q; done)
                rename_i ho
                split at q <;> try (cases q; done)
                rename_i e' h1 hr
                have g1 := ih _ _ _ hr
                exact Sp.via (ih _ _ _ q) g1.1 (fun _ _ x => x) (fun _ _ => spec_draw hm ho g1.2)
          | _ => simp at q
        | inBlock i => exact Sp.code (ih _ _ _ q) (fun _ _ x => x) (fun _ _ => spec_admin fun _ _ _ _ => stepR_inBlock)
        | inLoop c => exact Sp.code (ih _ _ _ q) (fun _ _ x => x) (fun _ _ => spec_admin fun _ _ _ _ => stepR_inLoop)
        | beginRound =>
          simp only at q
          cases ro with
          | none => cases q
          | some l =>
            simp only at q
            split at q <;> try (cases q; done)
            rename_i h1 hb
            exact Sp.via (ih _ _ _ q) (lg_begin hb) (fun _ _ x => x) (fun _ _ => spec_begin hb)
        | _ => simp at q
    | ops f fn ro D ops l k e =>
      simp only at q
      cases l with
      | nil => exact Sp.code (ih _ _ _ q) (fun _ _ x => x) (fun _ _ => spec_ops_nil)
      | cons o l =>
        simp only at q
        split at q <;> try (cases q; done)
        · rename_i hw
          split at q <;> try (cases q; done)
          rename_i e' hd
          exact Sp.code (ih _ _ _ q) (fun _ _ x => x) (fun _ _ => spec_ops_skip hw hd)
        · rename_i hw
          split at q
          · rename_i fx args hc
            split at q <;> try (cases q; done)
            · rename_i g first cap hf
              split at q <;> try (cases q; done)
              rename_i vs hv
              split at q
              · rename_i v hx
                split at q <;> try (cases q; done)
                rename_i e' hd
                exact Sp.code (ih _ _ _ q) (fun _ _ x => x) (fun _ _ => spec_ops_val hw (call_nd hc) (fun _ R w a hR hE => ext_eo hR hE hc hf hv hx) hd)
              split at q
              · rename_i v h1 hx
                split at q <;> try (cases q; done)
                rename_i e' hd
                exact Sp.via (ih _ _ _ q) (by obtain ⟨_, rfl⟩ := lg_extM hx; exact lg_new _ _) (fun _ _ x => x) (fun _ _ => spec_ops_val hw (call_nd hc) (fun _ R w a hR hE => extM_run hR hE.k hc hf hv hx) hd)
              split at q <;> try (cases q; done)
              rename_i v h1 hr
              split at q <;> try (cases q; done)
              rename_i e' hd
              have g1 := ih _ _ _ hr
              exact Sp.via (ih _ _ _ q) g1.1 (fun _ _ x => x) (fun _ _ => spec_ops_call hw hc hf hv g1.2 hd)
            · rename_i y hf
              split at q <;> try (cases q; done)
              rename_i vs hv
              split at q <;> try (cases q; done)
              rename_i f' n' e' ps asg body st pend d hl
              split at q <;> try (cases q; done)
              rename_i fn' hfn'
              split at q <;> try (cases q; done)
              rename_i hn'
              have hn' := Nat.eq_of_beq_eq_true hn'
              split at q <;> try (cases q; done)
              rename_i e'' hps
              split at q <;> try (cases q; done)
              rename_i v h1 hr
              split at q <;> try (cases q; done)
              rename_i e3 hd
              have g1 := ih _ _ _ hr
              exact Sp.via (ih _ _ _ q) g1.1 (fun _ _ x => x) (fun _ _ => spec_yield hw hc hf hv hl hfn' hn' hps g1.2 hd)
          · split at q
            · rename_i v hq
              split at q <;> try (cases q; done)
              rename_i e' hd
              exact Sp.code (ih _ _ _ q) (fun _ _ x => x) (fun _ _ => spec_ops_val hw (qop_nd hq) (fun _ R w a hR hE => quiet_eo hR hE hq) hd)
            · split at q <;> try (cases q; done)
              rename_i v h1 hq
              split at q <;> try (cases q; done)
              rename_i e' hd
              exact Sp.via (ih _ _ _ q) (lg_eop hq) (fun _ _ x => x) (fun _ _ => spec_ops_val hw (eop_nd hq) (fun _ R w a hR hE => eop_ok hR hE.k hq) hd)
    | held fn ops M l V e =>
      simp only at q
      cases l with
      | nil =>
        simp only [Option.some.injEq] at q; subst q
        exact ⟨LG.refl _, spec_held_nil⟩
      | cons i l =>
        simp only at q
        split at q <;> try (cases q; done)
        rename_i o ho
        split at q <;> try (cases q; done)
        · rename_i hw
          split at q <;> try (cases q; done)
          rename_i e' hd
          exact Sp.held (ih _ _ _ q) (LG.refl _) (fun _ _ x => x) (fun _ _ => spec_held_skip ho hw hd)
        · rename_i hw
          split at q
          · rename_i ht
            split at q <;> try (cases q; done)
            rename_i v h1 hr
            split at q <;> try (cases q; done)
            rename_i hq
            split at q <;> try (cases q; done)
            rename_i e' hd
            have g1 := ih _ _ _ hr
            exact Sp.held (ih _ _ _ q) (lg_reset g1.1) (fun _ _ x => x) (fun _ _ => spec_held_turn ho hw ht g1.1 g1.2 hq hd)
          · split at q
            · rename_i hmk
              split at q <;> try (cases q; done)
              rename_i v h1 hq
              split at q <;> try (cases q; done)
              rename_i e' hd
              exact Sp.held (ih _ _ _ q) (lg_eop hq) (fun _ _ x => x) (fun _ _ => spec_held_make ho hw hmk hq hd)
            · split at q <;> try (cases q; done)
              rename_i hb
              split at q <;> try (cases q; done)
              rename_i v hq
              split at q <;> try (cases q; done)
              rename_i e' hd
              exact Sp.held (ih _ _ _ q) (LG.refl _) (fun _ _ x => x) (fun _ _ => spec_held_read ho hw hb hq hd)
    | turn e o =>
      simp only at q
      split at q
      · rename_i fx args hc
        split at q <;> try (cases q; done)
        rename_i g first cap hf
        split at q <;> try (cases q; done)
        rename_i vs hv
        split at q
        · rename_i v hx
          simp only [Option.some.injEq] at q; subst q
          exact ⟨LG.refl _, spec_turn_ext hc hf hv hx⟩
        · exact Sp.code (ih _ _ _ q) (fun _ _ x => x) (fun _ _ => spec_turn_call hc hf hv)
      · split at q <;> try (cases q; done)
        rename_i v h1 hq
        simp only [Option.some.injEq] at q; subst q
        exact ⟨lg_eop hq, spec_turn_eff hq⟩
/-- a function on values that are all known, in a world of which nothing is known -/
theorem run_ret (hm : P.follows .mixedOrders = true) {n : Nat} {f : FuncId} {args : List AV} {r : AV} {h' : AH} (q : run P n (.call f args) ⟨.nil, 0, []⟩ = some (.val r h')) {xs : List Value} (hx : VL (fun _ => none) args xs) (w : World) :
    Ret P f xs.toArray w fun v w' => (∃ R, Rep ⟨w, fun _ => False⟩ R h' w' ∧ VR R r v) ∧ Bl w w' := by
  have hR : Rep ⟨w, fun _ => False⟩ (fun _ => none) ⟨.nil, 0, []⟩ w := ⟨fun i o L x => by simp [Tr.nil_get] at x, fun i j oi oj Li Lj x => by simp [Tr.nil_get] at x, fun _ _ => rfl, fun _ x => x.elim, fun i o x => by simp [Tr.nil_get] at x, Bl.refl w⟩
  refine ((run_sp hm n _ _ _ q).2 _ _ w xs hR hx).mono fun v w' p => ?_
  obtain ⟨R', _, h2, h3⟩ := p
  exact ⟨⟨R', h2, h3⟩, h2.bl⟩
end
end Go.Proofs.YtdjkoljonlcemaaGreat.Zr

/- A runner: the same run, in small steps that the kernel unfolds quickly. No program stands here. -/
namespace Go.Proofs.YtdjkoljonlcemaaGreat.Zr
open Go Go.RowKit Eng
abbrev Rec2 := Task → AH → Option Res
def qCall (P : Program) (rec : Rec2) (h : AH) (f : FuncId) (args : List AV) : Option Res := match P.funcs[f]? with
  | some fn => match fn.body with
    | some c => match callable P f && Nat.ble args.length fn.ntmps with
      | true => rec (.code f fn none [] [.code c] (numA 0 args .nil)) h
      | false => none
    | none => none
  | none => none
def qCond (rec : Rec2) (h : AH) (f : FuncId) (fn : Func) (ro : Option Nat) (D : List Nat) (x y : Code) (k : List Item) (e : En) (v : Option AV) : Option Res := match v with
  | some (.bool true) => rec (.code f fn ro D (.code x :: k) e) h
  | some (.bool false) => rec (.code f fn ro D (.code y :: k) e) h
  | _ => none
def qExit (rec : Rec2) (h : AH) (f : FuncId) (fn : Func) (ro : Option Nat) (D : List Nat) (i : Nat) (e : En) (k : Option (List Item)) : Option Res := match k with
  | some k' => rec (.code f fn ro D k' e) h
  | none => match ro with
    | none => none
    | some l => endR h l (some (.exit i))
def qEnd (P : Program) (h : AH) (fn : Func) (ro : Option Nat) (D : List Nat) (e : En) (j : Option Code) : Option Res := match ro with
  | none => retA P h D e fn
  | some l => endR h l j
def qRange (rec : Rec2) (h : AH) (f : FuncId) (fn : Func) (ro : Option Nat) (D : List Nat) (g : Operand) (ps : Array Tmp) (asg body : Code) (k : List Item) (e : En) : Option Res := match evo e g with
  | some (.func gf first cap) => match loopD h ro with
    | some (d, h1, D') => match rec (.call gf (first ++ ([.yield h1.nx] ++ cap))) (h1.new (.loop f fn.ntmps e ps asg body .ready none d)) with
      | some (.val _ h3) => match endL h3 h1.nx with
        | some (jump, h4) => rec (.code f fn ro (D' ++ D) (jumpK jump k) e) h4
        | none => none
      | _ => none
    | none => none
  | _ => none
def qReg (rec : Rec2) (h : AH) (f : FuncId) (fn : Func) (ro : Option Nat) (D : List Nat) (ops : Array Oper) (k : List Item) (e : En) : Option Res := match ro with
  | some _ => none
  | none => match orderF ops.size 0 (infoF 0 ops.toList) with
    | none => none
    | some l => match okReg ops (masks ops ops.size []) l with
      | false => none
      | true => match rec (.held fn ops (masks ops ops.size []) l [] e) h with
        | some (.held e' h') => rec (.code f fn none D k e') h'
        | _ => none
def qRegion (rec : Rec2) (h : AH) (f : FuncId) (fn : Func) (ro : Option Nat) (D : List Nat) (ops : Array Oper) (d : Bool) (k : List Item) (e : En) : Option Res := match d with
  | false => rec (.ops f fn ro D ops ops.toList k e) h
  | true => qReg rec h f fn ro D ops k e
def qC (P : Program) (rec : Rec2) (h : AH) (f : FuncId) (fn : Func) (ro : Option Nat) (D : List Nat) (c : Code) (k : List Item) (e : En) : Option Res := match c with
  | .seq a b => rec (.code f fn ro D (.code a :: .code b :: k) e) h
  | .skip => rec (.code f fn ro D k e) h
  | .label _ => rec (.code f fn ro D k e) h
  | .block i c => rec (.code f fn ro D (.code c :: .inBlock i :: k) e) h
  | .loop c => rec (.code f fn ro D (.code c :: .inLoop c :: k) e) h
  | .cond c x y => qCond rec h f fn ro D x y k e (evo e c)
  | .exit i => qExit rec h f fn ro D i e (exitTo i k)
  | .ret => qEnd P h fn ro D e (some .ret)
  | .rangeFunc g ps asg body => qRange rec h f fn ro D g ps asg body k e
  | .region _ ops d => qRegion rec h f fn ro D ops d k e
  | _ => none
def qRound (rec : Rec2) (h : AH) (f : FuncId) (fn : Func) (ro : Option Nat) (D : List Nat) (k : List Item) (e : En) : Option Res := match ro with
  | none => none
  | some l => match beginR h l with
    | some h' => rec (.code f fn ro D k e) h'
    | none => none
def qCode (P : Program) (rec : Rec2) (h : AH) (f : FuncId) (fn : Func) (ro : Option Nat) (D : List Nat) (k : List Item) (e : En) : Option Res := match k with
  | [] => qEnd P h fn ro D e none
  | .code c :: k => qC P rec h f fn ro D c k e
  | .inBlock _ :: k => rec (.code f fn ro D k e) h
  | .inLoop c :: k => rec (.code f fn ro D (.code c :: .inLoop c :: k) e) h
  | .beginRound :: k => qRound rec h f fn ro D k e
  | _ => none
def qDst (rec : Rec2) (h : AH) (f : FuncId) (fn : Func) (ro : Option Nat) (D : List Nat) (ops : Array Oper) (l : List Oper) (k : List Item) (e : Option En) : Option Res := match e with
  | some e' => rec (.ops f fn ro D ops l k e') h
  | none => none
def qFun (P : Program) (rec : Rec2) (h : AH) (f : FuncId) (fn : Func) (ro : Option Nat) (D : List Nat) (ops : Array Oper) (o : Oper) (l : List Oper) (k : List Item) (e : En) (g : FuncId) (all : List AV) : Option Res := match extA P g all with
  | some v => qDst rec h f fn ro D ops l k (dstA fn.ntmps e o.dst v)
  | none => match extM P g h all with
    | some (v, h') => qDst rec h' f fn ro D ops l k (dstA fn.ntmps e o.dst v)
    | none => match rec (.call g all) h with
      | some (.val v h') => qDst rec h' f fn ro D ops l k (dstA fn.ntmps e o.dst v)
      | _ => none
def qYield (P : Program) (rec : Rec2) (h : AH) (f : FuncId) (fn : Func) (ro : Option Nat) (D : List Nat) (ops : Array Oper) (o : Oper) (l : List Oper) (k : List Item) (e : En) (y : Nat) (vs : List AV) : Option Res := match h.o.get y with
  | some (.loop f' n' e' ps asg body _ _ _) => match P.funcs[f']? with
    | some fn' => match Nat.beq fn'.ntmps n' with
      | true => match setPs n' ps.toList vs e' with
        | some e'' => match rec (.code f' fn' (some y) [] [.code asg, .beginRound, .code body] e'') h with
          | some (.val v h') => qDst rec h' f fn ro D ops l k (dstA fn.ntmps e o.dst v)
          | _ => none
        | none => none
      | false => none
    | none => none
  | _ => none
def qOpC (P : Program) (rec : Rec2) (h : AH) (f : FuncId) (fn : Func) (ro : Option Nat) (D : List Nat) (ops : Array Oper) (o : Oper) (l : List Oper) (k : List Item) (e : En) (fx : Option AV) (args : List Operand) : Option Res := match fx with
  | some (.func g first cap) => match evoL e args with
    | some vs => qFun P rec h f fn ro D ops o l k e g (first ++ (vs ++ cap))
    | none => none
  | some (.yield y) => match evoL e args with
    | some vs => qYield P rec h f fn ro D ops o l k e y vs
    | none => none
  | _ => none
def qOpE (P : Program) (rec : Rec2) (h : AH) (f : FuncId) (fn : Func) (ro : Option Nat) (D : List Nat) (ops : Array Oper) (o : Oper) (l : List Oper) (k : List Item) (e : En) : Option Res := match eop P e h o.op with
  | some (v, h') => qDst rec h' f fn ro D ops l k (dstA fn.ntmps e o.dst v)
  | none => none
def qOpQ (P : Program) (rec : Rec2) (h : AH) (f : FuncId) (fn : Func) (ro : Option Nat) (D : List Nat) (ops : Array Oper) (o : Oper) (l : List Oper) (k : List Item) (e : En) (r : Option AV) : Option Res := match r with
  | some v => qDst rec h f fn ro D ops l k (dstA fn.ntmps e o.dst v)
  | none => qOpE P rec h f fn ro D ops o l k e
def qOp (P : Program) (rec : Rec2) (h : AH) (f : FuncId) (fn : Func) (ro : Option Nat) (D : List Nat) (ops : Array Oper) (o : Oper) (l : List Oper) (k : List Item) (e : En) : Option Res := match isCall o.op with
  | some (fx, args) => qOpC P rec h f fn ro D ops o l k e (evo e fx) args
  | none => qOpQ P rec h f fn ro D ops o l k e (qop P e h o.op)
def qOps (P : Program) (rec : Rec2) (h : AH) (f : FuncId) (fn : Func) (ro : Option Nat) (D : List Nat) (ops : Array Oper) (l : List Oper) (k : List Item) (e : En) : Option Res := match l with
  | [] => rec (.code f fn ro D k e) h
  | o :: l => match wantA ops e o with
    | none => none
    | some false => qDst rec h f fn ro D ops l k (dstA fn.ntmps e o.dst (.tup []))
    | some true => qOp P rec h f fn ro D ops o l k e
def qHdst (rec : Rec2) (h : AH) (fn : Func) (ops : Array Oper) (M l : List Nat) (V : List (Nat × Nat)) (e : Option En) : Option Res := match e with
  | some e' => rec (.held fn ops M l V e') h
  | none => none
def qHturn (rec : Rec2) (h : AH) (fn : Func) (ops : Array Oper) (M l : List Nat) (V : List (Nat × Nat)) (e : En) (i : Nat) (o : Oper) : Option Res := match rec (.turn (restr e (slotsO ops o)) o) ⟨h.o, h.nx, []⟩ with
  | some (.val v h1) => match quietV M i h1.lg V with
    | true => qHdst rec ⟨h1.o, h1.nx, h1.lg ++ h.lg⟩ fn ops M l V (dstA fn.ntmps e o.dst v)
    | false => none
  | _ => none
def qHmake (P : Program) (rec : Rec2) (h : AH) (fn : Func) (ops : Array Oper) (M l : List Nat) (V : List (Nat × Nat)) (e : En) (i : Nat) (o : Oper) : Option Res := match eop P (restr e (slotsO ops o)) h o.op with
  | some (v, h') => qHdst rec h' fn ops M l ((i, h.nx) :: V) (dstA fn.ntmps e o.dst v)
  | none => none
def qHread (P : Program) (rec : Rec2) (h : AH) (fn : Func) (ops : Array Oper) (M l : List Nat) (V : List (Nat × Nat)) (e : En) (i : Nat) (o : Oper) : Option Res := match oldB h.nx (readId (restr e (slotsO ops o)) o.op) with
  | true => match qop P (restr e (slotsO ops o)) (oneH h (readId (restr e (slotsO ops o)) o.op)) o.op with
    | some v => qHdst rec h fn ops M l (noteV i (readId (restr e (slotsO ops o)) o.op) V) (dstA fn.ntmps e o.dst v)
    | none => none
  | false => none
def qHop (P : Program) (rec : Rec2) (h : AH) (fn : Func) (ops : Array Oper) (M l : List Nat) (V : List (Nat × Nat)) (e : En) (i : Nat) (o : Oper) : Option Res := match turnB o.op with
  | true => qHturn rec h fn ops M l V e i o
  | false => match makesB o.op with
    | true => qHmake P rec h fn ops M l V e i o
    | false => qHread P rec h fn ops M l V e i o
def qHeld (P : Program) (rec : Rec2) (h : AH) (fn : Func) (ops : Array Oper) (M l : List Nat) (V : List (Nat × Nat)) (e : En) : Option Res := match l with
  | [] => some (.held e h)
  | i :: l => match ops.toList[i]? with
    | none => none
    | some o => match wantA ops e o with
      | none => none
      | some false => qHdst rec h fn ops M l V (dstA fn.ntmps e o.dst (.tup []))
      | some true => qHop P rec h fn ops M l V e i o
def qTurnC (P : Program) (rec : Rec2) (h : AH) (fx : Option AV) (e : En) (args : List Operand) : Option Res := match fx with
  | some (.func g first cap) => match evoL e args with
    | some vs => match extA P g (first ++ (vs ++ cap)) with
      | some v => some (.val v h)
      | none => rec (.call g (first ++ (vs ++ cap))) h
    | none => none
  | _ => none
def qTurn (P : Program) (rec : Rec2) (h : AH) (e : En) (o : Oper) : Option Res := match isCall o.op with
  | some (fx, args) => qTurnC P rec h (evo e fx) e args
  | none => match eop P e h o.op with
    | some (v, h') => some (.val v h')
    | none => none
def qStep (P : Program) (rec : Rec2) (t : Task) (h : AH) : Option Res := match t with
  | .call f args => qCall P rec h f args
  | .code f fn ro D k e => qCode P rec h f fn ro D k e
  | .ops f fn ro D ops l k e => qOps P rec h f fn ro D ops l k e
  | .held fn ops M l V e => qHeld P rec h fn ops M l V e
  | .turn e o => qTurn P rec h e o
def runQ (P : Program) (n : Nat) : Task → AH → Option Res := Nat.rec (fun _ _ => none) (fun _ r => qStep P r) n
theorem runQ_succ (P : Program) (n : Nat) (t : Task) (h : AH) : runQ P (n + 1) t h = qStep P (runQ P n) t h := rfl
theorem runQ_eq (P : Program) : ∀ (n : Nat), runQ P n = run P n
  | 0 => by funext t h; rfl
  | n + 1 => by
    funext t h
    rw [runQ_succ, runQ_eq P n]
    cases t with
    | call f args => rfl
    | code f fn ro D k e =>
      cases k with
      | nil => rfl
      | cons it k =>
        cases it with
        | code c => cases c with
          | cond c x y => show qCond _ _ _ _ _ _ _ _ _ _ _ = _; rfl
          | region i ops d => cases d <;> cases ro <;> rfl
          | _ => rfl
        | _ => rfl
    | ops f fn ro D ops l k e =>
      cases l with
      | nil => rfl
      | cons o l => rfl
    | held fn ops M l V e =>
      cases l with
      | nil => rfl
      | cons i l => rfl
    | turn e o => rfl
end Go.Proofs.YtdjkoljonlcemaaGreat.Zr
