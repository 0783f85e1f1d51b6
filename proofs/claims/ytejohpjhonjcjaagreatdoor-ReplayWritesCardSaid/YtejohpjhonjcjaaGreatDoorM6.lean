import Derived.Test.YtejohpjhonjcjaaGreatDoorM5
/- A runner, eleventh part: loops over functions, their rounds; the whole. No program stands here. -/
namespace Go.Proofs.YtejohpjhonjcjaaGreatDoor.Zr
open Go Go.RowKit Eng
section
variable {P : Program} {w0 : Cxt}
theorem Rep.loop {R : Ren} {h : AH} {w : World} (hR : Rep w0 R h w) {l : Nat} {f : FuncId} {n : Nat} {e : Tr AV} {ps : Array Tmp} {asg body : Code} {st : LoopState} {pend : Option Code} {d : Nat} {L : Loc} (hl : h.o.get l = some (.loop f n e ps asg body st pend d)) (hL : R l = some L) :
    ∃ tmps Ld, w.heap[L.blk]? = some (.loop { state := st, pending := pend, fn := f, tmps, params := ps, assign := asg, body, defers := Ld.blk }) ∧ tmps.size = n ∧ ET R e tmps ∧ R d = some Ld := by
  obtain ⟨⟨tmps, Ld, h2, h3, h4, h5⟩, _⟩ := hR.obj l _ _ hl hL
  exact ⟨tmps, Ld, h2, h3, h4, h5⟩
theorem getLoop_run {w : World} {b : Nat} {r : Loop} (h : w.heap[b]? = some (.loop r)) : (Instr.getLoop b).run P w = .ok r w := by
  unfold Instr.getLoop
  rw [run_bind_ok (getObj_run h rfl)]; rfl
/-- a record turned -/
theorem loop_put {R : Ren} {h : AH} {w : World} (hR : Rep w0 R h w) {l : Nat} {f : FuncId} {n : Nat} {e : Tr AV} {ps : Array Tmp} {asg body : Code} {st : LoopState} {pend : Option Code} {d : Nat} {L Ld : Loc} {tmps : Array Value} (hl : h.o.get l = some (.loop f n e ps asg body st pend d)) (hL : R l = some L)
    (h2 : w.heap[L.blk]? = some (.loop { state := st, pending := pend, fn := f, tmps, params := ps, assign := asg, body, defers := Ld.blk })) (h3 : tmps.size = n) (h4 : ET R e tmps) (h5 : R d = some Ld) (st' : LoopState) (pend' : Option Code) :
    Rep w0 R (h.put l (.loop f n e ps asg body st' pend' d)) { w with heap := w.heap.setIfInBounds L.blk (.loop { state := st', pending := pend', fn := f, tmps, params := ps, assign := asg, body, defers := Ld.blk }) } ∧
      Fr R h (h.put l (.loop f n e ps asg body st' pend' d)) w { w with heap := w.heap.setIfInBounds L.blk (.loop { state := st', pending := pend', fn := f, tmps, params := ps, assign := asg, body, defers := Ld.blk }) } := by
  have hlt : L.blk < w.heap.size := (Array.getElem?_eq_some_iff.1 h2).1
  exact hR.wr hl hL (setObj_wr w L.blk _) ⟨tmps, Ld, setObj_get hlt, h3, h4, h5⟩
theorem endR_ok {R : Ren} {h h' : AH} {w : World} {l : Nat} {L : Loc} {jump : Option Code} {v : AV} (hR : Rep w0 R h w) (hL : R l = some L) (q : endR h l jump = some (.val v h')) :
    ∃ x w', (Instr.endRound L.blk jump).run P w = .ok x w' ∧ Rep w0 R h' w' ∧ VR R v x := by
  unfold endR at q
  split at q <;> try (cases q; done)
  rename_i f n e ps asg body st pend d hl
  simp only [Option.some.injEq, Res.val.injEq] at q
  obtain ⟨rfl, rfl⟩ := q
  obtain ⟨tmps, Ld, h2, h3, h4, h5⟩ := hR.loop hl hL
  obtain ⟨g1, _⟩ := loop_put hR hl hL h2 h3 h4 h5 (match jump with | none => .ready | some _ => .done) jump
  refine ⟨.bool jump.isNone, _, ?_, g1, ?_⟩
  · unfold Instr.endRound
    rw [run_bind_ok (getLoop_run h2), run_bind_ok (setObj_run h2 rfl)]
    cases jump <;> rfl
  · cases jump <;> exact .bool _
theorem lg_endR {h h' : AH} {l : Nat} {jump : Option Code} {v : AV} (q : endR h l jump = some (.val v h')) : LG h h' := by
  unfold endR at q
  split at q <;> try (cases q; done)
  simp only [Option.some.injEq, Res.val.injEq] at q
  obtain ⟨_, rfl⟩ := q
  exact lg_put _ _ _
theorem endR_val {h : AH} {l : Nat} {jump : Option Code} {res : Res} (q : endR h l jump = some res) : ∃ v h', res = .val v h' := by
  unfold endR at q
  split at q <;> try (cases q; done)
  simp only [Option.some.injEq] at q; exact ⟨_, _, q.symm⟩
theorem spec_rend {f : FuncId} {fn : Func} {l : Nat} {D : List Nat} {k : List Item} {e : En} {h h' : AH} {v : AV} {jump : Option Code}
    (hs : ∀ (b : Frame) (a : Act) (c : Frame) cs w w' l' x, b.roundOf = some l' → b.kind = .normal → (Instr.endRound l' jump).run P w = .ok x w' → step P (lone (b.atR a k) (c :: cs) w) = .next (lone (c.finish x) cs w')) (q : endR h l jump = some (.val v h')) : Spec P (.code f fn (some l) D k e) h (.val v h') := by
  intro hf cx R w a ro' Q hR hE hro hQ
  obtain ⟨L, hL, rfl⟩ := hro
  obtain ⟨x, w', h1, h2, h3⟩ := endR_ok (P := P) hR hL q
  intro cs c cs' ecs
  subst ecs
  exact ⟨x, w', hQ _ _ ⟨R, Sb.refl R, h2, h3⟩, .one (hs (bsR f (some L.blk)) a c cs' w w' L.blk x rfl rfl h1)⟩
theorem spec_begin {f : FuncId} {fn : Func} {l : Nat} {D : List Nat} {k : List Item} {e : En} {h h1 h' : AH} {v : AV} (q : beginR h l = some h1) (hq : Spec P (.code f fn (some l) D k e) h1 (.val v h')) : Spec P (.code f fn (some l) D (.beginRound :: k) e) h (.val v h') := by
  intro hf cx R w a ro' Q hR hE hro hQ
  obtain ⟨L, hL, rfl⟩ := hro
  unfold beginR at q
  split at q <;> try (cases q; done)
  rename_i f' n e' ps asg body st pend d hl
  split at q <;> try (cases q; done)
  simp only [Option.some.injEq] at q; subst q
  obtain ⟨tmps, Ld, g2, g3, g4, g5⟩ := hR.loop hl hL
  obtain ⟨k1, _⟩ := loop_put hR hl hL g2 g3 g4 g5 .busy pend
  have H := hq hf cx R _ a (some L.blk) Q k1 hE ⟨L, hL, rfl⟩ hQ
  refine runsR_step (fun cs => stepR_beginRound rfl ?_) H
  unfold Instr.beginRound
  rw [run_bind_ok (getLoop_run g2), run_bind_ok (setObj_run g2 rfl)]; rfl
theorem lg_begin {h h' : AH} {l : Nat} (q : beginR h l = some h') : LG h h' := by
  unfold beginR at q
  split at q <;> try (cases q; done)
  split at q <;> try (cases q; done)
  simp only [Option.some.injEq] at q; subst q
  exact lg_put _ _ _
/-- the round's slots -/
theorem setPs_ok {R : Ren} {n : Nat} : ∀ {ts : List Tmp} {vs : List AV} {xs : List Value} {e e' : En} {tmps : Array Value}, VL R vs xs → tmps.size = n → ET R e tmps → setPs n ts vs e = some e' →
    ts.length = xs.length ∧ ET R e' ((ts.zip xs).foldl (fun tmps (p : Tmp × Value) => tmps.setIfInBounds p.1 p.2) tmps) ∧ ((ts.zip xs).foldl (fun tmps (p : Tmp × Value) => tmps.setIfInBounds p.1 p.2) tmps).size = n
  | [], vs, xs, e, e', tmps, hv, hn, hE, q => by
    cases hv with
    | nil => simp only [setPs, Option.some.injEq] at q; subst q; exact ⟨rfl, hE, hn⟩
    | cons _ _ => simp [setPs] at q
  | t :: ts, vs, xs, e, e', tmps, hv, hn, hE, q => by
    cases hv with
    | nil => simp [setPs] at q
    | cons h1 h2 =>
      rename_i v x vs xs
      simp only [setPs] at q
      split at q <;> try (cases q; done)
      rename_i hlt
      have hlt := blt_lt hlt
      have hE' : ET R (e.set t (some v)) (tmps.setIfInBounds t x) := by
        intro u y hy
        rw [Tr.get_set] at hy
        simp only [Array.getD_eq_getD_getElem?, Array.getElem?_setIfInBounds]
        by_cases hu : u = t
        · subst hu; rw [if_pos rfl] at hy; cases hy
          simp [hn, hlt]; exact h1
        · rw [if_neg hu] at hy
          rw [if_neg (Ne.symm hu)]
          have := hE u y hy
          rwa [Array.getD_eq_getD_getElem?] at this
      obtain ⟨a1, a2, a3⟩ := setPs_ok h2 (by rw [Array.size_setIfInBounds]; exact hn) hE' q
      exact ⟨by simp [a1], a2, a3⟩
theorem spec_yield {f : FuncId} {fn : Func} {ro : Option Nat} {D : List Nat} {ops : Array Oper} {o : Oper} {l : List Oper} {k : List Item} {e e3 : En} {h h1 h' : AH} {r v : AV} {fx : Operand} {args : List Operand} {y : Nat} {vs : List AV}
    {f' : FuncId} {fn' : Func} {n' : Nat} {e' e'' : En} {ps : Array Tmp} {asg body : Code} {st : LoopState} {pend : Option Code} {d : Nat} (hw : wantA ops e o = some true)
    (hc : isCall o.op = some (fx, args)) (hf : evo e fx = some (.yield y)) (hv : evoL e args = some vs) (hl : h.o.get y = some (.loop f' n' e' ps asg body st pend d)) (hfn' : P.funcs[f']? = some fn') (hn' : fn'.ntmps = n') (hps : setPs n' ps.toList vs e' = some e'')
    (hs : Spec P (.code f' fn' (some y) [] [.code asg, .beginRound, .code body] e'') h (.val v h1)) (hd : dstA fn.ntmps e o.dst v = some e3) (q : Spec P (.ops f fn ro D ops l k e3) h1 (.val r h')) : Spec P (.ops f fn ro D ops (o :: l) k e) h (.val r h') := by
  intro hfn cx R w a ro' Q i hR hE hro hll hQ
  obtain ⟨ho, hl'⟩ := row_head hll
  obtain ⟨as', tys, hop, rfl⟩ := isCall_ok hc
  have hfx := evo_ok hE.k hf
  generalize hfv : a.eval fx = fv at hfx
  cases hfx with
  | yield hL =>
    rename_i L
    obtain ⟨tmps, Ld, g2, g3, g4, g5⟩ := hR.loop hl hL
    have hargs := evoL_ok hE.k hv
    obtain ⟨p1, p2, p3⟩ := setPs_ok hargs g3 g4 hps
    have hsz : (as'.map a.eval).size = ps.size := by
      have := p1
      simp only [List.length_map, Array.length_toList] at this
      simp [this]
    have hrun : (execOp a.eval o).run P w = .ok (.round L.blk f' ((ps.toList.zip (as'.toList.map a.eval)).foldl (fun tmps (p : Tmp × Value) => tmps.setIfInBounds p.1 p.2) tmps) asg body) w := by
      unfold execOp
      simp only [hop, resolve, hfv, Deferred.ofValue]
      show (Sem.bind (Sem.pure _) _).run P w = _
      simp only [Sem.bind, invoke]
      unfold Instr.yield
      rw [run_bind_ok (getLoop_run g2)]
      simp only [Array.empty_append]
      rw [if_neg (by simpa using hsz)]
      have : ps.zip (as'.map a.eval) = (ps.toList.zip (as'.toList.map a.eval)).toArray := by
        apply Array.ext'
        simp
      show Sem.run P (pure (Next.round L.blk f' ((ps.zip (as'.map a.eval)).foldl (fun tmps (x : Tmp × Value) => tmps.setIfInBounds x.1 x.2) tmps) asg body)) w = _
      rw [this, List.foldl_toArray]; rfl
    have hround := hs hfn' cx R w { tmps := (ps.toList.zip (as'.toList.map a.eval)).foldl (fun tmps (p : Tmp × Value) => tmps.setIfInBounds p.1 p.2) tmps, defers := [] } (some L.blk) (Post cx R v h1) hR ⟨by rw [p3, hn'], .nil, p2⟩ ⟨L, hL, rfl⟩ (fun _ _ p => p)
    intro cs
    rw [List.length_cons, List.range'_succ]
    obtain ⟨x, w', hp, hsteps⟩ := hround ((bsR f ro').atR a (.inRegion ops (i :: List.range' (i + 1) l.length) :: k) :: cs) _ _ rfl
    obtain ⟨R', s, hR', hx⟩ := hp
    have H := q hfn cx R' w' _ ro' Q (i + 1) hR' ((hE.mono s).put hx hd) (hro.mono s) hl' (fun v w'' p => hQ v w'' (p.trans s))
    refine (H cs).steps (.head (step_round ho (wantA_ok hE.k hw) (call_nd hc) hrun) ?_)
    have hfin : ((bsR f ro').atR a (.inRegion ops (i :: List.range' (i + 1) l.length) :: k)).finish x = (bsR f ro').atR (a.put o.dst x) (.inRegion ops (List.range' (i + 1) l.length) :: k) := by rw [Frame.finish_atR, ho]; rfl
    rw [← hfin]
    exact hsteps
/-- the loop's block and record are made -/
theorem loopD_ok {R : Ren} {h h1 : AH} {w : World} {ro ro' : Option Nat} {d : Nat} {D' : List Nat} (hR : Rep w0 R h w) (hro : RoR R ro ro') (q : loopD h ro = some (d, h1, D')) (f : FuncId) {tmps : Array Value} {e : En} (hE : ET R e tmps) (ps : Array Tmp) (asg body : Code) :
    ∃ R' w' l mark, (Instr.enterLoop f tmps ps asg body ro').run P w = .ok (l, mark) w' ∧ Sb R R' ∧ Rep w0 R' (h1.new (.loop f tmps.size e ps asg body .ready none d)) w' ∧ (∃ L, R' h1.nx = some L ∧ l = L.blk) ∧ DR R' D' mark := by
  cases ro with
  | none =>
    have : ro' = none := hro
    subst this
    simp only [loopD, Option.some.injEq, Prod.mk.injEq] at q
    obtain ⟨rfl, rfl, rfl⟩ := q
    have hb1 : Bl w (w.alloc (.deferred (some []))) := (Below.refl _ _).alloc (Nat.le_refl _) _
    have hg1 : (w.alloc (.deferred (some []))).heap[w.heap.size]? = some (.deferred (some [])) := by show (w.heap.push _)[w.heap.size]? = _; simp
    obtain ⟨r1, s1, f1⟩ := hR.new (o := .dfr) (c := 0) hb1 (show OR _ .dfr ⟨w.heap.size, 0, 0⟩ _ from hg1)
    have hL1 : (R.put h.nx ⟨w.heap.size, 0, 0⟩) h.nx = some ⟨w.heap.size, 0, 0⟩ := Ren.put_self ..
    generalize hw1 : w.alloc (.deferred (some [])) = w1 at *
    generalize R.put h.nx ⟨w.heap.size, 0, 0⟩ = R1 at *
    have hb2 : Bl w1 (w1.alloc (.loop { state := .ready, pending := none, fn := f, tmps, params := ps, assign := asg, body, defers := w.heap.size })) := (Below.refl _ _).alloc (Nat.le_refl _) _
    have hg2 : (w1.alloc (.loop { state := .ready, pending := none, fn := f, tmps, params := ps, assign := asg, body, defers := w.heap.size })).heap[w1.heap.size]? = some (.loop { state := .ready, pending := none, fn := f, tmps, params := ps, assign := asg, body, defers := w.heap.size }) := by show (w1.heap.push _)[w1.heap.size]? = _; simp
    have hs2 : Sb R1 (R1.put (h.new .dfr).nx ⟨w1.heap.size, 0, 0⟩) := Ren.put_sb (r1.frs _ (Nat.le_refl _))
    obtain ⟨r2, s2, f2⟩ := r1.new (o := .loop f tmps.size e ps asg body .ready none h.nx) (c := 0) hb2 (show OR _ (.loop f tmps.size e ps asg body .ready none h.nx) ⟨w1.heap.size, 0, 0⟩ _ from ⟨tmps, ⟨w.heap.size, 0, 0⟩, hg2, rfl, (hE.mono s1).mono hs2, hs2 _ _ hL1⟩)
    refine ⟨_, _, _, _, ?_, s1.trans s2, r2, ⟨_, Ren.put_self .., rfl⟩, .cons (s2 _ _ hL1) .nil⟩
    subst hw1
    rfl
  | some l0 =>
    obtain ⟨L0, hL0, rfl⟩ := hro
    simp only [loopD] at q
    split at q <;> try (cases q; done)
    rename_i f0 n0 e0 ps0 as0 body0 st0 pend0 d0 hl0
    simp only [Option.some.injEq, Prod.mk.injEq] at q
    obtain ⟨rfl, rfl, rfl⟩ := q
    obtain ⟨tmps0, Ld, g2, g3, g4, g5⟩ := hR.loop hl0 hL0
    have hb2 : Bl w (w.alloc (.loop { state := .ready, pending := none, fn := f, tmps, params := ps, assign := asg, body, defers := Ld.blk })) := (Below.refl _ _).alloc (Nat.le_refl _) _
    have hg2 : (w.alloc (.loop { state := .ready, pending := none, fn := f, tmps, params := ps, assign := asg, body, defers := Ld.blk })).heap[w.heap.size]? = some (.loop { state := .ready, pending := none, fn := f, tmps, params := ps, assign := asg, body, defers := Ld.blk }) := by show (w.heap.push _)[w.heap.size]? = _; simp
    have hs2 : Sb R (R.put h.nx ⟨w.heap.size, 0, 0⟩) := Ren.put_sb (hR.frs _ (Nat.le_refl _))
    obtain ⟨r2, s2, f2⟩ := hR.new (o := .loop f tmps.size e ps asg body .ready none d0) (c := 0) hb2 (show OR _ (.loop f tmps.size e ps asg body .ready none d0) ⟨w.heap.size, 0, 0⟩ _ from ⟨tmps, Ld, hg2, rfl, hE.mono hs2, hs2 _ _ g5⟩)
    refine ⟨_, _, _, _, ?_, s2, r2, ⟨_, Ren.put_self .., rfl⟩, .nil⟩
    unfold Instr.enterLoop
    simp only
    rw [run_bind_ok (getLoop_run g2)]
    rfl
theorem endL_ok {R : Ren} {h h' : AH} {w : World} {l : Nat} {L : Loc} {jump : Option Code} (hR : Rep w0 R h w) (hL : R l = some L) (q : endL h l = some (jump, h')) :
    ∃ w', (Instr.endLoop L.blk).run P w = .ok jump w' ∧ Rep w0 R h' w' := by
  unfold endL at q
  split at q <;> try (cases q; done)
  rename_i f n e ps asg body st pend d hl
  obtain ⟨tmps, Ld, h2, h3, h4, h5⟩ := hR.loop hl hL
  split at q <;> try (cases q; done)
  rename_i hst
  simp only [Option.some.injEq, Prod.mk.injEq] at q
  obtain ⟨rfl, rfl⟩ := q
  obtain ⟨g1, _⟩ := loop_put hR hl hL h2 h3 h4 h5 .exhausted pend
  refine ⟨_, ?_, g1⟩
  unfold Instr.endLoop
  rw [run_bind_ok (getLoop_run h2)]
  simp only
  rw [if_neg (by cases st <;> first | decide | exact absurd rfl hst)]
  rw [run_bind_ok (setObj_run h2 rfl)]; rfl
theorem lg_endL {h h' : AH} {l : Nat} {jump : Option Code} (q : endL h l = some (jump, h')) : LG h h' := by
  unfold endL at q
  split at q <;> try (cases q; done)
  split at q <;> try (cases q; done)
  simp only [Option.some.injEq, Prod.mk.injEq] at q
  obtain ⟨_, rfl⟩ := q
  exact lg_put _ _ _
theorem lg_loopD {h h' : AH} {ro : Option Nat} {d : Nat} {D : List Nat} (q : loopD h ro = some (d, h', D)) : LG h h' := by
  unfold loopD at q
  split at q
  · simp only [Option.some.injEq, Prod.mk.injEq] at q; obtain ⟨_, rfl, _⟩ := q; exact lg_new _ _
  · split at q <;> try (cases q; done)
    simp only [Option.some.injEq, Prod.mk.injEq] at q; obtain ⟨_, rfl, _⟩ := q; exact LG.refl _
theorem spec_rangeFunc {f : FuncId} {fn : Func} {ro : Option Nat} {D D' : List Nat} {g : Operand} {ps : Array Tmp} {asg body : Code} {k : List Item} {e : En} {h h1 h3 h4 h' : AH} {r v : AV} {gf : FuncId} {first cap : List AV} {d : Nat} {jump : Option Code}
    (hg : evo e g = some (.func gf first cap)) (hd : loopD h ro = some (d, h1, D')) (hs : Spec P (.call gf (first ++ ([.yield h1.nx] ++ cap))) (h1.new (.loop f fn.ntmps e ps asg body .ready none d)) (.val v h3)) (he : endL h3 h1.nx = some (jump, h4))
    (q : Spec P (.code f fn ro (D' ++ D) (jumpK jump k) e) h4 (.val r h')) : Spec P (.code f fn ro D (.code (.rangeFunc g ps asg body) :: k) e) h (.val r h') := by
  intro hfn cx R w a ro' Q hR hE hro hQ
  obtain ⟨R1, w1, l, mark, hrun, s1, hR1, ⟨L, hL, rfl⟩, hD⟩ := loopD_ok (P := P) hR hro hd f (tmps := a.tmps) hE.k ps asg body
  rw [hE.size] at hR1
  have hgx := evo_ok hE.k hg
  generalize hgv : a.eval g = gv at hgx
  cases hgx with
  | func a1 a2 =>
    rename_i xs ys
    have hvl : VL R1 (first ++ ([AV.yield h1.nx] ++ cap)) (xs ++ ([Value.func (.yield L.blk) #[] #[]] ++ ys)) := (VL.mono s1 a1).app ((VL.cons (.yield hL) .nil).app (VL.mono s1 a2))
    have hret := hs cx R1 w1 _ hR1 hvl
    have hres : (resolve a.eval (rangeCall g L.blk) 0).run P w1 = .ok { target := .fn (.func gf) ys.toArray, args := xs.toArray ++ #[Value.func (.yield L.blk) #[] #[]] } w1 := by
      unfold resolve
      simp only [hgv, Deferred.ofValue]
      have : (#[Operand.const (.func (.yield L.blk) #[] #[])]).map a.eval = #[Value.func (.yield L.blk) #[] #[]] := by simp [Act.eval]
      rw [this]; rfl
    have hinv : (invoke (.fn (.func gf) ys.toArray) (xs.toArray ++ #[Value.func (.yield L.blk) #[] #[]])).run P w1 = .ok (.enter gf (xs ++ ([Value.func (.yield L.blk) #[] #[]] ++ ys)).toArray) w1 := by
      have hok := hret.ok
      unfold callable at hok
      cases hf : P.funcs[gf]? with
      | none => rw [hf] at hok; cases hok
      | some fg =>
        rw [hf] at hok
        simp only [Bool.and_eq_true, Bool.not_eq_true'] at hok
        have e2 : xs.toArray ++ #[Value.func (.yield L.blk) #[] #[]] ++ ys.toArray = (xs ++ ([Value.func (.yield L.blk) #[] #[]] ++ ys)).toArray := by simp
        simp only [invoke, callFunc, e2]
        rw [run_bind_ok (show (program).run P w1 = .ok P w1 from rfl), hf]
        simp only [hok.2]
        rw [if_neg (by simp), if_neg (by have := hok.1; cases hbd : fg.body <;> simp_all)]
        rfl
    intro cs
    obtain ⟨en, w3, fr, hq, hcom, hfr, hlv⟩ := hret.run ((bsR f ro').atR { a with defers := mark ++ a.defers } (.inRangeFunc L.blk :: k) :: cs)
    cases en with
    | panicked ch => exact hq.elim
    | outgrown => exact hq.elim
    | returned x =>
      obtain ⟨R', s, hR', hx⟩ := hq
      obtain ⟨w4, e1, e2⟩ := endL_ok (P := P) hR' (s _ _ hL) he
      have H := q hfn cx R' w4 { a with defers := mark ++ a.defers } ro' Q e2 ⟨hE.size, (hD.mono s).app ((hE.defers.mono s1).mono s), (hE.k.mono s1).mono s⟩ ((hro.mono s1).mono s) (fun v w'' p => hQ v w'' ((p.trans s).trans s1))
      refine (H cs).steps (.head (stepR_rangeFunc (b := bsR f ro') hrun hres hinv) (Steps.trans hcom (.head (m₁ := lone ((bsR f ro').atR { a with defers := mark ++ a.defers } (.endRangeFunc L.blk :: k)) cs w3) ?_ (.one ?_))))
      · rw [← finish_atR_inRangeFunc L.blk x]; exact step_leave_returned hlv
      · have := stepR_endRangeFunc (P := P) (b := bsR f ro') (a := { a with defers := mark ++ a.defers }) (k := k) (cs := cs) e1
        rw [this]
        cases jump <;> rfl
/-- what a task's answer says, and that the notes only grow -/
def heapR : Res → AH
  | .val _ h => h
  | .held _ h => h
def Sp (P : Program) (t : Task) (h : AH) (res : Res) : Prop := LG h (heapR res) ∧ Spec P t h res
theorem Sp.code {t t' : Task} {h : AH} {res : Res} (q : Sp P t' h res) (hf : ∀ e h', ¬ Spec P t' h (.held e h')) (hs : ∀ r h', Spec P t' h (.val r h') → Spec P t h (.val r h')) : Sp P t h res := by
  cases res with
  | val r h' => exact ⟨q.1, hs r h' q.2⟩
  | held e h' => exact absurd q.2 (hf e h')
/-- the same behind a step that turned the heap -/
theorem Sp.via {t t' : Task} {h h1 : AH} {res : Res} (q : Sp P t' h1 res) (hl : LG h h1) (hf : ∀ e h', ¬ Spec P t' h1 (.held e h')) (hs : ∀ r h', Spec P t' h1 (.val r h') → Spec P t h (.val r h')) : Sp P t h res := by
  cases res with
  | val r h' => exact ⟨hl.trans q.1, hs r h' q.2⟩
  | held e h' => exact absurd q.2 (hf e h')
theorem Sp.held {t t' : Task} {h h1 : AH} {res : Res} (q : Sp P t' h1 res) (hl : LG h h1) (hf : ∀ r h', ¬ Spec P t' h1 (.val r h')) (hs : ∀ e h', Spec P t' h1 (.held e h') → Spec P t h (.held e h')) : Sp P t h res := by
  cases res with
  | held e h' => exact ⟨hl.trans q.1, hs e h' q.2⟩
  | val r h' => exact absurd q.2 (hf r h')
theorem lg_reset {h h1 : AH} (g : LG ⟨h.o, h.nx, []⟩ h1) : LG h ⟨h1.o, h1.nx, h1.lg ++ h.lg⟩ := ⟨g.nx, fun _ x => List.mem_append.2 (.inr x), fun i x y => g.sm i x fun z => y (List.mem_append.2 (.inl z))⟩
theorem lg_popD : ∀ {D : List Nat} {h h' : AH}, popD h D = some h' → LG h h'
  | [], h, h', q => by simp only [popD, Option.some.injEq] at q; subst q; exact LG.refl _
  | i :: D, h, h', q => by
    simp only [popD] at q
    split at q <;> try (cases q; done)
    exact LG.trans (lg_gone _ _) (lg_popD q)
theorem lg_retA {h : AH} {D : List Nat} {e : En} {fn : Func} {res : Res} (q : retA P h D e fn = some res) : ∃ v h', res = .val v h' ∧ LG h h' := by
  unfold retA at q
  split at q <;> try (cases q; done)
  rename_i h1 hp
  split at q <;> try (cases q; done)
  simp only [Option.some.injEq] at q
  exact ⟨_, _, q.symm, lg_popD hp⟩
theorem Sp.out {f : FuncId} {fn : Func} {D : List Nat} {k : List Item} {e : En} {h : AH} {res : Res} (q : retA P h D e fn = some res) (hs : ∀ v h', retA P h D e fn = some (.val v h') → Spec P (.code f fn none D k e) h (.val v h')) : Sp P (.code f fn none D k e) h res := by
  obtain ⟨v, h', rfl, hl⟩ := lg_retA q
  exact ⟨hl, hs _ _ q⟩
theorem Sp.rend {t : Task} {l : Nat} {jump : Option Code} {h : AH} {res : Res} (q : endR h l jump = some res) (hs : ∀ v h', endR h l jump = some (.val v h') → Spec P t h (.val v h')) : Sp P t h res := by
  obtain ⟨v, h', rfl⟩ := endR_val q
  exact ⟨lg_endR q, hs _ _ q⟩
set_option maxHeartbeats 4000000 in
theorem run_sp (hm : P.follows .mixedOrders = true) : ∀ (n : Nat) (t : Task) (h : AH) (res : Res), run P n t h = some res → Sp P t h res
  | 0, t, h, res, q => by simp [run] at q
  | n + 1, t, h, res, q => by
    have ih := run_sp hm n
    unfold run at q
    cases t with
    | call f args =>
      simp only at q
      split at q <;> try (cases q; done)
      rename_i fn hf
      split at q <;> try (cases q; done)
      rename_i c hb
      split at q <;> try (cases q; done)
      rename_i hc
      rw [Bool.and_eq_true] at hc
      exact Sp.code (ih _ _ _ q) (fun _ _ x => x) (fun r h' => spec_call hf hb hc.1 (Nat.le_of_ble_eq_true hc.2))
    | code f fn ro D k e =>
      simp only at q
      cases k with
      | nil =>
        simp only at q
        cases ro with
        | none => exact Sp.out q (fun _ _ => spec_out (fun _ _ _ => stepR_end rfl))
        | some l => exact Sp.rend q (fun _ _ => spec_rend (fun b a c cs w w' l' x h1 h2 h3 => stepR_round_end h1 h2 h3))
      | cons it k =>
        cases it with
        | code c =>
          simp only at q
          cases c with
          | seq a b => exact Sp.code (ih _ _ _ q) (fun _ _ x => x) (fun _ _ => spec_admin fun _ _ _ _ => stepR_seq)
          | skip => exact Sp.code (ih _ _ _ q) (fun _ _ x => x) (fun _ _ => spec_admin fun _ _ _ _ => stepR_skip)
          | label i => exact Sp.code (ih _ _ _ q) (fun _ _ x => x) (fun _ _ => spec_admin fun _ _ _ _ => stepR_label)
          | block i c => exact Sp.code (ih _ _ _ q) (fun _ _ x => x) (fun _ _ => spec_admin fun _ _ _ _ => stepR_block)
          | loop c => exact Sp.code (ih _ _ _ q) (fun _ _ x => x) (fun _ _ => spec_admin fun _ _ _ _ => stepR_loop)
          | cond c x y =>
            simp only at q
            split at q <;> try (cases q; done)
            · rename_i hc
              exact Sp.code (ih _ _ _ q) (fun _ _ x => x) (fun _ _ => spec_cond hc)
            · rename_i hc
              exact Sp.code (ih _ _ _ q) (fun _ _ x => x) (fun _ _ => spec_cond hc)
          | exit i =>
            simp only at q
            split at q
            · rename_i k' hk
              exact Sp.code (ih _ _ _ q) (fun _ _ x => x) (fun _ _ => spec_admin fun _ _ _ _ => stepR_exit hk)
            · rename_i hk
              cases ro with
              | none => cases q
              | some l => exact Sp.rend q (fun _ _ => spec_rend (fun b a c cs w w' l' x h1 h2 h3 => stepR_round_exit h1 h2 hk h3))
          | ret =>
            simp only at q
            cases ro with
            | none => exact Sp.out q (fun _ _ => spec_out (fun _ _ _ => stepR_ret rfl))
            | some l => exact Sp.rend q (fun _ _ => spec_rend (fun b a c cs w w' l' x h1 h2 h3 => stepR_round_ret h1 h2 h3))
          | rangeFunc g ps asg body =>
            simp only at q
            split at q <;> try (cases q; done)
            rename_i gf first cap hg
            split at q <;> try (cases q; done)
            rename_i d h1 D' hd
            split at q <;> try (cases q; done)
            rename_i v h3 hr
            split at q <;> try (cases q; done)
            rename_i jump h4 he
            have g1 := ih _ _ _ hr
            have hl : LG h h4 := (lg_loopD hd).trans (LG.trans (b := h1.new (.loop f fn.ntmps e ps asg body .ready none d)) (lg_new _ _) (g1.1.trans (lg_endL he)))
            exact Sp.via (ih _ _ _ q) hl (fun _ _ x => x) (fun _ _ => spec_rangeFunc hg hd g1.2 he)
          | region i ops d =>
            cases d with
            | false => exact Sp.code (ih _ _ _ q) (fun _ _ x => x) (fun _ _ => spec_region)
            | true =>
              simp only at q
              cases ro with
              | some l => cases q
              | none =>
                simp only at q
                split at q <;> try (cases q; done)
                rename_i l hl
                split at q <;> try (cases q; done)
                rename_i ho
                split at q <;> try (cases q; done)
                rename_i e' h1 hr
                have g1 := ih _ _ _ hr
                exact Sp.via (ih _ _ _ q) g1.1 (fun _ _ x => x) (fun _ _ => spec_draw hm ho g1.2)
          | _ => simp at q
        | inBlock i => exact Sp.code (ih _ _ _ q) (fun _ _ x => x) (fun _ _ => spec_admin fun _ _ _ _ => stepR_inBlock)
        | inLoop c => exact Sp.code (ih _ _ _ q) (fun _ _ x => x) (fun _ _ => spec_admin fun _ _ _ _ => stepR_inLoop)
        | beginRound =>
          simp only at q
          cases ro with
          | none => cases q
          | some l =>
            simp only at q
            split at q <;> try (cases q; done)
            rename_i h1 hb
            exact Sp.via (ih _ _ _ q) (lg_begin hb) (fun _ _ x => x) (fun _ _ => spec_begin hb)
        | _ => simp at q
    | ops f fn ro D ops l k e =>
      simp only at q
      cases l with
      | nil => exact Sp.code (ih _ _ _ q) (fun _ _ x => x) (fun _ _ => spec_ops_nil)
      | cons o l =>
        simp only at q
        split at q <;> try (cases q; done)
        · rename_i hw
          split at q <;> try (cases q; done)
          rename_i e' hd
          exact Sp.code (ih _ _ _ q) (fun _ _ x => x) (fun _ _ => spec_ops_skip hw hd)
        · rename_i hw
          split at q
          · rename_i fx args hc
            split at q <;> try (cases q; done)
            · rename_i g first cap hf
              split at q <;> try (cases q; done)
              rename_i vs hv
              split at q
              · rename_i v hx
                split at q <;> try (cases q; done)
                rename_i e' hd
                exact Sp.code (ih _ _ _ q) (fun _ _ x => x) (fun _ _ => spec_ops_val hw (call_nd hc) (fun _ R w a hR hE => ext_eo hR hE hc hf hv hx) hd)
              split at q
              · rename_i v h1 hx
                split at q <;> try (cases q; done)
                rename_i e' hd
                exact Sp.via (ih _ _ _ q) (by obtain ⟨_, rfl⟩ := lg_extM hx; exact lg_new _ _) (fun _ _ x => x) (fun _ _ => spec_ops_val hw (call_nd hc) (fun _ R w a hR hE => extM_run hR hE.k hc hf hv hx) hd)
              split at q <;> try (cases q; done)
              rename_i v h1 hr
              split at q <;> try (cases q; done)
              rename_i e' hd
              have g1 := ih _ _ _ hr
              exact Sp.via (ih _ _ _ q) g1.1 (fun _ _ x => x) (fun _ _ => spec_ops_call hw hc hf hv g1.2 hd)
            · rename_i y hf
              split at q <;> try (cases q; done)
              rename_i vs hv
              split at q <;> try (cases q; done)
              rename_i f' n' e' ps asg body st pend d hl
              split at q <;> try (cases q; done)
              rename_i fn' hfn'
              split at q <;> try (cases q; done)
              rename_i hn'
              have hn' := Nat.eq_of_beq_eq_true hn'
              split at q <;> try (cases q; done)
              rename_i e'' hps
              split at q <;> try (cases q; done)
              rename_i v h1 hr
              split at q <;> try (cases q; done)
              rename_i e3 hd
              have g1 := ih _ _ _ hr
              exact Sp.via (ih _ _ _ q) g1.1 (fun _ _ x => x) (fun _ _ => spec_yield hw hc hf hv hl hfn' hn' hps g1.2 hd)
          · split at q
            · rename_i v hq
              split at q <;> try (cases q; done)
              rename_i e' hd
              exact Sp.code (ih _ _ _ q) (fun _ _ x => x) (fun _ _ => spec_ops_val hw (qop_nd hq) (fun _ R w a hR hE => quiet_eo hR hE hq) hd)
            · split at q <;> try (cases q; done)
              rename_i v h1 hq
              split at q <;> try (cases q; done)
              rename_i e' hd
              exact Sp.via (ih _ _ _ q) (lg_eop hq) (fun _ _ x => x) (fun _ _ => spec_ops_val hw (eop_nd hq) (fun _ R w a hR hE => eop_ok hR hE.k hq) hd)
    | held fn ops M l V e =>
      simp only at q
      cases l with
      | nil =>
        simp only [Option.some.injEq] at q; subst q
        exact ⟨LG.refl _, spec_held_nil⟩
      | cons i l =>
        simp only at q
        split at q <;> try (cases q; done)
        rename_i o ho
        split at q <;> try (cases q; done)
        · rename_i hw
          split at q <;> try (cases q; done)
          rename_i e' hd
          exact Sp.held (ih _ _ _ q) (LG.refl _) (fun _ _ x => x) (fun _ _ => spec_held_skip ho hw hd)
        · rename_i hw
          split at q
          · rename_i ht
            split at q <;> try (cases q; done)
            rename_i v h1 hr
            split at q <;> try (cases q; done)
            rename_i hq
            split at q <;> try (cases q; done)
            rename_i e' hd
            have g1 := ih _ _ _ hr
            exact Sp.held (ih _ _ _ q) (lg_reset g1.1) (fun _ _ x => x) (fun _ _ => spec_held_turn ho hw ht g1.1 g1.2 hq hd)
          · split at q
            · rename_i hmk
              split at q <;> try (cases q; done)
              rename_i v h1 hq
              split at q <;> try (cases q; done)
              rename_i e' hd
              exact Sp.held (ih _ _ _ q) (lg_eop hq) (fun _ _ x => x) (fun _ _ => spec_held_make ho hw hmk hq hd)
            · split at q <;> try (cases q; done)
              rename_i hb
              split at q <;> try (cases q; done)
              rename_i v hq
              split at q <;> try (cases q; done)
              rename_i e' hd
              exact Sp.held (ih _ _ _ q) (LG.refl _) (fun _ _ x => x) (fun _ _ => spec_held_read ho hw hb hq hd)
    | turn e o =>
      simp only at q
      split at q
      · rename_i fx args hc
        split at q <;> try (cases q; done)
        rename_i g first cap hf
        split at q <;> try (cases q; done)
        rename_i vs hv
        split at q
        · rename_i v hx
          simp only [Option.some.injEq] at q; subst q
          exact ⟨LG.refl _, spec_turn_ext hc hf hv hx⟩
        · exact Sp.code (ih _ _ _ q) (fun _ _ x => x) (fun _ _ => spec_turn_call hc hf hv)
      · split at q <;> try (cases q; done)
        rename_i v h1 hq
        simp only [Option.some.injEq] at q; subst q
        exact ⟨lg_eop hq, spec_turn_eff hq⟩
/-- a function on values that are all known, in a world of which nothing is known -/
theorem run_ret (hm : P.follows .mixedOrders = true) {n : Nat} {f : FuncId} {args : List AV} {r : AV} {h' : AH} (q : run P n (.call f args) ⟨.nil, 0, []⟩ = some (.val r h')) {xs : List Value} (hx : VL (fun _ => none) args xs) (w : World) :
    Ret P f xs.toArray w fun v w' => (∃ R, Rep ⟨w, fun _ => False⟩ R h' w' ∧ VR R r v) ∧ Bl w w' := by
  have hR : Rep ⟨w, fun _ => False⟩ (fun _ => none) ⟨.nil, 0, []⟩ w := ⟨fun i o L x => by simp [Tr.nil_get] at x, fun i j oi oj Li Lj x => by simp [Tr.nil_get] at x, fun _ _ => rfl, fun _ x => x.elim, fun i o x => by simp [Tr.nil_get] at x, Bl.refl w⟩
  refine ((run_sp hm n _ _ _ q).2 _ _ w xs hR hx).mono fun v w' p => ?_
  obtain ⟨R', _, h2, h3⟩ := p
  exact ⟨⟨R', h2, h3⟩, h2.bl⟩
end
end Go.Proofs.YtejohpjhonjcjaaGreatDoor.Zr

/- A runner: the same run, in small steps that the kernel unfolds quickly. No program stands here. -/
namespace Go.Proofs.YtejohpjhonjcjaaGreatDoor.Zr
open Go Go.RowKit Eng
abbrev Rec2 := Task → AH → Option Res
def qCall (P : Program) (rec : Rec2) (h : AH) (f : FuncId) (args : List AV) : Option Res := match P.funcs[f]? with
  | some fn => match fn.body with
    | some c => match callable P f && Nat.ble args.length fn.ntmps with
      | true => rec (.code f fn none [] [.code c] (numA 0 args .nil)) h
      | false => none
    | none => none
  | none => none
def qCond (rec : Rec2) (h : AH) (f : FuncId) (fn : Func) (ro : Option Nat) (D : List Nat) (x y : Code) (k : List Item) (e : En) (v : Option AV) : Option Res := match v with
  | some (.bool true) => rec (.code f fn ro D (.code x :: k) e) h
  | some (.bool false) => rec (.code f fn ro D (.code y :: k) e) h
  | _ => none
def qExit (rec : Rec2) (h : AH) (f : FuncId) (fn : Func) (ro : Option Nat) (D : List Nat) (i : Nat) (e : En) (k : Option (List Item)) : Option Res := match k with
  | some k' => rec (.code f fn ro D k' e) h
  | none => match ro with
    | none => none
    | some l => endR h l (some (.exit i))
def qEnd (P : Program) (h : AH) (fn : Func) (ro : Option Nat) (D : List Nat) (e : En) (j : Option Code) : Option Res := match ro with
  | none => retA P h D e fn
  | some l => endR h l j
def qRange (rec : Rec2) (h : AH) (f : FuncId) (fn : Func) (ro : Option Nat) (D : List Nat) (g : Operand) (ps : Array Tmp) (asg body : Code) (k : List Item) (e : En) : Option Res := match evo e g with
  | some (.func gf first cap) => match loopD h ro with
    | some (d, h1, D') => match rec (.call gf (first ++ ([.yield h1.nx] ++ cap))) (h1.new (.loop f fn.ntmps e ps asg body .ready none d)) with
      | some (.val _ h3) => match endL h3 h1.nx with
        | some (jump, h4) => rec (.code f fn ro (D' ++ D) (jumpK jump k) e) h4
        | none => none
      | _ => none
    | none => none
  | _ => none
def qReg (rec : Rec2) (h : AH) (f : FuncId) (fn : Func) (ro : Option Nat) (D : List Nat) (ops : Array Oper) (k : List Item) (e : En) : Option Res := match ro with
  | some _ => none
  | none => match orderF ops.size 0 (infoF 0 ops.toList) with
    | none => none
    | some l => match okReg ops (masks ops ops.size []) l with
      | false => none
      | true => match rec (.held fn ops (masks ops ops.size []) l [] e) h with
        | some (.held e' h') => rec (.code f fn none D k e') h'
        | _ => none
def qRegion (rec : Rec2) (h : AH) (f : FuncId) (fn : Func) (ro : Option Nat) (D : List Nat) (ops : Array Oper) (d : Bool) (k : List Item) (e : En) : Option Res := match d with
  | false => rec (.ops f fn ro D ops ops.toList k e) h
  | true => qReg rec h f fn ro D ops k e
def qC (P : Program) (rec : Rec2) (h : AH) (f : FuncId) (fn : Func) (ro : Option Nat) (D : List Nat) (c : Code) (k : List Item) (e : En) : Option Res := match c with
  | .seq a b => rec (.code f fn ro D (.code a :: .code b :: k) e) h
  | .skip => rec (.code f fn ro D k e) h
  | .label _ => rec (.code f fn ro D k e) h
  | .block i c => rec (.code f fn ro D (.code c :: .inBlock i :: k) e) h
  | .loop c => rec (.code f fn ro D (.code c :: .inLoop c :: k) e) h
  | .cond c x y => qCond rec h f fn ro D x y k e (evo e c)
  | .exit i => qExit rec h f fn ro D i e (exitTo i k)
  | .ret => qEnd P h fn ro D e (some .ret)
  | .rangeFunc g ps asg body => qRange rec h f fn ro D g ps asg body k e
  | .region _ ops d => qRegion rec h f fn ro D ops d k e
  | _ => none
def qRound (rec : Rec2) (h : AH) (f : FuncId) (fn : Func) (ro : Option Nat) (D : List Nat) (k : List Item) (e : En) : Option Res := match ro with
  | none => none
  | some l => match beginR h l with
    | some h' => rec (.code f fn ro D k e) h'
    | none => none
def qCode (P : Program) (rec : Rec2) (h : AH) (f : FuncId) (fn : Func) (ro : Option Nat) (D : List Nat) (k : List Item) (e : En) : Option Res := match k with
  | [] => qEnd P h fn ro D e none
  | .code c :: k => qC P rec h f fn ro D c k e
  | .inBlock _ :: k => rec (.code f fn ro D k e) h
  | .inLoop c :: k => rec (.code f fn ro D (.code c :: .inLoop c :: k) e) h
  | .beginRound :: k => qRound rec h f fn ro D k e
  | _ => none
def qDst (rec : Rec2) (h : AH) (f : FuncId) (fn : Func) (ro : Option Nat) (D : List Nat) (ops : Array Oper) (l : List Oper) (k : List Item) (e : Option En) : Option Res := match e with
  | some e' => rec (.ops f fn ro D ops l k e') h
  | none => none
def qFun (P : Program) (rec : Rec2) (h : AH) (f : FuncId) (fn : Func) (ro : Option Nat) (D : List Nat) (ops : Array Oper) (o : Oper) (l : List Oper) (k : List Item) (e : En) (g : FuncId) (all : List AV) : Option Res := match extA P g all with
  | some v => qDst rec h f fn ro D ops l k (dstA fn.ntmps e o.dst v)
  | none => match extM P g h all with
    | some (v, h') => qDst rec h' f fn ro D ops l k (dstA fn.ntmps e o.dst v)
    | none => match rec (.call g all) h with
      | some (.val v h') => qDst rec h' f fn ro D ops l k (dstA fn.ntmps e o.dst v)
      | _ => none
def qYield (P : Program) (rec : Rec2) (h : AH) (f : FuncId) (fn : Func) (ro : Option Nat) (D : List Nat) (ops : Array Oper) (o : Oper) (l : List Oper) (k : List Item) (e : En) (y : Nat) (vs : List AV) : Option Res := match h.o.get y with
  | some (.loop f' n' e' ps asg body _ _ _) => match P.funcs[f']? with
    | some fn' => match Nat.beq fn'.ntmps n' with
      | true => match setPs n' ps.toList vs e' with
        | some e'' => match rec (.code f' fn' (some y) [] [.code asg, .beginRound, .code body] e'') h with
          | some (.val v h') => qDst rec h' f fn ro D ops l k (dstA fn.ntmps e o.dst v)
          | _ => none
        | none => none
      | false => none
    | none => none
  | _ => none
def qOpC (P : Program) (rec : Rec2) (h : AH) (f : FuncId) (fn : Func) (ro : Option Nat) (D : List Nat) (ops : Array Oper) (o : Oper) (l : List Oper) (k : List Item) (e : En) (fx : Option AV) (args : List Operand) : Option Res := match fx with
  | some (.func g first cap) => match evoL e args with
    | some vs => qFun P rec h f fn ro D ops o l k e g (first ++ (vs ++ cap))
    | none => none
  | some (.yield y) => match evoL e args with
    | some vs => qYield P rec h f fn ro D ops o l k e y vs
    | none => none
  | _ => none
def qOpE (P : Program) (rec : Rec2) (h : AH) (f : FuncId) (fn : Func) (ro : Option Nat) (D : List Nat) (ops : Array Oper) (o : Oper) (l : List Oper) (k : List Item) (e : En) : Option Res := match eop P e h o.op with
  | some (v, h') => qDst rec h' f fn ro D ops l k (dstA fn.ntmps e o.dst v)
  | none => none
def qOpQ (P : Program) (rec : Rec2) (h : AH) (f : FuncId) (fn : Func) (ro : Option Nat) (D : List Nat) (ops : Array Oper) (o : Oper) (l : List Oper) (k : List Item) (e : En) (r : Option AV) : Option Res := match r with
  | some v => qDst rec h f fn ro D ops l k (dstA fn.ntmps e o.dst v)
  | none => qOpE P rec h f fn ro D ops o l k e
def qOp (P : Program) (rec : Rec2) (h : AH) (f : FuncId) (fn : Func) (ro : Option Nat) (D : List Nat) (ops : Array Oper) (o : Oper) (l : List Oper) (k : List Item) (e : En) : Option Res := match isCall o.op with
  | some (fx, args) => qOpC P rec h f fn ro D ops o l k e (evo e fx) args
  | none => qOpQ P rec h f fn ro D ops o l k e (qop P e h o.op)
def qOps (P : Program) (rec : Rec2) (h : AH) (f : FuncId) (fn : Func) (ro : Option Nat) (D : List Nat) (ops : Array Oper) (l : List Oper) (k : List Item) (e : En) : Option Res := match l with
  | [] => rec (.code f fn ro D k e) h
  | o :: l => match wantA ops e o with
    | none => none
    | some false => qDst rec h f fn ro D ops l k (dstA fn.ntmps e o.dst (.tup []))
    | some true => qOp P rec h f fn ro D ops o l k e
def qHdst (rec : Rec2) (h : AH) (fn : Func) (ops : Array Oper) (M l : List Nat) (V : List (Nat × Nat)) (e : Option En) : Option Res := match e with
  | some e' => rec (.held fn ops M l V e') h
  | none => none
def qHturn (rec : Rec2) (h : AH) (fn : Func) (ops : Array Oper) (M l : List Nat) (V : List (Nat × Nat)) (e : En) (i : Nat) (o : Oper) : Option Res := match rec (.turn (restr e (slotsO ops o)) o) ⟨h.o, h.nx, []⟩ with
  | some (.val v h1) => match quietV M i h1.lg V with
    | true => qHdst rec ⟨h1.o, h1.nx, h1.lg ++ h.lg⟩ fn ops M l V (dstA fn.ntmps e o.dst v)
    | false => none
  | _ => none
def qHmake (P : Program) (rec : Rec2) (h : AH) (fn : Func) (ops : Array Oper) (M l : List Nat) (V : List (Nat × Nat)) (e : En) (i : Nat) (o : Oper) : Option Res := match eop P (restr e (slotsO ops o)) h o.op with
  | some (v, h') => qHdst rec h' fn ops M l ((i, h.nx) :: V) (dstA fn.ntmps e o.dst v)
  | none => none
def qHread (P : Program) (rec : Rec2) (h : AH) (fn : Func) (ops : Array Oper) (M l : List Nat) (V : List (Nat × Nat)) (e : En) (i : Nat) (o : Oper) : Option Res := match oldB h.nx (readId (restr e (slotsO ops o)) o.op) with
  | true => match qop P (restr e (slotsO ops o)) (oneH h (readId (restr e (slotsO ops o)) o.op)) o.op with
    | some v => qHdst rec h fn ops M l (noteV i (readId (restr e (slotsO ops o)) o.op) V) (dstA fn.ntmps e o.dst v)
    | none => none
  | false => none
def qHop (P : Program) (rec : Rec2) (h : AH) (fn : Func) (ops : Array Oper) (M l : List Nat) (V : List (Nat × Nat)) (e : En) (i : Nat) (o : Oper) : Option Res := match turnB o.op with
  | true => qHturn rec h fn ops M l V e i o
  | false => match makesB o.op with
    | true => qHmake P rec h fn ops M l V e i o
    | false => qHread P rec h fn ops M l V e i o
def qHeld (P : Program) (rec : Rec2) (h : AH) (fn : Func) (ops : Array Oper) (M l : List Nat) (V : List (Nat × Nat)) (e : En) : Option Res := match l with
  | [] => some (.held e h)
  | i :: l => match ops.toList[i]? with
    | none => none
    | some o => match wantA ops e o with
      | none => none
      | some false => qHdst rec h fn ops M l V (dstA fn.ntmps e o.dst (.tup []))
      | some true => qHop P rec h fn ops M l V e i o
def qTurnC (P : Program) (rec : Rec2) (h : AH) (fx : Option AV) (e : En) (args : List Operand) : Option Res := match fx with
  | some (.func g first cap) => match evoL e args with
    | some vs => match extA P g (first ++ (vs ++ cap)) with
      | some v => some (.val v h)
      | none => rec (.call g (first ++ (vs ++ cap))) h
    | none => none
  | _ => none
def qTurn (P : Program) (rec : Rec2) (h : AH) (e : En) (o : Oper) : Option Res := match isCall o.op with
  | some (fx, args) => qTurnC P rec h (evo e fx) e args
  | none => match eop P e h o.op with
    | some (v, h') => some (.val v h')
    | none => none
def qStep (P : Program) (rec : Rec2) (t : Task) (h : AH) : Option Res := match t with
  | .call f args => qCall P rec h f args
  | .code f fn ro D k e => qCode P rec h f fn ro D k e
  | .ops f fn ro D ops l k e => qOps P rec h f fn ro D ops l k e
  | .held fn ops M l V e => qHeld P rec h fn ops M l V e
  | .turn e o => qTurn P rec h e o
def runQ (P : Program) (n : Nat) : Task → AH → Option Res := Nat.rec (fun _ _ => none) (fun _ r => qStep P r) n
theorem runQ_succ (P : Program) (n : Nat) (t : Task) (h : AH) : runQ P (n + 1) t h = qStep P (runQ P n) t h := rfl
theorem runQ_eq (P : Program) : ∀ (n : Nat), runQ P n = run P n
  | 0 => by funext t h; rfl
  | n + 1 => by
    funext t h
    rw [runQ_succ, runQ_eq P n]
    cases t with
    | call f args => rfl
    | code f fn ro D k e =>
      cases k with
      | nil => rfl
      | cons it k =>
        cases it with
        | code c => cases c with
          | cond c x y => show qCond _ _ _ _ _ _ _ _ _ _ _ = _; rfl
          | region i ops d => cases d <;> cases ro <;> rfl
          | _ => rfl
        | _ => rfl
    | ops f fn ro D ops l k e =>
      cases l with
      | nil => rfl
      | cons o l => rfl
    | held fn ops M l V e =>
      cases l with
      | nil => rfl
      | cons i l => rfl
    | turn e o => rfl
end Go.Proofs.YtejohpjhonjcjaaGreatDoor.Zr
