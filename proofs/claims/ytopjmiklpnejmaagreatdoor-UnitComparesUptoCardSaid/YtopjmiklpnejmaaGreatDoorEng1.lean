/- The engine, second part: what a plain operation gives; the states; the steps that go by reckoning alone. -/
import Derived.Test.YtopjmiklpnejmaaGreatDoorEng
namespace Go.Proofs.YtopjmiklpnejmaaGreatDoor.Eng
open Go
theorem ba_ext {s t : ByteArray} (h : s.data.toList = t.data.toList) : s = t := by
  cases s; cases t; simp at h; simp [h]
theorem str_beq (s t : ByteArray) : (s.toList == t.toList) = decide (s = t) := by
  rw [ByteArray.toList_eq, ByteArray.toList_eq]
  by_cases h : s = t
  · subst h; simp
  · rw [decide_eq_false h, beq_eq_false_iff_ne]; intro e; exact h (ba_ext e)
theorem int_eql (a b : Int) : (a == b) = decide (a = b) := rfl
theorem int_neq (a b : Int) : (a != b) = decide (¬ a = b) := by by_cases h : a = b <;> simp [h]
theorem pickOp_ok {l : Env} {c : CEnv} {p : Path} {a : Act} (hk : Knows l a) (hc : KnowsC c a) (hp : holds a p) {x y t : Operand} {v : Value} (h : pickOp l c p x y t = some v) :
    ∃ b, a.eval t = .bool b ∧ (if b then a.eval x else a.eval y) = v := by
  cases t with
  | tmp s =>
    simp only [pickOp] at h
    cases ht : evc l c p (.tmp s) with
    | none => rw [ht] at h; cases h
    | some tv =>
      rw [ht] at h
      have et := evc_ok hk hc hp ht
      cases tv with
      | bool b =>
        have es : a.tmps.getD s undef = .bool b := et
        refine ⟨b, et, ?_⟩
        simp only at h
        split at h
        · split at h
          · rename_i u hu
            simp only [Option.some.injEq] at h; subst h
            cases b with
            | true => rfl
            | false => exact evc_ok hk hc (show holds a ((s, false) :: p) from ⟨es, hp⟩) hu
          · cases h
        · split at h
          · split at h
            · rename_i u hu
              simp only [Option.some.injEq] at h; subst h
              cases b with
              | true => exact evc_ok hk hc (show holds a ((s, true) :: p) from ⟨es, hp⟩) hu
              | false => rfl
            · cases h
          · cases h
      | _ => simp at h
  | const u => simp [pickOp] at h
  | global g => simp [pickOp] at h
  | func g => simp [pickOp] at h
theorem run_bind_ok {P : Program} {α β : Type} {e : Sem α} {k : α → Sem β} {w w' : World} {x : α} (h : e.run P w = .ok x w') : (e >>= k).run P w = (k x).run P w' := by
  have := Sem.run_bind' P e k w
  rw [h] at this; exact this
theorem und_run {P : Program} {t : TypeId} {d : TypeDesc} (h : P.underlying t = some d) (w : World) : (underlying t).run P w = .ok d w := by
  unfold underlying
  rw [run_bind_ok (show (program).run P w = .ok P w from rfl)]
  rw [h]; rfl
theorem info_run {P : Program} {t : TypeId} {i : TypeInfo} (h : P.info? t = some i) (w : World) : (typeInfo t).run P w = .ok i w := by
  unfold typeInfo
  rw [run_bind_ok (show (program).run P w = .ok P w from rfl)]
  rw [h]; rfl
theorem size_run {P : Program} {t : TypeId} {i : TypeInfo} (h : P.info? t = some i) (w : World) : (sizeOf t).run P w = .ok i.size w := by
  unfold sizeOf
  rw [run_bind_ok (info_run h w)]; rfl
theorem elemOk_of {P : Program} {e s b : Nat} (h : elemOk P e s b = true) : ∃ y z, P.info? e = some y ∧ y.size = s ∧ y.bytes = b ∧ y.zero = some z ∧ z.cells.size = s := by
  unfold elemOk at h
  cases hy : P.info? e with
  | none => rw [hy] at h; cases h
  | some y =>
    rw [hy] at h
    simp only [Bool.and_eq_true] at h
    cases hz : y.zero with
    | none => rw [hz] at h; simp at h
    | some z => rw [hz] at h; exact ⟨y, z, rfl, Nat.eq_of_beq_eq_true h.1.1, Nat.eq_of_beq_eq_true h.1.2, hz, Nat.eq_of_beq_eq_true h.2⟩
structure TypeIs (P : Program) (t : TypeId) (i : TI) (d : TypeDesc) (x : TypeInfo) (z : Value) : Prop where
  und : P.underlying t = some d
  info : P.info? t = some x
  size : x.size = i.size
  zero : x.zero = some z
  zeros : z.cells.toList = i.zero
  agg : i.agg = isAggD d
  sl : ∀ e s b, i.k = .slice e s b → d = .slice e ∧ elemOk P e s b = true
  st : ∀ offs, i.k = .struct offs → ∃ fs, d = .struct fs ∧ fieldsOk P fs.toList offs = true
  ar : ∀ n e s, i.k = .arr n e s → d = .array n e ∧ ∃ y, P.info? e = some y ∧ y.size = s
  str : i.k = .str → d = .string
theorem tiOk_und {P : Program} {t : TypeId} {i : TI} (h : tiOk P t i = true) : ∃ d x z, TypeIs P t i d x z := by
  unfold tiOk at h
  rw [Bool.and_eq_true] at h
  obtain ⟨h1, h2⟩ := h
  cases hx : P.info? t with
  | none => rw [hx] at h1; cases h1
  | some x =>
    rw [hx] at h1
    simp only [Bool.and_eq_true] at h1
    cases hz : x.zero with
    | none => rw [hz] at h1; simp at h1
    | some z =>
      rw [hz] at h1
      cases hd : P.underlying t with
      | none => rw [hd] at h2; cases h2
      | some d =>
        rw [hd] at h2
        simp only [Bool.and_eq_true, beq_iff_eq] at h2
        obtain ⟨h2, h3⟩ := h2
        refine ⟨d, x, z, hd, hx, Nat.eq_of_beq_eq_true h1.1, hz, zerosEq_eq h1.2, h3, ?_, ?_, ?_, ?_⟩
        · intro e s b hs
          rw [hs] at h2
          cases d <;> simp only at h2 <;> try cases h2
          rw [Bool.and_eq_true] at h2
          have := Nat.eq_of_beq_eq_true h2.1; subst this
          exact ⟨rfl, h2.2⟩
        · intro offs hs
          rw [hs] at h2
          cases d <;> simp only at h2 <;> try cases h2
          exact ⟨_, rfl, h2⟩
        · intro n e s hs
          rw [hs] at h2
          cases d <;> simp only at h2 <;> try cases h2
          rw [Bool.and_eq_true, Bool.and_eq_true] at h2
          obtain ⟨⟨ha, hb⟩, hc⟩ := h2
          have := Nat.eq_of_beq_eq_true ha; subst this
          have := Nat.eq_of_beq_eq_true hb; subst this
          refine ⟨rfl, ?_⟩
          revert hc
          cases P.info? _ with
          | none => intro hc; cases hc
          | some y => intro hc; exact ⟨y, rfl, Nat.eq_of_beq_eq_true hc⟩
        · intro hs
          rw [hs] at h2
          cases d <;> simp only at h2 <;> first | rfl | cases h2

theorem eqg_int {P : Program} (w : World) (b : BinOp) (t : TypeId) (x y : Operand) (k k' : IntKind) (n m : Int) : (eqGuard b t x y (.int k n) (.int k' m)).run P w = .ok () w := by cases b <;> rfl
theorem eqg_str {P : Program} (w : World) (b : BinOp) (t : TypeId) (x y : Operand) (n m : ByteArray) : (eqGuard b t x y (.string n) (.string m)).run P w = .ok () w := by cases b <;> rfl
theorem binOp_int {P : Program} {w : World} {b : BinOp} {t : TypeId} {k : IntKind} {n m : Int} {v : Value} (h : intOp b k n m = some v) : (binOp b t (.int k n) (.int k m)).run P w = .ok v w := by
  cases b <;> simp only [intOp, Option.some.injEq] at h <;> first
    | (cases h; done)
    | (subst h; simp [binOp, Op.intArith, Op.intCmp, pure, int_eql, int_neq])
theorem binOp_str {P : Program} {w : World} {b : BinOp} {t : TypeId} {n m : ByteArray} {v : Value} (h : strOp b n m = some v) : (binOp b t (.string n) (.string m)).run P w = .ok v w := by
  cases b <;> simp only [strOp, Option.some.injEq] at h <;> first
    | (cases h; done)
    | (subst h; simp [binOp, Op.stringOp, pure, str_beq])
theorem pure1_ok {P : Program} {tab : Tab} (ht : tabOk P tab = true) {l : Env} {c : CEnv} {p : Path} {a : Act} (hk : Knows l a) (hc : KnowsC c a) (hp : holds a p) (w : World) {o : Oper} {v : Value}
    (h : pure1 tab l c p o.op = some v) : (execOp a.eval o).run P w = .ok (.value v) w := by
  have E : ∀ {x : Operand} {u : Value}, evc l c p x = some u → a.eval x = u := fun e => evc_ok hk hc hp e
  obtain ⟨d, op, ty, pos, af, g⟩ := o
  simp only at h
  cases op with
  | move x => simp only [pure1] at h; simp [execOp, E h, pure]
  | assign x => simp only [pure1] at h; simp [execOp, E h, pure]
  | pick t x y =>
    simp only [pure1] at h
    obtain ⟨b, e1, e2⟩ := pickOp_ok hk hc hp h
    simp only [execOp, e1]
    show (Sem.bind (asBool (.bool b)) _).run P w = _
    simp only [asBool]
    show Sem.run P (pure (Next.value (if b then a.eval x else a.eval y))) w = _
    rw [e2]; rfl
  | binOp b t x y t2 =>
    simp only [pure1] at h
    cases hx : evc l c p x with
    | none => rw [hx] at h; cases h
    | some xv =>
      rw [hx] at h
      have ex := E hx
      cases xv with
      | int k n =>
        simp only at h
        cases hy : evc l c p y with
        | none => rw [hy] at h; cases h
        | some yv =>
          rw [hy] at h
          have ey := E hy
          cases yv with
          | int k' m =>
            simp only at h
            cases hkk : kindBeq k k' with
            | false => rw [hkk] at h; cases h
            | true =>
              rw [hkk] at h
              have := kindBeq_eq hkk; subst this
              simp only [execOp, ex, ey]
              exact run_bind_ok (run_bind_ok (eqg_int ..) |>.trans (binOp_int h)) |>.trans rfl
          | _ => simp at h
      | string s =>
        simp only at h
        cases hy : evc l c p y with
        | none => rw [hy] at h; cases h
        | some yv =>
          rw [hy] at h
          have ey := E hy
          cases yv with
          | string u =>
            simp only at h
            simp only [execOp, ex, ey]
            exact run_bind_ok (run_bind_ok (eqg_str ..) |>.trans (binOp_str h)) |>.trans rfl
          | _ => simp at h
      | _ => simp at h
  | unOp b t x =>
    simp only [pure1] at h
    cases b <;> simp only at h <;> try cases h
    cases hx : evc l c p x with
    | none => rw [hx] at h; cases h
    | some xv =>
      rw [hx] at h
      cases xv <;> simp only at h <;> try cases h
      simp only [execOp, E hx, Op.unary]; rfl
  | call cl =>
    simp only [pure1] at h
    obtain ⟨cal, args, tys⟩ := cl
    cases cal with
    | builtin bb =>
      cases bb <;> simp only at h <;> try cases h
      split at h
      · rename_i x hargs
        split at h
        · rename_i t htys
          have ea : args = #[x] := by rw [← Array.toArray_toList (xs := args), hargs]
          have et : tys = #[t] := by rw [← Array.toArray_toList (xs := tys), htys]
          subst ea; subst et
          cases hti : tab.at t with
          | none => rw [hti] at h; cases h
          | some i =>
            rw [hti] at h
            obtain ⟨dd, xx, zz, hT⟩ := tiOk_und (tab_at ht hti)
            have hu := hT.und
            simp only at h
            cases hik : i.k with
            | slice e s b =>
              rw [hik] at h
              obtain ⟨rfl, _⟩ := hT.sl e s b hik
              simp only at h
              cases hx : evc l c p x with
              | none => rw [hx] at h; cases h
              | some xv =>
                rw [hx] at h
                cases xv <;> simp only at h <;> try cases h
                simp only [execOp, resolve, List.map_toArray, List.map_cons, List.map_nil, E hx]
                show (Sem.bind (Builtin.len_ #[t] ty #[_]) _).run P w = _
                refine (run_bind_ok (P := P) (x := _) (w' := w) ?_).trans rfl
                simp only [Builtin.len_, List.getElem?_toArray, List.getElem?_cons_zero]
                rw [run_bind_ok (und_run hu w)]; rfl
            | str =>
              rw [hik] at h
              have := hT.str hik; subst this
              simp only at h
              cases hx : evc l c p x with
              | none => rw [hx] at h; cases h
              | some xv =>
                rw [hx] at h
                cases xv <;> simp only at h <;> try cases h
                simp only [execOp, resolve, List.map_toArray, List.map_cons, List.map_nil, E hx]
                show (Sem.bind (Builtin.len_ #[t] ty #[_]) _).run P w = _
                refine (run_bind_ok (P := P) (x := _) (w' := w) ?_).trans rfl
                simp only [Builtin.len_, List.getElem?_toArray, List.getElem?_cons_zero]
                rw [run_bind_ok (und_run hu w)]; rfl
            | _ => rw [hik] at h; simp at h
        · cases h
      · cases h
    | _ => simp at h
  | fieldAddr s x i =>
    simp only [pure1] at h
    cases hti : tab.at s with
    | none => rw [hti] at h; cases h
    | some ti =>
      rw [hti] at h
      obtain ⟨dd, xx, zz, hT⟩ := tiOk_und (tab_at ht hti)
      have hu := hT.und
      simp only at h
      cases hik : ti.k with
      | struct offs =>
        rw [hik] at h
        obtain ⟨fs, rfl, hfo⟩ := hT.st offs hik
        simp only at h
        split at h
        · rename_i b off hx
          split at h
          · rename_i o z ho
            obtain ⟨fx, info, hf1, hf2, hf3, hf4, _⟩ := field_of hfo ho
            have hv : v = .pointer (some ⟨b, off + o, none⟩) := by
              split at h
              · rename_i h0; have := Nat.eq_of_beq_eq_true h0; subst this; simpa using h.symm
              · simpa using h.symm
            subst hv
            simp only [execOp, E hx]
            refine (run_bind_ok (P := P) (x := _) (w' := w) ?_).trans rfl
            simp only [Instr.fieldAt]
            rw [run_bind_ok (und_run hu w)]
            have hfa : fs[i]? = some fx := by rw [← Array.getElem?_toList]; exact hf1
            simp only [hfa, Instr.sureAddr]
            refine (run_bind_ok (P := P) (x := (⟨b, off, none⟩ : Addr)) (w' := w) rfl).trans ?_
            refine (run_bind_ok (P := P) (x := (⟨b, off + o, none⟩ : Addr)) (w' := w) ?_).trans rfl
            unfold fieldPlace
            rw [run_bind_ok (size_run hf3 w), if_neg hf4, hf2, add_none]; rfl
          · cases h
        · cases h
      | _ => rw [hik] at h; simp at h
  | extract t i =>
    simp only [pure1] at h
    split at h
    · rename_i vs hx
      simp only [execOp, E hx, Instr.extract]
      rw [h]; rfl
    · cases h
  | makeFunc g first captured =>
    simp only [pure1] at h
    cases h1 : evcs l c p first.toList with
    | none => rw [h1] at h; cases h
    | some fs =>
      rw [h1] at h
      cases h2 : evcs l c p captured.toList with
      | none => rw [h2] at h; cases h
      | some cs =>
        rw [h2] at h
        simp only [Option.some.injEq] at h; subst h
        have e1 : first.map a.eval = fs.toArray := by rw [← evcs_ok hk hc hp h1, ← List.map_toArray, Array.toArray_toList]
        have e2 : captured.map a.eval = cs.toArray := by rw [← evcs_ok hk hc hp h2, ← List.map_toArray, Array.toArray_toList]
        simp only [execOp, Instr.makeFunc, e1, e2]; rfl
  | nilCheck x =>
    simp only [pure1] at h
    split at h
    · rename_i aa hx; simp only [Option.some.injEq] at h; subst h; simp only [execOp, E hx]; rfl
    · rename_i gg aa bb hx; simp only [Option.some.injEq] at h; subst h; simp only [execOp, E hx]; rfl
    · cases h
  | _ => simp [pure1] at h
end Go.Proofs.YtopjmiklpnejmaaGreatDoor.Eng
