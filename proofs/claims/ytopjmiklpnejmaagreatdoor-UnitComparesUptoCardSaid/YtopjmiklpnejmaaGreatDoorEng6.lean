/- The engine, seventh part: append; slices of slices; arithmetic; strings; a guarded step that writes. -/
import Derived.Test.YtopjmiklpnejmaaGreatDoorEng5
namespace Go.Proofs.YtopjmiklpnejmaaGreatDoor.Eng
open Go Go.RowKit
/-- what append takes: nothing, or a row of cells -/
def Src (w : World) (a : Option Addr) (m : Nat) (news : List Value) : Prop := (m = 0 ∧ news = []) ∨ ∃ b o, a = some ⟨b, o, none⟩ ∧ At w b o news
theorem append_run {P : Program} {w : World} {T e esz by' sz : Nat} {ag : Bool} {zr : List Value} (ht : tiOk P T ⟨.slice e esz by', sz, ag, zr⟩ = true) (hsz : 0 < esz) {base : Nat} {a : Option Addr} {n cap : Nat} {xs : List Value} (hO : Ow w base e esz a n cap xs)
    {ay : Option Addr} {m cy : Nat} {news : List Value} (hy : Src w ay m news) (hl : news.length = m * esz) (h1 : news.all Value.oneCell' = true) (hb : (n + m) * by' ≤ 140737488355328) (hn : n + m ≤ 1152921504606846976) (hbase : base ≤ w.heap.size) (ty : TypeId) :
    ∃ a' cap' w', (Builtin.append_ #[T, T] ty #[.slice a n cap, .slice ay m cy]).run P w = .ok (.slice a' (n + m) cap') w' ∧ Ow w' base e esz a' (n + m) cap' (xs ++ news) ∧ Ap w a w' ∧ ∀ g, a' = some ⟨g, 0, none⟩ → a = some ⟨g, 0, none⟩ ∨ w.heap.size ≤ g := by
  obtain ⟨d, x, z, hT⟩ := tiOk_und ht
  obtain ⟨rfl, hel⟩ := hT.sl _ _ _ rfl
  obtain ⟨y, zz, hyi, hys, hyb, hyz, hzc⟩ := elemOk_of hel
  rcases hy with ⟨rfl, rfl⟩ | ⟨b, o, rfl, hat⟩
  · refine ⟨a, cap, w, ?_, by simpa using hO, ⟨rfl, rfl, rfl, Nat.le_refl _, fun _ _ _ => rfl⟩, fun g hg => .inl hg⟩
    have hnc : n ≤ cap := by
      rcases hO.shape with ⟨_, rfl, rfl, _⟩ | ⟨g, cur, _, _, _, h, _⟩
      · exact Nat.le_refl _
      · exact h
    rcases hO.shape with ⟨rfl, rfl, rfl, _⟩ | ⟨g, cur, rfl, _⟩
    · cases ay <;> simp [Builtin.append_, run_underlying hT.und, sizeOf, typeInfo, hyi, Builtin.lenOf, Builtin.firstCells, loadCells, loadCellsFrom]
    · cases ay <;> simp [Builtin.append_, run_underlying hT.und, sizeOf, typeInfo, hyi, Builtin.lenOf, Builtin.firstCells, hnc, storeCells, loadCells, loadCellsFrom]
  · have hnews : ∀ j u, news[j]? = some u → w.cell? ((⟨b, o, none⟩ : Addr).add j) = some u := fun j u hu => by rw [add_none]; exact hat j u hu
    have h1' : ∀ u ∈ news, u.oneCell' = true := fun u hu => List.all_eq_true.1 h1 u hu
    have h63 : n + m ≤ maxLen := by unfold maxLen; omega
    rcases hO.shape with ⟨rfl, rfl, rfl, rfl⟩ | ⟨g, cur, rfl, hbg, hg, hnc, hcs, htk⟩
    · obtain ⟨v', w', hr, ho, hgr, hn'⟩ := run_append_own (P := P) w w.heap.size T ty _ y zz esz by' hT.und hyi hyz hys hyb hzc hsz (.slice none 0 0) 0 [] (World.ownsRow_nil w w.heap.size _ esz) ⟨b, o, none⟩ m cy news hl hnews h1' h63 hb (Nat.le_refl _)
      rcases ho.2 with ⟨rfl, h0⟩ | ⟨g', cap', cur', rfl, hb', _⟩
      · rw [h0]
        exact ⟨none, 0, w', hr, (Ow.mk (by rw [h0] at ho; exact ho)).base hbase, Ap.of_grown hgr (.inl rfl), fun g hg => by cases hg⟩
      · refine ⟨_, _, w', hr, (Ow.mk ho).base hbase, Ap.of_grown hgr (.inl rfl), fun g hg => ?_⟩
        simp only [Option.some.injEq, Addr.mk.injEq, and_true] at hg
        exact .inr (hg ▸ hb')
    · obtain ⟨v', w', hr, ho, hgr, hn'⟩ := run_append_own (P := P) w base T ty _ y zz esz by' hT.und hyi hyz hys hyb hzc hsz _ n xs hO.own ⟨b, o, none⟩ m cy news hl hnews h1' h63 hb hbase
      rcases ho.2 with ⟨rfl, h0⟩ | ⟨g', cap', cur', rfl, hb', hrest⟩
      · exfalso
        have := hn'.1 rfl
        simp at this
      · refine ⟨_, _, w', hr, ⟨ho⟩, Ap.of_grown hgr (.inr ⟨g, rfl⟩), fun i hi => ?_⟩
        simp only [Option.some.injEq, Addr.mk.injEq, and_true] at hi
        subst hi
        by_cases hroom : n + m ≤ cap
        · have hfit : n * y.size + news.length ≤ cur.size := by rw [hl, hcs, hys, ← Nat.add_mul]; exact Nat.mul_le_mul_right _ hroom
          have hr2 := run_append_room (P := P) w T ty _ y hT.und hyi g n cap cur hg ⟨b, o, none⟩ m cy news (by rw [hys]; exact hl) hnews h1' hroom hfit
          rw [hr2] at hr
          simp only [Result.ok.injEq, Value.slice.injEq, Option.some.injEq, Addr.mk.injEq] at hr
          left; rw [← hr.1.1.1]
        · have hr2 := run_append_grow (P := P) w T ty _ y zz hT.und hyi hyz ⟨g, 0, none⟩ n cap xs (by rw [hys]; exact hO.len) (hO.own.cells (g := g) rfl) ⟨b, o, none⟩ m cy news (by rw [hys]; exact hl) hnews (by omega) (by omega) (growslice_fits (by omega) (by rw [hyb]; exact hb))
          rw [hr2] at hr
          simp only [Result.ok.injEq, Value.slice.injEq, Option.some.injEq, Addr.mk.injEq] at hr
          right; rw [← hr.1.1.1]; exact Nat.le_refl _
section
variable {C : Cx} {s : St} {w : World}
/-- append -/
theorem ap {md : Option Md} {ops : Array Oper} {T T' : TypeId} {x y : Operand} {d : Nat} {ty : TypeId} {pos : String} {af : Array Edge} {g : Option (Nat × Bool)} {rest : List Oper} {k : List Item} {l : Env} {c : CEnv} {e esz by' sz : Nat} {ag : Bool} {zr : List Value}
    {base : Nat} {a : Option Addr} {n cap : Nat} {xs : List Value} {ay : Option Addr} {m cy : Nat} {news : List Value} (hO : Ow w base e esz a n cap xs) (hsrc : Src w ay m news) (hbase : base ≤ w.heap.size)
    (h : ∀ a' cap' w', Ow w' base e esz a' (n + m) cap' (xs ++ news) → Ap w a w' → (∀ g, a' = some ⟨g, 0, none⟩ → a = some ⟨g, 0, none⟩ ∨ w.heap.size ≤ g) → Wk C (.reg md ops rest k ((d, .slice a' (n + m) cap') :: l) c) w')
    (hs : adv C.tab C.n C.ks 400 s = .opn md ops ⟨some d, .call ⟨.builtin .append, #[x, y], #[T, T']⟩, ty, pos, af, g⟩ rest k l c [] := by rfl) (ht : C.tab.at T = some ⟨.slice e esz by', sz, ag, zr⟩ := by rfl)
    (hx : evc l c [] x = some (.slice a n cap) := by rfl) (hy : evc l c [] y = some (.slice ay m cy) := by rfl) (hTT : T' = T := by rfl) (hsz : Nat.blt 0 esz = true := by rfl) (hl : news.length = m * esz := by first | rfl | (simp; done) | omega) (h1 : news.all Value.oneCell' = true := by first | rfl | (simp; done))
    (hb : (n + m) * by' ≤ 140737488355328 := by omega) (hn : n + m ≤ 1152921504606846976 := by omega) (hf : fresh d l c [] = true := by rfl) (hm : ∀ w', Ap w a w' → mdW md w w' := by intros; exact True.intro) (hnt : notT md = true := by rfl) : Wk C s w := by
  subst hTT
  refine by_adv hs ⟨fun hT hfn => ?_⟩
  obtain ⟨a', cap', w', hr, hO', hap, hfr⟩ := append_run (tab_at hT ht) (blt_lt hsz) hO hsrc hl h1 hb hn hbase ty (cy := cy)
  refine (op_val0 (okW_of rfl hnt) (hm _ hap) (fun _ a hA => ?_) (h a' cap' w' hO' hap hfr) rfl hf).run hT hfn
  simp only [execOp, resolve, List.map_toArray, List.map_cons, List.map_nil, evc_ok hA.k hA.kc.c (p := []) trivial hx, evc_ok hA.k hA.kc.c (p := []) trivial hy]
  show (Sem.bind (Sem.pure _) _).run C.P w = _
  simp only [Sem.bind, invoke, builtin]
  exact (run_bind_ok hr).trans rfl
theorem apS {S : Nat → Prop} {t : Nat} {a : Option Addr} (ha : ∀ g, a = some ⟨g, 0, none⟩ → ¬ S g) : ∀ w', Ap w a w' → mdW (some (.h S t)) w w' := fun _ h => Kp.sub h.kp fun i hi e => ha i e hi
/-- a return, the result lying in a block -/
theorem rtc {k : List Item} {l : Env} {dd : Nat} {t : TypeId} {tk : TK} {sz : Nat} {zr : List Value} {b o : Nat} {cs : List Value} (hc : At w b o cs) (hq : C.Q (.agg cs.toArray) w) (hs : adv C.tab C.n C.ks 400 s = .code (.code .ret :: k) l := by rfl)
    (ho : C.fn.results = #[.cell dd t] := by rfl) (ht : C.tab.at t = some ⟨tk, sz, true, zr⟩ := by rfl) (hl : cs.length = sz := by rfl) (hx : look l dd = some (.pointer (some ⟨b, o, none⟩)) := by rfl) : Wk C s w :=
  by_adv hs ⟨fun hT hf a hA => fin hf (by
    unfold results
    rw [ho]
    have e : a.tmps.getD dd undef = .pointer (some ⟨b, o, none⟩) := hA.k _ _ hx
    have e2 : (loadVar t ⟨b, o, none⟩).run C.P w = .ok (.agg cs.toArray) w := loadVar_agg (tab_at hT ht) hc hl
    simp only [List.mapM_toArray, List.mapM_cons, List.mapM_nil, e, asAddr]
    have e3 : (do let x ← (do let p ← (pure (⟨b, o, none⟩ : Addr) : Sem Addr); loadVar t p); let y ← (pure [] : Sem (List Value)); pure (x :: y) : Sem (List Value)).run C.P w = .ok [.agg cs.toArray] w := (run_bind_ok e2).trans rfl
    refine (run_bind_ok (P := C.P) (x := #[.agg cs.toArray]) (w' := w) ?_).trans rfl
    exact (run_bind_ok e3).trans rfl) hA.defers hq (fun _ => step_ret)⟩
end
end Go.Proofs.YtopjmiklpnejmaaGreatDoor.Eng
