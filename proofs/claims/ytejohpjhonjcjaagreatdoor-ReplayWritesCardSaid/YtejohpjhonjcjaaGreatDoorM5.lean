import Derived.Test.YtejohpjhonjcjaaGreatDoorM4
import Derived.Laws.Externs
import Derived.AtR
import Derived.RangeFuncIn
/- A runner, sixth part: slices of slices; maps. No program stands here. -/
namespace Go.Proofs.YtejohpjhonjcjaaGreatDoor.Zr
open Go Go.RowKit Eng
section
variable {P : Program} {w0 : Cxt} {R : Ren} {h : AH} {w : World}
/-- an operand that may be missing -/
inductive OVR (R : Ren) : Option AV → Option Value → Prop
  | none : OVR R none none
  | some {v : AV} {x : Value} (k : VR R v x) : OVR R (some v) (some x)
def bnd : Option AV → Option (Option Nat)
  | none => some none
  | some (.int _ (.ofNat n)) => some (some n)
  | _ => none
inductive OVN : Option Nat → Option Value → Prop
  | none : OVN none none
  | some (k : IntKind) (n : Nat) : OVN (some n) (some (.int k (Int.ofNat n)))
theorem bnd_ok {a : Option AV} {x : Option Value} {n : Option Nat} (ha : OVR R a x) (e : bnd a = some n) : OVN n x := by
  cases ha with
  | none => simp only [bnd, Option.some.injEq] at e; subst e; exact .none
  | some k => cases k <;> simp only [bnd] at e <;> first
    | (cases e; done)
    | (split at e <;> first
        | (rename_i q; cases q; done)
        | (cases e; done)
        | (rename_i q; cases q; simp only [Option.some.injEq] at e; subst e; exact .some _ _))
def sbA (len cap : Nat) (lo hi mx : Option Nat) : Option (Nat × Nat × Nat) := match mx with
  | none => match hi with
    | none => match lo with
      | none => some (0, len, cap)
      | some l => match Nat.ble l len with
        | true => some (l, len, cap)
        | false => none
    | some h => match Nat.ble h cap with
      | true => match lo with
        | none => some (0, h, cap)
        | some l => match Nat.ble l h with
          | true => some (l, h, cap)
          | false => none
      | false => none
  | some m => match hi with
    | none => none
    | some h => match Nat.ble m cap && Nat.ble h m with
      | true => match lo with
        | none => some (0, h, m)
        | some l => match Nat.ble l h with
          | true => some (l, h, m)
          | false => none
      | false => none
theorem bound_run {k : IntKind} {n y : Nat} {c : BoundsCode} (e : n ≤ y) : (Instr.sliceBound (.int k (Int.ofNat n)) y c).run P w = .ok n w := by
  unfold Instr.sliceBound
  rw [run_bind_ok (show (asIntOf (.int k (Int.ofNat n))).run P w = .ok (k, (n : Int)) w from rfl)]
  simp only
  rw [if_pos ⟨by omega, by omega⟩, Int.toNat_natCast]; rfl
theorem sb_run {s : Bool} {len cap : Nat} {lo hi mx : Option Nat} {lo' hi' mx' : Option Value} {r : Nat × Nat × Nat} (h1 : OVN lo lo') (h2 : OVN hi hi') (h3 : OVN mx mx') (e : sbA len cap lo hi mx = some r) : (Instr.sliceBounds s len cap lo' hi' mx').run P w = .ok r w := by
  unfold Instr.sliceBounds
  cases h3 with
  | none =>
    simp only [sbA] at e
    rw [run_bind_ok (show (pure cap : Sem Nat).run P w = .ok cap w from rfl)]
    cases h2 with
    | none =>
      simp only at e
      rw [run_bind_ok (show (pure len : Sem Nat).run P w = .ok len w from rfl)]
      cases h1 with
      | none =>
        simp only [Option.some.injEq] at e; subst e
        rw [run_bind_ok (show (pure 0 : Sem Nat).run P w = .ok 0 w from rfl)]; rfl
      | some k l =>
        simp only at e
        split at e <;> try (cases e; done)
        rename_i hl
        simp only [Option.some.injEq] at e; subst e
        rw [run_bind_ok (bound_run (Nat.le_of_ble_eq_true hl))]; rfl
    | some k2 hh =>
      simp only at e
      split at e <;> try (cases e; done)
      rename_i hc
      rw [run_bind_ok (bound_run (Nat.le_of_ble_eq_true hc))]
      cases h1 with
      | none =>
        simp only [Option.some.injEq] at e; subst e
        rw [run_bind_ok (show (pure 0 : Sem Nat).run P w = .ok 0 w from rfl)]; rfl
      | some k l =>
        simp only at e
        split at e <;> try (cases e; done)
        rename_i hl
        simp only [Option.some.injEq] at e; subst e
        rw [run_bind_ok (bound_run (Nat.le_of_ble_eq_true hl))]; rfl
  | some k3 m =>
    simp only [sbA] at e
    cases h2 with
    | none => cases e
    | some k2 hh =>
      simp only at e
      split at e <;> try (cases e; done)
      rename_i hc
      rw [Bool.and_eq_true] at hc
      rw [run_bind_ok (bound_run (Nat.le_of_ble_eq_true hc.1))]
      rw [run_bind_ok (bound_run (Nat.le_of_ble_eq_true hc.2))]
      cases h1 with
      | none =>
        simp only [Option.some.injEq] at e; subst e
        rw [run_bind_ok (show (pure 0 : Sem Nat).run P w = .ok 0 w from rfl)]; rfl
      | some k l =>
        simp only at e
        split at e <;> try (cases e; done)
        rename_i hl
        simp only [Option.some.injEq] at e; subst e
        rw [run_bind_ok (bound_run (Nat.le_of_ble_eq_true hl))]; rfl
theorem ble_trans {a b c : Nat} (h1 : Nat.ble a b = true) (h2 : b ≤ c) : Nat.ble a c = true := Nat.ble_eq_true_of_le (Nat.le_trans (Nat.le_of_ble_eq_true h1) h2)
theorem sb_more {len cap l hh m : Nat} {lo hi : Option Nat} (hc : len ≤ cap) (e : sbA len len lo hi none = some (l, hh, m)) : sbA len cap lo hi none = some (l, hh, cap) ∧ l ≤ hh ∧ hh ≤ len := by
  cases hi with
  | none => cases lo with
    | none => simp only [sbA, Option.some.injEq, Prod.mk.injEq] at e ⊢; obtain ⟨rfl, rfl, rfl⟩ := e; exact ⟨⟨rfl, rfl, trivial⟩, by omega, by omega⟩
    | some l' =>
      simp only [sbA] at e ⊢
      split at e <;> try (cases e; done)
      rename_i hl
      have := Nat.le_of_ble_eq_true hl
      simp only [Option.some.injEq, Prod.mk.injEq] at e ⊢; obtain ⟨rfl, rfl, rfl⟩ := e; exact ⟨⟨rfl, rfl, trivial⟩, by omega, by omega⟩
  | some h' =>
    simp only [sbA] at e ⊢
    split at e <;> try (cases e; done)
    rename_i h1
    have := Nat.le_of_ble_eq_true h1
    rw [ble_trans h1 hc]
    cases lo with
    | none => simp only [Option.some.injEq, Prod.mk.injEq] at e ⊢; obtain ⟨rfl, rfl, rfl⟩ := e; exact ⟨⟨rfl, rfl, trivial⟩, by omega, by omega⟩
    | some l' =>
      simp only at e ⊢
      split at e <;> try (cases e; done)
      rename_i hl
      have := Nat.le_of_ble_eq_true hl
      simp only [Option.some.injEq, Prod.mk.injEq] at e ⊢; obtain ⟨rfl, rfl, rfl⟩ := e; exact ⟨⟨rfl, rfl, trivial⟩, by omega, by omega⟩
theorem sb_max {len cap l hh m mx : Nat} {lo hi : Option Nat} (hc : len ≤ cap) (e : sbA len len lo hi (some mx) = some (l, hh, m)) : sbA len cap lo hi (some mx) = some (l, hh, m) ∧ m ≤ len := by
  cases hi with
  | none => simp [sbA] at e
  | some h' =>
    simp only [sbA] at e ⊢
    split at e <;> try (cases e; done)
    rename_i h1
    rw [Bool.and_eq_true] at h1
    have := Nat.le_of_ble_eq_true h1.1
    rw [ble_trans h1.1 hc, h1.2]
    simp only [Bool.and_self]
    cases lo with
    | none => simp only [Option.some.injEq, Prod.mk.injEq] at e ⊢; omega
    | some l' =>
      simp only at e ⊢
      split at e <;> try (cases e; done)
      rename_i hl
      simp only [Option.some.injEq, Prod.mk.injEq] at e ⊢; omega
def offM (m l o size : Nat) : Nat := match Nat.beq m l with
  | true => o
  | false => o + l * size
def opSlice (P : Program) (h : AH) (t : TypeId) (a : AV) (lo hi mx : Option AV) : Option (AV × AH) := match bnd lo with
  | none => none
  | some lo => match bnd hi with
    | none => none
    | some hi => match bnd mx with
      | none => none
      | some mx => match P.underlying t with
        | some (.slice el) => match P.info? el with
          | none => none
          | some i => match a with
            | .nils => match sbA 0 0 lo hi mx with
              | some _ => some (.nils, h)
              | none => none
            | .sl b o len (.ex c) => match sbA len c lo hi mx with
              | some (l, hh, m) => some (.sl b (offM m l o i.size) (hh - l) (.ex (m - l)), h)
              | none => none
            | .sl b o len (.sk k) => match mx with
              | some x => match sbA len len lo hi (some x) with
                | some (l, hh, m) => some (.sl b (offM m l o i.size) (hh - l) (.ex (m - l)), h)
                | none => none
              | none => match sbA len len lo hi none with
                | some (l, hh, _) => match l with
                  | 0 => some (.sl b o hh (.sk k), h)
                  | l + 1 => match Nat.blt (l + 1) len with
                    | true => some (.sl b (o + (l + 1) * i.size) (hh - (l + 1)) (.sk (k + (l + 1))), h)
                    | false => some (.sl h.nx 0 0 (.sk 0), h.name)
                | none => none
            | _ => none
        | some (.array n el) => match P.info? el with
          | none => none
          | some i => match a with
            | .ptr b o => match sbA n n lo hi mx with
              | some (l, hh, m) => some (.sl b (offM m l o i.size) (hh - l) (.ex (m - l)), h)
              | none => none
            | _ => none
        | some .string => match a with
          | .str s => match mx with
            | some _ => none
            | none => match sbA s.size s.size lo hi none with
              | some (l, hh, _) => some (.str (s.extract l hh), h)
              | none => none
          | _ => none
        | _ => none
theorem offM_addr {m l o size : Nat} {L : Loc} : (if m = l then (⟨L.blk, L.off + o, none⟩ : Addr) else (⟨L.blk, L.off + o, none⟩ : Addr).add (l * size)) = ⟨L.blk, L.off + offM m l o size, none⟩ := by
  unfold offM
  by_cases e : m = l
  · subst e; simp
  · have : Nat.beq m l = false := by
      cases hb : Nat.beq m l with
      | true => exact absurd (Nat.eq_of_beq_eq_true hb) e
      | false => rfl
    rw [if_neg e, this, add_none, Nat.add_assoc]
theorem Rep.name (hR : Rep w0 R h w) (L : Loc) : Sb R (R.put h.nx L) ∧ Rep w0 (R.put h.nx L) h.name w ∧ Fr R h h.name w w := by
  have hs : Sb R (R.put h.nx L) := Ren.put_sb (hR.frs _ (Nat.le_refl _))
  refine ⟨hs, ⟨?_, ?_, ?_, fun i hi => ?_, ?_, hR.bl⟩, ⟨fun _ x => x, fun _ _ _ x _ _ => ⟨x, rfl⟩⟩⟩
  · intro i o M hi hM
    have := hR.live i o hi
    unfold Ren.put at hM
    rw [if_neg (by omega)] at hM
    obtain ⟨h2, h3⟩ := hR.obj i o M hi hM
    exact ⟨h2.mono hs, h3⟩
  · intro i j oi oj Li Lj hi hj ri rj hne
    have l1 := hR.live i oi hi
    have l2 := hR.live j oj hj
    unfold Ren.put at ri rj
    rw [if_neg (by omega)] at ri rj
    exact hR.inj i j oi oj Li Lj hi hj ri rj hne
  · intro i hi
    unfold Ren.put
    rw [if_neg (by simp only [AH.name] at hi; omega)]
    exact hR.frs i (by simp only [AH.name] at hi; omega)
  · have := hR.pnd i hi
    unfold Ren.put
    rw [if_neg (by omega)]
    exact ⟨this.1, by simp only [AH.name]; omega⟩
  · intro i o hi; have := hR.live i o hi; simp only [AH.name]; omega
theorem slice_run {t el : TypeId} {i : TypeInfo} {a : Option Addr} {len cap l hh m : Nat} {lo hi mx : Option Value} (hu : P.underlying t = some (.slice el)) (hi' : P.info? el = some i) (hb : (Instr.sliceBounds true len cap lo hi mx).run P w = .ok (l, hh, m) w) :
    (Instr.sliceAt t (.slice a len cap) lo hi mx).run P w = .ok (.slice (if m = l then a else a.map (·.add (l * i.size))) (hh - l) (m - l)) w := by
  unfold Instr.sliceAt
  rw [run_bind_ok (und_run hu w)]
  simp only
  unfold Instr.slice
  rw [run_bind_ok (und_run hu w)]
  simp only
  rw [run_bind_ok hb]
  simp only
  rw [run_bind_ok (size_run hi' w)]; rfl
theorem opSlice_ok (hR : Rep w0 R h w) {t : TypeId} {a v : AV} {lo hi mx : Option AV} {x : Value} {lo' hi' mx' : Option Value} {h' : AH} (ha : VR R a x) (h1 : OVR R lo lo') (h2 : OVR R hi hi') (h3 : OVR R mx mx') (e : opSlice P h t a lo hi mx = some (v, h')) : Ef P w0 R w h (Instr.sliceAt t x lo' hi' mx') v h' := by
  unfold opSlice at e
  split at e <;> try (cases e; done)
  rename_i lo hlo
  split at e <;> try (cases e; done)
  rename_i hi hhi
  split at e <;> try (cases e; done)
  rename_i mx hmx
  have b1 := bnd_ok h1 hlo
  have b2 := bnd_ok h2 hhi
  have b3 := bnd_ok h3 hmx
  split at e
  · rename_i el hu
    split at e <;> try (cases e; done)
    rename_i i hi0
    split at e
    · split at e <;> try (cases e; done)
      rename_i r hr
      obtain ⟨l, hh, m⟩ := r
      simp only [Option.some.injEq, Prod.mk.injEq] at e
      obtain ⟨rfl, rfl⟩ := e
      cases ha
      have hz : l = 0 ∧ hh = 0 ∧ m = 0 := by
        cases mx with
        | none => have := sb_more (Nat.le_refl 0) hr
                  rw [hr] at this; simp only [Option.some.injEq, Prod.mk.injEq] at this; omega
        | some y => have := sb_max (Nat.le_refl 0) hr
                    cases hi with
                    | none => simp [sbA] at hr
                    | some h0 =>
                      simp only [sbA] at hr
                      split at hr <;> try (cases hr; done)
                      rename_i hc
                      rw [Bool.and_eq_true] at hc
                      have c1 := Nat.le_of_ble_eq_true hc.1
                      have c2 := Nat.le_of_ble_eq_true hc.2
                      split at hr
                      · simp only [Option.some.injEq, Prod.mk.injEq] at hr; omega
                      · split at hr <;> try (cases hr; done)
                        rename_i hl
                        have c3 := Nat.le_of_ble_eq_true hl
                        simp only [Option.some.injEq, Prod.mk.injEq] at hr; omega
      obtain ⟨rfl, rfl, rfl⟩ := hz
      exact Qu.ef hR ⟨_, slice_run hu hi0 (sb_run b1 b2 b3 hr), .nils⟩
    · rename_i b o len c
      split at e <;> try (cases e; done)
      rename_i l hh m hr
      simp only [Option.some.injEq, Prod.mk.injEq] at e
      obtain ⟨rfl, rfl⟩ := e
      cases ha with
      | slx _ _ _ hL =>
        rename_i L
        refine Qu.ef hR ⟨_, slice_run hu hi0 (sb_run b1 b2 b3 hr), ?_⟩
        have := VR.slx (R := R) (offM m l o i.size) (hh - l) (m - l) hL
        rw [← offM_addr] at this
        by_cases q : m = l
        · rw [if_pos q] at this ⊢; exact this
        · rw [if_neg q] at this ⊢; exact this
    · rename_i b o len k
      cases ha with
      | sls _ _ _ hL hn =>
        rename_i L
        split at e
        · split at e <;> try (cases e; done)
          rename_i y l hh m hr
          simp only [Option.some.injEq, Prod.mk.injEq] at e
          obtain ⟨rfl, rfl⟩ := e
          obtain ⟨q1, q2⟩ := sb_max hn hr
          refine Qu.ef hR ⟨_, slice_run hu hi0 (sb_run b1 b2 b3 q1), ?_⟩
          have := VR.slx (R := R) (offM m l o i.size) (hh - l) (m - l) hL
          rw [← offM_addr] at this
          by_cases q : m = l
          · rw [if_pos q] at this ⊢; exact this
          · rw [if_neg q] at this ⊢; exact this
        · split at e <;> try (cases e; done)
          rename_i l hh m hr
          obtain ⟨q1, q2, q3⟩ := sb_more hn hr
          have hrun := slice_run (w := w) (a := some ⟨L.blk, L.off + o, none⟩) hu hi0 (sb_run b1 b2 b3 q1)
          split at e
          · simp only [Option.some.injEq, Prod.mk.injEq] at e
            obtain ⟨rfl, rfl⟩ := e
            refine Qu.ef hR ⟨_, hrun, ?_⟩
            have := VR.sls (R := R) o hh k hL (by omega)
            simp only [Nat.sub_zero]
            by_cases q : L.cap - k = 0
            · rw [if_pos q]; exact this
            · rw [if_neg q]; simp only [Option.map_some, add_none, Nat.zero_mul, Nat.add_zero]; exact this
          · rename_i l
            split at e
            · rename_i hlt
              have hlt := blt_lt hlt
              simp only [Option.some.injEq, Prod.mk.injEq] at e
              obtain ⟨rfl, rfl⟩ := e
              refine Qu.ef hR ⟨_, hrun, ?_⟩
              have := VR.sls (R := R) (o + (l + 1) * i.size) (hh - (l + 1)) (k + (l + 1)) hL (by omega)
              rw [if_neg (by omega)]
              simp only [Option.map_some, add_none]
              rw [Nat.add_assoc, Nat.sub_sub]; exact this
            · rename_i hlt
              have hlt : ¬ (l + 1 < len) := fun q => by rw [show Nat.blt (l + 1) len = true by rw [Nat.blt_eq]; exact q] at hlt; cases hlt
              simp only [Option.some.injEq, Prod.mk.injEq] at e
              obtain ⟨rfl, rfl⟩ := e
              have hhl : hh = l + 1 := by omega
              subst hhl
              obtain ⟨n1, n2, n3⟩ := hR.name ⟨L.blk, L.off + offM (L.cap - k) (l + 1) o i.size, L.cap - k - (l + 1)⟩
              refine ⟨_, _, w, hrun, n1, n2, ?_, n3⟩
              have := skSl (R := R.put h.nx ⟨L.blk, L.off + offM (L.cap - k) (l + 1) o i.size, L.cap - k - (l + 1)⟩) (Ren.put_self ..) (n := 0) (Nat.zero_le _)
              simp only [Nat.succ_eq_add_one, Nat.sub_self] at this ⊢
              rw [← offM_addr] at this
              by_cases q : L.cap - k = l + 1
              · rw [if_pos q] at this ⊢; exact this
              · rw [if_neg q] at this ⊢; exact this
    · cases e
  · rename_i n el hu
    split at e <;> try (cases e; done)
    rename_i i hi0
    split at e <;> try (cases e; done)
    rename_i b o
    split at e <;> try (cases e; done)
    rename_i l hh m hr
    simp only [Option.some.injEq, Prod.mk.injEq] at e
    obtain ⟨rfl, rfl⟩ := e
    cases ha with
    | ptr _ hL =>
      rename_i L
      refine Qu.ef hR ⟨_, ?_, VR.slx (R := R) (offM m l o i.size) (hh - l) (m - l) hL⟩
      unfold Instr.sliceAt
      rw [run_bind_ok (und_run hu w)]
      simp only
      rw [run_bind_ok (show (Instr.sureAddr (.pointer (some (⟨L.blk, L.off + o, none⟩ : Addr)))).run P w = .ok ⟨L.blk, L.off + o, none⟩ w from rfl)]
      rw [run_bind_ok (sb_run b1 b2 b3 hr)]
      simp only
      rw [run_bind_ok (size_run hi0 w), offM_addr]; rfl
  · rename_i hu
    split at e <;> try (cases e; done)
    rename_i s
    split at e <;> try (cases e; done)
    split at e <;> try (cases e; done)
    rename_i l hh m hr
    simp only [Option.some.injEq, Prod.mk.injEq] at e
    obtain ⟨rfl, rfl⟩ := e
    cases ha
    cases b3
    refine Qu.ef hR ⟨_, ?_, .str (s.extract l hh)⟩
    unfold Instr.sliceAt
    rw [run_bind_ok (und_run hu w)]
    simp only
    unfold Instr.slice
    rw [run_bind_ok (und_run hu w)]
    simp only [Option.isSome_none]
    rw [if_neg (by decide)]
    rw [run_bind_ok (sb_run b1 b2 .none hr)]; rfl
  · cases e
end
end Go.Proofs.YtejohpjhonjcjaaGreatDoor.Zr

/- A runner, seventh part: maps and the rest. No program stands here. -/
namespace Go.Proofs.YtejohpjhonjcjaaGreatDoor.Zr
open Go Go.RowKit Eng
section
variable {P : Program} {w0 : Cxt} {R : Ren} {h : AH} {w : World}
def rowO : Obj → Bool
  | .cells .. => true
  | _ => false
theorem getObj_run {b : Nat} {o : Obj} (hb : w.heap[b]? = some o) (hc : rowO o = false) : (getObj b).run P w = .ok o w := by
  cases o <;> first
    | (simp [rowO] at hc; done)
    | simp [getObj, Sem.run, hb]
theorem setObj_run {b : Nat} {o o' : Obj} (hb : w.heap[b]? = some o) (hc : rowO o = false) : (setObj b o').run P w = .ok () { w with heap := w.heap.setIfInBounds b o' } := by
  cases o <;> first
    | (simp [rowO] at hc; done)
    | simp [setObj, Sem.run, hb]
theorem setObj_wr (w : World) (b : Nat) (o : Obj) : Wr w b { w with heap := w.heap.setIfInBounds b o } :=
  ⟨rfl, rfl, rfl, by simp, fun k hk => by simp only [Array.getElem?_setIfInBounds]; rw [if_neg (Ne.symm hk)]⟩
theorem setObj_get {b : Nat} {o : Obj} (hb : b < w.heap.size) : ({ w with heap := w.heap.setIfInBounds b o } : World).heap[b]? = some o := by
  simp [hb]
theorem Rp.map (hR : Rp R h w) {r clock : Nat} {es : List (AV × AV × Nat)} {L : Loc} (hr : h.o.get r = some (.map es clock)) (hL : R r = some L) : ∃ L xs, R r = some L ∧ w.heap[L.blk]? = some (.map (List.toArray xs) clock) ∧ ER R es xs := by
  obtain ⟨xs, h2, h3⟩ := hR r _ L hr hL
  exact ⟨L, xs, hL, h2, h3⟩
theorem Rep.map (hR : Rep w0 R h w) {r clock : Nat} {es : List (AV × AV × Nat)} {L : Loc} (hr : h.o.get r = some (.map es clock)) (hL : R r = some L) : ∃ L xs, R r = some L ∧ w.heap[L.blk]? = some (.map (List.toArray xs) clock) ∧ ER R es xs := Rp.map hR.rp hr hL
theorem ER.len : ∀ {es : List (AV × AV × Nat)} {xs : List MapEntry}, ER R es xs → xs.length = es.length
  | _, _, .nil => rfl
  | _, _, .cons _ _ k => by simp [ER.len k]
theorem ER.empty {es : List (AV × AV × Nat)} {xs : List MapEntry} (k : ER R es xs) : xs.toArray.isEmpty = es.isEmpty := by cases k <;> rfl
def findA (d : TypeDesc) (k : Value) : List (AV × AV × Nat) → Nat → Option (Option (Nat × AV))
  | [], _ => some none
  | (key, v, _) :: es, i => match sv1 key with
    | some kx => match Instr.sameNow d k kx with
      | some true => some (some (i, v))
      | some false => findA d k es (i + 1)
      | none => none
    | none => none
def FR (R : Ren) : Option (Nat × AV) → Option (Nat × Value) → Prop
  | none, r => r = none
  | some (i, v), r => ∃ x, r = some (i, x) ∧ VR R v x
theorem findA_ok {d : TypeDesc} {k : Value} : ∀ {es : List (AV × AV × Nat)} {xs : List MapEntry} {i : Nat} {r : Option (Nat × AV)}, ER R es xs → findA d k es i = some r → ∃ r', Instr.findNow d k xs i = some r' ∧ FR R r r'
  | _, _, i, r, .nil, e => by simp only [findA, Option.some.injEq] at e; subst e; exact ⟨none, rfl, rfl⟩
  | _, _, i, r, .cons hk hv hes, e => by
    simp only [findA] at e
    split at e <;> try (cases e; done)
    rename_i kx hkx
    have := sv1_ok hkx hk; subst this
    simp only [Instr.findNow]
    split at e
    · rename_i hs
      rw [hs]
      simp only [Option.some.injEq] at e; subst e
      exact ⟨_, rfl, _, rfl, hv⟩
    · rename_i hs
      rw [hs]
      exact findA_ok hes e
    · cases e
theorem find_run {kt : TypeId} {d : TypeDesc} {k : Value} {es : List (AV × AV × Nat)} {xs : List MapEntry} {r : Option (Nat × AV)} (hu : P.underlying kt = some d) (he : ER R es xs) (e : findA d k es 0 = some r) :
    ∃ r', (Instr.findKey kt k xs).run P w = .ok r' w ∧ FR R r r' := by
  obtain ⟨r', h1, h2⟩ := findA_ok he e
  refine ⟨r', ?_, h2⟩
  unfold Instr.findKey
  rw [run_bind_ok (und_run hu w), h1]; rfl
def isUnit : Option Unit → Bool
  | some _ => true
  | none => false
theorem isUnit_ok {o : Option Unit} (h : isUnit o = true) : o = some () := by cases o <;> first | rfl | (cases h)
/-- the entries of a map -/
def entA (h : AH) : AV → Option (List (AV × AV × Nat))
  | .nilm => some []
  | .map r => match h.o.get r with
    | some (.map es _) => some es
    | _ => none
  | _ => none
def opLookup (P : Program) (h : AH) (t : TypeId) (m k : AV) (ok : Bool) : Option AV := match P.underlying t with
  | some (.map kt el) => match entA h m with
    | none => none
    | some es => match sv1 k with
      | none => none
      | some kx => match isUnit (runP P 20 (Instr.checkKey es.isEmpty 10000 kt kx)) with
        | false => none
        | true => match P.underlying kt with
          | none => none
          | some d => match findA d kx es 0 with
            | none => none
            | some (some (_, v)) => match ok with
              | true => some (.tup [v, .bool true])
              | false => some v
            | some none => match P.info? el with
              | none => none
              | some i => match i.zero with
                | none => none
                | some z => match cv z with
                  | none => none
                  | some v => match ok with
                    | true => some (.tup [v, .bool false])
                    | false => some v
  | _ => none
theorem opLookup_ok (hR : Rp R h w) {t : TypeId} {m k v : AV} {x y : Value} {ok : Bool} (hm : VR R m x) (hk : VR R k y) (e : opLookup P h t m k ok = some v) : Qu P R w (Instr.lookup t x y ok) v := by
  unfold opLookup at e
  split at e <;> try (cases e; done)
  rename_i kt el hu
  split at e <;> try (cases e; done)
  rename_i es hes
  split at e <;> try (cases e; done)
  rename_i kx hkx
  have := sv1_ok hkx hk; subst this
  split at e <;> try (cases e; done)
  rename_i hck
  have hck := isUnit_ok hck
  split at e <;> try (cases e; done)
  rename_i d hd
  have hent : ∃ xs : List MapEntry, ER R es xs ∧ ∀ (kk : Array MapEntry → Sem Value), (Instr.lookup t x y ok).run P w = (do
      Instr.checkKey xs.toArray.isEmpty 10000 kt y
      let (v, okk) ← match ← Instr.findKey kt y xs with
        | some (_, v) => pure (v, true)
        | none => pure (← zeroValue el, false)
      pure (if ok then .tuple #[v, .bool okk] else v) : Sem Value).run P w := by
    cases hm <;> simp only [entA] at hes <;> try (cases hes; done)
    · simp only [Option.some.injEq] at hes; subst hes
      refine ⟨[], .nil, fun _ => ?_⟩
      unfold Instr.lookup
      rw [run_bind_ok (und_run hu w)]; rfl
    · rename_i r L hL
      split at hes <;> try (cases hes; done)
      rename_i es' clock hr
      simp only [Option.some.injEq] at hes; subst hes
      obtain ⟨L', xs, g1, g2, g3⟩ := hR.map hr hL
      rw [hL] at g1; cases g1
      refine ⟨xs, g3, fun _ => ?_⟩
      unfold Instr.lookup
      rw [run_bind_ok (und_run hu w)]
      simp only
      rw [run_bind_ok (getObj_run g2 rfl)]; rfl
  obtain ⟨xs, hE, hrun⟩ := hent
  have hrun := hrun (fun _ => pure .nilFunc)
  have hc := runP_ok hck w
  rw [← hE.empty] at hc
  split at e
  · cases e
  · rename_i i0 v0 hf
    obtain ⟨r', f1, f2⟩ := find_run (P := P) (w := w) hd hE hf
    obtain ⟨z, rfl, hz⟩ := f2
    rw [run_bind_ok hc, run_bind_ok f1] at hrun
    cases ok with
    | true => simp only [Option.some.injEq] at e; subst e; exact ⟨_, hrun, .tup (.cons hz (.cons (.bool true) .nil))⟩
    | false => simp only [Option.some.injEq] at e; subst e; exact ⟨_, hrun, hz⟩
  · rename_i hf
    obtain ⟨r', f1, f2⟩ := find_run (P := P) (w := w) hd hE hf
    have : r' = none := f2
    subst this
    split at e <;> try (cases e; done)
    rename_i i hi
    split at e <;> try (cases e; done)
    rename_i z hz
    split at e <;> try (cases e; done)
    rename_i zv hzv
    rw [run_bind_ok hc, run_bind_ok f1] at hrun
    simp only at hrun
    rw [run_bind_ok (zeroV_run hi hz w), run_bind_ok (show (pure (z, false) : Sem (Value × Bool)).run P w = .ok (z, false) w from rfl)] at hrun
    cases ok with
    | true => simp only [Option.some.injEq] at e; subst e; exact ⟨_, hrun, .tup (.cons (cv_ok hzv) (.cons (.bool false) .nil))⟩
    | false => simp only [Option.some.injEq] at e; subst e; exact ⟨_, hrun, cv_ok hzv⟩
def setAt (es : List (AV × AV × Nat)) (i : Nat) (k v : AV) : List (AV × AV × Nat) := match es with
  | [] => []
  | (a, b, n) :: es => match i with
    | 0 => (k, v, n) :: es
    | i + 1 => (a, b, n) :: setAt es i k v
theorem setAt_ok {k v : AV} {x y : Value} (hk : VR R k x) (hv : VR R v y) : ∀ {es : List (AV × AV × Nat)} {xs : List MapEntry} {i : Nat}, ER R es xs → ER R (setAt es i k v) (xs.modify i fun e => { e with key := x, val := y })
  | _, _, i, .nil => by simp only [setAt, List.modify_nil]; exact .nil
  | _, _, 0, .cons _ _ h => by simp only [setAt, List.modify_zero_cons]; exact .cons hk hv h
  | _, _, i + 1, .cons a b h => by simp only [setAt, List.modify_succ_cons]; exact .cons a b (setAt_ok hk hv h)
theorem ER.app : ∀ {es es' : List (AV × AV × Nat)} {xs xs' : List MapEntry}, ER R es xs → ER R es' xs' → ER R (es ++ es') (xs ++ xs')
  | _, _, _, _, .nil, k => k
  | _, _, _, _, .cons a b h, k => .cons a b (ER.app h k)
def keyAt (es : List (AV × AV × Nat)) (i : Nat) : Option AV := match es with
  | [] => none
  | (a, _, _) :: es => match i with
    | 0 => some a
    | i + 1 => keyAt es i
theorem keyAt_ok : ∀ {es : List (AV × AV × Nat)} {xs : List MapEntry} {i : Nat} {k : AV}, ER R es xs → keyAt es i = some k → ∃ e : MapEntry, xs[i]? = some e ∧ VR R k e.key
  | _, _, _, _, .nil, e => by simp [keyAt] at e
  | _, _, 0, _, .cons hk _ _, e => by simp only [keyAt, Option.some.injEq] at e; subst e; exact ⟨_, rfl, hk⟩
  | _, _, i + 1, _, .cons _ _ h, e => by simp only [keyAt] at e; obtain ⟨y, h1, h2⟩ := keyAt_ok h e; exact ⟨y, by simpa using h1, h2⟩
def opMapUpdate (P : Program) (h : AH) (t : TypeId) (m k v : AV) : Option AH := match P.underlying t with
  | some (.map kt _) => match m with
    | .map r => match h.o.get r with
      | some (.map es clock) => match sv1 k with
        | none => none
        | some kx => match isUnit (runP P 20 (Instr.checkKey false 10000 kt kx)) with
          | false => none
          | true => match P.underlying kt with
            | none => none
            | some d => match findA d kx es 0 with
              | none => none
              | some (some (i, _)) => match keyAt es i with
                | none => none
                | some old => match sv1 old with
                  | none => none
                  | some ox => match Instr.sameBits 10000 ox kx with
                    | true => some (h.put r (.map (setAt es i k v) clock))
                    | false => none
              | some none => some (h.put r (.map (es ++ [(k, v, clock)]) (clock + 1)))
      | _ => none
    | _ => none
  | _ => none
theorem opMapUpdate_ok (hR : Rep w0 R h w) {t : TypeId} {m k v : AV} {x y z : Value} {h' : AH} (hm : VR R m x) (hk : VR R k y) (hv : VR R v z) (e : opMapUpdate P h t m k v = some h') : EfU P w0 R w h (Instr.mapUpdate t x y z) h' := by
  unfold opMapUpdate at e
  split at e <;> try (cases e; done)
  rename_i kt el hu
  split at e <;> try (cases e; done)
  rename_i r
  split at e <;> try (cases e; done)
  rename_i es clock hr
  split at e <;> try (cases e; done)
  rename_i kx hkx
  have := sv1_ok hkx hk; subst this
  split at e <;> try (cases e; done)
  rename_i hck
  have hck := isUnit_ok hck
  split at e <;> try (cases e; done)
  rename_i d hd
  cases hm with
  | map hL =>
    rename_i L
    obtain ⟨L', xs, g1, g2, g3⟩ := hR.map hr hL
    rw [hL] at g1; cases g1
    have hlt : L.blk < w.heap.size := (Array.getElem?_eq_some_iff.1 g2).1
    split at e
    · cases e
    · rename_i i v0 hf
      obtain ⟨r', f1, f2⟩ := find_run (P := P) (w := w) hd g3 hf
      obtain ⟨zz, rfl, hz⟩ := f2
      split at e <;> try (cases e; done)
      rename_i old hold
      split at e <;> try (cases e; done)
      rename_i ox hox
      split at e <;> try (cases e; done)
      rename_i hsb
      simp only [Option.some.injEq] at e; subst e
      obtain ⟨en, k1, k2⟩ := keyAt_ok g3 hold
      have hke := sv1_ok hox k2
      refine ⟨R, _, ?_, Sb.refl R, hR.wr hr hL (setObj_wr w L.blk (.map (xs.modify i fun e => { e with key := y, val := z }).toArray clock)) ⟨_, setObj_get hlt, setAt_ok hk hv g3⟩⟩
      unfold Instr.mapUpdate
      rw [run_bind_ok (und_run hu w)]
      simp only
      rw [run_bind_ok (getObj_run g2 rfl)]
      simp only
      rw [run_bind_ok (runP_ok hck w), run_bind_ok f1]
      simp only
      have hkey : (((xs.toArray[i]?).map (·.key)).getD y) = ox := by rw [List.getElem?_toArray, k1]; simpa using hke
      rw [hkey]
      rw [run_bind_ok (x := y) (w' := w) (by unfold Instr.keyThatStays; rw [if_pos hsb]; rfl)]
      rw [setObj_run g2 rfl]
      simp
    · rename_i hf
      obtain ⟨r', f1, f2⟩ := find_run (P := P) (w := w) hd g3 hf
      have : r' = none := f2
      subst this
      simp only [Option.some.injEq] at e; subst e
      refine ⟨R, _, ?_, Sb.refl R, hR.wr hr hL (setObj_wr w L.blk (.map (xs ++ [(⟨y, z, clock⟩ : MapEntry)]).toArray (clock + 1))) ⟨_, setObj_get hlt, g3.app (.cons hk hv .nil)⟩⟩
      unfold Instr.mapUpdate
      rw [run_bind_ok (und_run hu w)]
      simp only
      rw [run_bind_ok (getObj_run g2 rfl)]
      simp only
      rw [run_bind_ok (runP_ok hck w), run_bind_ok f1]
      simp only
      rw [setObj_run g2 rfl]
      simp
def opMakeMap (P : Program) (h : AH) (t : TypeId) (r : Option AV) : Option (AV × AH) := match r with
  | none => some (.map h.nx, h.new (.map [] 0))
  | some (.int _ _) => match P.underlying t with
    | some (.map _ _) => some (.map h.nx, h.new (.map [] 0))
    | _ => none
  | _ => none
theorem opMakeMap_new {t : TypeId} {r : Option AV} {x : Option Value} {v : AV} {h' : AH} (hr : OVR R r x) (e : opMakeMap P h t r = some (v, h')) : NewF P R w h (Instr.makeMap t x) v h' := by
  have hbl : Bl w (w.alloc (.map #[] 0)) := (Below.refl _ _).alloc (Nat.le_refl _) _
  have hget : (w.alloc (.map #[] 0)).heap[w.heap.size]? = some (.map #[] 0) := by show (w.heap.push _)[w.heap.size]? = _; simp
  have hsz : (w.alloc (.map #[] 0)).heap.size = w.heap.size + 1 := by show (w.heap.push _).size = _; simp
  have key : ∀ R', R' h.nx = some ⟨w.heap.size, 0, 0⟩ → VR R' (.map h.nx) (.map (some w.heap.size)) ∧ OR R' (.map [] 0) ⟨w.heap.size, 0, 0⟩ (w.alloc (.map #[] 0)) := fun R' k => ⟨.map (L := ⟨w.heap.size, 0, 0⟩) k, [], hget, .nil⟩
  unfold opMakeMap at e
  split at e
  · simp only [Option.some.injEq, Prod.mk.injEq] at e
    obtain ⟨rfl, rfl⟩ := e
    cases hr
    exact ⟨_, _, _, rfl, rfl, hbl, hsz, fun R' _ k => key R' k⟩
  · split at e <;> try (cases e; done)
    rename_i kt el hu
    simp only [Option.some.injEq, Prod.mk.injEq] at e
    obtain ⟨rfl, rfl⟩ := e
    cases hr with
    | some k =>
      cases k
      refine ⟨_, _, w.alloc (.map #[] 0), ?_, rfl, hbl, hsz, fun R' _ k => key R' k⟩
      unfold Instr.makeMap
      simp only
      rw [run_bind_ok (und_run hu w)]; rfl
  · cases e
def opLen (P : Program) (h : AH) (t : TypeId) (a : AV) : Option AV := match P.underlying t with
  | some .string => match a with
    | .str s => some (.int .i64 s.size)
    | _ => none
  | some (.slice _) => match a with
    | .nils => some (.int .i64 0)
    | .sl _ _ n _ => some (.int .i64 n)
    | _ => none
  | some (.array n _) => some (.int .i64 n)
  | some (.map _ _) => match entA h a with
    | some es => some (.int .i64 es.length)
    | none => none
  | _ => none
theorem opLen_ok (hR : Rp R h w) {t ty : TypeId} {a v : AV} {x : Value} (ha : VR R a x) (e : opLen P h t a = some v) : Qu P R w (Builtin.len_ #[t] ty #[x]) v := by
  unfold opLen at e
  split at e
  · rename_i hu
    split at e <;> try (cases e; done)
    simp only [Option.some.injEq] at e; subst e
    cases ha
    refine ⟨goInt _, ?_, .int _ _⟩
    unfold Builtin.len_
    simp only [List.getElem?_toArray, List.getElem?_cons_zero]
    rw [run_bind_ok (und_run hu w)]; rfl
  · rename_i el hu
    split at e <;> try (cases e; done)
    · simp only [Option.some.injEq] at e; subst e
      cases ha
      refine ⟨goInt _, ?_, .int _ _⟩
      unfold Builtin.len_
      simp only [List.getElem?_toArray, List.getElem?_cons_zero]
      rw [run_bind_ok (und_run hu w)]; rfl
    · simp only [Option.some.injEq] at e; subst e
      cases ha <;>
      (refine ⟨goInt _, ?_, .int _ _⟩
       unfold Builtin.len_
       simp only [List.getElem?_toArray, List.getElem?_cons_zero]
       rw [run_bind_ok (und_run hu w)]; rfl)
  · rename_i n el hu
    simp only [Option.some.injEq] at e; subst e
    refine ⟨goInt _, ?_, .int _ _⟩
    unfold Builtin.len_
    simp only [List.getElem?_toArray, List.getElem?_cons_zero]
    rw [run_bind_ok (und_run hu w)]; rfl
  · rename_i kt el hu
    split at e <;> try (cases e; done)
    rename_i es hes
    simp only [Option.some.injEq] at e; subst e
    cases ha <;> simp only [entA] at hes <;> try (cases hes; done)
    · simp only [Option.some.injEq] at hes; subst hes
      refine ⟨goInt _, ?_, .int _ _⟩
      unfold Builtin.len_
      simp only [List.getElem?_toArray, List.getElem?_cons_zero]
      rw [run_bind_ok (und_run hu w)]; rfl
    · rename_i r L hL
      split at hes <;> try (cases hes; done)
      rename_i es' clock hr
      simp only [Option.some.injEq] at hes; subst hes
      obtain ⟨L', xs, g1, g2, g3⟩ := hR.map hr hL
      rw [hL] at g1; cases g1
      refine ⟨goInt _, ?_, .int _ _⟩
      unfold Builtin.len_
      simp only [List.getElem?_toArray, List.getElem?_cons_zero]
      rw [run_bind_ok (und_run hu w)]
      simp only
      rw [run_bind_ok (getObj_run g2 rfl)]
      simp only [List.size_toArray, g3.len]; rfl
  · cases e
def opCap (P : Program) (t : TypeId) (a : AV) : Option AV := match P.underlying t with
  | some (.slice _) => match a with
    | .nils => some (.int .i64 0)
    | .sl _ _ _ (.ex c) => some (.int .i64 c)
    | _ => none
  | _ => none
theorem opCap_ok {t ty : TypeId} {a v : AV} {x : Value} (ha : VR R a x) (e : opCap P t a = some v) : Qu P R w (Builtin.cap_ #[t] ty #[x]) v := by
  unfold opCap at e
  split at e <;> try (cases e; done)
  rename_i el hu
  split at e <;> try (cases e; done)
  · simp only [Option.some.injEq] at e; subst e
    cases ha
    refine ⟨.int .i64 0, ?_, .int _ _⟩
    unfold Builtin.cap_
    simp only [List.getElem?_toArray, List.getElem?_cons_zero]
    rw [run_bind_ok (und_run hu w)]; rfl
  · simp only [Option.some.injEq] at e; subst e
    cases ha
    refine ⟨goInt _, ?_, .int _ _⟩
    unfold Builtin.cap_
    simp only [List.getElem?_toArray, List.getElem?_cons_zero]
    rw [run_bind_ok (und_run hu w)]; rfl
def minMax (P : Program) (b : Builtin) (args : List AV) : Option AV := match svL args with
  | some xs => match b with
    | .min => match runP P 20 (Builtin.min_ #[] 0 xs.toArray) with
      | some r => cv r
      | none => none
    | .max => match runP P 20 (Builtin.max_ #[] 0 xs.toArray) with
      | some r => cv r
      | none => none
    | _ => none
  | none => none
theorem min_ok {ts : Array TypeId} {ty : TypeId} {args : List AV} {v : AV} {xs : List Value} (ha : VL R args xs) (e : minMax P .min args = some v) : Qu P R w (Builtin.min_ ts ty xs.toArray) v := by
  unfold minMax at e
  split at e <;> try (cases e; done)
  rename_i ys hy
  have := svL_ok hy ha; subst this
  simp only at e
  split at e <;> try (cases e; done)
  rename_i r hr
  exact ⟨r, runP_ok (s := Builtin.min_ ts ty xs.toArray) hr w, cv_ok e⟩
theorem max_ok {ts : Array TypeId} {ty : TypeId} {args : List AV} {v : AV} {xs : List Value} (ha : VL R args xs) (e : minMax P .max args = some v) : Qu P R w (Builtin.max_ ts ty xs.toArray) v := by
  unfold minMax at e
  split at e <;> try (cases e; done)
  rename_i ys hy
  have := svL_ok hy ha; subst this
  simp only at e
  split at e <;> try (cases e; done)
  rename_i r hr
  exact ⟨r, runP_ok (s := Builtin.max_ ts ty xs.toArray) hr w, cv_ok e⟩
def opIface (P : Program) (t : TypeId) (a : AV) : Option AV := match P.underlying t with
  | some (.interface _) => none
  | some _ => some (.iface t a)
  | none => none
theorem opIface_ok {t : TypeId} {a v : AV} {x : Value} (ha : VR R a x) (e : opIface P t a = some v) : Qu P R w (Instr.makeInterface t x) v := by
  unfold opIface at e
  split at e <;> try (cases e; done)
  rename_i d hn hu
  simp only [Option.some.injEq] at e; subst e
  refine ⟨.iface t x, ?_, .iface ha⟩
  unfold Instr.makeInterface
  rw [run_bind_ok (und_run hu w)]
  cases d <;> first
    | rfl
    | exact absurd rfl (hn _)
def opNilCheck : AV → Option AV
  | .ptr b o => some (.ptr b o)
  | .gp g o => some (.gp g o)
  | .func f a b => some (.func f a b)
  | .yield l => some (.yield l)
  | .iface t v => some (.iface t v)
  | _ => none
def opExtract (i : Nat) : AV → Option AV
  | .tup vs => nth vs i
  | _ => none
theorem opExtract_ok {i : Nat} {a v : AV} {x : Value} (ha : VR R a x) (e : opExtract i a = some v) : Qu P R w (Instr.extract x i) v := by
  unfold opExtract at e
  split at e <;> try (cases e; done)
  cases ha with
  | tup k =>
    obtain ⟨y, h1, h2⟩ := k.nth e
    refine ⟨y, ?_, h2⟩
    simp [Instr.extract, h1]
end
end Go.Proofs.YtejohpjhonjcjaaGreatDoor.Zr

/- A runner: loops over maps. No program stands here. -/
namespace Go.Proofs.YtejohpjhonjcjaaGreatDoor.Zr
open Go Go.RowKit Eng
def opRange (P : Program) (h : AH) (t : TypeId) (a : AV) : Option (AV × AH) := match P.underlying t with
  | some (.map _ _) => match a with
    | .nilm => some (.ptr h.nx 0, h.new (.iter none 0 [] 0))
    | .map r => match h.o.get r with
      | some (.map _ clock) => some (.ptr h.nx 0, h.new (.iter (some r) clock [] clock))
      | _ => none
    | _ => none
  | _ => none
def inB : Nat → List Nat → Bool
  | _, [] => false
  | i, j :: l => match Nat.beq i j with
    | true => true
    | false => inB i l
def leftE (seen : List Nat) : List (AV × AV × Nat) → List (AV × AV × Nat)
  | [] => []
  | (k, v, n) :: es => match inB n seen with
    | true => leftE seen es
    | false => (k, v, n) :: leftE seen es
def allNew (last : Nat) : List (AV × AV × Nat) → Bool
  | [] => true
  | (_, _, n) :: es => match Nat.ble last n with
    | true => allNew last es
    | false => false
def staleE (seen : List Nat) (last : Nat) (es : List (AV × AV × Nat)) : Bool := match seen with
  | [] => false
  | _ :: _ => match es with
    | [] => false
    | _ :: _ => allNew last es
def opNext (h : AH) (a : AV) : Option (AV × AH) := match a with
  | .ptr r 0 => match h.o.get r with
    | some (.iter none _ _ _) => some (.tup [.bool false], h)
    | some (.iter (some m) since seen last) => match h.o.get m with
      | some (.map es clock) => match staleE seen last es with
        | true => none
        | false => match leftE seen es with
          | [] => some (.tup [.bool false], h)
          | (k, v, n) :: [] => match Nat.blt n since with
            | true => some (.tup [.bool true, k, v], h.put r (.iter (some m) since (seen ++ [n]) clock))
            | false => none
          | _ => none
      | _ => none
    | _ => none
  | _ => none
def findE (n : Nat) : List (AV × AV × Nat) → Option (AV × AV)
  | [] => none
  | (k, v, m) :: es => match Nat.beq m n with
    | true => some (k, v)
    | false => findE n es
def lastN : List Nat → Option Nat
  | [] => none
  | [n] => some n
  | _ :: n :: l => lastN (n :: l)
def opEntry (h : AH) (a : AV) : Option AV := match a with
  | .ptr r 0 => match h.o.get r with
    | some (.iter (some m) _ seen last) => match lastN seen with
      | some n => match h.o.get m with
        | some (.map es clock) => match Nat.beq clock last with
          | true => match findE n es with
            | some (k, v) => some (.tup [k, v])
            | none => none
          | false => none
        | _ => none
      | none => none
    | _ => none
  | _ => none
section
variable {P : Program} {w0 : Cxt} {R : Ren} {h : AH} {w : World}
theorem inB_ok : ∀ {l : List Nat} {i : Nat}, inB i l = l.contains i
  | [], i => rfl
  | j :: l, i => by
    simp only [inB, List.contains_cons]
    split
    · rename_i hb; have := Nat.eq_of_beq_eq_true hb; simp [this]
    · rename_i hb
      rw [inB_ok]
      have : (i == j) = false := by
        cases hx : (i == j) with
        | false => rfl
        | true => have := eq_of_beq hx; subst this; simp at hb
      rw [this, Bool.false_or]
theorem left_ok {seen : List Nat} : ∀ {es : List (AV × AV × Nat)} {xs : List MapEntry}, ER R es xs → ER R (leftE seen es) (xs.filter fun e => !seen.contains e.born)
  | _, _, .nil => .nil
  | _, _, .cons (n := n) hk hv h => by
    simp only [leftE, List.filter_cons]
    rw [inB_ok]
    cases seen.contains n with
    | true => simp only [Bool.not_true, Bool.false_eq_true, if_false]; exact left_ok h
    | false => simp only [Bool.not_false, if_true]; exact .cons hk hv (left_ok h)
theorem allNew_ok {last : Nat} : ∀ {es : List (AV × AV × Nat)} {xs : List MapEntry}, ER R es xs → allNew last es = xs.all fun e => decide (e.born ≥ last)
  | _, _, .nil => rfl
  | _, _, .cons (n := n) hk hv h => by
    simp only [allNew, List.all_cons]
    split
    · rename_i hb; have := Nat.le_of_ble_eq_true hb; rw [allNew_ok h]; simp [this]
    · rename_i hb
      have : ¬ last ≤ n := fun x => by rw [Nat.ble_eq_true_of_le x] at hb; cases hb
      simp [this]
theorem stale_ok {seen : List Nat} {last : Nat} {es : List (AV × AV × Nat)} {xs : List MapEntry} (h : ER R es xs) : staleE seen last es = (!seen.toArray.isEmpty && !xs.toArray.isEmpty && xs.toArray.all fun e => decide (e.born ≥ last)) := by
  cases seen with
  | nil => rfl
  | cons n l =>
    cases h with
    | nil => simp [staleE]
    | cons hk hv h => simp only [staleE]; rw [allNew_ok (.cons hk hv h)]; simp
theorem opRange_new {t : TypeId} {a v : AV} {x : Value} {h' : AH} (hR : Rp R h w) (ha : VR R a x) (e : opRange P h t a = some (v, h')) : NewF P R w h (Instr.range t x) v h' := by
  have hbl : ∀ o, Bl w (w.alloc o) := fun o => (Below.refl _ _).alloc (Nat.le_refl _) _
  have hget : ∀ o, (w.alloc o).heap[w.heap.size]? = some o := fun o => by show (w.heap.push _)[w.heap.size]? = _; simp
  have hsz : ∀ o, (w.alloc o).heap.size = w.heap.size + 1 := fun o => by show (w.heap.push _).size = _; simp
  unfold opRange at e
  split at e <;> try (cases e; done)
  rename_i kt el hu
  split at e <;> try (cases e; done)
  · simp only [Option.some.injEq, Prod.mk.injEq] at e
    obtain ⟨rfl, rfl⟩ := e
    cases ha
    refine ⟨_, _, w.alloc (.mapIter none 0 #[] 0), ?_, rfl, hbl _, hsz _, fun R' _ k => ⟨VR.ptr (L := ⟨w.heap.size, 0, 0⟩) 0 k, none, hget _, rfl, rfl⟩⟩
    unfold Instr.range
    rw [run_bind_ok (und_run hu w)]; rfl
  · rename_i r
    split at e <;> try (cases e; done)
    rename_i es clock hr
    simp only [Option.some.injEq, Prod.mk.injEq] at e
    obtain ⟨rfl, rfl⟩ := e
    cases ha with
    | map hL =>
      rename_i L
      obtain ⟨xs, g2, g3⟩ := hR r _ L hr hL
      refine ⟨_, _, w.alloc (.mapIter (some L.blk) clock #[] clock), ?_, rfl, hbl _, hsz _, fun R' s k => ⟨VR.ptr (L := ⟨w.heap.size, 0, 0⟩) 0 k, some L.blk, hget _, ⟨L, s _ _ hL, rfl⟩, rfl⟩⟩
      unfold Instr.range
      rw [run_bind_ok (und_run hu w)]
      simp only
      rw [run_bind_ok (getObj_run g2 rfl)]; rfl
theorem opNext_ok {a v : AV} {x : Value} {t : TypeId} {h' : AH} (hR : Rep w0 R h w) (ha : VR R a x) (e : opNext h a = some (v, h')) : Ef P w0 R w h (Instr.next x false t) v h' := by
  unfold opNext at e
  split at e <;> try (cases e; done)
  rename_i r
  cases ha with
  | ptr _ hL =>
    rename_i L
    split at e <;> try (cases e; done)
    · rename_i since seen last hr
      simp only [Option.some.injEq, Prod.mk.injEq] at e
      obtain ⟨rfl, rfl⟩ := e
      obtain ⟨⟨m', g1, g2, g3⟩, _⟩ := hR.obj r _ L hr hL
      cases m' with
      | some m' => cases g2
      | none =>
        refine ⟨R, _, w, ?_, Sb.refl R, hR, .tup (.cons (.bool false) .nil), Fr.refl R h w⟩
        rw [g3]
        unfold Instr.next
        simp only [Nat.zero_add]
        rw [run_bind_ok (getObj_run g1 rfl)]; rfl
    · rename_i m since seen last hr
      split at e <;> try (cases e; done)
      rename_i es clock hm
      split at e <;> try (cases e; done)
      rename_i hst
      obtain ⟨⟨m', g1, g2, g3⟩, _⟩ := hR.obj r _ L hr hL
      cases m' with
      | none => obtain ⟨M, h1, h2⟩ := g2; cases h2
      | some m' =>
        obtain ⟨M, h1, h2⟩ := g2
        cases h2
        obtain ⟨⟨xs, k1, k2⟩, _⟩ := hR.obj m _ M hm h1
        rw [stale_ok k2] at hst
        have hle := left_ok (seen := seen) k2
        have hrun : ∀ (res : Result Value), ((do
            let left := (xs.filter fun e => !seen.contains e.born).toArray
            let old := left.filter (·.born < since)
            let new := left.filter (·.born ≥ since)
            let candidates := (if old.isEmpty then #[none] else #[]) ++ (old ++ new).map some
            match candidates[← choose (.mapNext candidates.size)]? with
            | some (some e) =>
              setObj L.blk (.mapIter (some M.blk) since (seen.toArray.push e.born) clock)
              pure (.tuple #[.bool true, e.key, e.val])
            | some none => pure (.tuple #[.bool false])
            | none => stuck "Next: no such candidate" : Sem Value).run P w = res) → (Instr.next (.pointer (some ⟨L.blk, L.off + 0, none⟩)) false t).run P w = res := by
          intro res hres
          rw [g3]
          unfold Instr.next
          simp only [Nat.zero_add]
          rw [run_bind_ok (getObj_run g1 rfl)]
          simp only
          rw [run_bind_ok (getObj_run k1 rfl)]
          simp only
          rw [if_neg (by rw [hst]; decide)]
          have hf : xs.toArray.filter (fun e => !seen.toArray.contains e.born) = (xs.filter fun e => !seen.contains e.born).toArray := by simp
          rw [hf]
          exact hres
        split at e <;> try (cases e; done)
        · rename_i hl
          simp only [Option.some.injEq, Prod.mk.injEq] at e
          obtain ⟨rfl, rfl⟩ := e
          rw [hl] at hle
          generalize hys : (xs.filter fun e => !seen.contains e.born) = ys at hle hrun
          cases hle
          exact ⟨R, _, w, hrun (.ok (.tuple #[.bool false]) w) (by simp [choose, Sem.run, Question.forced]), Sb.refl R, hR, .tup (.cons (.bool false) .nil), Fr.refl R h w⟩
        · rename_i k v n hl
          split at e <;> try (cases e; done)
          rename_i hb
          have hb := blt_lt hb
          simp only [Option.some.injEq, Prod.mk.injEq] at e
          obtain ⟨rfl, rfl⟩ := e
          rw [hl] at hle
          generalize hys : (xs.filter fun e => !seen.contains e.born) = ys at hle hrun
          cases hle with
          | cons hk hv hn =>
            cases hn
            rename_i kx vx
            have hlt : L.blk < w.heap.size := (Array.getElem?_eq_some_iff.1 g1).1
            obtain ⟨r1, r2⟩ := hR.wr (o' := .iter (some m) since (seen ++ [n]) clock) hr hL (setObj_wr w L.blk (.mapIter (some M.blk) since (seen.toArray.push n) clock)) ⟨some M.blk, by rw [setObj_get hlt]; simp, ⟨M, h1, rfl⟩, g3⟩
            refine ⟨R, _, _, hrun _ ?_, Sb.refl R, r1, .tup (.cons (.bool true) (.cons hk (.cons hv .nil))), r2⟩
            have hn2 : ¬ since ≤ n := by omega
            have hc1 : (List.toArray [(⟨kx, vx, n⟩ : MapEntry)]).filter (fun e => decide (e.born < since)) = #[⟨kx, vx, n⟩] := by simp [hb]
            have hc2 : (List.toArray [(⟨kx, vx, n⟩ : MapEntry)]).filter (fun e => decide (e.born ≥ since)) = #[] := by simp [hb]
            simp only [hc1, hc2]
            rw [run_bind_ok (show (choose (Question.mapNext _)).run P w = .ok 0 w by simp [choose, Sem.run, Question.forced])]
            have hc3 : ((if (#[(⟨kx, vx, n⟩ : MapEntry)]).isEmpty = true then #[none] else #[]) ++ Array.map some (#[(⟨kx, vx, n⟩ : MapEntry)] ++ #[]))[0]? = some (some (⟨kx, vx, n⟩ : MapEntry)) := by simp
            rw [hc3]
            simp only
            rw [run_bind_ok (setObj_run g1 rfl)]
            rfl
theorem find_ok {n : Nat} : ∀ {es : List (AV × AV × Nat)} {xs : List MapEntry} {k v : AV}, ER R es xs → findE n es = some (k, v) → ∃ e, xs.find? (fun e => e.born == n) = some e ∧ VR R k e.key ∧ VR R v e.val
  | _, _, k, v, .nil, q => by simp [findE] at q
  | _, _, k, v, .cons (n := m) hk hv h, q => by
    simp only [findE] at q
    split at q
    · rename_i hb
      have := Nat.eq_of_beq_eq_true hb; subst this
      simp only [Option.some.injEq, Prod.mk.injEq] at q
      obtain ⟨rfl, rfl⟩ := q
      exact ⟨⟨_, _, _⟩, by simp; rfl, hk, hv⟩
    · rename_i hb
      obtain ⟨e, h1, h2⟩ := find_ok h q
      refine ⟨e, ?_, h2⟩
      rw [List.find?_cons]
      have : (m == n) = false := by
        cases hx : (m == n) with
        | false => rfl
        | true => have := eq_of_beq hx; subst this; simp at hb
      simp only [this]; exact h1
theorem lastN_ok : ∀ {l : List Nat} {n : Nat}, lastN l = some n → l.toArray.back? = some n
  | [], n, q => by simp [lastN] at q
  | [m], n, q => by simp only [lastN, Option.some.injEq] at q; subst q; rfl
  | m :: k :: l, n, q => by
    simp only [lastN] at q
    have := lastN_ok (l := k :: l) q
    simpa using this
theorem opEntry_ok {a v : AV} {x : Value} (hR : Rp R h w) (ha : VR R a x) (e : opEntry h a = some v) : Qu P R w (Instr.entry x) v := by
  unfold opEntry at e
  split at e <;> try (cases e; done)
  rename_i r
  cases ha with
  | ptr _ hL =>
    rename_i L
    split at e <;> try (cases e; done)
    rename_i m since seen last hr
    split at e <;> try (cases e; done)
    rename_i n hn
    split at e <;> try (cases e; done)
    rename_i es clock hm
    split at e <;> try (cases e; done)
    rename_i hc
    have hc := Nat.eq_of_beq_eq_true hc
    split at e <;> try (cases e; done)
    rename_i k v hf
    simp only [Option.some.injEq] at e; subst e
    obtain ⟨m', g1, g2, g3⟩ := hR r _ L hr hL
    cases m' with
    | none => obtain ⟨M, h1, h2⟩ := g2; cases h2
    | some m' =>
      obtain ⟨M, h1, h2⟩ := g2
      cases h2
      obtain ⟨xs, k1, k2⟩ := hR m _ M hm h1
      obtain ⟨e, f1, f2, f3⟩ := find_ok k2 hf
      refine ⟨.tuple #[e.key, e.val], ?_, .tup (.cons f2 (.cons f3 .nil))⟩
      rw [g3]
      unfold Instr.entry
      simp only [Nat.zero_add]
      rw [run_bind_ok (getObj_run g1 rfl)]
      simp only [lastN_ok hn]
      rw [run_bind_ok (getObj_run k1 rfl)]
      simp only
      rw [if_neg (by rw [hc]; simp)]
      simp only [List.find?_toArray, f1]; rfl
end
end Go.Proofs.YtejohpjhonjcjaaGreatDoor.Zr

/- A runner: append of zeros. No program stands here. -/
namespace Go.Proofs.YtejohpjhonjcjaaGreatDoor.Zr
open Go Go.RowKit Eng
section
variable {P : Program} {w0 : Cxt} {R : Ren} {h : AH} {w : World}
/-- append of a fresh row of zeros ('append(s, make([]T, n)...)') -/
def opAppendZ (P : Program) (h : AH) (T T' : TypeId) (a b : AV) : Option (AV × AH) := match P.underlying T with
  | some (.slice el) => match P.underlying T' with
    | some (.int _) => match b with
      | .int _ (.ofNat (n + 1)) => match P.info? el with
        | some i => match i.zero with
          | some z => match cvL z.cells.toList with
            | some zs => match Nat.beq zs.length i.size && Nat.blt 0 i.size with
              | true => match a with
                | .nils => match Nat.ble ((n + 1) * i.bytes) 1048576 && Nat.ble (n + 1) 1048576 with
                  | true => some (.sl h.nx 0 (n + 1) (.sk 0), mkRow h el i.size (zerosA zs (n + 1)))
                  | false => none
                | .sl bb o la (.ex c) => match Nat.ble ((la + (n + 1)) * i.bytes) 1048576 && Nat.ble (la + (n + 1)) 1048576 && Nat.blt c (la + (n + 1)) with
                  | true => match srcA h i.size (.sl bb o la (.ex c)) with
                    | some (_, olds) => some (.sl h.nx 0 (la + (n + 1)) (.sk 0), mkRow h el i.size (olds ++ zerosA zs (n + 1)))
                    | none => none
                  | false => none
                | _ => none
              | false => none
            | none => none
          | none => none
        | none => none
      | _ => none
    | _ => none
  | _ => none
theorem zeroCells_eq {z : Array Value} {n : Nat} (h : n * z.size ≠ 0) : Builtin.zeroCells z n = (zerosV z.toList n).toArray := by
  unfold Builtin.zeroCells
  have := range_zeros z.toList n (by rw [Array.length_toList]; exact h)
  simpa using this
theorem append_growZ {T T' el ty : TypeId} {k k' : IntKind} {i : TypeInfo} {z : Value} (hT : P.underlying T = some (.slice el)) (hT' : P.underlying T' = some (.int k')) (hi : P.info? el = some i) (hz : i.zero = some z)
    {base : Option Addr} {la cp n : Nat} {olds : List Value} (hx : Srd P w i.size (.slice base la cp) la olds) (hn0 : n * i.size ≠ 0) (hg : cp < la + n) (hb : (la + n) * i.bytes ≤ 140737488355328) (h63 : la + n ≤ 1152921504606846976) :
    (Builtin.append_ #[T, T'] ty #[.slice base la cp, .int k (n : Int)]).run P w = .ok (.slice (some ⟨w.heap.size, 0, none⟩) (la + n) (grownCap w (la + n) cp el)) (w.drew.alloc (.cells (olds.toArray ++ Builtin.zeroCells z.cells n ++ Builtin.zeroCells z.cells (grownCap w (la + n) cp el - (la + n))) el)) := by
  have hn : ¬ (la + n ≤ cp) := by omega
  have h63' : ¬ (9223372036854775807 < ((la : Int) + (n : Int))) := by omega
  have hfit := growslice_fits hg hb
  have h48' : ¬ (281474976710656 < Builtin.nextslicecap (la + n) cp * i.bytes) := by omega
  have hfo := hx.first w.drew rfl
  have hwr : IntKind.i64.wrap (n : Int) = n := by rw [IntKind.wrap_i64]; omega
  have hmul : n * i.bytes ≤ 140737488355328 := Nat.le_trans (Nat.mul_le_mul_right _ (Nat.le_add_left n la)) hb
  have h48 : ¬ (281474976710656 < ((n : Int) * (i.bytes : Int))) := by
    have : ((n * i.bytes : Nat) : Int) ≤ ((140737488355328 : Nat) : Int) := Int.ofNat_le.2 hmul
    rw [Int.natCast_mul] at this; omega
  have hneg : ¬ ((n : Int) < 0) := by omega
  simp [Builtin.append_, run_underlying hT, run_underlying hT', sizeOf, typeInfo, zeroValue, hi, hz, hn, h63', h48', Question.forced, hfo, newRow, grownCap, asInt, asIntOf, hwr, h48, hneg]
  exact fun q => absurd q hn0
theorem opAppendZ_ok (hR : Rep w0 R h w) {T T' ty : TypeId} {a b v : AV} {x y : Value} {h' : AH} (ha : VR R a x) (hb : VR R b y) (e : opAppendZ P h T T' a b = some (v, h')) : Ef P w0 R w h (Builtin.append_ #[T, T'] ty #[x, y]) v h' := by
  unfold opAppendZ at e
  split at e <;> try (cases e; done)
  rename_i el hT
  split at e <;> try (cases e; done)
  rename_i k' hT'
  split at e <;> try (cases e; done)
  rename_i k n
  split at e <;> try (cases e; done)
  rename_i i hi
  split at e <;> try (cases e; done)
  rename_i z hz
  split at e <;> try (cases e; done)
  rename_i zs hzs
  split at e <;> try (cases e; done)
  rename_i hc
  simp only [Bool.and_eq_true] at hc
  have c1 := Nat.eq_of_beq_eq_true hc.1
  have c2 := blt_lt hc.2
  have hv : VL R zs z.cells.toList := cvL_ok hzs
  have hl : z.cells.toList.length = i.size := by rw [hv.len, c1]
  have hzsz : z.cells.size = i.size := by rw [← hl, Array.length_toList]
  have hn0 : (n + 1) * i.size ≠ 0 := Nat.mul_ne_zero (by omega) (by omega)
  have hzc : Builtin.zeroCells z.cells (n + 1) = (zerosV z.cells.toList (n + 1)).toArray := zeroCells_eq (by rw [hzsz]; exact hn0)
  have hzl : (zerosV z.cells.toList (n + 1)).length = (n + 1) * i.size := by rw [zerosV_length, hl]
  have hzo := zeros_ok hv (n + 1)
  cases hb
  split at e <;> try (cases e; done)
  · split at e <;> try (cases e; done)
    rename_i hbd
    simp only [Bool.and_eq_true] at hbd
    have b1 := Nat.le_of_ble_eq_true hbd.1
    have b2 := Nat.le_of_ble_eq_true hbd.2
    simp only [Option.some.injEq, Prod.mk.injEq] at e
    obtain ⟨rfl, rfl⟩ := e
    cases ha
    have hx : Srd P w i.size (.slice none 0 0) 0 [] := ⟨⟨_, _, rfl⟩, by simp, fun _ _ => rfl⟩
    have hg := append_growZ (ty := ty) (k := k) hT hT' hi hz hx hn0 (by omega) (by rw [Nat.zero_add]; omega) (by omega)
    rw [hzc, nilArr] at hg
    simp only [Nat.zero_add] at hg
    obtain ⟨r1, r2, fr⟩ := hR.grown (el := el) (need := n + 1) hzo hzsz hzl 0
    exact ⟨_, _, _, hg, r1, r2, skSl (L := ⟨w.heap.size, 0, _⟩) (Ren.put_self ..) (grownCap_ge w (n + 1) 0 el), fr⟩
  · split at e <;> try (cases e; done)
    rename_i hbd
    rename_i bb o la c _
    simp only [Bool.and_eq_true] at hbd
    have b1 := Nat.le_of_ble_eq_true hbd.1.1
    have b2 := Nat.le_of_ble_eq_true hbd.1.2
    have b3 := blt_lt hbd.2
    split at e <;> try (cases e; done)
    rename_i lz olds ho
    simp only [Option.some.injEq, Prod.mk.injEq] at e
    obtain ⟨rfl, rfl⟩ := e
    obtain ⟨os, hos, hx⟩ := srcA_ok (P := P) hR.rp ha ho
    cases ha with
    | slx o la c hL =>
      have : lz = la := by obtain ⟨_, _, q⟩ := hx.sl; cases q; rfl
      subst this
      have hg := append_growZ (ty := ty) (k := k) hT hT' hi hz hx hn0 (by omega) (by omega) (by omega)
      rw [hzc, appArr os (zerosV z.cells.toList (n + 1))] at hg
      obtain ⟨r1, r2, fr⟩ := hR.grown (el := el) (need := lz + (n + 1)) (hos.app hzo) hzsz (by rw [List.length_append, hx.len, hzl]; exact (Nat.add_mul ..).symm) c
      exact ⟨_, _, _, hg, r1, r2, skSl (L := ⟨w.heap.size, 0, _⟩) (Ren.put_self ..) (grownCap_ge w (lz + (n + 1)) c el), fr⟩
def opApp (P : Program) (h : AH) (T T' : TypeId) (a b : AV) : Option (AV × AH) := match opAppend P h T T' a b with
  | some r => some r
  | none => opAppendZ P h T T' a b
theorem opApp_ok (hR : Rep w0 R h w) {T T' ty : TypeId} {a b v : AV} {x y : Value} {h' : AH} (ha : VR R a x) (hb : VR R b y) (e : opApp P h T T' a b = some (v, h')) : Ef P w0 R w h (Builtin.append_ #[T, T'] ty #[x, y]) v h' := by
  unfold opApp at e
  split at e
  · rename_i r hr
    simp only [Option.some.injEq] at e; subst e
    exact opAppend_ok hR ha hb hr
  · exact opAppendZ_ok hR ha hb e
/-- a type assertion -/
def isIfc (d : TypeDesc) : Bool := match d with
  | .interface _ => true
  | _ => false
def failA (P : Program) (t : TypeId) (ok : Bool) : Option AV := match ok with
  | false => none
  | true => match P.info? t with
    | none => none
    | some i => match i.zero with
      | none => none
      | some z => match cv z with
        | none => none
        | some v => some (.tup [v, .bool false])
def opAssert (P : Program) (t : TypeId) (ok : Bool) (a : AV) : Option AV := match P.underlying t with
  | none => none
  | some d => match isIfc d with
    | true => none
    | false => match a with
      | .iface u v => match Nat.beq u t with
        | true => match ok with
          | true => some (.tup [v, .bool true])
          | false => some v
        | false => failA P t ok
      | .nili => failA P t ok
      | _ => none
theorem failA_ok {t : TypeId} {ok : Bool} {v : AV} (e : failA P t ok = some v) : ok = true ∧ ∃ z, (zeroValue t).run P w = .ok z w ∧ VR R v (.tuple #[z, .bool false]) := by
  unfold failA at e
  split at e <;> try (cases e; done)
  split at e <;> try (cases e; done)
  rename_i i hi
  split at e <;> try (cases e; done)
  rename_i z hz
  split at e <;> try (cases e; done)
  rename_i u hu
  simp only [Option.some.injEq] at e; subst e
  exact ⟨rfl, z, zeroV_run hi hz w, .tup (.cons (cv_ok hu) (.cons (.bool false) .nil))⟩
theorem opAssert_ok {t u : TypeId} {ok : Bool} {a v : AV} {x : Value} (ha : VR R a x) (e : opAssert P t ok a = some v) : Qu P R w (Instr.typeAssert x u t ok) v := by
  unfold opAssert at e
  split at e <;> try (cases e; done)
  rename_i d hd
  split at e <;> try (cases e; done)
  rename_i hif
  split at e <;> try (cases e; done)
  · rename_i u' v'
    cases ha with
    | iface hv =>
      rename_i y
      split at e
      · rename_i hb
        have := Nat.eq_of_beq_eq_true hb; subst this
        have key : (Instr.typeAssert (.iface u' y) u u' ok).run P w = .ok (if ok then .tuple #[y, .bool true] else y) w := by
          unfold Instr.typeAssert
          rw [run_bind_ok (und_run hd w)]
          cases d <;> first
            | (simp [isIfc] at hif; done)
            | (simp only [if_true]; rfl)
        cases ok with
        | true => simp only [Option.some.injEq] at e; subst e; exact ⟨_, key, .tup (.cons hv (.cons (.bool true) .nil))⟩
        | false => simp only [Option.some.injEq] at e; subst e; exact ⟨_, key, hv⟩
      · rename_i hb
        have hne : ¬ u' = t := fun q => by rw [q] at hb; simp at hb
        obtain ⟨rfl, z, h1, h2⟩ := failA_ok (w := w) (R := R) e
        refine ⟨_, ?_, h2⟩
        unfold Instr.typeAssert
        rw [run_bind_ok (und_run hd w)]
        cases d <;> first
          | (simp [isIfc] at hif; done)
          | (simp only [if_neg hne, if_true]; rw [run_bind_ok h1]; rfl)
  · cases ha
    obtain ⟨rfl, z, h1, h2⟩ := failA_ok (w := w) (R := R) e
    refine ⟨_, ?_, h2⟩
    unfold Instr.typeAssert
    rw [run_bind_ok (und_run hd w)]
    cases d <;> first
      | (simp [isIfc] at hif; done)
      | (simp only [if_true]; rw [run_bind_ok h1]; rfl)
end
end Go.Proofs.YtejohpjhonjcjaaGreatDoor.Zr

/- A runner: a map's entry that is looked up and stored in one go. No program stands here. -/
namespace Go.Proofs.YtejohpjhonjcjaaGreatDoor.Zr
open Go Go.RowKit Eng
section
variable {P : Program} {w0 : Cxt} {R : Ren} {h : AH} {w : World}
def setKey (es : List (AV × AV × Nat)) (i : Nat) (k : AV) : List (AV × AV × Nat) := match es with
  | [] => []
  | (a, b, n) :: es => match i with
    | 0 => (k, b, n) :: es
    | i + 1 => (a, b, n) :: setKey es i k
theorem setKey_ok {k : AV} {x : Value} (hk : VR R k x) : ∀ {es : List (AV × AV × Nat)} {xs : List MapEntry} {i : Nat}, ER R es xs → ER R (setKey es i k) (xs.modify i fun e => { e with key := x })
  | _, _, i, .nil => by simp only [setKey, List.modify_nil]; exact .nil
  | _, _, 0, .cons _ hv h => by simp only [setKey, List.modify_zero_cons]; exact .cons hk hv h
  | _, _, i + 1, .cons a b h => by simp only [setKey, List.modify_succ_cons]; exact .cons a b (setKey_ok hk h)
def setVal (es : List (AV × AV × Nat)) (i : Nat) (v : AV) : List (AV × AV × Nat) := match es with
  | [] => []
  | (a, b, n) :: es => match i with
    | 0 => (a, v, n) :: es
    | i + 1 => (a, b, n) :: setVal es i v
theorem setVal_ok {v : AV} {x : Value} (hv : VR R v x) : ∀ {es : List (AV × AV × Nat)} {xs : List MapEntry} {i : Nat}, ER R es xs → ER R (setVal es i v) (xs.modify i fun e => { e with val := x })
  | _, _, i, .nil => by simp only [setVal, List.modify_nil]; exact .nil
  | _, _, 0, .cons hk _ h => by simp only [setVal, List.modify_zero_cons]; exact .cons hk hv h
  | _, _, i + 1, .cons a b h => by simp only [setVal, List.modify_succ_cons]; exact .cons a b (setVal_ok hv h)
def bornAt (es : List (AV × AV × Nat)) (i : Nat) : Option Nat := match es with
  | [] => none
  | (_, _, n) :: es => match i with
    | 0 => some n
    | i + 1 => bornAt es i
theorem bornAt_ok : ∀ {es : List (AV × AV × Nat)} {xs : List MapEntry} {i n : Nat}, ER R es xs → bornAt es i = some n → (xs[i]?).map (·.born) = some n
  | _, _, i, n, .nil, q => by simp [bornAt] at q
  | _, _, 0, n, .cons _ _ h, q => by simp only [bornAt, Option.some.injEq] at q; subst q; simp
  | _, _, i + 1, n, .cons a b h, q => by simp only [bornAt] at q; have := bornAt_ok h q; simpa using this
def bornIdx (b : Nat) : List (AV × AV × Nat) → Option Nat
  | [] => none
  | (_, _, n) :: es => match Nat.beq n b with
    | true => some 0
    | false => match bornIdx b es with
      | some i => some (i + 1)
      | none => none
theorem bornIdx_ok {b : Nat} : ∀ {es : List (AV × AV × Nat)} {xs : List MapEntry} {i : Nat}, ER R es xs → bornIdx b es = some i → xs.findIdx? (fun e => (e.born : Int) == (b : Int)) = some i
  | _, _, i, .nil, q => by simp [bornIdx] at q
  | _, _, i, .cons (n := n) hk hv h, q => by
    simp only [bornIdx] at q
    rw [List.findIdx?_cons]
    split at q
    · rename_i hb
      have := Nat.eq_of_beq_eq_true hb; subst this
      simp only [Option.some.injEq] at q; subst q
      simp
    · rename_i hb
      split at q <;> try (cases q; done)
      rename_i j hj
      simp only [Option.some.injEq] at q; subst q
      have : ((n : Int) == (b : Int)) = false := by
        cases hx : ((n : Int) == (b : Int)) with
        | false => rfl
        | true => have := eq_of_beq hx; have : n = b := by omega
                  subst this; simp at hb
      rw [this, bornIdx_ok h hj]; rfl
def zeroAV (P : Program) (t : TypeId) : Option AV := match P.info? t with
  | none => none
  | some i => match i.zero with
    | none => none
    | some z => cv z
theorem zeroAV_ok {t : TypeId} {v : AV} (e : zeroAV P t = some v) : ∃ z, (zeroValue t).run P w = .ok z w ∧ ∀ R, VR R v z := by
  unfold zeroAV at e
  split at e <;> try (cases e; done)
  rename_i i hi
  split at e <;> try (cases e; done)
  rename_i z hz
  exact ⟨z, zeroV_run hi hz w, fun R => cv_ok e⟩
def opMapEntry (P : Program) (h : AH) (t : TypeId) (m k : AV) : Option (AV × AH) := match P.underlying t with
  | some (.map kt el) => match m with
    | .map r => match h.o.get r with
      | some (.map es clock) => match sv1 k with
        | none => none
        | some kx => match isUnit (runP P 20 (Instr.checkKey false 10000 kt kx)) with
          | false => none
          | true => match P.underlying kt with
            | none => none
            | some d => match findA d kx es 0 with
              | none => none
              | some (some (i, v)) => match keyAt es i with
                | none => none
                | some old => match sv1 old with
                  | none => none
                  | some ox => match Instr.sameBits 10000 ox kx with
                    | true => match bornAt es i with
                      | some n => some (.tup [v, .int .i64 n], h.put r (.map (setKey es i k) clock))
                      | none => none
                    | false => none
              | some none => match zeroAV P el with
                | some z => some (.tup [z, .int .i64 clock], h.put r (.map (es ++ [(k, z, clock)]) (clock + 1)))
                | none => none
      | _ => none
    | _ => none
  | _ => none
theorem opMapEntry_ok (hR : Rep w0 R h w) {t : TypeId} {m k v : AV} {x y : Value} {h' : AH} (hm : VR R m x) (hk : VR R k y) (e : opMapEntry P h t m k = some (v, h')) : Ef P w0 R w h (Instr.mapEntry t x y) v h' := by
  unfold opMapEntry at e
  split at e <;> try (cases e; done)
  rename_i kt el hu
  split at e <;> try (cases e; done)
  rename_i r
  split at e <;> try (cases e; done)
  rename_i es clock hr
  split at e <;> try (cases e; done)
  rename_i kx hkx
  have := sv1_ok hkx hk; subst this
  split at e <;> try (cases e; done)
  rename_i hck
  have hck := isUnit_ok hck
  split at e <;> try (cases e; done)
  rename_i d hd
  cases hm with
  | map hL =>
    rename_i L
    obtain ⟨L', xs, g1, g2, g3⟩ := hR.map hr hL
    rw [hL] at g1; cases g1
    have hlt : L.blk < w.heap.size := (Array.getElem?_eq_some_iff.1 g2).1
    split at e
    · cases e
    · rename_i i v0 hf
      obtain ⟨r', f1, f2⟩ := find_run (P := P) (w := w) hd g3 hf
      obtain ⟨zz, rfl, hz⟩ := f2
      split at e <;> try (cases e; done)
      rename_i old hold
      split at e <;> try (cases e; done)
      rename_i ox hox
      split at e <;> try (cases e; done)
      rename_i hsb
      split at e <;> try (cases e; done)
      rename_i n hn
      simp only [Option.some.injEq, Prod.mk.injEq] at e
      obtain ⟨rfl, rfl⟩ := e
      obtain ⟨en, k1, k2⟩ := keyAt_ok g3 hold
      have hke := sv1_ok hox k2
      have hbn := bornAt_ok g3 hn
      obtain ⟨w1, w2⟩ := hR.wr (o' := .map (setKey es i k) clock) hr hL (setObj_wr w L.blk (.map (xs.modify i fun e => { e with key := y }).toArray clock)) ⟨_, setObj_get hlt, setKey_ok hk g3⟩
      refine ⟨R, .tuple #[zz, .int .i64 n], _, ?_, Sb.refl R, w1, .tup (.cons hz (.cons (.int _ _) .nil)), w2⟩
      unfold Instr.mapEntry
      rw [run_bind_ok (und_run hu w)]
      simp only
      rw [run_bind_ok (getObj_run g2 rfl)]
      simp only
      rw [run_bind_ok (runP_ok hck w), run_bind_ok f1]
      simp only
      have hkey : (((xs.toArray[i]?).map (·.key)).getD y) = ox := by rw [List.getElem?_toArray, k1]; simpa using hke
      rw [hkey]
      rw [run_bind_ok (x := y) (w' := w) (by unfold Instr.keyThatStays; rw [if_pos hsb]; rfl)]
      have hbe : en.born = n := by rw [k1] at hbn; simpa using hbn
      rw [List.modify_toArray, List.getElem?_toArray, k1, run_bind_ok (setObj_run g2 rfl)]
      subst hbe
      rfl
    · rename_i hf
      obtain ⟨r', f1, f2⟩ := find_run (P := P) (w := w) hd g3 hf
      have : r' = none := f2
      subst this
      split at e <;> try (cases e; done)
      rename_i z hz
      simp only [Option.some.injEq, Prod.mk.injEq] at e
      obtain ⟨rfl, rfl⟩ := e
      obtain ⟨zv, z1, z2⟩ := zeroAV_ok (w := w) hz
      obtain ⟨w1, w2⟩ := hR.wr (o' := .map (es ++ [(k, z, clock)]) (clock + 1)) hr hL (setObj_wr w L.blk (.map (xs ++ [(⟨y, zv, clock⟩ : MapEntry)]).toArray (clock + 1))) ⟨_, setObj_get hlt, g3.app (.cons hk (z2 R) .nil)⟩
      refine ⟨R, .tuple #[zv, .int .i64 clock], _, ?_, Sb.refl R, w1, .tup (.cons (z2 R) (.cons (.int _ _) .nil)), w2⟩
      unfold Instr.mapEntry
      rw [run_bind_ok (und_run hu w)]
      simp only
      rw [run_bind_ok (getObj_run g2 rfl)]
      simp only
      rw [run_bind_ok (runP_ok hck w), run_bind_ok f1]
      simp only
      rw [run_bind_ok z1, List.push_toArray, run_bind_ok (setObj_run g2 rfl)]
      rfl
def opEntryStore (h : AH) (m s v : AV) : Option AH := match m with
  | .map r => match h.o.get r with
    | some (.map es clock) => match s with
      | .int _ (.ofNat b) => match bornIdx b es with
        | some i => some (h.put r (.map (setVal es i v) clock))
        | none => none
      | _ => none
    | _ => none
  | _ => none
theorem opEntryStore_ok (hR : Rep w0 R h w) {t : TypeId} {m s v : AV} {x y z : Value} {h' : AH} (hm : VR R m x) (hs : VR R s y) (hv : VR R v z) (e : opEntryStore h m s v = some h') : EfU P w0 R w h (Instr.entryStore t x y z) h' := by
  unfold opEntryStore at e
  split at e <;> try (cases e; done)
  rename_i r
  split at e <;> try (cases e; done)
  rename_i es clock hr
  split at e <;> try (cases e; done)
  rename_i kk b
  split at e <;> try (cases e; done)
  rename_i i hi
  simp only [Option.some.injEq] at e; subst e
  cases hs
  cases hm with
  | map hL =>
    rename_i L
    obtain ⟨L', xs, g1, g2, g3⟩ := hR.map hr hL
    rw [hL] at g1; cases g1
    have hlt : L.blk < w.heap.size := (Array.getElem?_eq_some_iff.1 g2).1
    obtain ⟨w1, w2⟩ := hR.wr (o' := .map (setVal es i v) clock) hr hL (setObj_wr w L.blk (.map (xs.modify i fun e => { e with val := z }).toArray clock)) ⟨_, setObj_get hlt, setVal_ok hv g3⟩
    refine ⟨R, _, ?_, Sb.refl R, w1, w2⟩
    unfold Instr.entryStore
    simp only
    rw [run_bind_ok (getObj_run g2 rfl)]
    simp only
    rw [run_bind_ok (show (asInt (Value.int kk (Int.ofNat b))).run P w = .ok (b : Int) w from rfl)]
    have := bornIdx_ok g3 hi
    simp only [List.findIdx?_toArray, this]
    rw [List.modify_toArray]
    exact setObj_run g2 rfl
end
end Go.Proofs.YtejohpjhonjcjaaGreatDoor.Zr

/- A runner: slices of slices that make no name. No program stands here. -/
namespace Go.Proofs.YtejohpjhonjcjaaGreatDoor.Zr
open Go Go.RowKit Eng
section
variable {P : Program} {w0 : Cxt} {R : Ren} {h : AH} {w : World}
theorem opSlice_qu {t : TypeId} {a v : AV} {lo hi mx : Option AV} {x : Value} {lo' hi' mx' : Option Value} {h' : AH} (ha : VR R a x) (h1 : OVR R lo lo') (h2 : OVR R hi hi') (h3 : OVR R mx mx') (e : opSlice P h t a lo hi mx = some (v, h')) (hx : h'.nx = h.nx) : Qu P R w (Instr.sliceAt t x lo' hi' mx') v := by
  unfold opSlice at e
  split at e <;> try (cases e; done)
  rename_i lo hlo
  split at e <;> try (cases e; done)
  rename_i hi hhi
  split at e <;> try (cases e; done)
  rename_i mx hmx
  have b1 := bnd_ok h1 hlo
  have b2 := bnd_ok h2 hhi
  have b3 := bnd_ok h3 hmx
  split at e
  · rename_i el hu
    split at e <;> try (cases e; done)
    rename_i i hi0
    split at e
    · split at e <;> try (cases e; done)
      rename_i r hr
      obtain ⟨l, hh, m⟩ := r
      simp only [Option.some.injEq, Prod.mk.injEq] at e
      obtain ⟨rfl, rfl⟩ := e
      cases ha
      have hz : l = 0 ∧ hh = 0 ∧ m = 0 := by
        cases mx with
        | none => have := sb_more (Nat.le_refl 0) hr
                  rw [hr] at this; simp only [Option.some.injEq, Prod.mk.injEq] at this; omega
        | some y => have := sb_max (Nat.le_refl 0) hr
                    cases hi with
                    | none => simp [sbA] at hr
                    | some h0 =>
                      simp only [sbA] at hr
                      split at hr <;> try (cases hr; done)
                      rename_i hc
                      rw [Bool.and_eq_true] at hc
                      have c1 := Nat.le_of_ble_eq_true hc.1
                      have c2 := Nat.le_of_ble_eq_true hc.2
                      split at hr
                      · simp only [Option.some.injEq, Prod.mk.injEq] at hr; omega
                      · split at hr <;> try (cases hr; done)
                        rename_i hl
                        have c3 := Nat.le_of_ble_eq_true hl
                        simp only [Option.some.injEq, Prod.mk.injEq] at hr; omega
      obtain ⟨rfl, rfl, rfl⟩ := hz
      exact ⟨_, slice_run hu hi0 (sb_run b1 b2 b3 hr), .nils⟩
    · rename_i b o len c
      split at e <;> try (cases e; done)
      rename_i l hh m hr
      simp only [Option.some.injEq, Prod.mk.injEq] at e
      obtain ⟨rfl, rfl⟩ := e
      cases ha with
      | slx _ _ _ hL =>
        rename_i L
        refine ⟨_, slice_run hu hi0 (sb_run b1 b2 b3 hr), ?_⟩
        have := VR.slx (R := R) (offM m l o i.size) (hh - l) (m - l) hL
        rw [← offM_addr] at this
        by_cases q : m = l
        · rw [if_pos q] at this ⊢; exact this
        · rw [if_neg q] at this ⊢; exact this
    · rename_i b o len k
      cases ha with
      | sls _ _ _ hL hn =>
        rename_i L
        split at e
        · split at e <;> try (cases e; done)
          rename_i y l hh m hr
          simp only [Option.some.injEq, Prod.mk.injEq] at e
          obtain ⟨rfl, rfl⟩ := e
          obtain ⟨q1, q2⟩ := sb_max hn hr
          refine ⟨_, slice_run hu hi0 (sb_run b1 b2 b3 q1), ?_⟩
          have := VR.slx (R := R) (offM m l o i.size) (hh - l) (m - l) hL
          rw [← offM_addr] at this
          by_cases q : m = l
          · rw [if_pos q] at this ⊢; exact this
          · rw [if_neg q] at this ⊢; exact this
        · split at e <;> try (cases e; done)
          rename_i l hh m hr
          obtain ⟨q1, q2, q3⟩ := sb_more hn hr
          have hrun := slice_run (w := w) (a := some ⟨L.blk, L.off + o, none⟩) hu hi0 (sb_run b1 b2 b3 q1)
          split at e
          · simp only [Option.some.injEq, Prod.mk.injEq] at e
            obtain ⟨rfl, rfl⟩ := e
            refine ⟨_, hrun, ?_⟩
            have := VR.sls (R := R) o hh k hL (by omega)
            simp only [Nat.sub_zero]
            by_cases q : L.cap - k = 0
            · rw [if_pos q]; exact this
            · rw [if_neg q]; simp only [Option.map_some, add_none, Nat.zero_mul, Nat.add_zero]; exact this
          · rename_i l
            split at e
            · rename_i hlt
              have hlt := blt_lt hlt
              simp only [Option.some.injEq, Prod.mk.injEq] at e
              obtain ⟨rfl, rfl⟩ := e
              refine ⟨_, hrun, ?_⟩
              have := VR.sls (R := R) (o + (l + 1) * i.size) (hh - (l + 1)) (k + (l + 1)) hL (by omega)
              rw [if_neg (by omega)]
              simp only [Option.map_some, add_none]
              rw [Nat.add_assoc, Nat.sub_sub]; exact this
            · rename_i hlt
              have hlt : ¬ (l + 1 < len) := fun q => by rw [show Nat.blt (l + 1) len = true by rw [Nat.blt_eq]; exact q] at hlt; cases hlt
              simp only [Option.some.injEq, Prod.mk.injEq] at e
              obtain ⟨rfl, rfl⟩ := e
              simp only [AH.name] at hx; omega
    · cases e
  · rename_i n el hu
    split at e <;> try (cases e; done)
    rename_i i hi0
    split at e <;> try (cases e; done)
    rename_i b o
    split at e <;> try (cases e; done)
    rename_i l hh m hr
    simp only [Option.some.injEq, Prod.mk.injEq] at e
    obtain ⟨rfl, rfl⟩ := e
    cases ha with
    | ptr _ hL =>
      rename_i L
      refine ⟨_, ?_, VR.slx (R := R) (offM m l o i.size) (hh - l) (m - l) hL⟩
      unfold Instr.sliceAt
      rw [run_bind_ok (und_run hu w)]
      simp only
      rw [run_bind_ok (show (Instr.sureAddr (.pointer (some (⟨L.blk, L.off + o, none⟩ : Addr)))).run P w = .ok ⟨L.blk, L.off + o, none⟩ w from rfl)]
      rw [run_bind_ok (sb_run b1 b2 b3 hr)]
      simp only
      rw [run_bind_ok (size_run hi0 w), offM_addr]; rfl
  · rename_i hu
    split at e <;> try (cases e; done)
    rename_i s
    split at e <;> try (cases e; done)
    split at e <;> try (cases e; done)
    rename_i l hh m hr
    simp only [Option.some.injEq, Prod.mk.injEq] at e
    obtain ⟨rfl, rfl⟩ := e
    cases ha
    cases b3
    refine ⟨_, ?_, .str (s.extract l hh)⟩
    unfold Instr.sliceAt
    rw [run_bind_ok (und_run hu w)]
    simp only
    unfold Instr.slice
    rw [run_bind_ok (und_run hu w)]
    simp only [Option.isSome_none]
    rw [if_neg (by decide)]
    rw [run_bind_ok (sb_run b1 b2 .none hr)]; rfl
  · cases e
def opSliceQ (P : Program) (t : TypeId) (a : AV) (lo hi mx : Option AV) : Option AV := match opSlice P ⟨.nil, 0, []⟩ t a lo hi mx with
  | some (v, h') => match h'.nx with
    | 0 => some v
    | _ => none
  | none => none
theorem opSliceQ_ok {t : TypeId} {a v : AV} {lo hi mx : Option AV} {x : Value} {lo' hi' mx' : Option Value} (ha : VR R a x) (h1 : OVR R lo lo') (h2 : OVR R hi hi') (h3 : OVR R mx mx') (e : opSliceQ P t a lo hi mx = some v) : Qu P R w (Instr.sliceAt t x lo' hi' mx') v := by
  unfold opSliceQ at e
  split at e <;> try (cases e; done)
  rename_i u h' hs
  split at e <;> try (cases e; done)
  rename_i hn
  simp only [Option.some.injEq] at e; subst e
  exact opSlice_qu ha h1 h2 h3 hs hn
end
end Go.Proofs.YtejohpjhonjcjaaGreatDoor.Zr

/- A runner, eighth part: every operation that calls nothing. No program stands here. -/
namespace Go.Proofs.YtejohpjhonjcjaaGreatDoor.Zr
open Go Go.RowKit Eng
section
variable {P : Program} {w0 : Cxt} {R : Ren} {h : AH} {w : World}
def evoO (e : En) : Option Operand → Option (Option AV)
  | none => some none
  | some x => match evo e x with
    | some v => some (some v)
    | none => none
theorem evoO_ok {e : En} {a : Act} (hE : EO R e a) {x : Option Operand} {v : Option AV} (q : evoO e x = some v) : OVR R v (x.map a.eval) := by
  cases x with
  | none => simp only [evoO, Option.some.injEq] at q; subst q; exact .none
  | some y =>
    simp only [evoO] at q
    split at q <;> try (cases q; done)
    rename_i u hu
    simp only [Option.some.injEq] at q; subst q
    exact .some (evo_ok hE hu)
end
/-- operations that leave the heap -/
def qop (P : Program) (e : En) (h : AH) : Op → Option AV
  | .move x => evo e x
  | .assign x => evo e x
  | .pick c a b => match evo e c with
    | some (.bool true) => evo e a
    | some (.bool false) => evo e b
    | _ => none
  | .load t a => match evo e a with
    | some p => opLoad P h t p
    | none => none
  | .nilCheck x => match evo e x with
    | some a => opNilCheck a
    | none => none
  | .binOp op t x y _ => match evo e x with
    | some a => match evo e y with
      | some b => opBin P op t x y a b
      | none => none
    | none => none
  | .unOp op _ x => match evo e x with
    | some a => opUn P op a
    | none => none
  | .convert s d x => match evo e x with
    | some a => opConv P s d a
    | none => none
  | .makeInterface t x => match evo e x with
    | some a => opIface P t a
    | none => none
  | .makeFunc fn first cap => match fn with
    | .func f => match evoL e first.toList with
      | some fs => match evoL e cap.toList with
        | some cs => some (.func f fs cs)
        | none => none
      | none => none
    | _ => none
  | .fieldAddr t x i => match evo e x with
    | some a => opFieldAddr P t i a
    | none => none
  | .field t x i => match evo e x with
    | some a => opField P t i a
    | none => none
  | .indexAddr t x y => match evo e x with
    | some a => match evo e y with
      | some b => opIndexAddr P t a b
      | none => none
    | none => none
  | .index t x y => match evo e x with
    | some a => match evo e y with
      | some b => opIndex P t a b
      | none => none
    | none => none
  | .lookup t x y ok => match evo e x with
    | some a => match evo e y with
      | some b => opLookup P h t a b ok
      | none => none
    | none => none
  | .extract x i => match evo e x with
    | some a => opExtract i a
    | none => none
  | .entry x => match evo e x with
    | some a => opEntry h a
    | none => none
  | .typeAssert x _ t ok => match evo e x with
    | some a => opAssert P t ok a
    | none => none
  | .build t ps => match partsA e ps.toList with
    | some l => opBuild P t l
    | none => none
  | .slice t x lo hi mx => match evo e x with
    | some a => match evoO e lo with
      | some lo => match evoO e hi with
        | some hi => match evoO e mx with
          | some mx => opSliceQ P t a lo hi mx
          | none => none
        | none => none
      | none => none
    | none => none
  | .call c => match c.callee with
    | .builtin b => match evoL e c.args.toList with
      | some asg => match b with
        | .len => match c.argTypes.toList with
          | t :: [] => match asg with
            | a :: [] => opLen P h t a
            | _ => none
          | _ => none
        | .cap => match c.argTypes.toList with
          | t :: [] => match asg with
            | a :: [] => opCap P t a
            | _ => none
          | _ => none
        | .min => minMax P .min asg
        | .max => minMax P .max asg
        | _ => none
      | none => none
    | _ => none
  | _ => none
section
variable {P : Program} {w0 : Cxt} {R : Ren} {h : AH} {w : World}
theorem val_run {s : Sem Value} {x : Value} {w w' : World} (h : s.run P w = .ok x w') : (do pure (Next.value (← s)) : Sem Next).run P w = .ok (.value x) w' := by
  rw [run_bind_ok h]; rfl
theorem unit_run {s : Sem Unit} {w w' : World} (h : s.run P w = .ok () w') : (do s; pure Next.skip : Sem Next).run P w = .ok .skip w' := by
  rw [run_bind_ok h]; rfl
def Qo (P : Program) (R : Ren) (w : World) (ρ : Operand → Value) (o : Oper) (v : AV) : Prop := ∃ x, (execOp ρ o).run P w = .ok (.value x) w ∧ VR R v x
theorem Qu.op {ρ : Operand → Value} {o : Oper} {s : Sem Value} {v : AV} (q : Qu P R w s v) (e : execOp ρ o = (do pure (Next.value (← s)))) : Qo P R w ρ o v := by
  obtain ⟨x, h1, h2⟩ := q
  exact ⟨x, by rw [e]; exact val_run h1, h2⟩
theorem args_two {xs : Array Operand} {ρ : Operand → Value} {l : List Operand} (e : xs.toList = l) : xs.map ρ = (l.map ρ).toArray := by
  rw [← e, ← List.map_toArray, Array.toArray_toList]
theorem arr_of {α : Type} {xs : Array α} {l : List α} (e : xs.toList = l) : xs = l.toArray := by rw [← e, Array.toArray_toList]
set_option maxHeartbeats 2000000 in
theorem qop_ok (hR : Rp R h w) {e : En} {a : Act} (hE : EO R e a) {o : Oper} {v : AV} (q : qop P e h o.op = some v) : Qo P R w a.eval o v := by
  obtain ⟨d, op, ty, pos, af, g⟩ := o
  cases op <;> simp only [qop] at q <;> try (cases q; done)
  case move x => exact ⟨_, rfl, evo_ok hE q⟩
  case assign x => exact ⟨_, rfl, evo_ok hE q⟩
  case pick c x y =>
    split at q <;> try (cases q; done)
    · rename_i hc
      have := evo_ok hE hc
      refine ⟨a.eval x, ?_, evo_ok hE q⟩
      generalize hcv : a.eval c = cv at this
      cases this
      simp only [execOp, hcv]; rfl
    · rename_i hc
      have := evo_ok hE hc
      refine ⟨a.eval y, ?_, evo_ok hE q⟩
      generalize hcv : a.eval c = cv at this
      cases this
      simp only [execOp, hcv]; rfl
  case load t x =>
    split at q <;> try (cases q; done)
    rename_i p hp
    exact (opLoad_ok hR (evo_ok hE hp) q).op rfl
  case nilCheck x =>
    split at q <;> try (cases q; done)
    rename_i p hp
    have := evo_ok hE hp
    generalize hcv : a.eval x = cv at this
    cases this <;> simp only [opNilCheck] at q <;> try (cases q; done)
    all_goals (simp only [Option.some.injEq] at q; subst q)
    · rename_i L hL; exact ⟨_, by simp only [execOp, hcv]; rfl, .ptr _ hL⟩
    · exact ⟨_, by simp only [execOp, hcv]; rfl, .gp _ _⟩
    · rename_i h1 h2; exact ⟨_, by simp only [execOp, hcv]; rfl, .func h1 h2⟩
    · rename_i L hL; exact ⟨_, by simp only [execOp, hcv]; rfl, .yield hL⟩
    · rename_i h1; exact ⟨_, by simp only [execOp, hcv]; rfl, .iface h1⟩
  case binOp op t x y t2 =>
    split at q <;> try (cases q; done)
    rename_i p hp
    split at q <;> try (cases q; done)
    rename_i p2 hp2
    exact (opBin_ok (evo_ok hE hp) (evo_ok hE hp2) q).op rfl
  case unOp op t x =>
    split at q <;> try (cases q; done)
    rename_i p hp
    exact (opUn_ok (evo_ok hE hp) q).op rfl
  case convert s t x =>
    split at q <;> try (cases q; done)
    rename_i p hp
    exact (opConv_ok (evo_ok hE hp) q).op rfl
  case makeInterface t x =>
    split at q <;> try (cases q; done)
    rename_i p hp
    exact (opIface_ok (evo_ok hE hp) q).op rfl
  case makeFunc fn first cap =>
    split at q <;> try (cases q; done)
    rename_i f
    split at q <;> try (cases q; done)
    rename_i fs hfs
    split at q <;> try (cases q; done)
    rename_i cs hcs
    simp only [Option.some.injEq] at q; subst q
    refine ⟨.func (.func f) (first.map a.eval) (cap.map a.eval), rfl, ?_⟩
    rw [args_two (xs := first) rfl, args_two (xs := cap) rfl]
    exact .func (evoL_ok hE hfs) (evoL_ok hE hcs)
  case fieldAddr t x i =>
    split at q <;> try (cases q; done)
    rename_i p hp
    exact (opFieldAddr_ok (evo_ok hE hp) q).op rfl
  case field t x i =>
    split at q <;> try (cases q; done)
    rename_i p hp
    exact (opField_ok (evo_ok hE hp) q).op rfl
  case indexAddr t x y =>
    split at q <;> try (cases q; done)
    rename_i p hp
    split at q <;> try (cases q; done)
    rename_i p2 hp2
    exact (opIndexAddr_ok (evo_ok hE hp) (evo_ok hE hp2) q).op rfl
  case index t x y =>
    split at q <;> try (cases q; done)
    rename_i p hp
    split at q <;> try (cases q; done)
    rename_i p2 hp2
    exact (opIndex_ok (evo_ok hE hp) (evo_ok hE hp2) q).op rfl
  case lookup t x y ok =>
    split at q <;> try (cases q; done)
    rename_i p hp
    split at q <;> try (cases q; done)
    rename_i p2 hp2
    exact (opLookup_ok hR (evo_ok hE hp) (evo_ok hE hp2) q).op rfl
  case extract x i =>
    split at q <;> try (cases q; done)
    rename_i p hp
    exact (opExtract_ok (evo_ok hE hp) q).op rfl
  case entry x =>
    split at q <;> try (cases q; done)
    rename_i p hp
    exact (opEntry_ok hR (evo_ok hE hp) q).op rfl
  case typeAssert x u t ok =>
    split at q <;> try (cases q; done)
    rename_i p hp
    exact (opAssert_ok (evo_ok hE hp) q).op rfl
  case build t ps =>
    split at q <;> try (cases q; done)
    rename_i l hl
    obtain ⟨g1, g2⟩ := partsA_ok hE hl
    refine (opBuild_ok (P := P) (w := w) (qs := ps.map fun (i, x) => (i, a.eval x)) ?_ ?_ q).op rfl
    · rw [Array.toList_map]; exact g1
    · rw [Array.toList_map]; exact g2
  case slice t x lo hi mx =>
    split at q <;> try (cases q; done)
    rename_i p hp
    split at q <;> try (cases q; done)
    rename_i l hl
    split at q <;> try (cases q; done)
    rename_i u hu
    split at q <;> try (cases q; done)
    rename_i m hm
    exact (opSliceQ_ok (evo_ok hE hp) (evoO_ok hE hl) (evoO_ok hE hu) (evoO_ok hE hm) q).op rfl
  case call c =>
    obtain ⟨cal, args, tys⟩ := c
    simp only at q
    split at q <;> try (cases q; done)
    rename_i b hcal
    split at q <;> try (cases q; done)
    rename_i asg has
    have hargs := evoL_ok hE has
    have ea : args.map a.eval = (args.toList.map a.eval).toArray := args_two rfl
    split at q <;> try (cases q; done)
    · split at q <;> try (cases q; done)
      rename_i t ht
      split at q <;> try (cases q; done)
      rename_i y
      generalize hl : args.toList.map a.eval = xs at hargs ea
      cases hargs with
      | cons hy hn =>
        cases hn
        refine (opLen_ok (ty := ty) hR hy q).op ?_
        simp only [execOp, resolve, ea, arr_of ht]; rfl
    · split at q <;> try (cases q; done)
      rename_i t ht
      split at q <;> try (cases q; done)
      rename_i y
      generalize hl : args.toList.map a.eval = xs at hargs ea
      cases hargs with
      | cons hy hn =>
        cases hn
        refine (opCap_ok (ty := ty) hy q).op ?_
        simp only [execOp, resolve, ea, arr_of ht]; rfl
    · refine (min_ok (ts := tys) (ty := ty) hargs q).op ?_
      simp only [execOp, resolve, ea]; rfl
    · refine (max_ok (ts := tys) (ty := ty) hargs q).op ?_
      simp only [execOp, resolve, ea]; rfl
/-- operations that may turn the heap -/
def unitA (h : Option AH) : Option (AV × AH) := match h with
  | some h => some (.tup [], h)
  | none => none
def eop (P : Program) (e : En) (h : AH) : Op → Option (AV × AH)
  | .alloc t => opAlloc P h t
  | .box t x => match evo e x with
    | some v => opBox h t v
    | none => none
  | .buildSlice t n ps => match partsA e ps.toList with
    | some l => opBuildSlice P h t n l
    | none => none
  | .store t a x => match evo e a with
    | some p => match evo e x with
      | some v => unitA (opStore P h t p v)
      | none => none
    | none => none
  | .makeMap t r => match evoO e r with
    | some r => opMakeMap P h t r
    | none => none
  | .range t x => match evo e x with
    | some a => opRange P h t a
    | none => none
  | .next x b => match b with
    | false => match evo e x with
      | some a => opNext h a
      | none => none
    | true => none
  | .makeSlice t l c => match evo e l with
    | some l => match evo e c with
      | some c => opMakeSlice P h t l c
      | none => none
    | none => none
  | .slice t x lo hi mx => match evo e x with
    | some a => match evoO e lo with
      | some lo => match evoO e hi with
        | some hi => match evoO e mx with
          | some mx => opSlice P h t a lo hi mx
          | none => none
        | none => none
      | none => none
    | none => none
  | .mapUpdate t m k x => match evo e m with
    | some m => match evo e k with
      | some k => match evo e x with
        | some x => unitA (opMapUpdate P h t m k x)
        | none => none
      | none => none
    | none => none
  | .insert t m k x => match evo e m with
    | some m => match evo e k with
      | some k => match evo e x with
        | some x => unitA (opMapUpdate P h t m k x)
        | none => none
      | none => none
    | none => none
  | .mapEntry t m k => match evo e m with
    | some m => match evo e k with
      | some k => opMapEntry P h t m k
      | none => none
    | none => none
  | .entryStore _ m s x => match evo e m with
    | some m => match evo e s with
      | some s => match evo e x with
        | some x => unitA (opEntryStore h m s x)
        | none => none
      | none => none
    | none => none
  | .call c => match c.callee with
    | .builtin b => match evoL e c.args.toList with
      | some asg => match b with
        | .append => match c.argTypes.toList with
          | t :: t' :: [] => match asg with
            | a :: b :: [] => opApp P h t t' a b
            | _ => none
          | _ => none
        | _ => none
      | none => none
    | _ => none
  | _ => none
def Eo (P : Program) (w0 : Cxt) (R : Ren) (w : World) (h : AH) (ρ : Operand → Value) (o : Oper) (v : AV) (h' : AH) : Prop :=
  ∃ R' x w', ((execOp ρ o).run P w = .ok (.value x) w' ∨ (execOp ρ o).run P w = .ok .skip w' ∧ x = undef) ∧ Sb R R' ∧ Rep w0 R' h' w' ∧ VR R' v x ∧ Fr R h h' w w'
theorem Ef.op {ρ : Operand → Value} {o : Oper} {s : Sem Value} {v : AV} {h' : AH} (q : Ef P w0 R w h s v h') (e : execOp ρ o = (do pure (Next.value (← s)))) : Eo P w0 R w h ρ o v h' := by
  obtain ⟨R', x, w', h1, h2⟩ := q
  exact ⟨R', x, w', .inl (by rw [e]; exact val_run h1), h2⟩
theorem EfU.op {ρ : Operand → Value} {o : Oper} {s : Sem Unit} {v : AV} {h' : AH} {hh : Option AH} (eh : unitA hh = some (v, h')) (q : ∀ h'', hh = some h'' → EfU P w0 R w h s h'') (e : execOp ρ o = (do s; pure Next.skip)) : Eo P w0 R w h ρ o v h' := by
  unfold unitA at eh
  split at eh <;> try (cases eh; done)
  simp only [Option.some.injEq, Prod.mk.injEq] at eh
  obtain ⟨rfl, rfl⟩ := eh
  obtain ⟨R', w', h1, h2, h3, h4⟩ := q _ rfl
  exact ⟨R', undef, w', .inr ⟨by rw [e]; exact unit_run h1, rfl⟩, h2, h3, .tup .nil, h4⟩
theorem exec_builtin {ρ : Operand → Value} {d : Option Tmp} {b : Builtin} {args : Array Operand} {tys : Array TypeId} {ty : TypeId} {pos : String} {af : Array Edge} {g : Option (Nat × Bool)} :
    execOp ρ ⟨d, .call ⟨.builtin b, args, tys⟩, ty, pos, af, g⟩ = builtin b tys ty (args.map fun | .const _ => true | _ => false) (args.map ρ) := rfl
theorem builtin_append {tys : Array TypeId} {ty : TypeId} {cs : Array Bool} {xs : Array Value} : builtin .append tys ty cs xs = (do pure (Next.value (← Builtin.append_ tys ty xs))) := rfl
theorem exec_bs {ρ : Operand → Value} {d : Option Tmp} {t : TypeId} {n : Nat} {ps : Array (Nat × Operand)} {ty : TypeId} {pos : String} {af : Array Edge} {g : Option (Nat × Bool)} :
    execOp ρ ⟨d, .buildSlice t n ps, ty, pos, af, g⟩ = (do pure (Next.value (← Instr.buildSlice t n (ps.map fun (i, x) => (i, ρ x))))) := rfl
set_option maxHeartbeats 2000000 in
theorem eop_ok (hR : Rep w0 R h w) {e : En} {a : Act} (hE : EO R e a) {o : Oper} {v : AV} {h' : AH} (q : eop P e h o.op = some (v, h')) : Eo P w0 R w h a.eval o v h' := by
  obtain ⟨d, op, ty, pos, af, g⟩ := o
  cases op <;> simp only [eop] at q <;> try (cases q; done)
  case alloc t => exact ((opAlloc_new q).ef hR).op rfl
  case box t x =>
    split at q <;> try (cases q; done)
    rename_i u hu
    exact ((opBox_new (evo_ok hE hu) q).ef hR).op rfl
  case buildSlice t n ps =>
    split at q <;> try (cases q; done)
    rename_i l hl
    obtain ⟨g1, g2⟩ := partsA_ok hE hl
    refine Ef.op ((opBuildSlice_new (P := P) (qs := ps.map fun (i, x) => (i, a.eval x)) ?_ ?_ q).ef hR) exec_bs
    · rw [Array.toList_map]; exact g1
    · rw [Array.toList_map]; exact g2
  case store t x y =>
    split at q <;> try (cases q; done)
    rename_i p hp
    split at q <;> try (cases q; done)
    rename_i u hu
    exact EfU.op q (fun h'' e => opStore_ok hR (evo_ok hE hp) (evo_ok hE hu) e) rfl
  case makeMap t r =>
    split at q <;> try (cases q; done)
    rename_i r' hr
    exact ((opMakeMap_new (evoO_ok hE hr) q).ef hR).op rfl
  case range t x =>
    split at q <;> try (cases q; done)
    rename_i u hu
    exact ((opRange_new hR.rp (evo_ok hE hu) q).ef hR).op rfl
  case next x b =>
    split at q <;> try (cases q; done)
    split at q <;> try (cases q; done)
    rename_i u hu
    exact (opNext_ok hR (evo_ok hE hu) q).op rfl
  case makeSlice t l c =>
    split at q <;> try (cases q; done)
    rename_i p hp
    split at q <;> try (cases q; done)
    rename_i u hu
    exact ((opMakeSlice_new (evo_ok hE hp) (evo_ok hE hu) q).ef hR).op rfl
  case slice t x lo hi mx =>
    split at q <;> try (cases q; done)
    rename_i p hp
    split at q <;> try (cases q; done)
    rename_i l hl
    split at q <;> try (cases q; done)
    rename_i u hu
    split at q <;> try (cases q; done)
    rename_i m hm
    exact (opSlice_ok hR (evo_ok hE hp) (evoO_ok hE hl) (evoO_ok hE hu) (evoO_ok hE hm) q).op rfl
  case mapUpdate t m k x =>
    split at q <;> try (cases q; done)
    rename_i p hp
    split at q <;> try (cases q; done)
    rename_i l hl
    split at q <;> try (cases q; done)
    rename_i u hu
    exact EfU.op q (fun h'' e => opMapUpdate_ok hR (evo_ok hE hp) (evo_ok hE hl) (evo_ok hE hu) e) rfl
  case insert t m k x =>
    split at q <;> try (cases q; done)
    rename_i p hp
    split at q <;> try (cases q; done)
    rename_i l hl
    split at q <;> try (cases q; done)
    rename_i u hu
    exact EfU.op q (fun h'' e => opMapUpdate_ok hR (evo_ok hE hp) (evo_ok hE hl) (evo_ok hE hu) e) rfl
  case mapEntry t m k =>
    split at q <;> try (cases q; done)
    rename_i p hp
    split at q <;> try (cases q; done)
    rename_i l hl
    exact (opMapEntry_ok hR (evo_ok hE hp) (evo_ok hE hl) q).op rfl
  case entryStore t m s x =>
    split at q <;> try (cases q; done)
    rename_i p hp
    split at q <;> try (cases q; done)
    rename_i l hl
    split at q <;> try (cases q; done)
    rename_i u hu
    exact EfU.op q (fun h'' e => opEntryStore_ok (t := t) hR (evo_ok hE hp) (evo_ok hE hl) (evo_ok hE hu) e) rfl
  case call c =>
    obtain ⟨cal, args, tys⟩ := c
    simp only at q
    split at q <;> try (cases q; done)
    rename_i b hcal
    split at q <;> try (cases q; done)
    rename_i asg has
    have hargs := evoL_ok hE has
    have ea : args.map a.eval = (args.toList.map a.eval).toArray := args_two rfl
    split at q <;> try (cases q; done)
    split at q <;> try (cases q; done)
    rename_i t t' ht
    split at q <;> try (cases q; done)
    rename_i y z
    generalize hl : args.toList.map a.eval = xs at hargs ea
    cases hargs with
    | cons hy hn =>
      cases hn with
      | cons hz hn =>
        cases hn
        refine (opApp_ok (ty := ty) hR hy hz q).op ?_
        rw [exec_builtin, builtin_append, ea, arr_of ht]
/-- operations that only make one block -/
def makesB : Op → Bool
  | .alloc _ | .box .. | .buildSlice .. | .makeMap .. | .makeSlice .. => true
  | _ => false
def NewO (P : Program) (R : Ren) (w : World) (h : AH) (ρ : Operand → Value) (o : Oper) (v : AV) (h' : AH) : Prop :=
  ∃ ob x w', (execOp ρ o).run P w = .ok (.value x) w' ∧ h' = h.new ob ∧ Bl w w' ∧ w'.heap.size = w.heap.size + 1 ∧ ∀ R', Sb R R' → R' h.nx = some ⟨w.heap.size, 0, 0⟩ → VR R' v x ∧ OR R' ob ⟨w.heap.size, 0, 0⟩ w'
theorem NewF.op {ρ : Operand → Value} {o : Oper} {s : Sem Value} {v : AV} {h' : AH} (q : NewF P R w h s v h') (e : execOp ρ o = (do pure (Next.value (← s)))) : NewO P R w h ρ o v h' := by
  obtain ⟨ob, x, w', h1, h2⟩ := q
  exact ⟨ob, x, w', by rw [e]; exact val_run h1, h2⟩
set_option maxHeartbeats 2000000 in
theorem nop_ok {e : En} {a : Act} (hE : EO R e a) {o : Oper} {v : AV} {h' : AH} (hm : makesB o.op = true) (q : eop P e h o.op = some (v, h')) : NewO P R w h a.eval o v h' := by
  obtain ⟨d, op, ty, pos, af, g⟩ := o
  cases op <;> simp only [makesB, Bool.false_eq_true] at hm <;> simp only [eop] at q
  case alloc t => exact (opAlloc_new q).op rfl
  case box t x =>
    split at q <;> try (cases q; done)
    rename_i u hu
    exact (opBox_new (evo_ok hE hu) q).op rfl
  case buildSlice t n ps =>
    split at q <;> try (cases q; done)
    rename_i l hl
    obtain ⟨g1, g2⟩ := partsA_ok hE hl
    refine NewF.op (opBuildSlice_new (P := P) (qs := ps.map fun (i, x) => (i, a.eval x)) ?_ ?_ q) exec_bs
    · rw [Array.toList_map]; exact g1
    · rw [Array.toList_map]; exact g2
  case makeMap t r =>
    split at q <;> try (cases q; done)
    rename_i r' hr
    exact (opMakeMap_new (evoO_ok hE hr) q).op rfl
  case makeSlice t l c =>
    split at q <;> try (cases q; done)
    rename_i p hp
    split at q <;> try (cases q; done)
    rename_i u hu
    exact (opMakeSlice_new (evo_ok hE hp) (evo_ok hE hu) q).op rfl
end
end Go.Proofs.YtejohpjhonjcjaaGreatDoor.Zr

/- A runner, regions that draw their order: the slots and the steps that were taken. No program stands here. -/
namespace Go.Proofs.YtejohpjhonjcjaaGreatDoor.Zr
open Go Go.RowKit Eng
/-- a guard's answer -/
def wantA (ops : Array Oper) (e : En) (o : Oper) : Option Bool := match o.guard with
  | none => some true
  | some (j, want) => match guardSlot ops j with
    | some s => match e.get s with
      | some (.bool b) => some (boolBeq b want)
      | some (.tup []) => some false
      | _ => none
    | none => none
def memN : Nat → List Nat → Bool
  | _, [] => false
  | i, j :: l => match Nat.beq i j with
    | true => true
    | false => memN i l
theorem memN_iff : ∀ {i : Nat} {l : List Nat}, memN i l = true ↔ i ∈ l
  | i, [] => by simp [memN]
  | i, j :: l => by
    simp only [memN]
    split
    · rename_i hb; simp [Nat.eq_of_beq_eq_true hb]
    · rename_i hb
      rw [memN_iff, List.mem_cons]
      constructor
      · exact .inr
      · rintro (rfl | h)
        · simp at hb
        · exact h
/-- the slots that a step looks at -/
def tmpsO : List Operand → List Nat
  | [] => []
  | .tmp t :: r => t :: tmpsO r
  | _ :: r => tmpsO r
def slotsO (ops : Array Oper) (o : Oper) : List Nat := match o.guard with
  | none => tmpsO o.op.operands.toList
  | some (j, _) => match guardSlot ops j with
    | some s => s :: tmpsO o.op.operands.toList
    | none => tmpsO o.op.operands.toList
def restr (e : En) : List Nat → En
  | [] => .nil
  | t :: ts => (restr e ts).set t (e.get t)
theorem restr_get (e : En) : ∀ (ts : List Nat) (t : Nat), (restr e ts).get t = if t ∈ ts then e.get t else none
  | [], t => by simp [restr, Tr.nil_get]
  | u :: ts, t => by
    simp only [restr, Tr.get_set, restr_get e ts t, List.mem_cons]
    by_cases h : t = u
    · subst h; simp
    · simp [h]
/-- a step that was taken: its number, its slot, what it gave, the block that it made -/
structure Rec where
  i : Nat
  d : Option Nat
  v : AV
  id : Option Nat
def stepE (e : En) (r : Rec) : En := match r.d with
  | some d => e.set d (some r.v)
  | none => e
def envL (L : Nat → Bool) : List Rec → En → En
  | [], e => e
  | r :: rs, e => envL L rs (match L r.i with | true => stepE e r | false => e)
theorem envL_app (L : Nat → Bool) : ∀ (a b : List Rec) (e : En), envL L (a ++ b) e = envL L b (envL L a e)
  | [], _, _ => rfl
  | r :: a, b, e => by simp only [List.cons_append, envL]; exact envL_app L a b _
theorem envL_all {L L' : Nat → Bool} : ∀ {rs : List Rec} {e : En}, (∀ r ∈ rs, L r.i = L' r.i) → envL L rs e = envL L' rs e
  | [], _, _ => rfl
  | r :: rs, e, h => by
    simp only [envL]
    rw [h r (List.mem_cons_self ..)]
    exact envL_all fun k hk => h k (List.mem_cons_of_mem _ hk)
theorem stepE_get (e : En) (r : Rec) (t : Nat) : (stepE e r).get t = if r.d = some t then some r.v else e.get t := by
  unfold stepE
  cases h : r.d with
  | none => simp
  | some d =>
    simp only [Tr.get_set, Option.some.injEq]
    by_cases h : t = d
    · subst h; simp
    · rw [if_neg h, if_neg (Ne.symm h)]
theorem envL_get {L L' : Nat → Bool} {t : Nat} : ∀ {rs : List Rec} {e e' : En}, e.get t = e'.get t → (∀ r ∈ rs, r.d = some t → L r.i = L' r.i) → (envL L rs e).get t = (envL L' rs e').get t
  | [], _, _, he, _ => he
  | r :: rs, e, e', he, h => by
    simp only [envL]
    refine envL_get ?_ (fun k hk => h k (List.mem_cons_of_mem _ hk))
    by_cases hd : r.d = some t
    · rw [h r (List.mem_cons_self ..) hd]
      cases L' r.i with
      | true => simp only [stepE_get, hd, if_true]
      | false => exact he
    · cases L r.i <;> cases L' r.i <;> simp only [stepE_get, if_neg hd, he]
theorem envL_skip {L : Nat → Bool} {t : Nat} : ∀ {rs : List Rec} {e : En}, (∀ r ∈ rs, r.d = some t → L r.i = false) → (envL L rs e).get t = e.get t
  | [], _, _ => rfl
  | r :: rs, e, h => by
    simp only [envL]
    rw [envL_skip fun k hk => h k (List.mem_cons_of_mem _ hk)]
    by_cases hd : r.d = some t
    · rw [h r (List.mem_cons_self ..) hd]
    · cases L r.i with
      | true => simp only [stepE_get, if_neg hd]
      | false => rfl
/-- what a step waits for, at once and through others -/
def depsI (ops : Array Oper) (i : Nat) : List Nat := match ops.toList[i]? with
  | some o => (o.after.toList.filter fun e => Region.binds .any e).map (·.on)
  | none => []
def maskOf (M : List Nat) : List Nat → Nat
  | [] => 0
  | d :: ds => (2 ^ d ||| (nth M d).getD 0) ||| maskOf M ds
def masks (ops : Array Oper) : Nat → List Nat → List Nat
  | 0, M => M
  | n + 1, M => masks ops n (M ++ [maskOf M (depsI ops M.length)])
def maskB (ops : Array Oper) (M : List Nat) : Nat → Bool
  | 0 => true
  | n + 1 => maskB ops M n && Nat.beq ((nth M n).getD 0) (maskOf M (depsI ops n)) && (depsI ops n).all fun d => Nat.blt d n
def bitB (M : List Nat) (i j : Nat) : Bool := ((nth M i).getD 0).testBit j
theorem maskOf_bit {M : List Nat} {j : Nat} : ∀ {ds : List Nat}, (maskOf M ds).testBit j = true → ∃ d ∈ ds, j = d ∨ bitB M d j = true
  | [], h => by simp [maskOf] at h
  | d :: ds, h => by
    simp only [maskOf, Nat.testBit_or, Bool.or_eq_true, Nat.testBit_two_pow, decide_eq_true_eq] at h
    rcases h with (h | h) | h
    · exact ⟨d, List.mem_cons_self .., .inl h.symm⟩
    · exact ⟨d, List.mem_cons_self .., .inr h⟩
    · obtain ⟨k, hk, hh⟩ := maskOf_bit h
      exact ⟨k, List.mem_cons_of_mem _ hk, hh⟩
theorem maskB_at {ops : Array Oper} {M : List Nat} : ∀ {n i : Nat}, maskB ops M n = true → i < n → (nth M i).getD 0 = maskOf M (depsI ops i) ∧ ∀ d ∈ depsI ops i, d < i
  | 0, _, _, h => by omega
  | n + 1, i, hB, h => by
    simp only [maskB, Bool.and_eq_true] at hB
    obtain ⟨⟨h1, h2⟩, h3⟩ := hB
    by_cases e : i = n
    · subst e
      exact ⟨Nat.eq_of_beq_eq_true h2, fun d hd => blt_lt (List.all_eq_true.1 h3 d hd)⟩
    · exact maskB_at h1 (by omega)
def lst (L : Array Bool) (j : Nat) : Bool := L.getD j false
/-- what a step waits for through others is listed with it -/
theorem anc_listed {ops : Array Oper} {M : List Nat} (hM : maskB ops M ops.size = true) {L : Nat → Bool} (hdown : ∀ j, L j = true → ∀ d ∈ depsI ops j, L d = true) : ∀ (n i : Nat), i < n → i < ops.size → (∀ d ∈ depsI ops i, L d = true) → ∀ j, bitB M i j = true → L j = true
  | 0, _, h, _, _, _, _ => by omega
  | n + 1, i, hn, hi, hd, j, hj => by
    obtain ⟨h1, h2⟩ := maskB_at hM hi
    unfold bitB at hj
    rw [h1] at hj
    obtain ⟨d, hdm, hh⟩ := maskOf_bit hj
    rcases hh with rfl | hh
    · exact hd _ hdm
    · exact anc_listed hM hdown n d (by have := h2 d hdm; omega) (by have := h2 d hdm; omega) (hdown d (hd d hdm)) j hh
/-- two steps of which one writes what the other looks at -/
def confB (dk di : Option Nat) (sk si : List Nat) : Bool :=
  (match dk with
    | some t => memN t si || (match di with | some u => Nat.beq t u | none => false)
    | none => false) ||
  (match di with
    | some t => memN t sk
    | none => false)
/-- steps that turn what there is, or call -/
def turnB : Op → Bool
  | .call c => match c.callee with
    | .builtin n => match n with
      | .len | .cap | .min | .max => false
      | _ => true
    | _ => true
  | .store .. | .mapUpdate .. | .insert .. | .mapEntry .. | .entryStore .. | .range .. | .next .. => true
  | _ => false
def dstI (ops : Array Oper) (i : Nat) : Option Nat := match ops.toList[i]? with
  | some o => o.dst
  | none => none
def slotsI (ops : Array Oper) (i : Nat) : List Nat := match ops.toList[i]? with
  | some o => slotsO ops o
  | none => []
def arrOf (n : Nat) (past : List Nat) : Array Bool := past.foldl (fun L i => L.setIfInBounds i true) (Array.replicate n false)
/-- an order is sound: what waits comes later, what touches the same slots waits, a step that turns the heap comes when nothing else is ready -/
def regB (ops : Array Oper) (M : List Nat) : List Nat → List Nat → Bool
  | past, [] => (List.range ops.size).all fun j => memN j past
  | past, i :: l => match ops.toList[i]? with
    | none => false
    | some o => !(memN i past) && ((depsI ops i).all fun d => memN d past) && (past.all fun k => !(confB (dstI ops k) o.dst (slotsI ops k) (slotsO ops o)) || bitB M i k) &&
      (!(turnB o.op) || decide (Region.ready .any ops (arrOf ops.size past) = [i])) && regB ops M (past ++ [i]) l
def okReg (ops : Array Oper) (M l : List Nat) : Bool := Region.noSelect ops && Nat.beq l.length ops.size && maskB ops M ops.size && regB ops M [] l
/-- an order for a region that draws its own: what turns nothing comes first -/
def pickN (ops : Array Oper) : List Nat → Option Nat
  | [] => none
  | i :: r => match ops.toList[i]? with
    | some o => match turnB o.op with
      | true => pickN ops r
      | false => some i
    | none => none
def orderA (ops : Array Oper) : Nat → Array Bool → Option (List Nat)
  | 0, _ => some []
  | n + 1, listed => match pickN ops (Region.ready .any ops listed) with
    | some i => match orderA ops n (listed.setIfInBounds i true) with
      | some l => some (i :: l)
      | none => none
    | none => match Region.ready .any ops listed with
      | i :: _ => match orderA ops n (listed.setIfInBounds i true) with
        | some l => some (i :: l)
        | none => none
      | [] => none
/-- the same by masks, quickly -/
def depsM : List Edge → Nat
  | [] => 0
  | e :: es => match Region.binds .any e with
    | true => Nat.lor (Nat.pow 2 e.on) (depsM es)
    | false => depsM es
def infoF : Nat → List Oper → List (Nat × Nat × Bool)
  | _, [] => []
  | i, o :: os => (i, depsM o.after.toList, turnB o.op) :: infoF (i + 1) os
def takeQ (pm : Nat) (t : Bool) : List (Nat × Nat × Bool) → Option (Nat × List (Nat × Nat × Bool))
  | [] => none
  | (i, m, b) :: r => match (match b with | true => t | false => true) with
    | true => match Nat.beq (Nat.land pm m) m with
      | true => some (i, r)
      | false => match takeQ pm t r with
        | some (j, r') => some (j, (i, m, b) :: r')
        | none => none
    | false => match takeQ pm t r with
      | some (j, r') => some (j, (i, m, b) :: r')
      | none => none
def orderF : Nat → Nat → List (Nat × Nat × Bool) → Option (List Nat)
  | 0, _, _ => some []
  | n + 1, pm, l => match takeQ pm false l with
    | some (i, r) => match orderF n (Nat.lor pm (Nat.pow 2 i)) r with
      | some o => some (i :: o)
      | none => none
    | none => match takeQ pm true l with
      | some (i, r) => match orderF n (Nat.lor pm (Nat.pow 2 i)) r with
        | some o => some (i :: o)
        | none => none
      | none => none
/-- the block that a reading operation looks at -/
def readId (e : En) : Op → Option Nat
  | .load _ a => match evo e a with
    | some (.ptr b _) => some b
    | _ => none
  | .lookup _ x _ _ => match evo e x with
    | some (.map r) => some r
    | _ => none
  | .call c => match c.callee with
    | .builtin .len => match c.args.toList with
      | x :: [] => match evo e x with
        | some (.map r) => some r
        | _ => none
      | _ => none
    | _ => none
  | _ => none
def oneH (h : AH) : Option Nat → AH
  | none => ⟨.nil, 0, []⟩
  | some i => ⟨Tr.set .nil i (h.o.get i), 0, []⟩
theorem oneH_get {h : AH} {r : Option Nat} {i : Nat} {o : AO} (q : (oneH h r).o.get i = some o) : r = some i ∧ h.o.get i = some o := by
  cases r with
  | none => simp only [oneH, Tr.nil_get] at q; cases q
  | some j =>
    simp only [oneH, Tr.get_set] at q
    by_cases e : i = j
    · rw [if_pos e] at q; subst e; exact ⟨rfl, q⟩
    · rw [if_neg e, Tr.nil_get] at q; cases q
theorem oneH_rp {R : Ren} {h : AH} {w : World} {r : Option Nat} (hR : Rp R h w) : Rp R (oneH h r) w := by
  intro i o L hi hL
  exact hR i o L (oneH_get hi).2 hL
end Go.Proofs.YtejohpjhonjcjaaGreatDoor.Zr

/- A runner, regions that draw their order: steps that come late. No program stands here. -/
namespace Go.Proofs.YtejohpjhonjcjaaGreatDoor.Zr
open Go Go.RowKit Eng
def allL : Nat → Bool := fun _ => true
section
variable {P : Program} {ops : Array Oper} {M : List Nat}
/-- what is known of the steps that were taken, whatever was listed -/
structure Sta (c : Cxt) (ops : Array Oper) (M : List Nat) (n : Nat) (rs : List Rec) (h : AH) : Prop where
  msk : maskB ops M ops.size = true
  nd : ∀ rs1 r rs2, rs = rs1 ++ r :: rs2 → ∀ k ∈ rs1, k.i ≠ r.i
  op : ∀ r ∈ rs, r.i < ops.size ∧ r.d = dstI ops r.i ∧ (∀ d, r.d = some d → d < n)
  dep : ∀ rs1 r rs2, rs = rs1 ++ r :: rs2 → ∀ d ∈ depsI ops r.i, ∃ k ∈ rs1, k.i = d
  cf : ∀ rs1 r rs2, rs = rs1 ++ r :: rs2 → ∀ k ∈ rs1, confB k.d r.d (slotsI ops k.i) (slotsI ops r.i) = true → bitB M r.i k.i = true
  idl : ∀ r ∈ rs, ∀ x, r.id = some x → x < h.nx ∧ ¬ c.pd x
  uq : ∀ r ∈ rs, ∀ r' ∈ rs, ∀ x, r.id = some x → r'.id = some x → r.i = r'.i
/-- a step that was taken by the runner, and waits -/
def LateF (P : Program) (ops : Array Oper) (h : AH) (eP : En) (r : Rec) : Prop :=
  ∃ o, ops.toList[r.i]? = some o ∧
    ((wantA ops eP o = some false ∧ r.v = .tup [] ∧ r.id = none) ∨
     (wantA ops eP o = some true ∧ r.id = none ∧ qop P (restr eP (slotsO ops o)) (oneH h (readId (restr eP (slotsO ops o)) o.op)) o.op = some r.v) ∨
     (wantA ops eP o = some true ∧ makesB o.op = true ∧ ∃ hA ob, r.id = some hA.nx ∧ eop P (restr eP (slotsO ops o)) hA o.op = some (r.v, hA.new ob) ∧ h.o.get hA.nx = some ob))
def pdL (c : Cxt) (rs : List Rec) (L : Array Bool) : Cxt := ⟨c.w, fun i => c.pd i ∨ ∃ r ∈ rs, lst L r.i = false ∧ r.id = some i⟩
structure Inv (P : Program) (c : Cxt) (ops : Array Oper) (n : Nat) (ds : List Deferred) (e0 : En) (rs : List Rec) (T : List Rec) (h : AH) (L : Array Bool) (R : Ren) (a : Act) (w : World) : Prop where
  rep : Rep (pdL c rs L) R h w
  env : EO R (envL (lst L) rs e0) a
  size : a.tmps.size = n
  dfr : a.defers = ds
  sub : ∀ j, lst L j = true → ∃ r ∈ rs, r.i = j
  down : ∀ j, lst L j = true → ∀ d ∈ depsI ops j, lst L d = true
  lsz : L.size = ops.size
  tt : ∀ r ∈ rs, lst L r.i = false → r ∈ T
  late : ∀ rs1 r rs2, rs = rs1 ++ r :: rs2 → lst L r.i = false → LateF P ops h (envL allL rs1 e0) r
theorem Rep.sub_pd {w0 : World} {p p' : Nat → Prop} {R : Ren} {h : AH} {w : World} (k : Rep ⟨w0, p⟩ R h w) (s : ∀ i, p' i → p i) : Rep ⟨w0, p'⟩ R h w := ⟨k.obj, k.inj, k.frs, fun i x => k.pnd i (s i x), k.live, k.bl⟩
/-- a block that was named is made -/
theorem Rep.here {w0 : World} {p : Nat → Prop} {R : Ren} {h : AH} {w w' : World} {id : Nat} {ob : AO} (k : Rep ⟨w0, p⟩ R h w) (hp : p id) (hi : h.o.get id = some ob) (hb : Bl w w') (ho : OR (R.put id ⟨w.heap.size, 0, 0⟩) ob ⟨w.heap.size, 0, 0⟩ w') :
    Sb R (R.put id ⟨w.heap.size, 0, 0⟩) ∧ Rep ⟨w0, fun i => p i ∧ i ≠ id⟩ (R.put id ⟨w.heap.size, 0, 0⟩) h w' := by
  have hn := (k.pnd id hp).1
  have hlt := (k.pnd id hp).2
  have hs : Sb R (R.put id ⟨w.heap.size, 0, 0⟩) := Ren.put_sb hn
  refine ⟨hs, ⟨fun i o L hi' hL => ?_, fun i j oi oj Li Lj hi' hj ri rj hne => ?_, fun i hi' => ?_, fun i hi' => ?_, k.live, k.bl.trans hb⟩⟩
  · by_cases e : i = id
    · subst e
      rw [Ren.put_self] at hL; cases hL
      rw [hi] at hi'; cases hi'
      exact ⟨ho, k.bl.size⟩
    · unfold Ren.put at hL
      rw [if_neg e] at hL
      obtain ⟨h2, h3⟩ := k.obj i o L hi' hL
      exact ⟨(h2.mono hs).stay (hb.block _ h2.lt), h3⟩
  · unfold Ren.put at ri rj
    by_cases e : i = id
    · rw [if_pos e] at ri; cases ri
      rw [if_neg (fun q => hne (e.trans q.symm))] at rj
      have := (k.obj j oj Lj hj rj).1.lt
      exact fun q => by simp only at q; omega
    · rw [if_neg e] at ri
      by_cases e2 : j = id
      · rw [if_pos e2] at rj; cases rj
        have := (k.obj i oi Li hi' ri).1.lt
        exact fun q => by simp only at q; omega
      · rw [if_neg e2] at rj
        exact k.inj i j oi oj Li Lj hi' hj ri rj hne
  · unfold Ren.put
    rw [if_neg (by omega)]; exact k.frs i hi'
  · unfold Ren.put
    rw [if_neg hi'.2]; exact k.pnd i hi'.1
theorem lst_set {L : Array Bool} {i : Nat} (hi : i < L.size) (j : Nat) : lst (L.setIfInBounds i true) j = if j = i then true else lst L j := by
  unfold lst
  simp only [Array.getD_eq_getD_getElem?, Array.getElem?_setIfInBounds]
  by_cases h : i = j
  · subst h; simp [hi]
  · rw [if_neg h, if_neg (Ne.symm h)]
theorem toOp {i : Nat} {o : Oper} (h : ops.toList[i]? = some o) : ops[i]? = some o := by rw [← Array.getElem?_toList]; exact h
theorem deps_of {i : Nat} {o : Oper} (h : ops.toList[i]? = some o) {L : Array Bool} (hr : i ∈ Region.ready .any ops L) : ∀ d ∈ depsI ops i, lst L d = true := by
  intro d hd
  obtain ⟨_, o', ho', hall⟩ := mem_ready.1 hr
  rw [toOp h] at ho'; cases ho'
  unfold depsI at hd
  rw [h] at hd
  simp only [List.mem_map, List.mem_filter] at hd
  obtain ⟨e, ⟨he, hb⟩, rfl⟩ := hd
  exact hall e (by simpa using he) hb
theorem ready_of {i : Nat} {o : Oper} (h : ops.toList[i]? = some o) {L : Array Bool} (hl : L.size = ops.size) (hu : lst L i = false) (hd : ∀ d ∈ depsI ops i, lst L d = true) : i ∈ Region.ready .any ops L := by
  have ho := toOp h
  have hlt := (Array.getElem?_eq_some_iff.1 ho).1
  refine mem_ready.2 ⟨?_, o, ho, fun e he hb => ?_⟩
  · unfold lst at hu
    simp only [Array.getD_eq_getD_getElem?] at hu ⊢
    rw [Array.getElem?_eq_getElem (by omega)] at hu ⊢
    exact hu
  · refine hd e.on ?_
    unfold depsI
    rw [h]
    simp only [List.mem_map, List.mem_filter]
    exact ⟨e, ⟨by simpa using he, hb⟩, rfl⟩
theorem unlisted {i : Nat} {L : Array Bool} (hl : L.size = ops.size) (hr : i ∈ Region.ready .any ops L) : lst L i = false ∧ i < ops.size := by
  obtain ⟨h1, o, ho, _⟩ := mem_ready.1 hr
  have hlt := (Array.getElem?_eq_some_iff.1 ho).1
  refine ⟨?_, hlt⟩
  unfold lst
  simp only [Array.getD_eq_getD_getElem?] at h1 ⊢
  rw [Array.getElem?_eq_getElem (by omega)] at h1 ⊢
  exact h1
theorem conf_w {k r : Rec} {sk si : List Nat} {t : Nat} (hk : k.d = some t) (ht : t ∈ si) : confB k.d r.d sk si = true := by
  unfold confB
  rw [hk]
  simp [memN_iff.2 ht]
theorem conf_d {k r : Rec} {sk si : List Nat} {t : Nat} (hk : k.d = some t) (ht : r.d = some t) : confB k.d r.d sk si = true := by
  unfold confB
  rw [hk, ht]
  simp
theorem conf_r {k r : Rec} {sk si : List Nat} {t : Nat} (hr : r.d = some t) (ht : t ∈ sk) : confB k.d r.d sk si = true := by
  unfold confB
  rw [hr]
  simp [memN_iff.2 ht]
/-- the slots that a step looks at, when it is ready, hold what they held for the runner -/
theorem slots_then {c : Cxt} {n : Nat} {e0 : En} {rs1 rs2 : List Rec} {r : Rec} {h : AH} {L : Array Bool} (hS : Sta c ops M n (rs1 ++ r :: rs2) h) (hlsz : L.size = ops.size) (hdown : ∀ j, lst L j = true → ∀ d ∈ depsI ops j, lst L d = true)
    (hr : r.i ∈ Region.ready .any ops L) : (∀ t ∈ slotsI ops r.i, (envL (lst L) (rs1 ++ r :: rs2) e0).get t = (envL allL rs1 e0).get t) ∧ (∀ k ∈ rs2, confB r.d k.d (slotsI ops r.i) (slotsI ops k.i) = true → lst L k.i = false) ∧ (∀ k ∈ rs1, confB k.d r.d (slotsI ops k.i) (slotsI ops r.i) = true → lst L k.i = true) := by
  obtain ⟨hu, hlt⟩ := unlisted hlsz hr
  have hro : ∃ o, ops.toList[r.i]? = some o := ⟨_, List.getElem?_eq_getElem (by rw [Array.length_toList]; exact hlt)⟩
  obtain ⟨o, ho⟩ := hro
  have hd := deps_of ho hr
  have hanc := anc_listed hS.msk (L := lst L) hdown (r.i + 1) r.i (by omega) hlt hd
  have h1 : ∀ k ∈ rs1, confB k.d r.d (slotsI ops k.i) (slotsI ops r.i) = true → lst L k.i = true := fun k hk hc => hanc _ (hS.cf rs1 r rs2 rfl k hk hc)
  have h2 : ∀ k ∈ rs2, confB r.d k.d (slotsI ops r.i) (slotsI ops k.i) = true → lst L k.i = false := by
    intro k hk hc
    obtain ⟨s1, s2, rfl⟩ := List.append_of_mem hk
    have hb := hS.cf (rs1 ++ r :: s1) k s2 (by simp) r (by simp) hc
    cases hl : lst L k.i with
    | false => rfl
    | true =>
      have hki : k.i < ops.size := (hS.op k (by simp)).1
      have := anc_listed hS.msk (L := lst L) hdown (k.i + 1) k.i (by omega) hki (hdown k.i hl) _ hb
      rw [hu] at this; cases this
  refine ⟨fun t ht => ?_, h2, h1⟩
  rw [envL_app]
  simp only [envL, hu]
  rw [envL_skip (t := t) fun k hk hkd => h2 k hk (conf_r hkd ht)]
  exact envL_get rfl fun k hk hkd => by rw [h1 k hk (conf_w hkd ht)]; rfl
theorem wantA_eq {e e' : En} {o : Oper} (h : ∀ t ∈ slotsO ops o, e.get t = e'.get t) : wantA ops e o = wantA ops e' o := by
  unfold wantA
  cases hg : o.guard with
  | none => rfl
  | some g =>
    obtain ⟨j, want⟩ := g
    simp only
    cases hs : guardSlot ops j with
    | none => rfl
    | some s =>
      simp only
      rw [h s (by unfold slotsO; rw [hg]; simp only [hs]; exact List.mem_cons_self ..)]
theorem wantA_ok {R : Ren} {e : En} {a : Act} {o : Oper} {b : Bool} (h : EO R e a) (q : wantA ops e o = some b) : Region.wanted o (yielded ops a.tmps) = b := by
  unfold wantA at q
  split at q
  · rename_i hg
    simp only [Option.some.injEq] at q; subst q
    simp [Region.wanted, hg]
  · rename_i j want hg
    split at q <;> try (cases q; done)
    rename_i s hs
    have hw := wanted_path (a := a) hg hs
    split at q <;> try (cases q; done)
    · rename_i c hc
      simp only [Option.some.injEq] at q; subst q
      have := h _ _ hc
      generalize hx : a.tmps.getD s undef = x at this hw
      cases this
      cases hb : Region.wanted o (yielded ops a.tmps) with
      | true =>
        have := hw.1 hb
        simp only [Value.bool.injEq] at this; subst this
        cases c <;> rfl
      | false =>
        cases c <;> cases want <;> simp [boolBeq] <;> simp [hb] at hw
    · rename_i hc
      simp only [Option.some.injEq] at q; subst q
      have := h _ _ hc
      generalize hx : a.tmps.getD s undef = x at this hw
      cases this
      cases hb : Region.wanted o (yielded ops a.tmps) with
      | true => have := hw.1 hb; cases this
      | false => rfl
/-- the slots behind a step that came late -/
theorem env_then {c : Cxt} {n : Nat} {e0 : En} {rs1 rs2 : List Rec} {r : Rec} {h : AH} {L : Array Bool} {R R' : Ren} {a : Act} {x : Value} (hS : Sta c ops M n (rs1 ++ r :: rs2) h) (hlsz : L.size = ops.size) (hdown : ∀ j, lst L j = true → ∀ d ∈ depsI ops j, lst L d = true)
    (henv : EO R (envL (lst L) (rs1 ++ r :: rs2) e0) a) (hsize : a.tmps.size = n)
    (hr : r.i ∈ Region.ready .any ops L) (hs : Sb R R') (hx : VR R' r.v x) : EO R' (envL (lst (L.setIfInBounds r.i true)) (rs1 ++ r :: rs2) e0) (a.put r.d x) := by
  obtain ⟨hu, hlt⟩ := unlisted hlsz hr
  obtain ⟨_, h2, h1⟩ := slots_then (e0 := e0) hS hlsz hdown hr
  have hset := lst_set (L := L) (i := r.i) (by rw [hlsz]; exact hlt)
  have hd := (hS.op r (by simp)).2.2
  intro t v hv
  have key : (envL (lst (L.setIfInBounds r.i true)) (rs1 ++ r :: rs2) e0).get t = if r.d = some t then some r.v else (envL (lst L) (rs1 ++ r :: rs2) e0).get t := by
    have n1 : ∀ k ∈ rs1, lst (L.setIfInBounds r.i true) k.i = lst L k.i := fun k hk => by rw [hset, if_neg (hS.nd rs1 r rs2 rfl k hk)]
    have n2 : ∀ k ∈ rs2, lst (L.setIfInBounds r.i true) k.i = lst L k.i := fun k hk => by
      obtain ⟨s1, s2, rfl⟩ := List.append_of_mem hk
      rw [hset, if_neg (fun q => hS.nd (rs1 ++ r :: s1) k s2 (by simp) r (by simp) q.symm)]
    rw [envL_app, envL_app]
    simp only [envL, hu, hset, if_true]
    rw [envL_all n1]
    by_cases ht : r.d = some t
    · rw [if_pos ht, envL_skip (t := t) (fun k hk hkd => by rw [n2 k hk]; exact h2 k hk (conf_d ht hkd)), stepE_get, if_pos ht]
    · rw [if_neg ht]
      exact envL_get (by rw [stepE_get, if_neg ht]) (fun k hk _ => n2 k hk)
  rw [key] at hv
  cases hdd : r.d with
  | none => rw [hdd] at hv; rw [if_neg (by simp)] at hv; exact (henv t v hv).mono hs
  | some d =>
    rw [get_put (by rw [hsize]; exact hd d hdd)]
    rw [hdd] at hv
    by_cases ht : t = d
    · subst ht; rw [if_pos rfl] at hv ⊢; cases hv; exact hx
    · rw [if_neg (fun q => ht (Option.some.inj q).symm)] at hv
      rw [if_neg ht]
      exact (henv t v hv).mono hs
/-- a step that comes late -/
theorem late_step {c : Cxt} {n : Nat} {ds : List Deferred} {e0 : En} {rs1 rs2 T : List Rec} {r : Rec} {h : AH} {L : Array Bool} {R : Ren} {a : Act} {w : World} {Q : Exit → Act → World → Prop} {K : Act → World → Prop} (hS : Sta c ops M n (rs1 ++ r :: rs2) h) (hI : Inv P c ops n ds e0 (rs1 ++ r :: rs2) T h L R a w)
    (hr : r.i ∈ Region.ready .any ops L) (hK : ∀ R' a' w' T1 T2, Sb R R' → T = T1 ++ r :: T2 → Inv P c ops n ds e0 (rs1 ++ r :: rs2) (T1 ++ T2) h (L.setIfInBounds r.i true) R' a' w' → K a' w') : wpOp P ops Q r.i K a w := by
  obtain ⟨hu, hlt⟩ := unlisted hI.lsz hr
  obtain ⟨hsl, _, _⟩ := slots_then (e0 := e0) hS hI.lsz hI.down hr
  obtain ⟨o, ho, hcase⟩ := hI.late rs1 r rs2 rfl hu
  have hset := lst_set (L := L) (i := r.i) (by rw [hI.lsz]; exact hlt)
  have hslo : slotsI ops r.i = slotsO ops o := by unfold slotsI; rw [ho]
  rw [hslo] at hsl
  have hdst : r.d = o.dst := by rw [(hS.op r (by simp)).2.1]; unfold dstI; rw [ho]
  obtain ⟨T1, T2, rfl⟩ := List.append_of_mem (hI.tt r (by simp) hu)
  -- what all ways share
  have next : ∀ R' x w', Sb R R' → Rep (pdL c (rs1 ++ r :: rs2) (L.setIfInBounds r.i true)) R' h w' → VR R' r.v x → K (a.put o.dst x) w' := by
    intro R' x w' hs hR' hx
    refine hK R' _ w' T1 T2 hs rfl ⟨hR', by rw [← hdst]; exact env_then hS hI.lsz hI.down hI.env hI.size hr hs hx, ?_, ?_, ?_, ?_, by rw [Array.size_setIfInBounds]; exact hI.lsz, ?_, ?_⟩
    · rw [← hI.size]; unfold Act.put; split <;> simp
    · rw [← hI.dfr]; unfold Act.put; split <;> rfl
    · intro j hj
      rw [hset] at hj
      by_cases e : j = r.i
      · exact ⟨r, by simp, e.symm⟩
      · rw [if_neg e] at hj; exact hI.sub j hj
    · intro j hj d hd
      rw [hset] at hj
      rw [hset]
      by_cases e : d = r.i
      · rw [if_pos e]
      · rw [if_neg e]
        by_cases e2 : j = r.i
        · subst e2; exact deps_of ho hr d hd
        · rw [if_neg e2] at hj; exact hI.down j hj d hd
    · intro k hk hl
      rw [hset] at hl
      by_cases e : k.i = r.i
      · rw [if_pos e] at hl; cases hl
      · rw [if_neg e] at hl
        have := hI.tt k hk hl
        rw [List.mem_append, List.mem_cons] at this
        rw [List.mem_append]
        rcases this with h1 | rfl | h1
        · exact .inl h1
        · exact absurd rfl e
        · exact .inr h1
    · intro s1 k s2 hk hl
      rw [hset] at hl
      by_cases e : k.i = r.i
      · rw [if_pos e] at hl; cases hl
      · rw [if_neg e] at hl; exact hI.late s1 k s2 hk hl
  have pdsub : ∀ i, (pdL c (rs1 ++ r :: rs2) (L.setIfInBounds r.i true)).pd i → (pdL c (rs1 ++ r :: rs2) L).pd i := by
    rintro i (hp | ⟨k, hk, hl, hid⟩)
    · exact .inl hp
    · refine .inr ⟨k, hk, ?_, hid⟩
      rw [hset] at hl
      by_cases e : k.i = r.i
      · rw [if_pos e] at hl; cases hl
      · rw [if_neg e] at hl; exact hl
  have hE : EO R (restr (envL allL rs1 e0) (slotsO ops o)) a := by
    intro t v hv
    rw [restr_get] at hv
    by_cases ht : t ∈ slotsO ops o
    · rw [if_pos ht, ← hsl t ht] at hv; exact hI.env t v hv
    · rw [if_neg ht] at hv; cases hv
  have hw := wantA_eq (ops := ops) (o := o) (fun t ht => hsl t ht)
  unfold wpOp
  rw [toOp ho]
  simp only
  rcases hcase with ⟨q1, q2, _⟩ | ⟨q1, _, q2⟩ | ⟨q1, q2, hA, ob, q3, q4, q5⟩
  · rw [← hw] at q1
    rw [if_neg (by rw [wantA_ok hI.env q1]; decide)]
    exact next R undef w (Sb.refl R) (Rep.sub_pd hI.rep pdsub) (by rw [q2]; exact .tup .nil)
  · rw [← hw] at q1
    rw [if_pos (wantA_ok hI.env q1)]
    refine .inl ?_
    obtain ⟨x, h1, h2⟩ := qop_ok (P := P) (oneH_rp hI.rep.rp) hE q2
    unfold Oper.wp
    rw [h1]
    exact next R x w (Sb.refl R) (Rep.sub_pd hI.rep pdsub) h2
  · rw [← hw] at q1
    rw [if_pos (wantA_ok hI.env q1)]
    refine .inl ?_
    obtain ⟨ob', x, w', h1, h2, h3, _, h4⟩ := nop_ok (P := P) (R := R) (w := w) hE q2 q4
    have hob : ob' = ob := by
      have e1 : (hA.new ob').o.get hA.nx = some ob' := by simp [AH.new, Tr.get_set]
      have e2 : (hA.new ob).o.get hA.nx = some ob := by simp [AH.new, Tr.get_set]
      rw [← h2, e2] at e1
      exact (Option.some.inj e1).symm
    subst hob
    have hp : (pdL c (rs1 ++ r :: rs2) L).pd hA.nx := .inr ⟨r, by simp, hu, q3⟩
    have hn := (hI.rep.pnd _ hp).1
    have hsb : Sb R (R.put hA.nx ⟨w.heap.size, 0, 0⟩) := Ren.put_sb hn
    obtain ⟨k1, k2⟩ := h4 _ hsb (Ren.put_self ..)
    obtain ⟨_, hrep⟩ := Rep.here (w0 := c.w) (p := (pdL c (rs1 ++ r :: rs2) L).pd) hI.rep hp q5 h3 k2
    unfold Oper.wp
    rw [h1]
    refine next _ x w' hsb (Rep.sub_pd hrep fun i hi => ⟨pdsub i hi, fun e => ?_⟩) k1
    subst e
    rcases hi with hi | ⟨k, hk, hl, hid⟩
    · exact (hS.idl r (by simp) _ q3).2 hi
    · have := hS.uq r (by simp) k hk _ q3 hid
      rw [hset, if_pos this.symm] at hl; cases hl
end
end Go.Proofs.YtejohpjhonjcjaaGreatDoor.Zr

/- A runner: a map that is copied by the library. No program stands here. -/
namespace Go.Proofs.YtejohpjhonjcjaaGreatDoor.Zr
open Go Go.RowKit Eng
section
variable {P : Program} {w0 : Cxt} {R : Ren} {h : AH} {w : World}
def isClone (P : Program) (g : FuncId) : Bool := match P.funcs[g]? with
  | some fn => match fn.body with
    | some _ => false
    | none => match fn.name == "maps.clone" with
      | true => fn.origin == ""
      | false => false
  | none => false
def extM (P : Program) (g : FuncId) (h : AH) (args : List AV) : Option (AV × AH) := match args with
  | [.iface t (.map r)] => match h.o.get r with
    | some (.map es clock) => match isClone P g with
      | true => some (.iface t (.map h.nx), h.new (.map es clock))
      | false => none
    | _ => none
  | _ => none
theorem clone_next {fn : Func} (h1 : fn.name = "maps.clone") (h2 : fn.origin = "") : Extern.findNext fn = none := by
  unfold Extern.findNext
  simp only [h1, h2]
  rw [show Extern.allNextRows.lookup "maps.clone" = none by kernel_rfl, show Extern.allNextRows.lookup "" = none by kernel_rfl]
  rfl
theorem clone_find {fn : Func} (h1 : fn.name = "maps.clone") : Extern.find fn = some Extern.MapsClone.clone := by
  unfold Extern.find
  simp only [h1]
  rw [show Extern.allGenericRows.lookup "maps.clone" = none by kernel_rfl, show Extern.allTypedRows.lookup "maps.clone" = none by kernel_rfl, show Extern.allRows.lookup "maps.clone" = some Extern.MapsClone.clone by kernel_rfl]
  rfl
theorem clone_call {g : FuncId} (hc : isClone P g = true) (args : Array Value) {x : Value} {w' : World} (hr : (Extern.MapsClone.clone args).run P w = .ok x w') : (callFunc g args).run P w = .ok (.value x) w' := by
  unfold isClone at hc
  split at hc <;> try (cases hc; done)
  rename_i fn hf
  split at hc <;> try (cases hc; done)
  rename_i hb
  split at hc <;> try (cases hc; done)
  rename_i hn
  have h1 := eq_of_beq hn
  have h2 := eq_of_beq hc
  rw [run_callFunc_extern hf (by rw [h1]; kernel_rfl) (by rw [hb]; rfl) (clone_next h1 h2) (clone_find h1), hr]
  rfl
theorem clone_new {t : TypeId} {r clock : Nat} {es : List (AV × AV × Nat)} {L : Loc} (hR : Rep w0 R h w) (hr : h.o.get r = some (.map es clock)) (hL : R r = some L) :
    NewF P R w h (Extern.MapsClone.clone #[.iface t (.map (some L.blk))]) (.iface t (.map h.nx)) (h.new (.map es clock)) := by
  obtain ⟨L', xs, g1, g2, g3⟩ := hR.map hr hL
  rw [hL] at g1; cases g1
  have hbl : Bl w (w.alloc (.map xs.toArray clock)) := (Below.refl _ _).alloc (Nat.le_refl _) _
  have hget : (w.alloc (.map xs.toArray clock)).heap[w.heap.size]? = some (.map xs.toArray clock) := by show (w.heap.push _)[w.heap.size]? = _; simp
  have hsz : (w.alloc (.map xs.toArray clock)).heap.size = w.heap.size + 1 := by show (w.heap.push _).size = _; simp
  refine ⟨_, .iface t (.map (some w.heap.size)), w.alloc (.map xs.toArray clock), ?_, rfl, hbl, hsz, fun R' s k => ⟨.iface (.map (L := ⟨w.heap.size, 0, 0⟩) k), xs, hget, g3.mono s⟩⟩
  have e : Extern.MapsClone.clone #[.iface t (.map (some L.blk))] = (getObj L.blk >>= fun o => match o with
      | .map entries clock => (newObj (.map entries clock) >>= fun n => pure (.iface t (.map (some n))))
      | _ => stuck "maps.clone: a map expected") := rfl
  rw [e, run_bind_ok (getObj_run g2 rfl)]
  rfl
end
end Go.Proofs.YtejohpjhonjcjaaGreatDoor.Zr

/- A runner, ninth part: functions, their blocks, loops and regions; what the runner gives is what the machine gives. No program stands here. -/
namespace Go.Proofs.YtejohpjhonjcjaaGreatDoor.Zr
open Go Go.RowKit Eng
def dstA (n : Nat) (e : En) (d : Option Nat) (v : AV) : Option En := match d with
  | none => some e
  | some d => match Nat.blt d n with
    | true => some (e.set d (some v))
    | false => none
def numA : Nat → List AV → En → En
  | _, [], e => e
  | i, v :: vs, e => numA (i + 1) vs (e.set i (some v))
def outsA (P : Program) (h : AH) (e : En) : List ResultVar → Option (List AV)
  | [] => some []
  | .tmp t :: r => match e.get t with
    | some v => match outsA P h e r with
      | some vs => some (v :: vs)
      | none => none
    | none => none
  | .cell d t :: r => match e.get d with
    | some p => match opLoad P h t p with
      | some v => match outsA P h e r with
        | some vs => some (v :: vs)
        | none => none
      | none => none
    | none => none
def wholeA : List AV → AV
  | [v] => v
  | vs => .tup vs
inductive Task where
  | call (f : FuncId) (args : List AV)
  | code (f : FuncId) (fn : Func) (ro : Option Nat) (D : List Nat) (k : List Item) (e : En)
  | ops (f : FuncId) (fn : Func) (ro : Option Nat) (D : List Nat) (ops : Array Oper) (l : List Oper) (k : List Item) (e : En)
  | held (fn : Func) (ops : Array Oper) (M l : List Nat) (V : List (Nat × Nat)) (e : En)
  | turn (e : En) (o : Oper)
inductive Res where
  | val (v : AV) (h : AH)
  | held (e : En) (h : AH)
def isCall : Op → Option (Operand × List Operand)
  | .call c => match c.callee with
    | .value fx => some (fx, c.args.toList)
    | _ => none
  | _ => none
/-- a function without a body, on values without addresses -/
def extA (P : Program) (g : FuncId) (args : List AV) : Option AV := match P.funcs[g]? with
  | some fn => match fn.body with
    | some _ => none
    | none => match svL args with
      | some xs => match runP P 60 (callFunc g xs.toArray) with
        | some (.value r) => cv r
        | _ => none
      | none => none
  | none => none
/-- the blocks for the rounds' deferred calls are given back -/
def popD (h : AH) : List Nat → Option AH
  | [] => some h
  | i :: D => match h.o.get i with
    | some .dfr => popD (h.gone i) D
    | _ => none
def retA (P : Program) (h : AH) (D : List Nat) (e : En) (fn : Func) : Option Res := match popD h D with
  | some h' => match outsA P h' e fn.results.toList with
    | some vs => some (.val (wholeA vs) h')
    | none => none
  | none => none
def isNoneB {α : Type} : Option α → Bool
  | none => true
  | some _ => false
/-- a round's end -/
def endR (h : AH) (l : Nat) (jump : Option Code) : Option Res := match h.o.get l with
  | some (.loop f n e ps asg body _ _ d) => some (.val (.bool (isNoneB jump)) (h.put l (.loop f n e ps asg body (match jump with | none => .ready | some _ => .done) jump d)))
  | _ => none
def beginR (h : AH) (l : Nat) : Option AH := match h.o.get l with
  | some (.loop f n e ps asg body st pend d) => match st with
    | .ready => some (h.put l (.loop f n e ps asg body .busy pend d))
    | _ => none
  | _ => none
def endL (h : AH) (l : Nat) : Option (Option Code × AH) := match h.o.get l with
  | some (.loop f n e ps asg body st pend d) => match st with
    | .busy => none
    | _ => some (pend, h.put l (.loop f n e ps asg body .exhausted pend d))
  | _ => none
def jumpK : Option Code → List Item → List Item
  | none, k => k
  | some c, k => .code c :: k
def setPs (n : Nat) : List Tmp → List AV → En → Option En
  | [], [], e => some e
  | t :: ts, v :: vs, e => match Nat.blt t n with
    | true => setPs n ts vs (e.set t (some v))
    | false => none
  | _, _, _ => none
/-- where the rounds' deferred calls go -/
def loopD (h : AH) : Option Nat → Option (Nat × AH × List Nat)
  | none => some (h.nx, h.new .dfr, [h.nx])
  | some l => match h.o.get l with
    | some (.loop _ _ _ _ _ _ _ _ d) => some (d, h, [])
    | _ => none
/-- what a turning step wrote was not looked at by steps that may still wait -/
def quietV (M : List Nat) (i : Nat) (lg : List Nat) : List (Nat × Nat) → Bool
  | [] => true
  | (k, x) :: V => match bitB M i k with
    | true => quietV M i lg V
    | false => match memN x lg with
      | true => false
      | false => quietV M i lg V
def noteV (i : Nat) (r : Option Nat) (V : List (Nat × Nat)) : List (Nat × Nat) := match r with
  | none => V
  | some x => (i, x) :: V
def oldB (nx : Nat) : Option Nat → Bool
  | none => true
  | some x => Nat.blt x nx
def run (P : Program) : Nat → Task → AH → Option Res
  | 0, _, _ => none
  | n + 1, t, h => match t with
    | .call f args => match P.funcs[f]? with
      | some fn => match fn.body with
        | some c => match callable P f && Nat.ble args.length fn.ntmps with
          | true => run P n (.code f fn none [] [.code c] (numA 0 args .nil)) h
          | false => none
        | none => none
      | none => none
    | .code f fn ro D k e => match k with
      | [] => match ro with
        | none => retA P h D e fn
        | some l => endR h l none
      | .code c :: k => match c with
        | .seq a b => run P n (.code f fn ro D (.code a :: .code b :: k) e) h
        | .skip => run P n (.code f fn ro D k e) h
        | .label _ => run P n (.code f fn ro D k e) h
        | .block i c => run P n (.code f fn ro D (.code c :: .inBlock i :: k) e) h
        | .loop c => run P n (.code f fn ro D (.code c :: .inLoop c :: k) e) h
        | .cond c x y => match evo e c with
          | some (.bool true) => run P n (.code f fn ro D (.code x :: k) e) h
          | some (.bool false) => run P n (.code f fn ro D (.code y :: k) e) h
          | _ => none
        | .exit i => match exitTo i k with
          | some k' => run P n (.code f fn ro D k' e) h
          | none => match ro with
            | none => none
            | some l => endR h l (some (.exit i))
        | .ret => match ro with
          | none => retA P h D e fn
          | some l => endR h l (some .ret)
        | .rangeFunc g ps asg body => match evo e g with
          | some (.func gf first cap) => match loopD h ro with
            | some (d, h1, D') => match run P n (.call gf (first ++ ([.yield h1.nx] ++ cap))) (h1.new (.loop f fn.ntmps e ps asg body .ready none d)) with
              | some (.val _ h3) => match endL h3 h1.nx with
                | some (jump, h4) => run P n (.code f fn ro (D' ++ D) (jumpK jump k) e) h4
                | none => none
              | _ => none
            | none => none
          | _ => none
        | .region _ ops d => match d with
          | false => run P n (.ops f fn ro D ops ops.toList k e) h
          | true => match ro with
            | some _ => none
            | none => match orderF ops.size 0 (infoF 0 ops.toList) with
              | none => none
              | some l => match okReg ops (masks ops ops.size []) l with
                | false => none
                | true => match run P n (.held fn ops (masks ops ops.size []) l [] e) h with
                  | some (.held e' h') => run P n (.code f fn none D k e') h'
                  | _ => none
        | _ => none
      | .inBlock _ :: k => run P n (.code f fn ro D k e) h
      | .inLoop c :: k => run P n (.code f fn ro D (.code c :: .inLoop c :: k) e) h
      | .beginRound :: k => match ro with
        | none => none
        | some l => match beginR h l with
          | some h' => run P n (.code f fn ro D k e) h'
          | none => none
      | _ => none
    | .ops f fn ro D ops l k e => match l with
      | [] => run P n (.code f fn ro D k e) h
      | o :: l => match wantA ops e o with
        | none => none
        | some false => match dstA fn.ntmps e o.dst (.tup []) with
          | some e' => run P n (.ops f fn ro D ops l k e') h
          | none => none
        | some true => match isCall o.op with
          | some (fx, args) => match evo e fx with
            | some (.func g first cap) => match evoL e args with
              | some vs => match extA P g (first ++ (vs ++ cap)) with
                | some v => match dstA fn.ntmps e o.dst v with
                  | some e' => run P n (.ops f fn ro D ops l k e') h
                  | none => none
                | none => match extM P g h (first ++ (vs ++ cap)) with
                  | some (v, h') => match dstA fn.ntmps e o.dst v with
                    | some e' => run P n (.ops f fn ro D ops l k e') h'
                    | none => none
                  | none => match run P n (.call g (first ++ (vs ++ cap))) h with
                    | some (.val v h') => match dstA fn.ntmps e o.dst v with
                      | some e' => run P n (.ops f fn ro D ops l k e') h'
                      | none => none
                    | _ => none
              | none => none
            | some (.yield y) => match evoL e args with
              | some vs => match h.o.get y with
                | some (.loop f' n' e' ps asg body _ _ _) => match P.funcs[f']? with
                  | some fn' => match Nat.beq fn'.ntmps n' with
                    | true => match setPs n' ps.toList vs e' with
                      | some e'' => match run P n (.code f' fn' (some y) [] [.code asg, .beginRound, .code body] e'') h with
                        | some (.val v h') => match dstA fn.ntmps e o.dst v with
                          | some e3 => run P n (.ops f fn ro D ops l k e3) h'
                          | none => none
                        | _ => none
                      | none => none
                    | false => none
                  | none => none
                | _ => none
              | none => none
            | _ => none
          | none => match qop P e h o.op with
            | some v => match dstA fn.ntmps e o.dst v with
              | some e' => run P n (.ops f fn ro D ops l k e') h
              | none => none
            | none => match eop P e h o.op with
              | some (v, h') => match dstA fn.ntmps e o.dst v with
                | some e' => run P n (.ops f fn ro D ops l k e') h'
                | none => none
              | none => none
    | .held fn ops M l V e => match l with
      | [] => some (.held e h)
      | i :: l => match ops.toList[i]? with
        | none => none
        | some o => match wantA ops e o with
          | none => none
          | some false => match dstA fn.ntmps e o.dst (.tup []) with
            | some e' => run P n (.held fn ops M l V e') h
            | none => none
          | some true => match turnB o.op with
            | true => match run P n (.turn (restr e (slotsO ops o)) o) ⟨h.o, h.nx, []⟩ with
              | some (.val v h1) => match quietV M i h1.lg V with
                | true => match dstA fn.ntmps e o.dst v with
                  | some e' => run P n (.held fn ops M l V e') ⟨h1.o, h1.nx, h1.lg ++ h.lg⟩
                  | none => none
                | false => none
              | _ => none
            | false => match makesB o.op with
              | true => match eop P (restr e (slotsO ops o)) h o.op with
                | some (v, h') => match dstA fn.ntmps e o.dst v with
                  | some e' => run P n (.held fn ops M l ((i, h.nx) :: V) e') h'
                  | none => none
                | none => none
              | false => match oldB h.nx (readId (restr e (slotsO ops o)) o.op) with
                | true => match qop P (restr e (slotsO ops o)) (oneH h (readId (restr e (slotsO ops o)) o.op)) o.op with
                  | some v => match dstA fn.ntmps e o.dst v with
                    | some e' => run P n (.held fn ops M l (noteV i (readId (restr e (slotsO ops o)) o.op) V) e') h
                    | none => none
                  | none => none
                | false => none
    | .turn e o => match isCall o.op with
      | some (fx, args) => match evo e fx with
        | some (.func g first cap) => match evoL e args with
          | some vs => match extA P g (first ++ (vs ++ cap)) with
            | some v => some (.val v h)
            | none => run P n (.call g (first ++ (vs ++ cap))) h
          | none => none
        | _ => none
      | none => match eop P e h o.op with
        | some (v, h') => some (.val v h')
        | none => none
/-- the marks of the loops' blocks -/
inductive DR (R : Ren) : List Nat → List Deferred → Prop
  | nil : DR R [] []
  | cons {i : Nat} {L : Loc} {D : List Nat} {ds : List Deferred} (h : R i = some L) (k : DR R D ds) : DR R (i :: D) ({ target := .collected L.blk, args := #[] } :: ds)
theorem DR.mono {R R' : Ren} (s : Sb R R') : ∀ {D : List Nat} {ds : List Deferred}, DR R D ds → DR R' D ds
  | _, _, .nil => .nil
  | _, _, .cons h k => .cons (s _ _ h) (k.mono s)
theorem DR.app {R : Ren} : ∀ {D D' : List Nat} {ds ds' : List Deferred}, DR R D ds → DR R D' ds' → DR R (D ++ D') (ds ++ ds')
  | _, _, _, _, .nil, k => k
  | _, _, _, _, .cons h k, k' => .cons h (k.app k')
structure OkE (R : Ren) (fn : Func) (e : En) (D : List Nat) (a : Act) : Prop where
  size : a.tmps.size = fn.ntmps
  defers : DR R D a.defers
  k : EO R e a
section
variable {P : Program} {w0 : Cxt}
theorem OkE.put {R : Ren} {fn : Func} {e e' : En} {D : List Nat} {a : Act} {d : Option Nat} {v : AV} {x : Value} (h : OkE R fn e D a) (hv : VR R v x) (q : dstA fn.ntmps e d v = some e') : OkE R fn e' D (a.put d x) := by
  unfold dstA at q
  split at q
  · simp only [Option.some.injEq] at q; subst q; exact h
  · rename_i d
    split at q <;> try (cases q; done)
    rename_i hd
    have hd := blt_lt hd
    simp only [Option.some.injEq] at q; subst q
    refine ⟨by simp [Act.put, h.size], h.defers, fun t u hu => ?_⟩
    rw [get_put (by rw [h.size]; exact hd)]
    rw [Tr.get_set] at hu
    by_cases ht : t = d
    · rw [if_pos ht] at hu ⊢; cases hu; exact hv
    · rw [if_neg ht] at hu ⊢; exact h.k _ _ hu
theorem OkE.mono {R R' : Ren} {fn : Func} {e : En} {D : List Nat} {a : Act} (h : OkE R fn e D a) (s : Sb R R') : OkE R' fn e D a := ⟨h.size, h.defers.mono s, h.k.mono s⟩
theorem numA_get : ∀ (vs : List AV) (i : Nat) (e : En) (t : Nat) (v : AV), (numA i vs e).get t = some v → (i ≤ t ∧ vs[t - i]? = some v) ∨ e.get t = some v
  | [], _, _, _, _, h => .inr h
  | u :: vs, i, e, t, v, h => by
    simp only [numA] at h
    rcases numA_get vs (i + 1) _ t v h with ⟨h1, h2⟩ | h1
    · left
      refine ⟨by omega, ?_⟩
      rw [show t - i = (t - (i + 1)) + 1 by omega]; simpa using h2
    · rw [Tr.get_set] at h1
      by_cases e1 : t = i
      · rw [if_pos e1] at h1; cases h1
        left; exact ⟨by omega, by rw [e1]; simp⟩
      · rw [if_neg e1] at h1; exact .inr h1
theorem VL.get {R : Ren} : ∀ {n : Nat} {vs : List AV} {xs : List Value} {v : AV}, VL R vs xs → vs[n]? = some v → ∃ x, xs[n]? = some x ∧ VR R v x := fun h e => by rw [← nth_eq] at e; exact h.nth e
theorem numA_ok {R : Ren} {fn : Func} {args : List AV} {xs : List Value} (h : VL R args xs) (hl : args.length ≤ fn.ntmps) : OkE R fn (numA 0 args .nil) [] { tmps := xs.toArray ++ Array.replicate (fn.ntmps - xs.toArray.size) undef, defers := [] } := by
  refine ⟨by simp [h.len]; omega, .nil, fun t v hv => ?_⟩
  rcases numA_get _ _ _ _ _ hv with ⟨_, h2⟩ | h2
  · obtain ⟨x, h3, h4⟩ := VL.get h h2
    simp only [Nat.sub_zero] at h3
    obtain ⟨hlt, e⟩ := List.getElem?_eq_some_iff.1 h3
    have : ({ tmps := xs.toArray ++ Array.replicate (fn.ntmps - xs.toArray.size) undef, defers := [] } : Act).tmps.getD t undef = x := by simp [Array.getElem?_append, hlt, e]
    rw [this]; exact h4
  · rw [Tr.nil_get] at h2; cases h2
theorem opLoad_addr {R : Ren} {h : AH} {w : World} (hR : Rp R h w) {t : TypeId} {p v : AV} {x : Value} (hp : VR R p x) (e : opLoad P h t p = some v) : ∃ A y, x = .pointer (some A) ∧ (loadVar t A).run P w = .ok y w ∧ VR R v y := by
  obtain ⟨y, h1, h2⟩ := opLoad_ok hR hp e
  cases hp <;> simp only [opLoad] at e <;> try (cases e; done)
  exact ⟨_, y, rfl, h1, h2⟩
def rvF (tmps : Array Value) : ResultVar → Sem Value
  | .tmp t => pure (tmps.getD t undef)
  | .cell d t => do loadVar t (← asAddr (tmps.getD d undef))
theorem outsA_ok {R : Ren} {h : AH} {w : World} {e : En} {a : Act} (hR : Rp R h w) (hE : EO R e a) : ∀ {rs : List ResultVar} {vs : List AV}, outsA P h e rs = some vs →
    ∃ xs, (rs.mapM (rvF a.tmps)).run P w = .ok xs w ∧ VL R vs xs
  | [], vs, q => by simp only [outsA, Option.some.injEq] at q; subst q; exact ⟨[], rfl, .nil⟩
  | .tmp t :: r, vs, q => by
    simp only [outsA] at q
    split at q <;> try (cases q; done)
    rename_i v hv
    split at q <;> try (cases q; done)
    rename_i us hus
    simp only [Option.some.injEq] at q; subst q
    obtain ⟨xs, h1, h2⟩ := outsA_ok hR hE hus
    refine ⟨a.tmps.getD t undef :: xs, ?_, .cons (hE _ _ hv) h2⟩
    rw [List.mapM_cons, run_bind_ok (show (rvF a.tmps (.tmp t)).run P w = .ok (a.tmps.getD t undef) w from rfl), run_bind_ok h1]; rfl
  | .cell d t :: r, vs, q => by
    simp only [outsA] at q
    split at q <;> try (cases q; done)
    rename_i p hp
    split at q <;> try (cases q; done)
    rename_i v hv
    split at q <;> try (cases q; done)
    rename_i us hus
    simp only [Option.some.injEq] at q; subst q
    obtain ⟨xs, h1, h2⟩ := outsA_ok hR hE hus
    obtain ⟨A, y, g1, g2, g3⟩ := opLoad_addr (P := P) hR (hE _ _ hp) hv
    refine ⟨y :: xs, ?_, .cons g3 h2⟩
    rw [List.mapM_cons]
    have : (rvF a.tmps (.cell d t)).run P w = .ok y w := by
      simp only [rvF]
      rw [g1, run_bind_ok (show (asAddr (.pointer (some A))).run P w = .ok A w from rfl)]; exact g2
    rw [run_bind_ok this, run_bind_ok h1]; rfl
theorem wholeA_ok {R : Ren} {vs : List AV} {xs : List Value} (h : VL R vs xs) : VR R (wholeA vs) (whole xs) := by
  cases h with
  | nil => exact .tup .nil
  | cons h h' => cases h' with
    | nil => exact h
    | cons k k' => exact .tup (.cons h (.cons k k'))
theorem resultsA {R : Ren} {h : AH} {w : World} {fn : Func} {e : En} {a : Act} {vs : List AV} (hR : Rp R h w) (hE : EO R e a) (q : outsA P h e fn.results.toList = some vs) : ∃ x, (results fn a.tmps).run P w = .ok x w ∧ VR R (wholeA vs) x := by
  obtain ⟨xs, h1, h2⟩ := outsA_ok (P := P) hR hE q
  refine ⟨whole xs, ?_, wholeA_ok h2⟩
  have hm : (fn.results.mapM (rvF a.tmps)).run P w = .ok xs.toArray w := by
    rw [← Array.toArray_toList (xs := fn.results), List.mapM_toArray]; exact run_map_ok h1
  have e : results fn a.tmps = (do let vs ← fn.results.mapM (rvF a.tmps); pure (if h : vs.size = 1 then vs[0] else .tuple vs)) := by
    unfold results
    congr 1
  rw [e, run_bind_ok hm]
  cases xs with
  | nil => simp [whole, pure]
  | cons v r => cases r with
    | nil => simp [whole, pure]
    | cons u r => simp [whole, pure]
/-- what a call leaves -/
def Post (c : Cxt) (R : Ren) (r : AV) (h' : AH) (v : Value) (w' : World) : Prop := ∃ R', Sb R R' ∧ Rep c R' h' w' ∧ VR R' r v
theorem Post.trans {R R' : Ren} {h' : AH} {w' : World} {r : AV} {v : Value} (s : Sb R R') (p : Post w0 R' r h' v w') : Post w0 R r h' v w' := by
  obtain ⟨R'', a, b, c⟩ := p
  exact ⟨R'', s.trans a, b, c⟩
theorem Rep.lgs {R : Ren} {o : Tr AO} {nx : Nat} {l : List Nat} {w : World} (k : Rep w0 R ⟨o, nx, l⟩ w) (l' : List Nat) : Rep w0 R ⟨o, nx, l'⟩ w := ⟨k.obj, k.inj, k.frs, k.pnd, k.live, k.bl⟩
theorem Rep.drew {R : Ren} {h : AH} {w : World} (k : Rep w0 R h w) : Rep w0 R h { w with drawn := w.drawn + 1 } := by
  refine ⟨fun i o L x y => ?_, k.inj, k.frs, k.pnd, k.live, ?_⟩
  · obtain ⟨h2, h3⟩ := k.obj i o L x y
    exact ⟨h2.stay rfl, h3⟩
  · have := k.bl; exact ⟨this.os, this.tape, this.output, this.size, this.block⟩
/-- the notes grow, and what is not noted is as it was -/
structure LG (h h' : AH) : Prop where
  nx : h.nx ≤ h'.nx
  lg : ∀ i, i ∈ h.lg → i ∈ h'.lg
  sm : ∀ i, i < h.nx → i ∉ h'.lg → h'.o.get i = h.o.get i
theorem LG.refl (h : AH) : LG h h := ⟨Nat.le_refl _, fun _ x => x, fun _ _ _ => rfl⟩
theorem LG.trans {a b c : AH} (h : LG a b) (k : LG b c) : LG a c := ⟨Nat.le_trans h.nx k.nx, fun i x => k.lg i (h.lg i x), fun i x y => (k.sm i (Nat.lt_of_lt_of_le x h.nx) y).trans (h.sm i x fun z => y (k.lg i z))⟩
/-- a frame, in a round or not -/
def bsR (f : FuncId) (ro : Option Nat) : Frame := { (default : Frame) with fn := f, kind := .normal, roundOf := ro }
/-- where a frame is to come -/
def Goal (P : Program) (f : FuncId) (ro : Option Nat) (Q : Value → World → Prop) (cs : List Frame) (m : Machine) : Prop := match ro with
  | none => ∃ e w' fr, retQ Q e w' ∧ Comes P m (lone fr cs w') e ∧ fr.fn = f ∧ fr.leaving P w' e
  | some _ => ∀ c cs', cs = c :: cs' → ∃ v w', Q v w' ∧ Steps P m (lone (c.finish v) cs' w')
theorem Goal.steps {f : FuncId} {ro : Option Nat} {Q : Value → World → Prop} {cs : List Frame} {m m' : Machine} (h : Steps P m m') (g : Goal P f ro Q cs m') : Goal P f ro Q cs m := by
  cases ro with
  | none => obtain ⟨e, w', fr, hq, hc, hr⟩ := g; exact ⟨e, w', fr, hq, .of_steps h hc, hr⟩
  | some l => intro c cs' e; obtain ⟨v, w', hq, hs⟩ := g c cs' e; exact ⟨v, w', hq, h.trans hs⟩
def runsR (P : Program) (f : FuncId) (ro : Option Nat) (Q : Value → World → Prop) (a : Act) (k : List Item) (w : World) : Prop := ∀ cs, Goal P f ro Q cs (lone ((bsR f ro).atR a k) cs w)
def RoR (R : Ren) : Option Nat → Option Nat → Prop
  | none, r => r = none
  | some l, r => ∃ L, R l = some L ∧ r = some L.blk
theorem RoR.mono {R R' : Ren} (s : Sb R R') {a b : Option Nat} (h : RoR R a b) : RoR R' a b := by
  cases a with
  | none => exact h
  | some l => obtain ⟨L, h1, h2⟩ := h; exact ⟨L, s _ _ h1, h2⟩
/-- the blocks that taken steps look at -/
def VOk (ops : Array Oper) (V : List (Nat × Nat)) (rs : List Rec) (e0 : En) (nx : Nat) : Prop :=
  (∀ p ∈ V, p.2 < nx) ∧ ∀ rs1 r rs2, rs = rs1 ++ r :: rs2 → ∀ o, ops.toList[r.i]? = some o → wantA ops (envL allL rs1 e0) o = some true → ∀ x, (r.id = some x ∨ readId (restr (envL allL rs1 e0) (slotsO ops o)) o.op = some x) → (r.i, x) ∈ V
/-- what a task's answer says -/
def Spec (P : Program) : Task → AH → Res → Prop
  | .call f args, h, .val r h' => ∀ c R w xs, Rep c R h w → VL R args xs → Ret P f xs.toArray w (Post c R r h')
  | .code f fn ro D k e, h, .val r h' => P.funcs[f]? = some fn → ∀ c R w a ro' (Q : Value → World → Prop), Rep c R h w → OkE R fn e D a → RoR R ro ro' → (∀ v w', Post c R r h' v w' → Q v w') → runsR P f ro' Q a k w
  | .ops f fn ro D ops l k e, h, .val r h' => P.funcs[f]? = some fn → ∀ c R w a ro' (Q : Value → World → Prop) (i : Nat), Rep c R h w → OkE R fn e D a → RoR R ro ro' → (∀ j, l[j]? = ops[i + j]?) → (∀ v w', Post c R r h' v w' → Q v w') →
      runsR P f ro' Q a (.inRegion ops (List.range' i l.length) :: k) w
  | .held fn ops M l V e, h, .held e' h' => ∀ (c : Cxt) (R0 : Ren) (ds : List Deferred) (e0 : En) (rs T : List Rec) (L : Array Bool) (R : Ren) (a : Act) (w : World) (Qx : Exit → Act → World → Prop),
      Sta c ops M fn.ntmps rs h → e = envL allL rs e0 → VOk ops V rs e0 h.nx → regB ops M (rs.map Rec.i) l = true → Sb R0 R → Inv P c ops fn.ntmps ds e0 rs T h L R a w →
      (∀ R' a' w', Sb R0 R' → Rep c R' h' w' → EO R' e' a' → a'.tmps.size = fn.ntmps → a'.defers = ds → Qx .normal a' w') →
      wpAny P .any ops Qx (l.length + T.length) L a w
  | .turn e o, h, .val v h' => ∀ c R w a (nx : Act → World → Prop) (Qx : Exit → Act → World → Prop), Rep c R h w → EO R e a → (∀ x w', Post c R v h' x w' → nx (a.put o.dst x) w') → o.wp P a w nx Qx
  | _, _, _ => False
theorem isCall_ok {op : Op} {fx : Operand} {args : List Operand} (q : isCall op = some (fx, args)) : ∃ asg tys, op = .call ⟨.value fx, asg, tys⟩ ∧ asg.toList = args := by
  unfold isCall at q
  split at q <;> try (cases q; done)
  rename_i c
  split at q <;> try (cases q; done)
  rename_i f hf
  simp only [Option.some.injEq, Prod.mk.injEq] at q
  obtain ⟨rfl, rfl⟩ := q
  obtain ⟨cal, asg, tys⟩ := c
  simp only at hf; subst hf
  exact ⟨asg, tys, rfl, rfl⟩
/-- an operation that calls -/
theorem call_wp {R : Ren} {h h' : AH} {w : World} {e : En} {a : Act} {o : Oper} {fx : Operand} {args : List Operand} {g : FuncId} {first cap vs : List AV} {v : AV} {nx : Act → World → Prop} {Qx : Exit → Act → World → Prop}
    (hR : Rep w0 R h w) (hE : EO R e a) (hc : isCall o.op = some (fx, args)) (hf : evo e fx = some (.func g first cap)) (hv : evoL e args = some vs) (hs : Spec P (.call g (first ++ (vs ++ cap))) h (.val v h'))
    (hn : ∀ x w', Post w0 R v h' x w' → nx (a.put o.dst x) w') : o.wp P a w nx Qx := by
  obtain ⟨asg, tys, ho, rfl⟩ := isCall_ok hc
  have hfx := evo_ok hE hf
  generalize hfv : a.eval fx = fv at hfx
  cases hfx with
  | func h1 h2 =>
    rename_i xs ys
    have hargs := evoL_ok hE hv
    have hret := hs w0 R w _ hR (h1.app (hargs.app h2))
    unfold Oper.wp
    rw [call_run (av := xs ++ (asg.toList.map a.eval ++ ys)) ho hret.ok hfv rfl (by simp)]
    refine hret.run.mono fun en w' r => ?_
    cases en with
    | returned x => exact hn x w' r
    | panicked ch => exact r.elim
    | outgrown => exact r.elim
theorem ext_run {R : Ren} {w : World} {e : En} {a : Act} {o : Oper} {fx : Operand} {args : List Operand} {g : FuncId} {first cap vs : List AV} {v : AV}
    (hE : EO R e a) (hc : isCall o.op = some (fx, args)) (hf : evo e fx = some (.func g first cap)) (hv : evoL e args = some vs) (hs : extA P g (first ++ (vs ++ cap)) = some v) : ∃ x, (execOp a.eval o).run P w = .ok (.value x) w ∧ VR R v x := by
  obtain ⟨asg, tys, ho, rfl⟩ := isCall_ok hc
  have hfx := evo_ok hE hf
  generalize hfv : a.eval fx = fv at hfx
  cases hfx with
  | func h1 h2 =>
    rename_i xs ys
    have hargs := evoL_ok hE hv
    have hall := h1.app (hargs.app h2)
    unfold extA at hs
    split at hs <;> try (cases hs; done)
    split at hs <;> try (cases hs; done)
    split at hs <;> try (cases hs; done)
    rename_i zs hz
    have := svL_ok hz hall; subst this
    split at hs <;> try (cases hs; done)
    rename_i r hr
    have hrun := runP_ok hr w
    have eo : execOp a.eval o = callFunc g (xs ++ (asg.toList.map a.eval ++ ys)).toArray := by
      have e1 : asg.map a.eval = (asg.toList.map a.eval).toArray := args_two rfl
      have e2 : xs.toArray ++ (asg.toList.map a.eval).toArray ++ ys.toArray = (xs ++ (asg.toList.map a.eval ++ ys)).toArray := by simp
      unfold execOp
      simp only [ho, resolve, hfv, e1, Deferred.ofValue]
      show (Sem.bind (Sem.pure _) _) = _
      simp only [Sem.bind, invoke, e2]
    exact ⟨r, by rw [eo]; exact hrun, cv_ok hs⟩
theorem extM_run {R : Ren} {h h' : AH} {w : World} {e : En} {a : Act} {o : Oper} {fx : Operand} {args : List Operand} {g : FuncId} {first cap vs : List AV} {v : AV}
    (hR : Rep w0 R h w) (hE : EO R e a) (hc : isCall o.op = some (fx, args)) (hf : evo e fx = some (.func g first cap)) (hv : evoL e args = some vs) (hs : extM P g h (first ++ (vs ++ cap)) = some (v, h')) : Eo P w0 R w h a.eval o v h' := by
  obtain ⟨asg, tys, ho, rfl⟩ := isCall_ok hc
  have hfx := evo_ok hE hf
  generalize hfv : a.eval fx = fv at hfx
  cases hfx with
  | func h1 h2 =>
    rename_i xs ys
    have hargs := evoL_ok hE hv
    have hall := h1.app (hargs.app h2)
    have eo : execOp a.eval o = callFunc g (xs ++ (asg.toList.map a.eval ++ ys)).toArray := by
      have e1 : asg.map a.eval = (asg.toList.map a.eval).toArray := args_two rfl
      have e2 : xs.toArray ++ (asg.toList.map a.eval).toArray ++ ys.toArray = (xs ++ (asg.toList.map a.eval ++ ys)).toArray := by simp
      unfold execOp
      simp only [ho, resolve, hfv, e1, Deferred.ofValue]
      show (Sem.bind (Sem.pure _) _) = _
      simp only [Sem.bind, invoke, e2]
    generalize hz : xs ++ (asg.toList.map a.eval ++ ys) = zs at hall eo
    generalize ha : first ++ (vs ++ cap) = az at hall hs
    unfold extM at hs
    split at hs <;> try (cases hs; done)
    split at hs <;> try (cases hs; done)
    rename_i es clock hr
    split at hs <;> try (cases hs; done)
    rename_i hcl
    simp only [Option.some.injEq, Prod.mk.injEq] at hs
    obtain ⟨rfl, rfl⟩ := hs
    cases hall with
    | cons hx hn =>
      cases hn
      cases hx with
      | iface hm =>
        cases hm with
        | map hL =>
          obtain ⟨R', x, w', k1, k2⟩ := (clone_new (P := P) hR hr hL).ef hR
          exact ⟨R', x, w', .inl (by rw [eo]; exact clone_call hcl _ k1), k2⟩
theorem lg_extM {g : FuncId} {h h' : AH} {l : List AV} {v : AV} (q : extM P g h l = some (v, h')) : ∃ o, h' = h.new o := by
  unfold extM at q
  split at q <;> try (cases q; done)
  split at q <;> try (cases q; done)
  split at q <;> try (cases q; done)
  simp only [Option.some.injEq, Prod.mk.injEq] at q
  exact ⟨_, q.2.symm⟩
theorem ext_wp {R : Ren} {w : World} {e : En} {a : Act} {o : Oper} {fx : Operand} {args : List Operand} {g : FuncId} {first cap vs : List AV} {v : AV} {nx : Act → World → Prop} {Qx : Exit → Act → World → Prop}
    (hE : EO R e a) (hc : isCall o.op = some (fx, args)) (hf : evo e fx = some (.func g first cap)) (hv : evoL e args = some vs) (hs : extA P g (first ++ (vs ++ cap)) = some v)
    (hn : ∀ x, VR R v x → nx (a.put o.dst x) w) : o.wp P a w nx Qx := by
  obtain ⟨x, h1, h2⟩ := ext_run (P := P) (w := w) hE hc hf hv hs
  unfold Oper.wp
  rw [h1]; exact hn x h2
theorem quiet_wp {R : Ren} {h : AH} {w : World} {e : En} {a : Act} {o : Oper} {v : AV} {nx : Act → World → Prop} {Qx : Exit → Act → World → Prop} (hR : Rep w0 R h w) (hE : EO R e a) (q : qop P e h o.op = some v)
    (hn : ∀ x, VR R v x → nx (a.put o.dst x) w) : o.wp P a w nx Qx := by
  obtain ⟨x, h1, h2⟩ := qop_ok (P := P) hR.rp hE q
  unfold Oper.wp
  rw [h1]; exact hn x h2
theorem eff_wp {R : Ren} {h h' : AH} {w : World} {e : En} {a : Act} {o : Oper} {v : AV} {nx : Act → World → Prop} {Qx : Exit → Act → World → Prop} (hR : Rep w0 R h w) (hE : EO R e a) (q : eop P e h o.op = some (v, h'))
    (hn : ∀ x w', Post w0 R v h' x w' → nx (a.put o.dst x) w') : o.wp P a w nx Qx := by
  obtain ⟨R', x, w', h1, h2, h3, h4, _⟩ := eop_ok (P := P) hR hE q
  unfold Oper.wp
  rcases h1 with h1 | ⟨h1, rfl⟩
  · rw [h1]; exact hn x w' ⟨R', h2, h3, h4⟩
  · rw [h1]; exact hn undef w' ⟨R', h2, h3, h4⟩
end
end Go.Proofs.YtejohpjhonjcjaaGreatDoor.Zr

/- A runner, tenth part: what the runner gives is what the machine gives. No program stands here. -/
namespace Go.Proofs.YtejohpjhonjcjaaGreatDoor.Zr
open Go Go.RowKit Eng
section
variable {P : Program} {w0 : Cxt}
theorem lg_new (h : AH) (o : AO) : LG h (h.new o) := ⟨Nat.le_succ _, fun _ x => x, fun i hi _ => by simp only [AH.new, Tr.get_set]; rw [if_neg (by omega)]⟩
theorem lg_put (h : AH) (i : Nat) (o : AO) : LG h (h.put i o) := ⟨Nat.le_refl _, fun _ x => List.mem_cons_of_mem _ x, fun j _ hj => by
  simp only [AH.put, Tr.get_set, List.mem_cons, not_or] at hj ⊢; rw [if_neg hj.1]⟩
theorem lg_gone (h : AH) (i : Nat) : LG h (h.gone i) := ⟨Nat.le_refl _, fun _ x => List.mem_cons_of_mem _ x, fun j _ hj => by
  simp only [AH.gone, Tr.get_set, List.mem_cons, not_or] at hj ⊢; rw [if_neg hj.1]⟩
theorem lg_alias (h : AH) (i : Nat) (o : AO) : LG h (h.alias i o) := ⟨Nat.le_succ _, fun _ x => List.mem_cons_of_mem _ x, fun j hj hl => by
  simp only [AH.alias, Tr.get_set, List.mem_cons, not_or] at hl ⊢; rw [if_neg (by omega), if_neg hl.1]⟩
theorem lg_name (h : AH) : LG h h.name := ⟨Nat.le_succ _, fun _ x => x, fun _ _ _ => rfl⟩
theorem lg_alloc {h h' : AH} {t : TypeId} {v : AV} (q : opAlloc P h t = some (v, h')) : LG h h' := by
  unfold opAlloc at q
  repeat' (split at q)
  all_goals first
    | (cases q; done)
    | (simp only [Option.some.injEq, Prod.mk.injEq] at q; obtain ⟨_, rfl⟩ := q; first | exact LG.refl _ | exact lg_new _ _ | exact lg_name _ | exact (lg_name _).trans (lg_name _))
theorem lg_buildSlice {h h' : AH} {t : TypeId} {n : Nat} {ps : List (Nat × AV)} {v : AV} (q : opBuildSlice P h t n ps = some (v, h')) : LG h h' := by
  unfold opBuildSlice at q
  repeat' (split at q)
  all_goals first
    | (cases q; done)
    | (simp only [Option.some.injEq, Prod.mk.injEq] at q; obtain ⟨_, rfl⟩ := q; first | exact LG.refl _ | exact lg_new _ _ | exact lg_name _ | exact (lg_name _).trans (lg_name _))
theorem lg_makeSlice {h h' : AH} {t : TypeId} {a b v : AV} (q : opMakeSlice P h t a b = some (v, h')) : LG h h' := by
  unfold opMakeSlice at q
  repeat' (split at q)
  all_goals first
    | (cases q; done)
    | (simp only [Option.some.injEq, Prod.mk.injEq] at q; obtain ⟨_, rfl⟩ := q; first | exact LG.refl _ | exact lg_new _ _ | exact lg_name _ | exact (lg_name _).trans (lg_name _))
theorem lg_makeMap {h h' : AH} {t : TypeId} {r : Option AV} {v : AV} (q : opMakeMap P h t r = some (v, h')) : LG h h' := by
  unfold opMakeMap at q
  repeat' (split at q)
  all_goals first
    | (cases q; done)
    | (simp only [Option.some.injEq, Prod.mk.injEq] at q; obtain ⟨_, rfl⟩ := q; first | exact LG.refl _ | exact lg_new _ _ | exact lg_name _ | exact (lg_name _).trans (lg_name _))
theorem lg_range {h h' : AH} {t : TypeId} {a v : AV} (q : opRange P h t a = some (v, h')) : LG h h' := by
  unfold opRange at q
  repeat' (split at q)
  all_goals first
    | (cases q; done)
    | (simp only [Option.some.injEq, Prod.mk.injEq] at q; obtain ⟨_, rfl⟩ := q; exact lg_new _ _)
theorem lg_next {h h' : AH} {a v : AV} (q : opNext h a = some (v, h')) : LG h h' := by
  unfold opNext at q
  repeat' (split at q)
  all_goals first
    | (cases q; done)
    | (simp only [Option.some.injEq, Prod.mk.injEq] at q; obtain ⟨_, rfl⟩ := q; first | exact LG.refl _ | exact lg_put _ _ _)
theorem lg_slice {h h' : AH} {t : TypeId} {a v : AV} {lo hi mx : Option AV} (q : opSlice P h t a lo hi mx = some (v, h')) : LG h h' := by
  unfold opSlice at q
  repeat' (split at q)
  all_goals first
    | (cases q; done)
    | (simp only [Option.some.injEq, Prod.mk.injEq] at q; obtain ⟨_, rfl⟩ := q; first | exact LG.refl _ | exact lg_new _ _ | exact lg_name _ | exact (lg_name _).trans (lg_name _))
theorem lg_append {h h' : AH} {t t' : TypeId} {a b v : AV} (q : opAppend P h t t' a b = some (v, h')) : LG h h' := by
  unfold opAppend at q
  repeat' (split at q)
  all_goals first
    | (cases q; done)
    | (simp only [Option.some.injEq, Prod.mk.injEq] at q; obtain ⟨_, rfl⟩ := q; first | exact LG.refl _ | exact lg_new _ _ | exact lg_name _ | exact (lg_name _).trans (lg_name _))
    | (simp only [Option.some.injEq, Prod.mk.injEq] at q; obtain ⟨_, rfl⟩ := q; first | exact lg_put _ _ _ | exact lg_gone _ _ | exact lg_alias _ _ _)
theorem lg_appendZ {h h' : AH} {t t' : TypeId} {a b v : AV} (q : opAppendZ P h t t' a b = some (v, h')) : LG h h' := by
  unfold opAppendZ at q
  repeat' (split at q)
  all_goals first
    | (cases q; done)
    | (simp only [Option.some.injEq, Prod.mk.injEq] at q; obtain ⟨_, rfl⟩ := q; exact lg_new _ _)
theorem lg_app {h h' : AH} {t t' : TypeId} {a b v : AV} (q : opApp P h t t' a b = some (v, h')) : LG h h' := by
  unfold opApp at q
  split at q
  · rename_i r hr; simp only [Option.some.injEq] at q; subst q; exact lg_append hr
  · exact lg_appendZ q
theorem lg_store {h : AH} {hh : Option AH} {h' : AH} {t : TypeId} {p x : AV} {v : AV} (e : hh = opStore P h t p x) (q : unitA hh = some (v, h')) : LG h h' := by
  unfold unitA at q
  split at q <;> try (cases q; done)
  simp only [Option.some.injEq, Prod.mk.injEq] at q
  obtain ⟨_, rfl⟩ := q
  unfold opStore at e
  repeat' (split at e)
  all_goals first
    | (cases e; done)
    | (simp only [Option.some.injEq] at e; subst e; first | exact lg_put _ _ _ | exact lg_gone _ _ | exact lg_alias _ _ _)
theorem lg_mapUpdate {h : AH} {hh : Option AH} {h' : AH} {t : TypeId} {m k x : AV} {v : AV} (e : hh = opMapUpdate P h t m k x) (q : unitA hh = some (v, h')) : LG h h' := by
  unfold unitA at q
  split at q <;> try (cases q; done)
  simp only [Option.some.injEq, Prod.mk.injEq] at q
  obtain ⟨_, rfl⟩ := q
  unfold opMapUpdate at e
  repeat' (split at e)
  all_goals first
    | (cases e; done)
    | (simp only [Option.some.injEq] at e; subst e; first | exact lg_put _ _ _ | exact lg_gone _ _ | exact lg_alias _ _ _)
theorem lg_mapEntry {h h' : AH} {t : TypeId} {m k v : AV} (q : opMapEntry P h t m k = some (v, h')) : LG h h' := by
  unfold opMapEntry at q
  repeat' (split at q)
  all_goals first
    | (cases q; done)
    | (simp only [Option.some.injEq, Prod.mk.injEq] at q; obtain ⟨_, rfl⟩ := q; exact lg_put _ _ _)
theorem lg_entryStore {h : AH} {hh : Option AH} {h' : AH} {m s x : AV} {v : AV} (e : hh = opEntryStore h m s x) (q : unitA hh = some (v, h')) : LG h h' := by
  unfold unitA at q
  split at q <;> try (cases q; done)
  simp only [Option.some.injEq, Prod.mk.injEq] at q
  obtain ⟨_, rfl⟩ := q
  unfold opEntryStore at e
  repeat' (split at e)
  all_goals first
    | (cases e; done)
    | (simp only [Option.some.injEq] at e; subst e; exact lg_put _ _ _)
set_option maxHeartbeats 2000000 in
theorem lg_eop {e : En} {h h' : AH} {op : Op} {v : AV} (q : eop P e h op = some (v, h')) : LG h h' := by
  cases op <;> simp only [eop] at q <;> try (cases q; done)
  all_goals repeat' (split at q)
  all_goals first
    | (cases q; done)
    | exact lg_alloc q
    | exact lg_buildSlice q
    | exact lg_makeSlice q
    | exact lg_makeMap q
    | exact lg_range q
    | exact lg_next q
    | exact lg_slice q
    | exact lg_app q
    | exact lg_store rfl q
    | exact lg_mapUpdate rfl q
    | exact lg_mapEntry q
    | exact lg_entryStore rfl q
    | (simp only [opBox, Option.some.injEq, Prod.mk.injEq] at q; obtain ⟨_, rfl⟩ := q; first | exact LG.refl _ | exact lg_new _ _ | exact lg_name _ | exact (lg_name _).trans (lg_name _))
theorem runsR_step {f : FuncId} {ro : Option Nat} {Q : Value → World → Prop} {a a' : Act} {k k' : List Item} {w w' : World} (hs : ∀ cs, step P (lone ((bsR f ro).atR a k) cs w) = .next (lone ((bsR f ro).atR a' k') cs w')) (h : runsR P f ro Q a' k' w') : runsR P f ro Q a k w :=
  fun cs => (h cs).steps (.one (hs cs))
/-- a step inside a function -/
theorem spec_admin {f : FuncId} {fn : Func} {ro : Option Nat} {D : List Nat} {k k' : List Item} {e : En} {h h' : AH} {r : AV} (hs : ∀ (b : Frame) (a : Act) cs w, step P (lone (b.atR a k) cs w) = .next (lone (b.atR a k') cs w)) (q : Spec P (.code f fn ro D k' e) h (.val r h')) : Spec P (.code f fn ro D k e) h (.val r h') := by
  intro hf cx R w a ro' Q hR hE hro hQ
  exact runsR_step (fun cs => hs _ a cs w) (q hf cx R w a ro' Q hR hE hro hQ)
theorem step_mark {b : Frame} {a : Act} {k : List Item} {cs : List Frame} {w : World} {r : Nat} {ds : List Deferred} (hr : w.heap[r]? = some (.deferred (some []))) :
    step P (lone { b.atR { a with defers := { target := .collected r, args := #[] } :: ds } k with mode := .returning } cs w) = .next (lone { b.atR { a with defers := ds } k with mode := .returning } cs { w with heap := w.heap.setIfInBounds r (.deferred none) }) := by
  refine step_lone_go ?_
  have h1 : (Instr.takeDeferred r).run P w = .ok [] { w with heap := w.heap.setIfInBounds r (.deferred none) } := by
    unfold Instr.takeDeferred
    rw [run_bind_ok (getObj_run hr rfl)]
    simp only
    rw [run_bind_ok (setObj_run hr rfl)]; rfl
  simp [stepG, unwind, Frame.atR, Sem.runT_eq, h1]
theorem popD_ok {fn : Func} : ∀ {D : List Nat} {R : Ren} {h h' : AH} {w : World} {a : Act} {k : List Item} {f : FuncId} {e : En}, Rep w0 R h w → OkE R fn e D a → popD h D = some h' →
    ∃ w', (∀ cs, Steps P (lone { (bsR f none).atR a k with mode := .returning } cs w) (lone { (bsR f none).atR { a with defers := [] } k with mode := .returning } cs w')) ∧ Rep w0 R h' w' ∧ LG h h'
  | [], R, h, h', w, a, k, f, e, hR, hE, q => by
    simp only [popD, Option.some.injEq] at q; subst q
    have hd := hE.defers
    obtain ⟨tmps, ds⟩ := a
    simp only at hd
    cases hd
    exact ⟨w, fun cs => .refl _ _, hR, LG.refl _⟩
  | i :: D, R, h, h', w, a, k, f, e, hR, hE, q => by
    simp only [popD] at q
    split at q <;> try (cases q; done)
    rename_i hi
    have hd := hE.defers
    obtain ⟨tmps, ds⟩ := a
    simp only at hd
    cases hd with
    | cons hL hd' =>
      rename_i L ds
      obtain ⟨h2, _⟩ := hR.obj i _ _ hi hL
      have hw := setObj_wr w L.blk (.deferred none)
      obtain ⟨g1, _⟩ := hR.gone hi hL hw
      obtain ⟨w', s1, s2, s4⟩ := popD_ok (a := ⟨tmps, ds⟩) (k := k) (f := f) (e := e) g1 ⟨hE.size, hd', hE.k⟩ q
      exact ⟨w', fun cs => .head (step_mark (a := ⟨tmps, []⟩) (ds := ds) h2) (s1 cs), s2, (lg_gone h i).trans s4⟩
/-- a function's end -/
theorem spec_out {f : FuncId} {fn : Func} {D : List Nat} {k : List Item} {e : En} {h h' : AH} {v : AV} (hs : ∀ (a : Act) cs w, step P (lone ((bsR f none).atR a k) cs w) = .next (lone { (bsR f none).atR a k with mode := .returning } cs w)) (q : retA P h D e fn = some (.val v h')) : Spec P (.code f fn none D k e) h (.val v h') := by
  intro hf cx R w a ro' Q hR hE hro hQ
  have : ro' = none := hro
  subst this
  unfold retA at q
  split at q <;> try (cases q; done)
  rename_i h1 hp
  split at q <;> try (cases q; done)
  rename_i vs hvs
  simp only [Option.some.injEq, Res.val.injEq] at q
  obtain ⟨rfl, rfl⟩ := q
  obtain ⟨w', s1, s2, _⟩ := popD_ok (P := P) (k := k) (f := f) hR hE hp
  obtain ⟨x, r1, r2⟩ := resultsA (P := P) (fn := fn) (a := a) s2.rp hE.k hvs
  intro cs
  exact ⟨.returned x, w', _, hQ _ _ ⟨R, Sb.refl R, s2, r2⟩, Steps.head (hs a cs w) (s1 cs), rfl, rfl, rfl, rfl, fn, hf, r1⟩
theorem spec_call {f : FuncId} {fn : Func} {c : Code} {args : List AV} {h h' : AH} {r : AV} (hf : P.funcs[f]? = some fn) (hb : fn.body = some c) (hok : callable P f = true) (hl : args.length ≤ fn.ntmps) (q : Spec P (.code f fn none [] [.code c] (numA 0 args .nil)) h (.val r h')) : Spec P (.call f args) h (.val r h') := by
  intro cx R w xs hR hx
  refine ⟨hok, fun cs => ?_⟩
  have henter : Frame.enter P f xs.toArray .normal = (bsR f none).atR { tmps := xs.toArray ++ Array.replicate (fn.ntmps - xs.toArray.size) undef, defers := [] } [.code c] := by
    simp [Frame.enter, Frame.atR, hf, hb, bsR]
  rw [henter]
  exact q hf cx R w _ none (Post cx R r h') hR (numA_ok hx hl) rfl (fun _ _ p => p) cs
theorem spec_cond {f : FuncId} {fn : Func} {ro : Option Nat} {D : List Nat} {c : Operand} {x y : Code} {k : List Item} {e : En} {h h' : AH} {r : AV} {b : Bool} (hc : evo e c = some (.bool b)) (q : Spec P (.code f fn ro D (.code (if b then x else y) :: k) e) h (.val r h')) : Spec P (.code f fn ro D (.code (.cond c x y) :: k) e) h (.val r h') := by
  intro hf cx R w a ro' Q hR hE hro hQ
  have hv := evo_ok hE.k hc
  generalize hx : a.eval c = cv at hv
  cases hv
  exact runsR_step (fun cs => stepR_cond hx) (q hf cx R w a ro' Q hR hE hro hQ)
theorem spec_region {f : FuncId} {fn : Func} {ro : Option Nat} {D : List Nat} {i : Nat} {ops : Array Oper} {k : List Item} {e : En} {h h' : AH} {r : AV} (q : Spec P (.ops f fn ro D ops ops.toList k e) h (.val r h')) : Spec P (.code f fn ro D (.code (.region i ops false) :: k) e) h (.val r h') := by
  intro hf cx R w a ro' Q hR hE hro hQ
  have := q hf cx R w a ro' Q 0 hR hE hro (fun j => by rw [Nat.zero_add, Array.getElem?_toList]) hQ
  rw [Array.length_toList, ← List.range_eq_range'] at this
  exact runsR_step (fun cs => stepR_region) this
/-- a step of a region -/
theorem step_value {b : Frame} {a : Act} {ops : Array Oper} {i : Nat} {rest : List Nat} {k : List Item} {cs : List Frame} {w w' : World} {o : Oper} {v : Value} (ho : ops[i]? = some o) (hw : Region.wanted o (yielded ops a.tmps) = true) (hd : ∀ c, o.op ≠ .defer c) (hr : (execOp a.eval o).run P w = .ok (.value v) w') :
    step P (lone (b.atR a (.inRegion ops (i :: rest) :: k)) cs w) = .next (lone (b.atR (a.put o.dst v) (.inRegion ops rest :: k)) cs w') := by
  have hfin : (b.atR a (.inRegion ops (i :: rest) :: k)).finish v = b.atR (a.put o.dst v) (.inRegion ops rest :: k) := by rw [Frame.finish_atR, ho]; rfl
  refine step_lone_go ?_
  rw [stepGR_op ho hw, Oper.semAt_eq _ _ _ hd, ← hfin]; simp [stepG.apply, hr]
theorem step_skip' {b : Frame} {a : Act} {ops : Array Oper} {i : Nat} {rest : List Nat} {k : List Item} {cs : List Frame} {w w' : World} {o : Oper} (ho : ops[i]? = some o) (hw : Region.wanted o (yielded ops a.tmps) = true) (hd : ∀ c, o.op ≠ .defer c) (hr : (execOp a.eval o).run P w = .ok .skip w') :
    step P (lone (b.atR a (.inRegion ops (i :: rest) :: k)) cs w) = .next (lone (b.atR (a.put o.dst undef) (.inRegion ops rest :: k)) cs w') := by
  have hfin : (b.atR a (.inRegion ops (i :: rest) :: k)).finish undef = b.atR (a.put o.dst undef) (.inRegion ops rest :: k) := by rw [Frame.finish_atR, ho]; rfl
  refine step_lone_go ?_
  rw [stepGR_op ho hw, Oper.semAt_eq _ _ _ hd, ← hfin]; simp [stepG.apply, hr]
theorem step_enter {b : Frame} {a : Act} {ops : Array Oper} {i : Nat} {rest : List Nat} {k : List Item} {cs : List Frame} {w w' : World} {o : Oper} {g : FuncId} {args : Array Value} (ho : ops[i]? = some o) (hw : Region.wanted o (yielded ops a.tmps) = true) (hd : ∀ c, o.op ≠ .defer c) (hr : (execOp a.eval o).run P w = .ok (.enter g args) w') :
    step P (lone (b.atR a (.inRegion ops (i :: rest) :: k)) cs w) = .next (lone (Frame.enter P g args .normal) (b.atR a (.inRegion ops (i :: rest) :: k) :: cs) w') := by
  refine step_lone_go ?_
  rw [stepGR_op ho hw, Oper.semAt_eq _ _ _ hd]; simp [stepG.apply, hr, Frame.atR]
theorem step_round {b : Frame} {a : Act} {ops : Array Oper} {i : Nat} {rest : List Nat} {k : List Item} {cs : List Frame} {w w' : World} {o : Oper} {l : Nat} {g : FuncId} {tmps : Array Value} {asg body : Code} (ho : ops[i]? = some o) (hw : Region.wanted o (yielded ops a.tmps) = true) (hd : ∀ c, o.op ≠ .defer c) (hr : (execOp a.eval o).run P w = .ok (.round l g tmps asg body) w') :
    step P (lone (b.atR a (.inRegion ops (i :: rest) :: k)) cs w) = .next (lone (Frame.round l g tmps asg body .normal) (b.atR a (.inRegion ops (i :: rest) :: k) :: cs) w') := by
  refine step_lone_go ?_
  rw [stepGR_op ho hw, Oper.semAt_eq _ _ _ hd]; simp [stepG.apply, hr, Frame.atR]
theorem call_nd {o : Oper} {x : Operand × List Operand} (h : isCall o.op = some x) : ∀ c, o.op ≠ .defer c := fun c e => by rw [e] at h; simp [isCall] at h
theorem qop_nd {e : En} {h : AH} {o : Oper} {v : AV} (q : qop P e h o.op = some v) : ∀ c, o.op ≠ .defer c := fun c e => by rw [e] at q; simp [qop] at q
theorem eop_nd {e : En} {h : AH} {o : Oper} {x : AV × AH} (q : eop P e h o.op = some x) : ∀ c, o.op ≠ .defer c := fun c e => by rw [e] at q; simp [eop] at q
theorem row_head {ops : Array Oper} {o : Oper} {l : List Oper} {i : Nat} (hl : ∀ j, (o :: l)[j]? = ops[i + j]?) : ops[i]? = some o ∧ ∀ j, l[j]? = ops[i + 1 + j]? := by
  refine ⟨by have := hl 0; simpa using this.symm, fun j => ?_⟩
  have := hl (j + 1)
  rw [List.getElem?_cons_succ] at this
  rw [this]; congr 1; omega
theorem spec_ops_nil {f : FuncId} {fn : Func} {ro : Option Nat} {D : List Nat} {ops : Array Oper} {k : List Item} {e : En} {h h' : AH} {r : AV} (q : Spec P (.code f fn ro D k e) h (.val r h')) : Spec P (.ops f fn ro D ops [] k e) h (.val r h') := by
  intro hf cx R w a ro' Q i hR hE hro hl hQ
  exact runsR_step (fun cs => stepR_region_end) (q hf cx R w a ro' Q hR hE hro hQ)
theorem spec_ops_skip {f : FuncId} {fn : Func} {ro : Option Nat} {D : List Nat} {ops : Array Oper} {o : Oper} {l : List Oper} {k : List Item} {e e' : En} {h h' : AH} {r : AV} (hw : wantA ops e o = some false) (hd : dstA fn.ntmps e o.dst (.tup []) = some e') (q : Spec P (.ops f fn ro D ops l k e') h (.val r h')) : Spec P (.ops f fn ro D ops (o :: l) k e) h (.val r h') := by
  intro hf cx R w a ro' Q i hR hE hro hl hQ
  obtain ⟨ho, hl'⟩ := row_head hl
  have H := q hf cx R w _ ro' Q (i + 1) hR (hE.put (x := undef) (.tup .nil) hd) hro hl' hQ
  refine runsR_step (fun cs => ?_) H
  rw [List.length_cons, List.range'_succ]
  have := stepR_op_skip (P := P) (b := bsR f ro') (a := a) (k := k) (cs := cs) (w := w) (ops := ops) (i := i) (rest := List.range' (i + 1) l.length) (by simp [ho, wantA_ok hE.k hw])
  rw [ho] at this; exact this
theorem spec_ops_val {f : FuncId} {fn : Func} {ro : Option Nat} {D : List Nat} {ops : Array Oper} {o : Oper} {l : List Oper} {k : List Item} {e e' : En} {h h1 h' : AH} {r v : AV} (hw : wantA ops e o = some true) (hnd : ∀ c, o.op ≠ .defer c)
    (hx : ∀ c R w a, Rep c R h w → OkE R fn e D a → Eo P c R w h a.eval o v h1) (hd : dstA fn.ntmps e o.dst v = some e') (q : Spec P (.ops f fn ro D ops l k e') h1 (.val r h')) : Spec P (.ops f fn ro D ops (o :: l) k e) h (.val r h') := by
  intro hfn cx R w a ro' Q i hR hE hro hl hQ
  obtain ⟨ho, hl'⟩ := row_head hl
  obtain ⟨R', x, w', h1', s, hR', hv, _⟩ := hx cx R w a hR hE
  have H := q hfn cx R' w' _ ro' Q (i + 1) hR' ((hE.mono s).put hv hd) (hro.mono s) hl' (fun v w'' p => hQ v w'' (p.trans s))
  refine runsR_step (fun cs => ?_) H
  rw [List.length_cons, List.range'_succ]
  rcases h1' with h1' | ⟨h1', rfl⟩
  · exact step_value ho (wantA_ok hE.k hw) hnd h1'
  · exact step_skip' ho (wantA_ok hE.k hw) hnd h1'
theorem spec_ops_call {f : FuncId} {fn : Func} {ro : Option Nat} {D : List Nat} {ops : Array Oper} {o : Oper} {l : List Oper} {k : List Item} {e e' : En} {h h1 h' : AH} {r v : AV} {fx : Operand} {args : List Operand} {g : FuncId} {first cap vs : List AV} (hw : wantA ops e o = some true)
    (hc : isCall o.op = some (fx, args)) (hf : evo e fx = some (.func g first cap)) (hv : evoL e args = some vs) (hs : Spec P (.call g (first ++ (vs ++ cap))) h (.val v h1)) (hd : dstA fn.ntmps e o.dst v = some e') (q : Spec P (.ops f fn ro D ops l k e') h1 (.val r h')) : Spec P (.ops f fn ro D ops (o :: l) k e) h (.val r h') := by
  intro hfn cx R w a ro' Q i hR hE hro hl hQ
  obtain ⟨ho, hl'⟩ := row_head hl
  obtain ⟨asg, tys, hop, rfl⟩ := isCall_ok hc
  have hfx := evo_ok hE.k hf
  generalize hfv : a.eval fx = fv at hfx
  cases hfx with
  | func h1' h2' =>
    rename_i xs ys
    have hargs := evoL_ok hE.k hv
    have hret := hs cx R w _ hR (h1'.app (hargs.app h2'))
    have hrun := call_run (P := P) (w := w) (av := xs ++ (asg.toList.map a.eval ++ ys)) hop hret.ok hfv rfl (by simp)
    intro cs
    rw [List.length_cons, List.range'_succ]
    obtain ⟨en, w', fr, hq, hcom, hfr, hlv⟩ := hret.run ((bsR f ro').atR a (.inRegion ops (i :: List.range' (i + 1) l.length) :: k) :: cs)
    cases en with
    | panicked ch => exact hq.elim
    | outgrown => exact hq.elim
    | returned x =>
      obtain ⟨R', s, hR', hx⟩ := hq
      have H := q hfn cx R' w' _ ro' Q (i + 1) hR' ((hE.mono s).put hx hd) (hro.mono s) hl' (fun v w'' p => hQ v w'' (p.trans s))
      refine (H cs).steps (.head (step_enter ho (wantA_ok hE.k hw) (call_nd hc) hrun) (Steps.trans hcom (.one ?_)))
      have hfin : ((bsR f ro').atR a (.inRegion ops (i :: List.range' (i + 1) l.length) :: k)).finish x = (bsR f ro').atR (a.put o.dst x) (.inRegion ops (List.range' (i + 1) l.length) :: k) := by rw [Frame.finish_atR, ho]; rfl
      rw [← hfin]; exact step_leave_returned hlv
theorem ext_eo {R : Ren} {h : AH} {w : World} {fn : Func} {e : En} {D : List Nat} {a : Act} {o : Oper} {fx : Operand} {args : List Operand} {g : FuncId} {first cap vs : List AV} {v : AV}
    (hR : Rep w0 R h w) (hE : OkE R fn e D a) (hc : isCall o.op = some (fx, args)) (hf : evo e fx = some (.func g first cap)) (hv : evoL e args = some vs) (hs : extA P g (first ++ (vs ++ cap)) = some v) : Eo P w0 R w h a.eval o v h := by
  obtain ⟨x, h1, h2⟩ := ext_run (P := P) (w := w) hE.k hc hf hv hs
  exact ⟨R, x, w, .inl h1, Sb.refl R, hR, h2, Fr.refl R h w⟩
theorem quiet_eo {R : Ren} {h : AH} {w : World} {fn : Func} {e : En} {D : List Nat} {a : Act} {o : Oper} {v : AV} (hR : Rep w0 R h w) (hE : OkE R fn e D a) (q : qop P e h o.op = some v) : Eo P w0 R w h a.eval o v h := by
  obtain ⟨x, h1, h2⟩ := qop_ok (P := P) hR.rp hE.k q
  exact ⟨R, x, w, .inl h1, Sb.refl R, hR, h2, Fr.refl R h w⟩
end
end Go.Proofs.YtejohpjhonjcjaaGreatDoor.Zr

/- A runner: regions that draw their order. No program stands here. -/
namespace Go.Proofs.YtejohpjhonjcjaaGreatDoor.Zr
open Go Go.RowKit Eng
section
variable {P : Program} {ops : Array Oper} {M : List Nat}
theorem all_of_none {L : Array Bool} (hM : maskB ops M ops.size = true) (hl : L.size = ops.size) (h : Region.ready .any ops L = []) : ∀ (n i : Nat), i < n → i < ops.size → lst L i = true
  | 0, _, hn, _ => by omega
  | n + 1, i, hn, hi => by
    cases hu : lst L i with
    | true => rfl
    | false =>
      have ho : ∃ o, ops.toList[i]? = some o := ⟨_, List.getElem?_eq_getElem (by rw [Array.length_toList]; exact hi)⟩
      obtain ⟨o, ho⟩ := ho
      have hd := (maskB_at hM hi).2
      have : i ∈ Region.ready .any ops L := ready_of ho hl hu (fun d hdm => all_of_none hM hl h n d (by have := hd d hdm; omega) (by have := hd d hdm; omega))
      rw [h] at this; cases this
theorem Inv.done {c : Cxt} {n : Nat} {ds : List Deferred} {e0 : En} {rs T : List Rec} {h : AH} {L : Array Bool} {R : Ren} {a : Act} {w : World} (hI : Inv P c ops n ds e0 rs T h L R a w) (hS : Sta c ops M n rs h) (hall : ∀ i, i < ops.size → lst L i = true) : Rep c R h w ∧ EO R (envL allL rs e0) a := by
  refine ⟨Rep.sub_pd hI.rep fun i hi => .inl hi, ?_⟩
  have : envL (lst L) rs e0 = envL allL rs e0 := envL_all fun r hr => by rw [hall r.i (hS.op r hr).1]; rfl
  rw [← this]; exact hI.env
theorem past_step {c : Cxt} {n : Nat} {ds : List Deferred} {e0 : En} {rs T : List Rec} {h : AH} {L : Array Bool} {R : Ren} {a : Act} {w : World} {Q : Exit → Act → World → Prop} {K : Act → World → Prop} {j : Nat} (hS : Sta c ops M n rs h) (hI : Inv P c ops n ds e0 rs T h L R a w)
    (hr : j ∈ Region.ready .any ops L) (hj : ∃ r ∈ rs, r.i = j) (hK : ∀ R' a' w' T', Sb R R' → T.length = T'.length + 1 → Inv P c ops n ds e0 rs T' h (L.setIfInBounds j true) R' a' w' → K a' w') : wpOp P ops Q j K a w := by
  obtain ⟨r, hm, rfl⟩ := hj
  obtain ⟨rs1, rs2, rfl⟩ := List.append_of_mem hm
  exact late_step hS hI hr fun R' a' w' T1 T2 s e k => hK R' a' w' (T1 ++ T2) s (by rw [e]; simp; omega) k
/-- when all steps were taken -/
theorem late_any {c : Cxt} {n : Nat} {ds : List Deferred} {e0 : En} {rs : List Rec} {h : AH} {Qx : Exit → Act → World → Prop} {R0 : Ren} (hS : Sta c ops M n rs h) (hall : ∀ j, j < ops.size → ∃ r ∈ rs, r.i = j)
    (hfin : ∀ R' a' w', Sb R0 R' → Rep c R' h w' → EO R' (envL allL rs e0) a' → a'.tmps.size = n → a'.defers = ds → Qx .normal a' w') : ∀ (m : Nat) (T : List Rec) (L : Array Bool) (R : Ren) (a : Act) (w : World), T.length = m → Sb R0 R → Inv P c ops n ds e0 rs T h L R a w → wpAny P .any ops Qx m L a w := by
  intro m
  induction m with
  | zero =>
    intro T L R a w hT hs hI
    have hno : Region.ready .any ops L = [] := by
      cases hr : Region.ready .any ops L with
      | nil => rfl
      | cons j r =>
        obtain ⟨hu, hlt⟩ := unlisted hI.lsz (by rw [hr]; exact List.mem_cons_self .. : j ∈ Region.ready .any ops L)
        obtain ⟨k, hk, rfl⟩ := hall j hlt
        have := hI.tt k hk hu
        rw [List.length_eq_zero_iff.1 hT] at this; cases this
    obtain ⟨g1, g2⟩ := hI.done hS fun i hi => all_of_none hS.msk hI.lsz hno (i + 1) i (by omega) hi
    exact ⟨hno, hfin R a w hs g1 g2 hI.size hI.dfr⟩
  | succ m ih =>
    intro T L R a w hT hs hI
    refine ⟨fun hno => ?_, fun j hj => ?_⟩
    · obtain ⟨g1, g2⟩ := hI.done hS fun i hi => all_of_none hS.msk hI.lsz hno (i + 1) i (by omega) hi
      exact hfin R a w hs g1 g2 hI.size hI.dfr
    · exact past_step hS hI hj (hall j (unlisted hI.lsz hj).2) fun R' a' w' T' s e k => ih T' _ R' a' w' (by omega) (hs.trans s) k
theorem spec_held_nil {fn : Func} {V : List (Nat × Nat)} {e : En} {h : AH} : Spec P (.held fn ops M [] V e) h (.held e h) := by
  intro c R0 ds e0 rs T L R a w Qx hS he hV hreg hs hI hfin
  subst he
  simp only [regB, List.all_eq_true, List.mem_range] at hreg
  rw [List.length_nil, Nat.zero_add]
  exact late_any hS (fun j hj => by
    have := memN_iff.1 (hreg j hj)
    obtain ⟨r, h1, h2⟩ := List.mem_map.1 this
    exact ⟨r, h1, h2⟩) hfin T.length T L R a w rfl hs hI
theorem snoc_split {α : Type} {rs rs1 rs2 : List α} {r k : α} (h : rs ++ [r] = rs1 ++ k :: rs2) : (rs2 = [] ∧ k = r ∧ rs1 = rs) ∨ ∃ rs3, rs2 = rs3 ++ [r] ∧ rs = rs1 ++ k :: rs3 := by
  rcases List.eq_nil_or_concat rs2 with rfl | ⟨rs3, x, rfl⟩
  · left
    have h' : rs ++ [r] = rs1 ++ [k] := h
    obtain ⟨a, b⟩ := List.append_inj' h' rfl
    exact ⟨rfl, by simpa using b.symm, a.symm⟩
  · right
    rw [List.concat_eq_append] at h ⊢
    have h' : rs ++ [r] = (rs1 ++ k :: rs3) ++ [x] := by rw [h]; simp
    obtain ⟨a, b⟩ := List.append_inj' h' rfl
    simp only [List.cons.injEq, and_true] at b
    subst b
    exact ⟨rs3, rfl, a⟩
theorem Sta.snoc {c : Cxt} {n : Nat} {rs : List Rec} {h h' : AH} {r : Rec} (hS : Sta c ops M n rs h) (hnx : h.nx ≤ h'.nx) (h1 : ∀ k ∈ rs, k.i ≠ r.i) (hop : r.i < ops.size ∧ r.d = dstI ops r.i ∧ ∀ d, r.d = some d → d < n) (hdep : ∀ d ∈ depsI ops r.i, ∃ k ∈ rs, k.i = d)
    (hcf : ∀ k ∈ rs, confB k.d r.d (slotsI ops k.i) (slotsI ops r.i) = true → bitB M r.i k.i = true) (hid : ∀ x, r.id = some x → h.nx ≤ x ∧ x < h'.nx ∧ ¬ c.pd x) : Sta c ops M n (rs ++ [r]) h' := by
  refine ⟨hS.msk, ?_, ?_, ?_, ?_, ?_, ?_⟩
  · intro rs1 k rs2 e
    rcases snoc_split e with ⟨_, rfl, rfl⟩ | ⟨rs3, rfl, e'⟩
    · exact h1
    · exact hS.nd rs1 k rs3 e'
  · intro k hk
    rcases List.mem_append.1 hk with hk | hk
    · exact hS.op k hk
    · rw [List.mem_singleton] at hk; subst hk; exact hop
  · intro rs1 k rs2 e
    rcases snoc_split e with ⟨_, rfl, rfl⟩ | ⟨rs3, rfl, e'⟩
    · exact hdep
    · exact hS.dep rs1 k rs3 e'
  · intro rs1 k rs2 e
    rcases snoc_split e with ⟨_, rfl, rfl⟩ | ⟨rs3, rfl, e'⟩
    · exact hcf
    · exact hS.cf rs1 k rs3 e'
  · intro k hk x hx
    rcases List.mem_append.1 hk with hk | hk
    · obtain ⟨a, b⟩ := hS.idl k hk x hx
      exact ⟨Nat.lt_of_lt_of_le a hnx, b⟩
    · rw [List.mem_singleton] at hk; subst hk; exact (hid x hx).2
  · intro k hk k' hk' x hx hx'
    rcases List.mem_append.1 hk with hk | hk <;> rcases List.mem_append.1 hk' with hk' | hk'
    · exact hS.uq k hk k' hk' x hx hx'
    · rw [List.mem_singleton] at hk'; subst hk'
      have := (hid x hx').1; have := (hS.idl k (by assumption) x hx).1; omega
    · rw [List.mem_singleton] at hk; subst hk
      have := (hid x hx).1; have := (hS.idl k' (by assumption) x hx').1; omega
    · rw [List.mem_singleton] at hk hk'; subst hk; subst hk'; rfl
theorem LateF.stay {h h' : AH} {eP : En} {r : Rec} (hl : LateF P ops h eP r) (hid : ∀ x, (r.id = some x ∨ ∃ o, ops.toList[r.i]? = some o ∧ wantA ops eP o = some true ∧ readId (restr eP (slotsO ops o)) o.op = some x) → (∃ o, ops.toList[r.i]? = some o ∧ wantA ops eP o = some true) → h'.o.get x = h.o.get x) : LateF P ops h' eP r := by
  obtain ⟨o, ho, hc⟩ := hl
  refine ⟨o, ho, ?_⟩
  rcases hc with hc | ⟨q1, q2, q3⟩ | ⟨q1, q2, hA, ob, q3, q4, q5⟩
  · exact .inl hc
  · refine .inr (.inl ⟨q1, q2, ?_⟩)
    have : oneH h' (readId (restr eP (slotsO ops o)) o.op) = oneH h (readId (restr eP (slotsO ops o)) o.op) := by
      cases hx : readId (restr eP (slotsO ops o)) o.op with
      | none => rfl
      | some x => simp only [oneH]; rw [hid x (.inr ⟨o, ho, q1, hx⟩) ⟨o, ho, q1⟩]
    rw [this]; exact q3
  · exact .inr (.inr ⟨q1, q2, hA, ob, q3, q4, by rw [hid hA.nx (.inl q3) ⟨o, ho, q1⟩]; exact q5⟩)
theorem Rep.count {c : Cxt} {p : Nat → Prop} {R : Ren} {h : AH} {w : World} (k : Rep ⟨c.w, p⟩ R h w) (ob : AO) : Rep ⟨c.w, fun i => p i ∨ i = h.nx⟩ R (h.new ob) w := by
  have hn := k.frs h.nx (Nat.le_refl _)
  have key : ∀ i o L, (h.new ob).o.get i = some o → R i = some L → h.o.get i = some o := by
    intro i o L hi hL
    simp only [AH.new, Tr.get_set] at hi
    by_cases e : i = h.nx
    · subst e; rw [hn] at hL; cases hL
    · rw [if_neg e] at hi; exact hi
  refine ⟨fun i o L hi hL => k.obj i o L (key i o L hi hL) hL, fun i j oi oj Li Lj hi hj ri rj hne => k.inj i j oi oj Li Lj (key i oi Li hi ri) (key j oj Lj hj rj) ri rj hne, fun i hi => k.frs i (Nat.le_of_succ_le hi), fun i hi => ?_, fun i o hi => ?_, k.bl⟩
  · rcases hi with hi | rfl
    · exact ⟨(k.pnd i hi).1, Nat.lt_succ_of_lt (k.pnd i hi).2⟩
    · exact ⟨hn, Nat.lt_succ_self _⟩
  · simp only [AH.new, Tr.get_set] at hi ⊢
    by_cases e : i = h.nx
    · omega
    · rw [if_neg e] at hi; have := k.live i o hi; omega
/-- a step that turns nothing is taken -/
theorem spec_held_late {fn : Func} {i : Nat} {o : Oper} {l : List Nat} {V V' : List (Nat × Nat)} {e e' e'' : En} {h h' h'' : AH} {v : AV} {id : Option Nat} (ho : ops.toList[i]? = some o) (hd : dstA fn.ntmps e o.dst v = some e') (hid : (id = none ∧ h' = h) ∨ ∃ ob, id = some h.nx ∧ h' = h.new ob)
    (hl : LateF P ops h' e ⟨i, o.dst, v, id⟩) (hV : ∀ p ∈ V, p ∈ V') (hV2 : wantA ops e o = some true → ∀ x, (id = some x ∨ readId (restr e (slotsO ops o)) o.op = some x) → (i, x) ∈ V') (hV3 : (∀ p ∈ V, p.2 < h.nx) → ∀ p ∈ V', p.2 < h'.nx)
    (q : Spec P (.held fn ops M l V' e') h' (.held e'' h'')) : Spec P (.held fn ops M (i :: l) V e) h (.held e'' h'') := by
  intro c R0 ds e0 rs T L R a w Qx hS he hVo hreg hs hI hfin
  subst he
  unfold regB at hreg
  rw [ho] at hreg
  simp only [Bool.and_eq_true, Bool.not_eq_true', List.all_eq_true] at hreg
  obtain ⟨⟨⟨⟨r1, r2⟩, r3⟩, r4⟩, r5⟩ := hreg
  have hnew : ∀ k ∈ rs, k.i ≠ i := fun k hk e => by
    have := memN_iff.2 (List.mem_map.2 ⟨k, hk, e⟩ : i ∈ rs.map Rec.i)
    rw [r1] at this; cases this
  have hlt : i < ops.size := (Array.getElem?_eq_some_iff.1 (toOp ho)).1
  have hdl : ∀ d, o.dst = some d → d < fn.ntmps := by
    intro d hd'
    unfold dstA at hd
    rw [hd'] at hd
    simp only at hd
    split at hd <;> try (cases hd; done)
    rename_i hb; exact blt_lt hb
  have hdsti : o.dst = dstI ops i := by unfold dstI; rw [ho]
  have hsli : slotsO ops o = slotsI ops i := by unfold slotsI; rw [ho]
  have hnx : h.nx ≤ h'.nx := by
    rcases hid with ⟨_, rfl⟩ | ⟨ob, _, rfl⟩
    · exact Nat.le_refl _
    · exact Nat.le_succ _
  have hpn : ¬ c.pd h.nx := fun x => by have := (hI.rep.pnd _ (.inl x)).2; omega
  have hun : lst L i = false := by
    cases hu : lst L i with
    | false => rfl
    | true => obtain ⟨k, hk, e⟩ := hI.sub i hu; exact absurd e (hnew k hk)
  have hS' : Sta c ops M fn.ntmps (rs ++ [⟨i, o.dst, v, id⟩]) h' := by
    refine hS.snoc hnx hnew ⟨hlt, hdsti, hdl⟩ (fun d hdm => ?_) (fun k hk hc => ?_) (fun x hx => ?_)
    · obtain ⟨k, h1, h2⟩ := List.mem_map.1 (memN_iff.1 (r2 d hdm))
      exact ⟨k, h1, h2⟩
    · have := r3 k.i (List.mem_map.2 ⟨k, hk, rfl⟩)
      rw [hsli, ← (hS.op k hk).2.1] at this
      simp only [hc, Bool.not_true, Bool.false_or] at this
      exact this
    · rcases hid with ⟨e, _⟩ | ⟨ob, e, rfl⟩
      · simp only at hx; rw [e] at hx; cases hx
      · simp only at hx; rw [e] at hx; cases hx
        exact ⟨Nat.le_refl _, Nat.lt_succ_self _, hpn⟩
  have hrep : Rep (pdL c (rs ++ [⟨i, o.dst, v, id⟩]) L) R h' w := by
    rcases hid with ⟨e, rfl⟩ | ⟨ob, e, rfl⟩
    · refine Rep.sub_pd hI.rep fun j hj => ?_
      rcases hj with hj | ⟨k, hk, hkl, hki⟩
      · exact .inl hj
      · rcases List.mem_append.1 hk with hk | hk
        · exact .inr ⟨k, hk, hkl, hki⟩
        · rw [List.mem_singleton] at hk; subst hk; simp only at hki; rw [e] at hki; cases hki
    · refine Rep.sub_pd (Rep.count (c := c) hI.rep ob) fun j hj => ?_
      rcases hj with hj | ⟨k, hk, hkl, hki⟩
      · exact .inl (.inl hj)
      · rcases List.mem_append.1 hk with hk | hk
        · exact .inl (.inr ⟨k, hk, hkl, hki⟩)
        · rw [List.mem_singleton] at hk; subst hk; simp only at hki; rw [e] at hki; cases hki; exact .inr rfl
  have hsame : ∀ p ∈ V, h'.o.get p.2 = h.o.get p.2 := by
    intro p hp
    rcases hid with ⟨_, rfl⟩ | ⟨ob, _, rfl⟩
    · rfl
    · simp only [AH.new, Tr.get_set]
      rw [if_neg (by have := hVo.1 p hp; omega)]
  have hI' : Inv P c ops fn.ntmps ds e0 (rs ++ [⟨i, o.dst, v, id⟩]) (T ++ [⟨i, o.dst, v, id⟩]) h' L R a w := by
    refine ⟨hrep, ?_, hI.size, hI.dfr, fun j hj => ?_, hI.down, hI.lsz, fun k hk hkl => ?_, fun s1 k s2 hk hkl => ?_⟩
    · rw [envL_app]; simp only [envL, hun]; exact hI.env
    · obtain ⟨k, hk, e⟩ := hI.sub j hj
      exact ⟨k, List.mem_append.2 (.inl hk), e⟩
    · rcases List.mem_append.1 hk with hk | hk
      · exact List.mem_append.2 (.inl (hI.tt k hk hkl))
      · exact List.mem_append.2 (.inr hk)
    · rcases snoc_split hk with ⟨_, rfl, rfl⟩ | ⟨s3, rfl, e⟩
      · exact hl
      · refine (hI.late s1 k s3 e hkl).stay fun x hx hw => ?_
        obtain ⟨o', ho', hw'⟩ := hw
        refine hsame (k.i, x) (hVo.2 s1 k s3 e o' ho' hw' x ?_)
        rcases hx with hx | ⟨o'', ho'', _, hx⟩
        · exact .inl hx
        · rw [ho'] at ho''; cases ho''; exact .inr hx
  have H := q c R0 ds e0 (rs ++ [⟨i, o.dst, v, id⟩]) (T ++ [⟨i, o.dst, v, id⟩]) L R a w Qx hS' ?_ ?_ (by rw [List.map_append]; exact r5) hs hI' hfin
  · have : l.length + (T ++ [(⟨i, o.dst, v, id⟩ : Rec)]).length = (i :: l).length + T.length := by simp; omega
    rw [this] at H; exact H
  · rw [envL_app]
    simp only [envL, allL, stepE]
    unfold dstA at hd
    cases hdd : o.dst with
    | none => rw [hdd] at hd; simp only [Option.some.injEq] at hd; exact hd.symm
    | some d =>
      rw [hdd] at hd; simp only at hd
      split at hd <;> try (cases hd; done)
      simp only [Option.some.injEq] at hd; exact hd.symm
  · refine ⟨hV3 hVo.1, fun s1 k s2 e o' ho' hw' x hx => ?_⟩
    rcases snoc_split e with ⟨_, rfl, rfl⟩ | ⟨s3, rfl, e2⟩
    · simp only at ho' hx ⊢
      rw [ho] at ho'; cases ho'
      exact hV2 hw' x hx
    · exact hV _ (hVo.2 s1 k s3 e2 o' ho' hw' x hx)
theorem arr_go : ∀ (past : List Nat) (L : Array Bool) (n : Nat), L.size = n → (past.foldl (fun L i => L.setIfInBounds i true) L).size = n ∧ ∀ j, lst (past.foldl (fun L i => L.setIfInBounds i true) L) j = true → lst L j = true ∨ j ∈ past
  | [], L, n, h => ⟨h, fun j x => .inl x⟩
  | i :: past, L, n, h => by
    obtain ⟨a, b⟩ := arr_go past (L.setIfInBounds i true) n (by rw [Array.size_setIfInBounds]; exact h)
    refine ⟨a, fun j x => ?_⟩
    rcases b j x with x | x
    · by_cases e : j = i
      · exact .inr (by rw [e]; exact List.mem_cons_self ..)
      · left
        unfold lst at x ⊢
        simp only [Array.getD_eq_getD_getElem?, Array.getElem?_setIfInBounds, if_neg (Ne.symm e)] at x ⊢
        exact x
    · exact .inr (List.mem_cons_of_mem _ x)
theorem arr_in : ∀ (past : List Nat) (L : Array Bool) (j : Nat), j < L.size → (lst L j = true ∨ j ∈ past) → lst (past.foldl (fun L i => L.setIfInBounds i true) L) j = true
  | [], L, j, _, h => by
    rcases h with h | h
    · exact h
    · cases h
  | i :: past, L, j, hj, h => by
    refine arr_in past (L.setIfInBounds i true) j (by rw [Array.size_setIfInBounds]; exact hj) ?_
    rcases h with h | h
    · left
      unfold lst at h ⊢
      simp only [Array.getD_eq_getD_getElem?, Array.getElem?_setIfInBounds] at h ⊢
      by_cases e : i = j
      · subst e; simp [hj]
      · rw [if_neg e]; exact h
    · cases h with
      | head => left; unfold lst; simp [Array.getD_eq_getD_getElem?, hj]
      | tail _ h => exact .inr h
theorem quietV_ok {i : Nat} {lg : List Nat} : ∀ {V : List (Nat × Nat)}, quietV M i lg V = true → ∀ p ∈ V, bitB M i p.1 = true ∨ p.2 ∉ lg
  | [], _, p, hp => by cases hp
  | (k, x) :: V, h, p, hp => by
    simp only [quietV] at h
    split at h
    · rename_i hb
      cases hp with
      | head => exact .inl hb
      | tail _ hp => exact quietV_ok h p hp
    · split at h
      · cases h
      · rename_i hm
        cases hp with
        | head => exact .inr fun q => by rw [memN_iff.2 q] at hm; cases hm
        | tail _ hp => exact quietV_ok h p hp
/-- a step that turns the heap, or calls, is taken -/
theorem spec_held_turn {fn : Func} {i : Nat} {o : Oper} {l : List Nat} {V : List (Nat × Nat)} {e e' e'' : En} {h h1 h'' : AH} {v : AV} (ho : ops.toList[i]? = some o) (hw : wantA ops e o = some true) (ht : turnB o.op = true) (hlg : LG ⟨h.o, h.nx, []⟩ h1) (hr : Spec P (.turn (restr e (slotsO ops o)) o) ⟨h.o, h.nx, []⟩ (.val v h1))
    (hq : quietV M i h1.lg V = true) (hd : dstA fn.ntmps e o.dst v = some e') (q : Spec P (.held fn ops M l V e') ⟨h1.o, h1.nx, h1.lg ++ h.lg⟩ (.held e'' h'')) : Spec P (.held fn ops M (i :: l) V e) h (.held e'' h'') := by
  intro c R0 ds e0 rs T L R a w Qx hS he hVo hreg hs hI hfin
  subst he
  unfold regB at hreg
  rw [ho] at hreg
  simp only [Bool.and_eq_true, Bool.not_eq_true', List.all_eq_true] at hreg
  obtain ⟨⟨⟨⟨r1, r2⟩, r3⟩, r4⟩, r5⟩ := hreg
  simp only [ht, Bool.not_true, Bool.false_or, decide_eq_true_eq] at r4
  have hnew : ∀ k ∈ rs, k.i ≠ i := fun k hk e => by
    have := memN_iff.2 (List.mem_map.2 ⟨k, hk, e⟩ : i ∈ rs.map Rec.i)
    rw [r1] at this; cases this
  have hlt : i < ops.size := (Array.getElem?_eq_some_iff.1 (toOp ho)).1
  have hdl : ∀ d, o.dst = some d → d < fn.ntmps := by
    intro d hd'
    unfold dstA at hd
    rw [hd'] at hd
    simp only at hd
    split at hd <;> try (cases hd; done)
    rename_i hb; exact blt_lt hb
  have hdsti : o.dst = dstI ops i := by unfold dstI; rw [ho]
  have hsli : slotsO ops o = slotsI ops i := by unfold slotsI; rw [ho]
  have hS' : Sta c ops M fn.ntmps (rs ++ [⟨i, o.dst, v, none⟩]) ⟨h1.o, h1.nx, h1.lg ++ h.lg⟩ := by
    refine hS.snoc hlg.nx hnew ⟨hlt, hdsti, hdl⟩ (fun d hdm => ?_) (fun k hk hc => ?_) (fun x hx => by cases hx)
    · obtain ⟨k, h1, h2⟩ := List.mem_map.1 (memN_iff.1 (r2 d hdm))
      exact ⟨k, h1, h2⟩
    · have := r3 k.i (List.mem_map.2 ⟨k, hk, rfl⟩)
      rw [hsli, ← (hS.op k hk).2.1] at this
      simp only [hc, Bool.not_true, Bool.false_or] at this
      exact this
  have he' : e' = envL allL (rs ++ [⟨i, o.dst, v, none⟩]) e0 := by
    rw [envL_app]
    simp only [envL, allL, stepE]
    unfold dstA at hd
    cases hdd : o.dst with
    | none => rw [hdd] at hd; simp only [Option.some.injEq] at hd; exact hd.symm
    | some d =>
      rw [hdd] at hd; simp only at hd
      split at hd <;> try (cases hd; done)
      simp only [Option.some.injEq] at hd; exact hd.symm
  have hVo' : VOk ops V (rs ++ [⟨i, o.dst, v, none⟩]) e0 h1.nx := by
    refine ⟨fun p hp => Nat.lt_of_lt_of_le (hVo.1 p hp) hlg.nx, fun s1 k s2 e o' ho' hw' x hx => ?_⟩
    rcases snoc_split e with ⟨_, rfl, rfl⟩ | ⟨s3, rfl, e2⟩
    · simp only at ho' hx ⊢
      rw [ho] at ho'; cases ho'
      exfalso
      rcases hx with hx | hx
      · cases hx
      · cases hop : o.op <;> rw [hop] at hx ht <;> simp only [readId, turnB, Bool.false_eq_true] at hx ht <;> try (cases hx; done)
        split at hx <;> try (cases hx; done)
        rename_i hcl
        rw [hcl] at ht
        simp at ht
    · exact hVo.2 s1 k s3 e2 o' ho' hw' x hx
  have step : ∀ (T : List Rec) (L : Array Bool) (R : Ren) (a : Act) (w : World), (∀ (T' : List Rec) (L' : Array Bool) (R' : Ren) (a' : Act) (w' : World), T.length = T'.length + 1 → Sb R0 R' → Inv P c ops fn.ntmps ds e0 rs T' h L' R' a' w' → wpAny P .any ops Qx (l.length + T'.length + 1) L' a' w') →
      Sb R0 R → Inv P c ops fn.ntmps ds e0 rs T h L R a w → wpAny P .any ops Qx (l.length + T.length + 1) L a w := by
    intro T L R a w ih hs hI
    have hun : lst L i = false := by
      cases hu : lst L i with
      | false => rfl
      | true => obtain ⟨k, hk, e⟩ := hI.sub i hu; exact absurd e (hnew k hk)
    refine ⟨fun hno => ?_, fun j hj => ?_⟩
    · have := all_of_none hS.msk hI.lsz hno (i + 1) i (by omega) hlt
      rw [hun] at this; cases this
    · by_cases hjp : ∃ r ∈ rs, r.i = j
      · refine past_step hS hI hj hjp fun R' a' w' T' s e k => ?_
        rw [e]
        have := ih T' _ R' a' w' e (hs.trans s) k
        rw [show l.length + (T'.length + 1) = l.length + T'.length + 1 by omega]
        exact this
      · -- it is the turning step itself
        have hji : j = i := by
          obtain ⟨hu, hjl⟩ := unlisted hI.lsz hj
          have hjo : ∃ o, ops.toList[j]? = some o := ⟨_, List.getElem?_eq_getElem (by rw [Array.length_toList]; exact hjl)⟩
          obtain ⟨oj, hjo⟩ := hjo
          have hdj := deps_of hjo hj
          obtain ⟨g1, g2⟩ := arr_go (rs.map Rec.i) (Array.replicate ops.size false) ops.size (by simp)
          have hrep : ∀ k, lst (Array.replicate ops.size false) k = false := fun k => by
            unfold lst
            simp only [Array.getD_eq_getD_getElem?, Array.getElem?_replicate]
            split <;> rfl
          have : j ∈ Region.ready .any ops (arrOf ops.size (rs.map Rec.i)) := by
            refine ready_of hjo g1 ?_ (fun d hdm => ?_)
            · cases hx : lst (arrOf ops.size (rs.map Rec.i)) j with
              | false => rfl
              | true =>
                rcases g2 j hx with h' | h'
                · rw [hrep] at h'; cases h'
                · obtain ⟨k, hk, e⟩ := List.mem_map.1 h'; exact absurd ⟨k, hk, e⟩ hjp
            · obtain ⟨k, hk, e⟩ := hI.sub d (hdj d hdm)
              refine arr_in _ _ d ?_ (.inr (List.mem_map.2 ⟨k, hk, e⟩))
              rw [Array.size_replicate, ← e]; exact (hS.op k hk).1
          rw [r4] at this
          simpa using this
        subst hji
        have hset := lst_set (L := L) (i := j) (by rw [hI.lsz]; exact hlt)
        have hd' := deps_of ho hj
        obtain ⟨hsl, _, _⟩ := slots_then (e0 := e0) (r := ⟨j, o.dst, v, none⟩) (rs2 := []) hS' hI.lsz hI.down hj
        have henv0 : envL (lst L) (rs ++ [⟨j, o.dst, v, none⟩]) e0 = envL (lst L) rs e0 := by rw [envL_app]; simp only [envL, hun]
        simp only [henv0] at hsl
        rw [← hsli] at hsl
        have hanc := anc_listed hS.msk (L := lst L) hI.down (j + 1) j (by omega) hlt hd'
        have hE : EO R (restr (envL allL rs e0) (slotsO ops o)) a := by
          intro t v hv
          rw [restr_get] at hv
          by_cases htm : t ∈ slotsO ops o
          · rw [if_pos htm, ← hsl t htm] at hv; exact hI.env t v hv
          · rw [if_neg htm] at hv; cases hv
        have hw2 := hw
        rw [← wantA_eq (ops := ops) (o := o) (fun t htm => hsl t htm)] at hw2
        unfold wpOp
        rw [toOp ho]
        simp only
        rw [if_pos (wantA_ok hI.env hw2)]
        refine .inl (hr (pdL c rs L) R w a _ _ (Rep.lgs (l := h.lg) hI.rep []) hE fun x w' p => ?_)
        obtain ⟨R', s, hR', hx⟩ := p
        refine q c R0 ds e0 (rs ++ [⟨j, o.dst, v, none⟩]) T (L.setIfInBounds j true) R' _ w' Qx hS' he' hVo' (by rw [List.map_append]; exact r5) (hs.trans s) ?_ hfin
        refine ⟨?_, ?_, ?_, ?_, fun k hk => ?_, fun k hk d hdm => ?_, by rw [Array.size_setIfInBounds]; exact hI.lsz, fun k hk hl => ?_, fun s1 k s2 hk hl => ?_⟩
        · refine Rep.sub_pd (Rep.lgs (l := h1.lg) hR' (h1.lg ++ h.lg)) fun k hk => ?_
          rcases hk with hk | ⟨k', hk', hl, hid⟩
          · exact .inl hk
          · rw [hset] at hl
            rcases List.mem_append.1 hk' with hk' | hk'
            · rw [if_neg (hnew k' hk')] at hl; exact .inr ⟨k', hk', hl, hid⟩
            · rw [List.mem_singleton] at hk'; subst hk'; cases hid
        · exact env_then (e0 := e0) (r := ⟨j, o.dst, v, none⟩) (rs2 := []) hS' hI.lsz hI.down (by rw [henv0]; exact hI.env) hI.size hj s hx
        · rw [← hI.size]; unfold Act.put; split <;> simp
        · rw [← hI.dfr]; unfold Act.put; split <;> rfl
        · rw [hset] at hk
          by_cases e : k = j
          · exact ⟨⟨j, o.dst, v, none⟩, by simp, e.symm⟩
          · rw [if_neg e] at hk
            obtain ⟨k', hk', e'⟩ := hI.sub k hk
            exact ⟨k', List.mem_append.2 (.inl hk'), e'⟩
        · rw [hset] at hk
          rw [hset]
          by_cases e : d = j
          · rw [if_pos e]
          · rw [if_neg e]
            by_cases e2 : k = j
            · subst e2; exact hd' d hdm
            · rw [if_neg e2] at hk; exact hI.down k hk d hdm
        · rw [hset] at hl
          rcases List.mem_append.1 hk with hk | hk
          · rw [if_neg (hnew k hk)] at hl; exact hI.tt k hk hl
          · rw [List.mem_singleton] at hk; subst hk; rw [if_pos rfl] at hl; cases hl
        · rw [hset] at hl
          rcases snoc_split hk with ⟨_, rfl, rfl⟩ | ⟨s3, rfl, e⟩
          · rw [if_pos rfl] at hl; cases hl
          · have hkm : k ∈ rs := by rw [e]; simp
            rw [if_neg (hnew k hkm)] at hl
            refine (hI.late s1 k s3 e hl).stay fun y hy hwy => ?_
            obtain ⟨o', ho', hw'⟩ := hwy
            have hin := hVo.2 s1 k s3 e o' ho' hw' y (by
              rcases hy with hy | ⟨o'', ho'', _, hy⟩
              · exact .inl hy
              · rw [ho'] at ho''; cases ho''; exact .inr hy)
            rcases quietV_ok hq _ hin with hb | hb
            · have := hanc _ hb
              rw [hl] at this; cases this
            · exact hlg.sm y (hVo.1 _ hin) hb
  have main : ∀ (m : Nat) (T : List Rec) (L : Array Bool) (R : Ren) (a : Act) (w : World), T.length = m → Sb R0 R → Inv P c ops fn.ntmps ds e0 rs T h L R a w → wpAny P .any ops Qx (l.length + T.length + 1) L a w := by
    intro m
    induction m with
    | zero => exact fun T L R a w hT => step T L R a w (fun T' _ _ _ _ e => by omega)
    | succ m ih => exact fun T L R a w hT => step T L R a w (fun T' L' R' a' w' e s k => ih T' L' R' a' w' (by omega) s k)
  have := main T.length T L R a w rfl hs hI
  rw [show (i :: l).length + T.length = l.length + T.length + 1 by simp; omega]
  exact this
/-- a region that draws its order -/
theorem spec_draw (hm : P.follows .mixedOrders = true) {f : FuncId} {fn : Func} {D : List Nat} {i : Nat} {l : List Nat} {k : List Item} {e e' : En} {h h1 h' : AH} {r : AV} (ho : okReg ops M l = true)
    (q1 : Spec P (.held fn ops M l [] e) h (.held e' h1)) (q : Spec P (.code f fn none D k e') h1 (.val r h')) : Spec P (.code f fn none D (.code (.region i ops true) :: k) e) h (.val r h') := by
  intro hf cx R w a ro' Q hR hE hro hQ
  have : ro' = none := hro
  subst this
  unfold okReg at ho
  simp only [Bool.and_eq_true] at ho
  obtain ⟨⟨⟨o1, o2⟩, o3⟩, o4⟩ := ho
  have o2 := Nat.eq_of_beq_eq_true o2
  have hrepl : ∀ k, lst (Array.replicate ops.size false) k = false := fun k => by
    unfold lst
    simp only [Array.getD_eq_getD_getElem?, Array.getElem?_replicate]
    split <;> rfl
  have hrep0 : Rep (pdL cx [] (Array.replicate ops.size false)) R h { w with drawn := w.drawn + 1 } := by
    refine Rep.sub_pd hR.drew fun j hj => ?_
    rcases hj with hj | ⟨k, hk, _⟩
    · exact hj
    · cases hk
  have hwp : (Code.region i ops true).wp P (fun ex a' w' => ex = .normal ∧ runsR P f none Q a' k w') a w := by
    refine wp_region_any hm ?_
    have := q1 cx R a.defers e [] [] (Array.replicate ops.size false) R a { w with drawn := w.drawn + 1 } (fun ex a' w' => ex = .normal ∧ runsR P f none Q a' k w')
      ⟨o3, fun rs1 r rs2 e => by simp at e, fun r hr => by (cases hr), fun rs1 r rs2 e => by simp at e, fun rs1 r rs2 e => by simp at e, fun r hr => by (cases hr), fun r hr => by (cases hr)⟩
      rfl ⟨fun p hp => by (cases hp), fun rs1 r rs2 e => by simp at e⟩ o4 (Sb.refl R)
      ⟨hrep0, hE.k, hE.size, rfl, fun j hj => by (rw [hrepl] at hj; cases hj), fun j hj => by (rw [hrepl] at hj; cases hj), by simp, fun r hr => by (cases hr), fun rs1 r rs2 e => by simp at e⟩
      (fun R' a' w' s hR' hE' hz hdf => ⟨rfl, q hf cx R' w' a' none Q hR' ⟨hz, by rw [hdf]; exact hE.defers.mono s, hE'⟩ rfl (fun v w'' p => hQ v w'' (p.trans s))⟩)
    rw [List.length_nil, Nat.add_zero, o2] at this
    exact this
  intro cs
  obtain ⟨ex, a', w', ⟨rfl, hr⟩, harr⟩ := hwp (bsR f none) k cs
  rw [Frame.atR_of_none rfl]
  have := hr cs
  rw [Frame.atR_of_none rfl] at this
  exact this.steps harr
theorem spec_turn_ext {e : En} {o : Oper} {h : AH} {v : AV} {fx : Operand} {args : List Operand} {g : FuncId} {first cap vs : List AV} (hc : isCall o.op = some (fx, args)) (hf : evo e fx = some (.func g first cap)) (hv : evoL e args = some vs) (hs : extA P g (first ++ (vs ++ cap)) = some v) : Spec P (.turn e o) h (.val v h) := by
  intro c R w a nx Qx hR hE hn
  exact ext_wp hE hc hf hv hs fun x hx => hn x w ⟨R, Sb.refl R, hR, hx⟩
theorem spec_turn_call {e : En} {o : Oper} {h h' : AH} {v : AV} {fx : Operand} {args : List Operand} {g : FuncId} {first cap vs : List AV} (hc : isCall o.op = some (fx, args)) (hf : evo e fx = some (.func g first cap)) (hv : evoL e args = some vs) (hs : Spec P (.call g (first ++ (vs ++ cap))) h (.val v h')) : Spec P (.turn e o) h (.val v h') := by
  intro c R w a nx Qx hR hE hn
  exact call_wp hR hE hc hf hv hs hn
theorem spec_turn_eff {e : En} {o : Oper} {h h' : AH} {v : AV} (hq : eop P e h o.op = some (v, h')) : Spec P (.turn e o) h (.val v h') := by
  intro c R w a nx Qx hR hE hn
  exact eff_wp hR hE hq hn
theorem new_of {e : En} {h h' : AH} {op : Op} {v : AV} (hm : makesB op = true) (q : eop P e h op = some (v, h')) : ∃ ob, h' = h.new ob := by
  cases op <;> simp only [makesB, Bool.false_eq_true] at hm <;> simp only [eop] at q
  all_goals try unfold opAlloc at q
  all_goals try unfold opBuildSlice at q
  all_goals try unfold opMakeSlice at q
  all_goals try unfold opMakeMap at q
  all_goals try unfold opBox at q
  all_goals repeat' (split at q)
  all_goals first
    | (cases q; done)
    | (simp only [Option.some.injEq, Prod.mk.injEq] at q; obtain ⟨_, rfl⟩ := q; exact ⟨_, rfl⟩)
theorem make_read {e : En} {op : Op} (hm : makesB op = true) : readId e op = none := by
  cases op <;> simp only [makesB, Bool.false_eq_true] at hm <;> rfl
theorem spec_held_skip {fn : Func} {i : Nat} {o : Oper} {l : List Nat} {V : List (Nat × Nat)} {e e' e'' : En} {h h'' : AH} (ho : ops.toList[i]? = some o) (hw : wantA ops e o = some false) (hd : dstA fn.ntmps e o.dst (.tup []) = some e') (q : Spec P (.held fn ops M l V e') h (.held e'' h'')) : Spec P (.held fn ops M (i :: l) V e) h (.held e'' h'') :=
  spec_held_late ho hd (id := none) (.inl ⟨rfl, rfl⟩) ⟨o, ho, .inl ⟨hw, rfl, rfl⟩⟩ (fun _ x => x) (fun h' => by rw [hw] at h'; cases h') (fun x => x) q
theorem spec_held_make {fn : Func} {i : Nat} {o : Oper} {l : List Nat} {V : List (Nat × Nat)} {e e' e'' : En} {h h' h'' : AH} {v : AV} (ho : ops.toList[i]? = some o) (hw : wantA ops e o = some true) (hm : makesB o.op = true) (hq : eop P (restr e (slotsO ops o)) h o.op = some (v, h')) (hd : dstA fn.ntmps e o.dst v = some e')
    (q : Spec P (.held fn ops M l ((i, h.nx) :: V) e') h' (.held e'' h'')) : Spec P (.held fn ops M (i :: l) V e) h (.held e'' h'') := by
  obtain ⟨ob, rfl⟩ := new_of hm hq
  refine spec_held_late ho hd (id := some h.nx) (.inr ⟨ob, rfl, rfl⟩) ⟨o, ho, .inr (.inr ⟨hw, hm, h, ob, rfl, hq, by simp [AH.new, Tr.get_set]⟩)⟩ (fun _ x => List.mem_cons_of_mem _ x) (fun _ x hx => ?_) (fun hx p hp => ?_) q
  · rcases hx with hx | hx
    · cases hx; exact List.mem_cons_self ..
    · rw [make_read hm] at hx; cases hx
  · cases hp with
    | head => exact Nat.lt_succ_self _
    | tail _ hp => exact Nat.lt_succ_of_lt (hx p hp)
theorem spec_held_read {fn : Func} {i : Nat} {o : Oper} {l : List Nat} {V : List (Nat × Nat)} {e e' e'' : En} {h h'' : AH} {v : AV} (ho : ops.toList[i]? = some o) (hw : wantA ops e o = some true) (hb : oldB h.nx (readId (restr e (slotsO ops o)) o.op) = true) (hq : qop P (restr e (slotsO ops o)) (oneH h (readId (restr e (slotsO ops o)) o.op)) o.op = some v) (hd : dstA fn.ntmps e o.dst v = some e')
    (q : Spec P (.held fn ops M l (noteV i (readId (restr e (slotsO ops o)) o.op) V) e') h (.held e'' h'')) : Spec P (.held fn ops M (i :: l) V e) h (.held e'' h'') := by
  refine spec_held_late ho hd (id := none) (.inl ⟨rfl, rfl⟩) ⟨o, ho, .inr (.inl ⟨hw, rfl, hq⟩)⟩ (fun p x => ?_) (fun _ x hx => ?_) (fun hx p hp => ?_) q
  · unfold noteV; split
    · exact x
    · exact List.mem_cons_of_mem _ x
  · rcases hx with hx | hx
    · cases hx
    · unfold noteV; rw [hx]; exact List.mem_cons_self ..
  · unfold noteV at hp
    split at hp
    · exact hx p hp
    · rename_i y hy
      cases hp with
      | head => rw [hy] at hb; exact blt_lt hb
      | tail _ hp => exact hx p hp
end
end Go.Proofs.YtejohpjhonjcjaaGreatDoor.Zr
