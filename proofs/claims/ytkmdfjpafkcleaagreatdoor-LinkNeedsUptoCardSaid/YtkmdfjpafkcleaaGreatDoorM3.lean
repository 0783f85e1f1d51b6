import Derived.Test.YtkmdfjpafkcleaaGreatDoorM2
import Derived.Test.YtkmdfjpafkcleaaGreatDoorM1
import Derived.Test.YtkmdfjpafkcleaaGreatDoorSeq
import Derived.Shelf.SlIter.Collect
import Derived.Shelf.SlIter.Sorted
import Derived.Lib.SlicesS
import Derived.Lib.LastIndexByte
import Derived.Test.YtkmdfjpafkcleaaGreatDoorShelf
import Derived.Sort.OwnSortedInts
import Derived.Lib.RowBridge
import Derived.ArgAppend
import Derived.Laws.StructEq
/- Walks: the program's matching of brackets, and its Check of code. -/
namespace Go.Proofs.YtkmdfjpafkcleaaGreatDoor
open Eng Go.RowKit
def Has (w:World) (hs:List (Nat×TypeId×List Value)):Prop:=∀ (i b:Nat) (t:TypeId) (cs:List Value),hs[i]? = some (b,t,cs)→Box w b t cs
theorem Has.bl {w w':World} {hs:List (Nat×TypeId×List Value)} (h:Has w hs) (k:Bl w w'):Has w' hs:=fun i b t cs hi=>Bl.box k (h i b t cs hi)
theorem Has.wr {w w':World} {hs:List (Nat×TypeId×List Value)} (h:Has w hs) (nd:(hs.map (·.1)).Nodup) (i:Nat) {b:Nat} {t:TypeId} {cs cs':List Value} (hi:hs[i]? = some (b,t,cs)) (hW:Wr w b w') (hb:Box w' b t cs'):Has w' (hs.set i (b,t,cs')):=by
  intro j b' t' c' hj
  by_cases hij:i=j
  · subst hij
    have hl:i<hs.length:=(List.getElem?_eq_some_iff.1 hi).1
    rw [List.getElem?_set_self hl] at hj
    simp only [Option.some.injEq,Prod.mk.injEq] at hj
    obtain ⟨rfl,rfl,rfl⟩:=hj;exact hb
  · rw [List.getElem?_set_ne hij] at hj
    refine hW.box (h j b' t' c' hj) fun e=>hij ?_
    subst e
    have h1:(hs.map (·.1))[i]? = some b':=by rw [List.getElem?_map,hi];rfl
    have h2:(hs.map (·.1))[j]? = some b':=by rw [List.getElem?_map,hj];rfl
    obtain ⟨l1,e1⟩:=List.getElem?_eq_some_iff.1 h1
    obtain ⟨l2,e2⟩:=List.getElem?_eq_some_iff.1 h2
    have hp:=List.pairwise_iff_getElem.1 nd
    rcases Nat.lt_trichotomy i j with h3 | h3 | h3
    · exact absurd (e1.trans e2.symm) (hp i j l1 l2 h3)
    · exact h3
    · exact absurd (e2.trans e1.symm) (hp j i l2 l1 h3)
theorem Has.ap {w w':World} {hs:List (Nat×TypeId×List Value)} (h:Has w hs) {a:Option Addr} (k:Ap w a w') (ha:∀ (i b:Nat) (t:TypeId) (cs:List Value),hs[i]? = some (b,t,cs)→a≠some ⟨b,0,none⟩):Has w' hs:=fun i b t cs hi=>k.box (h i b t cs hi) (ha i b t cs hi)
abbrev encNat:Nat→List Value:=fun i=>[I (i:Int)]
theorem owp_cell {w:World} {base e g cap:Nat} {l:List Nat} (hO:OwP 1 encNat w base e (some ⟨g,0,none⟩) cap l) {j x:Nat} (hx:l[j]? = some x):w.cell? ⟨g,j,none⟩=some (I (x:Int)):=by
  have:=flat_get (sz:=1) (enc:=encNat) (fun _=>rfl) hx 0 (by decide)
  have h2:=hO.at rfl (j*1+0) (I x) (by rw [this];rfl)
  simpa using h2
theorem Eng.Ow.cut {w:World} {base e esz n cap:Nat} {a:Option Addr} {xs:List Value} (h:Ow w base e esz a n cap xs) {m:Nat} (hm:m≤n):Ow w base e esz a m cap (xs.take (m*esz)):=by
  obtain ⟨h1,h2⟩:=h.own
  have hl:(xs.take (m*esz)).length=m*esz:=by rw [List.length_take,h1];exact Nat.min_eq_left (Nat.mul_le_mul_right _ hm)
  refine ⟨⟨hl,?_⟩⟩
  rcases h2 with ⟨h2,h3⟩ | ⟨g,cap',cur,h2,h3,h4,h5,h6,h7,h8⟩
  · simp only [Value.slice.injEq] at h2
    obtain ⟨rfl,rfl,rfl⟩:=h2
    have:m=0:=by omega
    subst this
    exact .inl ⟨rfl,by simp⟩
  · simp only [Value.slice.injEq] at h2
    obtain ⟨rfl,-,rfl⟩:=h2
    exact .inr ⟨g,cap,cur,rfl,h3,h4,by omega,h6,h7,by rw [←h8,List.take_take,Nat.min_eq_left (Nat.mul_le_mul_right _ hm)]⟩
theorem owp_pop {w:World} {base e cap:Nat} {a:Option Addr} {l:List Nat} {x:Nat} (h:OwP 1 encNat w base e a cap (l++[x])):OwP 1 encNat w base e a cap l:=by
  have:=Eng.Ow.cut h (m:=l.length) (by simp)
  have e1:((l++[x]).flatMap encNat).take (l.length*1)=l.flatMap encNat:=by
    rw [List.flatMap_append,List.take_append_of_le_length (by rw [flat_length (sz:=1) (fun _=>rfl)];exact Nat.le_refl _),List.take_of_length_le (by rw [flat_length (sz:=1) (fun _=>rfl)];exact Nat.le_refl _)]
  rw [e1] at this;exact this
theorem rep_ints (n:Nat):rep n [I 0]=(List.replicate n (0:Int)).map I:=by
  induction n with
  | zero=>rfl
  | succ n ih=>rw [rep,ih,List.replicate_succ'];simp
theorem runB_app:∀ (c c':List Int) (s:List (Int×Bool)) (d:Nat),runB (c++c') s d=(match runB c s d with
  | some (s',d')=>runB c' s' d'
  | none=>none)
  | [],c',s,d=>rfl
  | op::c,c',s,d=>by
    simp only [List.cons_append,runB]
    cases stepB s d op with
    | none=>rfl
    | some sd=>exact runB_app c c' sd.1 sd.2
theorem runB_step {c:List Int} {k:Nat} {op:Int} (hk:c[k]? = some op) {s:List (Int×Bool)} {d:Nat} (h:runB (c.take k) [] 0=some (s,d)):runB (c.take (k+1)) [] 0=stepB s d op:=by
  rw [take_succ_some hk,runB_app,h]
  simp only [runB]
  cases stepB s d op with
  | none=>rfl
  | some sd=>rfl
theorem okB_fail {c:List Int} {k:Nat} (h:runB (c.take k) [] 0=none):okB c=false:=by
  have:runB c [] 0=none:=by
    rw [←List.take_append_drop k c,runB_app,h]
  unfold okB;rw [this]
def stk (c:List Int) (E:List Int) (idx:List Nat):List (Int×Bool):=idx.reverse.map fun o=>(c.getD o 0,decide (0≤E.getD o (-1)))
theorem stk_push (c E:List Int) (idx:List Nat) (o:Nat):stk c E (idx++[o])=(c.getD o 0,decide (0≤E.getD o (-1)))::stk c E idx:=by simp [stk]
theorem stk_set {c E:List Int} {idx:List Nat} {k:Nat} {v:Int} (h:k ∉ idx):stk c (E.set k v) idx=stk c E idx:=by
  unfold stk
  apply List.map_congr_left
  intro o ho
  have:k≠o:=fun e=>h (by rw [e];exact List.mem_reverse.1 ho)
  rw [List.getD_eq_getElem?_getD (l:=E.set k v),List.getElem?_set_ne this,←List.getD_eq_getElem?_getD]
theorem stk_length (c E:List Int) (idx:List Nat):(stk c E idx).length=idx.length:=by simp [stk]
theorem set_getD {E:List Int} {k:Nat} {v:Int} (h:k<E.length):(E.set k v).getD k (-1)=v:=by rw [List.getD_eq_getElem?_getD,List.getElem?_set_self h];rfl
theorem stepB_open {op:Int} {s:List (Int×Bool)} {d:Nat} (h:opensB op=true):stepB s d op=some ((op,false)::s,max d (s.length+1)):=by simp [stepB,h]
theorem stepB_plain {op:Int} {s:List (Int×Bool)} {d:Nat} (h1:opensB op=false) (h2:op≠34) (h3:op≠35):stepB s d op=some (s,d):=by simp [stepB,h1,h2,h3]
theorem stepB_else {o:Int} {e:Bool} {s:List (Int×Bool)} {d:Nat}:stepB ((o,e)::s) d 34=if e=false∧(o=29∨o=33) then some ((o,true)::s,d) else none:=by
  cases e
  · by_cases h:o=29∨o=33 <;> simp [stepB,opensB,h]
  · simp [stepB,opensB]
theorem stepB_end {o:Int} {e:Bool} {s:List (Int×Bool)} {d:Nat}:stepB ((o,e)::s) d 35=if o=33∧e=false then none else some (s,d):=by simp [stepB,opensB]
theorem stepB_top {op:Int} {d:Nat} (h:op=34∨op=35):stepB [] d op=none:=by rcases h with rfl | rfl <;> simp [stepB,opensB]
end Go.Proofs.YtkmdfjpafkcleaaGreatDoor
namespace Go.Proofs.YtkmdfjpafkcleaaGreatDoor
open Eng Go.RowKit
abbrev slv (b n:Nat):Value := .slice (some ⟨b,0,none⟩) n n
def shRows (b1 b3 b5 b7 b4 b2 n:Nat) (cO cN cD:List Value) (E:List Int) (D:Nat):List (Nat×TypeId×List Value) :=
  [(b1,3,cO),(b3,3,E.map I),(b5,3,cN),(b7,3,cD),(b4,246,[slv b1 n,slv b3 n,slv b5 n,slv b7 n,I D,.bool true]),(b2,246,[.slice none 0 0,.slice none 0 0,.slice none 0 0,.slice none 0 0,I 0,.bool false])]
structure ShI (c:List Int) (n b1 b3 b5 b7 b4 b2 B:Nat) (w0:World) (k:Nat) (a:Option Addr) (cap:Nat) (idx:List Nat) (cO cN cD:List Value) (E:List Int) (D:Nat) (w:World):Prop where
  own:OwP 1 encNat w B 3 a cap idx
  has:Has w (shRows b1 b3 b5 b7 b4 b2 n cO cN cD E D)
  lO:cO.length=n
  lN:cN.length=n
  lD:cD.length=n
  lE:E.length=n
  lt:∀ o∈idx,o<k
  nd:idx.Nodup
  len:idx.length≤k
  run:runB (c.take k) [] 0=some (stk c E idx,D)
  db:D≤k
  bl:Bl w0 w
  sz:B≤w.heap.size
theorem cut_addr {a:Option Addr} {n cap esz base:Nat} {xs:List Value} {w:World} {e:Nat} (h:(a=none∧n=0∧cap=0∧xs=[])∨∃ g cur,a=some ⟨g,0,none⟩∧base≤g∧w.heap[g]? = some (.cells cur e (0,0))∧n≤cap∧cur.size=cap*esz∧cur.toList.take (n*esz)=xs):a.map (·.add (0*1))=a:=by
  rcases h with ⟨rfl,_⟩ | ⟨g,_,rfl,_⟩ <;> rfl
theorem v_Opens (op:Int) (w:World):Ret Tryz.prog 257 #[I op] w fun v w'=>v = .bool (opensB op)∧w'=w:=by
  refine entr (vs:=[I op]) [0,2] tabok Tryz.func257 (by kernel_rfl) ?_
  refine rt1 ⟨vb ?_,rfl⟩
  unfold opensB
  rw [Bool.eq_iff_iff]
  simp only [Bool.or_eq_true,Bool.and_eq_true,decide_eq_true_eq]
  omega
set_option maxHeartbeats 1000000 in
theorem u_shapeOf (l:List Ins) (a0:Option Addr) (cap0:Nat) (S:Nat→Prop) (w:World) (hS:Sl eIns S w a0 l):Ret Tryz.prog 213 #[.slice a0 l.length cap0] w fun v w'=>(∃ c0 c1 c2 c3 c4,v = .agg #[c0,c1,c2,c3,c4,.bool (okB (l.map (·.op)))])∧Bl w w':=by
  have hbig:=hS.big
  refine entr (vs:=[.slice a0 l.length cap0]) [0,2,3,4,5,6,7,8,9,21,22,23,24,48,59,73,84,115,125,146] tabok Tryz.func213 (by kernel_rfl) ?_
  refine al fun b2 w1 h1 => ?_
  refine dpar [Pr.cst 12 (I l.length),Pr.box 13 (fun b=>slv b l.length) 3 (rep l.length [I 0]),Pr.cst 14 (I l.length),Pr.box 15 (fun b=>slv b l.length) 3 (rep l.length [I 0]),Pr.cst 16 (I l.length),Pr.box 17 (fun b=>slv b l.length) 3 (rep l.length [I 0]),Pr.cst 18 (I l.length),Pr.box 19 (fun b=>slv b l.length) 3 (rep l.length [I 0]),
    Pr.fn 20 [13,15,17,19] (fun vs => .agg (vs++[I 0,.bool true]).toArray),Pr.box 4 (fun b => .pointer (some ⟨b,0,none⟩)) 246 [.slice none 0 0,.slice none 0 0,.slice none 0 0,.slice none 0 0,I 0,.bool false]] (fun _=>False) [10] rfl ?_ ?_ ?_
  · refine ⟨?_,?_,?_,?_,?_,?_,?_,?_,?_,?_,trivial⟩ <;> intro d hd <;> cases hd <;> first | exact Pr.cst_ok _ _ | exact Pr.box_ok _ _ _ _ (fun _=>rfl) | exact Pr.fn_ok _ _ _
  · intro hT w2 h2
    refine ⟨so_move rfl,so_mk hT (fun a w _ hD=>hD ⟨0,.data⟩ (by simp) rfl _ rfl) (fun a w _ hD=>hD ⟨0,.data⟩ (by simp) rfl _ rfl),so_move rfl,so_mk hT (fun a w _ hD=>hD ⟨2,.data⟩ (by simp) rfl _ rfl) (fun a w _ hD=>hD ⟨2,.data⟩ (by simp) rfl _ rfl),
      so_move rfl,so_mk hT (fun a w _ hD=>hD ⟨4,.data⟩ (by simp) rfl _ rfl) (fun a w _ hD=>hD ⟨4,.data⟩ (by simp) rfl _ rfl),so_move rfl,so_mk hT (fun a w _ hD=>hD ⟨6,.data⟩ (by simp) rfl _ rfl) (fun a w _ hD=>hD ⟨6,.data⟩ (by simp) rfl _ rfl),?_,so_al hT,trivial⟩
    intro a w' _ _ hD
    obtain ⟨c1,e1,_⟩:=hD ⟨1,.data⟩ (by simp) rfl _ rfl
    obtain ⟨c3,e3,_⟩:=hD ⟨3,.data⟩ (by simp) rfl _ rfl
    obtain ⟨c5,e5,_⟩:=hD ⟨5,.data⟩ (by simp) rfl _ rfl
    obtain ⟨c7,e7,_⟩:=hD ⟨7,.data⟩ (by simp) rfl _ rfl
    refine ⟨.agg #[slv c1 l.length,slv c3 l.length,slv c5 l.length,slv c7 l.length,I 0,.bool true],w',exec_build (pv:=[(0,slv c1 l.length),(1,slv c3 l.length),(2,slv c5 l.length),(3,slv c7 l.length),(4,I 0),(5,.bool true)]) rfl (tab_at hT rfl) ?_ rfl,fun d hd g hg hgd => ?_,Bl.refl _,fun h=>by cases h⟩
    · show [(0,valsOf a 13),(1,valsOf a 15),(2,valsOf a 17),(3,valsOf a 19),(4,I 0),(5,.bool true)]=_
      rw [e1,e3,e5,e7]
    · cases hd
      show g 20 = .agg ([g 13,g 15,g 17,g 19]++[I 0,.bool true]).toArray
      rw [hgd,hg 13 (by decide),hg 15 (by decide),hg 17 (by decide),hg 19 (by decide),e1,e3,e5,e7];rfl
  intro w2 w3 g h2 hB3 hsp hge hdist
  obtain ⟨b1,e13,x1⟩:=hsp 1 _ rfl
  obtain ⟨b3,e15,x3⟩:=hsp 3 _ rfl
  obtain ⟨b5,e17,x5⟩:=hsp 5 _ rfl
  obtain ⟨b7,e19,x7⟩:=hsp 7 _ rfl
  obtain ⟨b4,e4,x4⟩:=hsp 9 _ rfl
  have e20:g 20 = .agg #[slv b1 l.length,slv b3 l.length,slv b5 l.length,slv b7 l.length,I 0,.bool true]:=by
    have:g 20 = .agg ([g 13,g 15,g 17,g 19]++[I 0,.bool true]).toArray:=hsp 8 _ rfl
    rw [this,e13,e15,e17,e19];rfl
  have f1:fpV (g 13)=some b1:=by rw [e13];rfl
  have f3:fpV (g 15)=some b3:=by rw [e15];rfl
  have f5:fpV (g 17)=some b5:=by rw [e17];rfl
  have f7:fpV (g 19)=some b7:=by rw [e19];rfl
  have f4:fpV (g 4)=some b4:=by rw [e4];rfl
  have d13:=hdist 1 3 _ _ _ _ 13 15 b1 b3 (by decide) rfl rfl rfl rfl rfl rfl rfl rfl f1 f3
  have d15:=hdist 1 5 _ _ _ _ 13 17 b1 b5 (by decide) rfl rfl rfl rfl rfl rfl rfl rfl f1 f5
  have d17:=hdist 1 7 _ _ _ _ 13 19 b1 b7 (by decide) rfl rfl rfl rfl rfl rfl rfl rfl f1 f7
  have d14:=hdist 1 9 _ _ _ _ 13 4 b1 b4 (by decide) rfl rfl rfl rfl rfl rfl rfl rfl f1 f4
  have d35:=hdist 3 5 _ _ _ _ 15 17 b3 b5 (by decide) rfl rfl rfl rfl rfl rfl rfl rfl f3 f5
  have d37:=hdist 3 7 _ _ _ _ 15 19 b3 b7 (by decide) rfl rfl rfl rfl rfl rfl rfl rfl f3 f7
  have d34:=hdist 3 9 _ _ _ _ 15 4 b3 b4 (by decide) rfl rfl rfl rfl rfl rfl rfl rfl f3 f4
  have d57:=hdist 5 7 _ _ _ _ 17 19 b5 b7 (by decide) rfl rfl rfl rfl rfl rfl rfl rfl f5 f7
  have d54:=hdist 5 9 _ _ _ _ 17 4 b5 b4 (by decide) rfl rfl rfl rfl rfl rfl rfl rfl f5 f4
  have d74:=hdist 7 9 _ _ _ _ 19 4 b7 b4 (by decide) rfl rfl rfl rfl rfl rfl rfl rfl f7 f4
  have g1:=hge 1 _ _ 13 b1 rfl rfl rfl rfl f1
  have g3:=hge 3 _ _ 15 b3 rfl rfl rfl rfl f3
  have g5:=hge 5 _ _ 17 b5 rfl rfl rfl rfl f5
  have g7:=hge 7 _ _ 19 b7 rfl rfl rfl rfl f7
  have g4:=hge 9 _ _ 4 b4 rfl rfl rfl rfl f4
  have l2:b2<w2.heap.size:=(h2.box h1.box).lt
  refine ⟨[(4,.pointer (some ⟨b4,0,none⟩)),(20,.agg #[slv b1 l.length,slv b3 l.length,slv b5 l.length,slv b7 l.length,I 0,.bool true]),(0,.slice a0 l.length cap0),(2,.pointer (some ⟨b2,0,none⟩)),(3,I l.length)],⟨congrArg some e4,congrArg some e20,rfl,rfl,rfl,trivial⟩,?_⟩
  refine sta x4 (fun w4 h4 y4 => ?_) (hm:=wrS (fun h=>h))
  have hB2:Bl w w2:=h1.bl.trans h2.bl
  have hB4:Bl w w4:=Below.trans (hB2.trans hB3) (h4.below (Nat.le_trans hB2.size g4))
  rw [rep_ints] at x1 x3 x5 x7
  have m1:b1<w4.heap.size:=by rw [h4.size];exact x1.lt
  have m3:b3<w4.heap.size:=by rw [h4.size];exact x3.lt
  have m5:b5<w4.heap.size:=by rw [h4.size];exact x5.lt
  have m7:b7<w4.heap.size:=by rw [h4.size];exact x7.lt
  have m4:b4<w4.heap.size:=y4.lt
  have m2:b2<w4.heap.size:=by have:=hB3.size;rw [h4.size];omega
  have u1:=Nat.le_trans hB2.size g1
  have u3:=Nat.le_trans hB2.size g3
  have u5:=Nat.le_trans hB2.size g5
  have u7:=Nat.le_trans hB2.size g7
  have u4:=Nat.le_trans hB2.size g4
  have u2:w.heap.size≤b2:=by have:=h1.blk;omega
  have nd:[b1,b3,b5,b7,b4,b2].Nodup:=by simp only [List.nodup_cons,List.mem_cons,List.mem_nil_iff,or_false,not_or];refine ⟨⟨d13,d15,d17,d14,by omega⟩,⟨d35,d37,d34,by omega⟩,⟨d57,d54,by omega⟩,⟨d74,by omega⟩,by omega,by simp⟩
  refine lpk l.length 23 [5] [(0,.slice a0 l.length cap0),(2,.pointer (some ⟨b2,0,none⟩)),(3,I l.length),(4,.pointer (some ⟨b4,0,none⟩)),(21,.slice a0 l.length cap0),(22,I l.length)]
    (fun k vals w'=>∃ a cap idx cO cN cD E D,vals=[.slice a idx.length cap]∧ShI (l.map (·.op)) l.length b1 b3 b5 b7 b4 b2 w4.heap.size w k a cap idx cO cN cD E D w') ?_ ?_
  · refine ⟨none,0,[],(List.replicate l.length (0:Int)).map I,(List.replicate l.length (0:Int)).map I,(List.replicate l.length (0:Int)).map I,List.replicate l.length 0,0,rfl,Ow.nil _ _ _ _,?_,?_,?_,?_,?_,by simp,by simp,Nat.le_refl _,rfl,Nat.le_refl _,hB4,Nat.le_refl _⟩
    rotate_left
    · simp
    · simp
    · simp
    · simp
    intro i b t cs hi
    rcases i with _ | _ | _ | _ | _ | _ | i
    · cases hi;exact h4.box x1 d14
    · cases hi;exact h4.box x3 d34
    · cases hi;exact h4.box x5 d54
    · cases hi;exact h4.box x7 d74
    · cases hi;exact y4
    · cases hi;exact h4.box (Bl.box hB3 (h2.box h1.box)) (by omega)
    · simp [shRows] at hi
  rintro k vals w5 hk ⟨a,cap,idx,cO,cN,cD,E,D,rfl,hI⟩ ih
  have ilen:=hI.len
  by_cases hlt:k<l.length
  · refine brT ?_
    obtain ⟨x,bx,ox,_,hx,rfl,hSb,hAt,rfl⟩:=at_some (hS.bl hI.bl) hlt
    refine ix ?_
    refine lda hAt ?_
    refine al fun b7' w6 h6 => ?_
    refine sta h6.box (fun w7 h7 y7 => ?_)
    have hB7:Bl w5 w7:=Eng.New.wr h6 h7
    refine dh (· = b4) [0,1,2,3,4,5,6,7,8,9,10,11,12,13,14,15,16,17,18,19,20,21] fun w8 h8 => ?_
    have H8:=(hI.has.bl hB7).bl h8.bl
    have O8:=(hI.own.bl hB7).bl h8.bl
    refine ld ((H8 4 _ _ _ rfl).cell rfl) ?_ (hm:=rfl)
    refine ld ((H8 4 _ _ _ rfl).cell rfl) ?_ (hm:=rfl)
    refine ld ((H8 4 _ _ _ rfl).cell rfl) ?_ (hm:=rfl)
    refine ld ((H8 4 _ _ _ rfl).cell rfl) ?_ (hm:=rfl)
    have lO:=hI.lO
    have lN:=hI.lN
    have lD:=hI.lD
    have lE:=hI.lE
    refine ix ?_
    refine stx (H8 0 _ _ _ rfl) (fun w9 h9 y9 => ?_) (hm:=wrS d14)
    have H9:=H8.wr nd 0 rfl h9 y9
    refine ix ?_
    refine stx (H9 1 _ _ _ rfl) (fun w10 h10 y10 => ?_) (ho:=by rw [List.length_map];omega) (hm:=wrS d34)
    have H10:=H9.wr nd 1 rfl h10 y10
    refine ix ?_
    refine stx (H10 2 _ _ _ rfl) (fun w11 h11 y11 => ?_) (hm:=wrS d54)
    have H11:=H10.wr nd 2 rfl h11 y11
    refine ix ?_
    refine stx (H11 3 _ _ _ rfl) (fun w12 h12 y12 => ?_) (hm:=wrS d74)
    have H12:=H11.wr nd 3 rfl h12 y12
    rw [Nat.zero_add,Nat.mul_one] at H12
    have eE:(E.map I).set k (I (-1))=(E.set k (-1)).map I:=by rw [List.map_set]
    rw [eE] at H12
    have O12:=((((O8.wr h9 (fun g hg=>by have:=(O8.lt hg).1;omega)).wr h10 (fun g hg=>by have:=(O8.lt hg).1;omega)).wr h11 (fun g hg=>by have:=(O8.lt hg).1;omega)).wr h12 (fun g hg=>by have:=(O8.lt hg).1;omega))
    have hB12:Bl w w12:=Below.trans (Below.trans (Below.trans (Below.trans ((hI.bl.trans hB7).trans h8.bl) (h9.below u1)) (h10.below u3)) (h11.below u5)) (h12.below u7)
    have s12:w4.heap.size≤w12.heap.size:=by have:=hI.sz;have:=hB7.size;have:=h8.bl.size;rw [h12.size,h11.size,h10.size,h9.size];omega
    have v7:w4.heap.size≤b7':=by have:=hI.sz;have:=h6.blk;omega
    have y12:Box w12 b7' _ _:=h12.box (h11.box (h10.box (h9.box (h8.box y7) (by omega)) (by omega)) (by omega)) (by omega)
    have kn:k ∉ idx:=fun h=>Nat.lt_irrefl _ (hI.lt k h)
    have hop:(l.map (·.op))[k]? = some x.op:=by rw [List.getElem?_map,hx];rfl
    have hopD:(l.map (·.op)).getD k 0=x.op:=by rw [List.getD_eq_getElem?_getD,hop];rfl
    have hrun:runB ((l.map (·.op)).take k) [] 0=some (stk (l.map (·.op)) (E.set k (-1)) idx,D):=by rw [stk_set kn];exact hI.run
    have hst:=runB_step hop hrun
    have lE1:(E.set k (-1)).length=l.length:=by rw [List.length_set];exact lE
    have gE1:(E.set k (-1)).getD k (-1) = -1:=set_getD (by omega)
    have hdb:=hI.db
    refine br (fun h0 => ?_) (fun h0 => ?_)
    · have h0:=of_decide_eq_true h0
      obtain ⟨o,ho⟩:=some_of_lt (l:=idx) (k:=idx.length-1) (by omega)
      rcases O12.shape with ⟨_,h00,_⟩ | ⟨g,cur,rfl,hg,_⟩
      · omega
      refine dh (fun i=>i=b4∨i=g) [0,1,2,3,4,5,6,7,8,9,10] fun w13 h13 => ?_
      have H13:=H12.bl h13.bl
      have O13:=O12.bl h13.bl
      have hw1:IntKind.i64.wrap ((idx.length:Int)-1)=((idx.length-1:Nat):Int):=by rw [wrap_fit (by omega) (by omega)];omega
      refine ld ((H13 4 _ _ _ rfl).cell rfl) ?_ (hm:=(Or.inl rfl:b4=b4∨b4=g))
      refine ix (hij:=hw1) ?_
      refine ld (b:=g) (o:=0+(idx.length-1)*1) (v:=I o) (by simpa using owp_cell O13 ho) ?_ (hm:=(Or.inr rfl:g=b4∨g=g))
      refine ix ?_
      refine stx (H13 0 _ _ _ rfl) (fun w14 h14 y14 => ?_) (ho:=by simp;omega) (hm:=wrS (by rintro (e | e) <;> omega))
      have H14:=H13.wr nd 0 rfl h14 y14
      rw [Nat.zero_add,Nat.mul_one] at H14
      have O14:=O13.wr h14 (fun g hg=>by have:=(O13.lt hg).1;omega)
      have B14:Bl w w14:=Below.trans (hB12.trans h13.bl) (h14.below u1)
      have s14:w4.heap.size≤w14.heap.size:=by have:=h13.bl.size;rw [h14.size];omega
      have Y14:=h14.box (h13.box y12) (by omega)
      have lO14:((cO.set k (I (-1))).set k (I o)).length=l.length:=by simp [lO]
      have cO14:∀ o',idx[idx.length-1]? = some o'→((cO.set k (I (-1))).set k (I o))[k]? = some (I o'):=fun o' h'=>by rw [ho] at h';obtain rfl:=Option.some.inj h';rw [List.getElem?_set_self (by simp;omega)]
      refine ld (Y14.cell rfl) ?_
      refine cl (v_Opens x.op _) ?_
      rintro _ _ ⟨rfl,rfl⟩
      refine br (fun h1 => ?_) (fun h1 => ?_)
      ·
        refine bs fun b15 w15 h15 => ?_
        have H15:=H14.bl h15.bl
        have O15:=O14.bl h15.bl
        refine apl (l1:=[k]) O15 (.inr ⟨b15,0,rfl,h15.box.at⟩) (by have:=h15.bl.size;omega) (fun a' cap' w16 O16 hA _ => ?_)
        have H16:Has w16 _:=H15.ap hA (fun i b t cs hi e=>by
          have:=(O15.lt e).1
          have:b∈[b1,b3,b5,b7,b4,b2]:=(List.mem_map (f:=fun e:Nat×TypeId×List Value=>e.1)).2 ⟨(b,t,cs),List.mem_of_getElem? hi,rfl⟩
          simp only [List.mem_cons,List.mem_nil_iff,or_false] at this
          omega)
        have B16:Bl w w16:=Below.trans (B14.trans h15.bl) (hA.below (by have:=(B14.trans h15.bl).size;omega) (fun g hg=>by have:=(O15.lt hg).1;omega))
        refine ld ((H16 4 _ _ _ rfl).cell rfl) ?_
        refine mx ?_
        rw [max_nat]
        refine st (H16 4 _ _ _ rfl) (fun w17 h17 y17 => ?_)
        have H17:=H16.wr nd 4 rfl h17 y17
        have O17:=O16.wr h17 (fun g hg=>by have:=(O16.lt hg).1;omega)
        refine ih hlt ⟨a',cap',idx++[k],_,_,_,E.set k (-1),max D (idx++[k]).length,rfl,O17,H17,lO14,by simp [lN],by simp [lD],lE1,fun o ho => ?_,?_,by simp;omega,?_,?_,Below.trans B16 (h17.below u4),?_⟩
        · rcases List.mem_append.1 ho with h | h
          · have:=hI.lt o h;omega
          · simp at h;omega
        · rw [List.nodup_append]
          exact ⟨hI.nd,by simp,fun a ha b hb e=>by simp at hb;subst hb;subst e;exact kn ha⟩
        · rw [hst,stepB_open h1,stk_push,hopD,gE1,stk_length,List.length_append];rfl
        · simp;omega
        · have:=hA.size;have:=h15.bl.size;rw [h17.size];omega
      refine ld (Y14.cell rfl) ?_
      refine ldg (fun _=>Y14.cell rfl) ?_
      refine br (t:=decide (x.op=34)||decide (x.op=35)) (fun h2 => ?_) (fun h2 => ?_)
      · have h34:x.op=34∨x.op=35:=by simpa using h2
        refine br (fun h3 => ?_) (fun h3 => ?_)
        · have h3:=of_decide_eq_true h3
          obtain rfl:idx=[]:=List.eq_nil_of_length_eq_zero (by omega)
          refine st (H14 4 _ _ _ rfl) (fun w15 h15 y15 => ?_)
          have H15:=H14.wr nd 4 rfl h15 y15
          refine lda (H15 4 _ _ _ rfl).at ?_
          refine sta (H15 5 _ _ _ rfl) (fun w16 h16 y16 => ?_)
          refine rtc y16.at ⟨⟨slv b1 l.length,slv b3 l.length,slv b5 l.length,slv b7 l.length,I D,?_⟩,Below.trans (Below.trans B14 (h15.below u4)) (h16.below u2)⟩
          rw [okB_fail (k:=k+1) (by rw [hst];exact stepB_top h34)]
        have h3:=of_decide_eq_false h3
        obtain ⟨idx0,o2,rfl⟩:∃ idx0 o2,idx=idx0++[o2]:=by
          rcases List.eq_nil_or_concat idx with h | ⟨i0,o2,h⟩
          · rw [h] at h3;simp at h3
          · exact ⟨i0,o2,by rw [h,List.concat_eq_append]⟩
        have e1:(idx0++[o2]).length=idx0.length+1:=by simp
        have hw2:IntKind.i64.wrap (((idx0++[o2]).length:Int)-1)=(idx0.length:Nat):=by rw [wrap_fit (by omega) (by omega)];omega
        have ok:o2<k:=hI.lt o2 (by simp)
        have on:o2<l.length:=by omega
        have ond:o2 ∉ idx0:=fun h=>by
          have:=(List.nodup_append.1 hI.nd).2.2 o2 h o2 (by simp)
          exact this rfl
        refine ld ((H14 4 _ _ _ rfl).cell rfl) ?_
        refine ix ?_
        refine stx (H14 3 _ _ _ rfl) (fun w15 h15 y15 => ?_) (ho:=by simp;omega)
        have H15:=H14.wr nd 3 rfl h15 y15
        have O15:=O14.wr h15 (fun g hg=>by have:=(O14.lt hg).1;omega)
        have B15:Bl w w15:=Below.trans B14 (h15.below u7)
        have Y15:=h15.box Y14 (by omega)
        refine ld ((H15 4 _ _ _ rfl).cell rfl) ?_
        refine ix ?_
        refine ld (b:=b1) (o:=0+k*1) (v:=I o2) ?_ ?_
        · rw [Nat.zero_add,Nat.mul_one];exact (H15 0 _ _ _ rfl).cell (cO14 o2 (by simp))
        obtain ⟨y,b',o',_,hy,ey,_,hAty,rfl⟩:=at_some (hS.bl B15) (i:=o2) (by omega)
        simp only [Option.some.injEq,Addr.mk.injEq,and_true] at ey
        obtain ⟨rfl,rfl⟩:=ey
        have hyD:(l.map (·.op)).getD o2 0=y.op:=by rw [List.getD_eq_getElem?_getD,List.getElem?_map,hy];rfl
        obtain ⟨e,he⟩:=some_of_lt (l:=E.set k (-1)) (k:=o2) (by omega)
        have hEo:((E.set k (-1)).map I)[o2]? = some (I e):=by rw [List.getElem?_map,he];rfl
        have heD:(E.set k (-1)).getD o2 (-1)=e:=by rw [List.getD_eq_getElem?_getD,he];rfl
        have hst2:runB ((l.map (·.op)).take (k+1)) [] 0=stepB ((y.op,decide (0≤e))::stk (l.map (·.op)) (E.set k (-1)) idx0) D x.op:=by rw [hst,stk_push,hyD,heD]
        have fail:stepB ((y.op,decide (0≤e))::stk (l.map (·.op)) (E.set k (-1)) idx0) D x.op=none→okB (l.map (·.op))=false:=fun h=>okB_fail (k:=k+1) (by rw [hst2];exact h)
        refine ix ?_
        refine ld (hAty 0 _ rfl) ?_
        refine ixg (fun _=>on) ?_
        refine ldg (fun _=>hAty 0 _ rfl) ?_
        refine ld (Y15.cell rfl) ?_
        refine br (fun h4 => ?_) (fun h4 => ?_)
        · have h4:=of_decide_eq_true h4
          refine ldg (fun _=>(H15 4 _ _ _ rfl).cell rfl) ?_
          refine ixg (fun _=>on) ?_
          refine ldg (b:=b3) (o:=0+o2*1) (v:=I e) (fun _ => ?_) ?_
          · rw [Nat.zero_add,Nat.mul_one];exact (H15 1 _ _ _ rfl).cell hEo
          refine br (t:=(!(decide (y.op=29)||decide (y.op=33)))||decide (0≤e)) (fun h5 => ?_) (fun h5 => ?_)
          · refine st (H15 4 _ _ _ rfl) (fun w16 h16 y16 => ?_)
            have H16:=H15.wr nd 4 rfl h16 y16
            refine lda (H16 4 _ _ _ rfl).at ?_
            refine sta (H16 5 _ _ _ rfl) (fun w17 h17 y17 => ?_)
            refine rtc y17.at ⟨⟨slv b1 l.length,slv b3 l.length,slv b5 l.length,slv b7 l.length,I D,?_⟩,Below.trans (Below.trans B15 (h16.below u4)) (h17.below u2)⟩
            rw [fail]
            rw [h4,stepB_else,if_neg]
            rintro ⟨h6,h7⟩
            simp only [Bool.or_eq_true,Bool.not_eq_true',Bool.or_eq_false_iff,decide_eq_true_eq,decide_eq_false_iff_not] at h5 h6
            omega
          · simp only [Bool.or_eq_false_iff,Bool.not_eq_false',Bool.or_eq_true,decide_eq_true_eq,decide_eq_false_iff_not] at h5
            refine ld ((H15 4 _ _ _ rfl).cell rfl) ?_
            refine ix ?_
            refine stx (H15 1 _ _ _ rfl) (fun w16 h16 y16 => ?_) (ho:=by simp;omega)
            have H16:=H15.wr nd 1 rfl h16 y16
            have O16:=O15.wr h16 (fun g hg=>by have:=(O15.lt hg).1;omega)
            have eE2:((E.set k (-1)).map I).set (0+o2*1) (I k)=((E.set k (-1)).set o2 k).map I:=by rw [Nat.zero_add,Nat.mul_one,List.map_set (l:=E.set k (-1))]
            rw [eE2] at H16
            refine ih hlt ⟨_,_,idx0++[o2],_,_,_,(E.set k (-1)).set o2 k,D,rfl,O16,H16,lO14,by simp [lN],by simp [lD],by simp [lE],fun o ho => ?_,hI.nd,by omega,?_,by omega,Below.trans B15 (h16.below u3),?_⟩
            · have:=hI.lt o ho;omega
            · rw [hst2,h4,stepB_else,if_pos ⟨decide_eq_false h5.2,h5.1⟩,stk_push,stk_set ond,hyD,set_getD (by rw [List.length_set];omega),decide_eq_true (by omega)]
            · rw [h16.size,h15.size];exact s14
        · have h4:=of_decide_eq_false h4
          have h35:x.op=35:=by omega
          refine ix ?_
          refine ld (hAty 0 _ rfl) ?_
          refine ldg (fun _=>(H15 4 _ _ _ rfl).cell rfl) ?_
          refine ixg (fun _=>on) ?_
          refine ldg (b:=b3) (o:=0+o2*1) (v:=I e) (fun _ => ?_) ?_
          · rw [Nat.zero_add,Nat.mul_one];exact (H15 1 _ _ _ rfl).cell hEo
          refine br (t:=decide (y.op=33)&&decide (e<0)) (fun h5 => ?_) (fun h5 => ?_)
          · simp only [Bool.and_eq_true,decide_eq_true_eq] at h5
            refine st (H15 4 _ _ _ rfl) (fun w16 h16 y16 => ?_)
            have H16:=H15.wr nd 4 rfl h16 y16
            refine lda (H16 4 _ _ _ rfl).at ?_
            refine sta (H16 5 _ _ _ rfl) (fun w17 h17 y17 => ?_)
            refine rtc y17.at ⟨⟨slv b1 l.length,slv b3 l.length,slv b5 l.length,slv b7 l.length,I D,?_⟩,Below.trans (Below.trans B15 (h16.below u4)) (h17.below u2)⟩
            rw [fail]
            rw [h35,stepB_end,if_pos ⟨h5.1,decide_eq_false (by omega)⟩]
          · simp only [Bool.and_eq_false_iff,decide_eq_false_iff_not] at h5
            refine ld ((H15 4 _ _ _ rfl).cell rfl) ?_
            refine ix ?_
            refine stx (H15 2 _ _ _ rfl) (fun w16 h16 y16 => ?_) (ho:=by simp;omega)
            have H16:=H15.wr nd 2 rfl h16 y16
            have O16:=O15.wr h16 (fun g hg=>by have:=(O15.lt hg).1;omega)
            have hcap:(idx0++[o2]).length≤cap:=by
              rcases O16.shape with ⟨_,h00,_⟩ | ⟨_,_,_,_,_,hc,_⟩
              · omega
              · exact hc
            refine sl 0 idx0.length ?_ (h2:=by exact ⟨.i64,vi hw2⟩)
            refine ih hlt ⟨_,cap,idx0,_,_,_,E.set k (-1),D,lst1 ?_,owp_pop O16,H16,lO14,by simp [lN],by simp [lD],lE1,fun o ho => ?_,(List.nodup_append.1 hI.nd).1,by omega,?_,by omega,Below.trans B15 (h16.below u5),?_⟩
            · rw [if_neg (by omega),cut_addr O16.shape];rfl
            · have:=hI.lt o (List.mem_append_left _ ho);omega
            · rw [hst2,h35,stepB_end,if_neg (fun ⟨h6,h7⟩=>by have:=of_decide_eq_false h7;omega)]
            · rw [h16.size,h15.size];exact s14
      · simp only [Bool.or_eq_false_iff,decide_eq_false_iff_not] at h2
        refine ih hlt ⟨_,_,idx,_,_,_,E.set k (-1),D,rfl,O14,H14,lO14,by simp [lN],by simp [lD],lE1,fun o ho => ?_,hI.nd,by omega,?_,by omega,B14,s14⟩
        · have:=hI.lt o ho;omega
        · rw [hst,stepB_plain h1 h2.1 h2.2]
    · have h0:=of_decide_eq_false h0
      have H14:=H12
      have O14:=O12
      have B14:=hB12
      have s14:=s12
      have Y14:=y12
      have lO14:(cO.set k (I (-1))).length=l.length:=by simp [lO]
      have cO14:∀ o,idx[idx.length-1]? = some o→(cO.set k (I (-1)))[k]? = some (I o):=fun o' ho'=>by have:=(List.getElem?_eq_some_iff.1 ho').1;omega
      refine ld (Y14.cell rfl) ?_
      refine cl (v_Opens x.op _) ?_
      rintro _ _ ⟨rfl,rfl⟩
      refine br (fun h1 => ?_) (fun h1 => ?_)
      ·
        refine bs fun b15 w15 h15 => ?_
        have H15:=H14.bl h15.bl
        have O15:=O14.bl h15.bl
        refine apl (l1:=[k]) O15 (.inr ⟨b15,0,rfl,h15.box.at⟩) (by have:=h15.bl.size;omega) (fun a' cap' w16 O16 hA _ => ?_)
        have H16:Has w16 _:=H15.ap hA (fun i b t cs hi e=>by
          have:=(O15.lt e).1
          have:b∈[b1,b3,b5,b7,b4,b2]:=(List.mem_map (f:=fun e:Nat×TypeId×List Value=>e.1)).2 ⟨(b,t,cs),List.mem_of_getElem? hi,rfl⟩
          simp only [List.mem_cons,List.mem_nil_iff,or_false] at this
          omega)
        have B16:Bl w w16:=Below.trans (B14.trans h15.bl) (hA.below (by have:=(B14.trans h15.bl).size;omega) (fun g hg=>by have:=(O15.lt hg).1;omega))
        refine ld ((H16 4 _ _ _ rfl).cell rfl) ?_
        refine mx ?_
        rw [max_nat]
        refine st (H16 4 _ _ _ rfl) (fun w17 h17 y17 => ?_)
        have H17:=H16.wr nd 4 rfl h17 y17
        have O17:=O16.wr h17 (fun g hg=>by have:=(O16.lt hg).1;omega)
        refine ih hlt ⟨a',cap',idx++[k],_,_,_,E.set k (-1),max D (idx++[k]).length,rfl,O17,H17,lO14,by simp [lN],by simp [lD],lE1,fun o ho => ?_,?_,by simp;omega,?_,?_,Below.trans B16 (h17.below u4),?_⟩
        · rcases List.mem_append.1 ho with h | h
          · have:=hI.lt o h;omega
          · simp at h;omega
        · rw [List.nodup_append]
          exact ⟨hI.nd,by simp,fun a ha b hb e=>by simp at hb;subst hb;subst e;exact kn ha⟩
        · rw [hst,stepB_open h1,stk_push,hopD,gE1,stk_length,List.length_append];rfl
        · simp;omega
        · have:=hA.size;have:=h15.bl.size;rw [h17.size];omega
      refine ld (Y14.cell rfl) ?_
      refine ldg (fun _=>Y14.cell rfl) ?_
      refine br (t:=decide (x.op=34)||decide (x.op=35)) (fun h2 => ?_) (fun h2 => ?_)
      · have h34:x.op=34∨x.op=35:=by simpa using h2
        refine br (fun h3 => ?_) (fun h3 => ?_)
        · have h3:=of_decide_eq_true h3
          obtain rfl:idx=[]:=List.eq_nil_of_length_eq_zero (by omega)
          refine st (H14 4 _ _ _ rfl) (fun w15 h15 y15 => ?_)
          have H15:=H14.wr nd 4 rfl h15 y15
          refine lda (H15 4 _ _ _ rfl).at ?_
          refine sta (H15 5 _ _ _ rfl) (fun w16 h16 y16 => ?_)
          refine rtc y16.at ⟨⟨slv b1 l.length,slv b3 l.length,slv b5 l.length,slv b7 l.length,I D,?_⟩,Below.trans (Below.trans B14 (h15.below u4)) (h16.below u2)⟩
          rw [okB_fail (k:=k+1) (by rw [hst];exact stepB_top h34)]
        have h3:=of_decide_eq_false h3
        obtain ⟨idx0,o2,rfl⟩:∃ idx0 o2,idx=idx0++[o2]:=by
          rcases List.eq_nil_or_concat idx with h | ⟨i0,o2,h⟩
          · rw [h] at h3;simp at h3
          · exact ⟨i0,o2,by rw [h,List.concat_eq_append]⟩
        have e1:(idx0++[o2]).length=idx0.length+1:=by simp
        have hw2:IntKind.i64.wrap (((idx0++[o2]).length:Int)-1)=(idx0.length:Nat):=by rw [wrap_fit (by omega) (by omega)];omega
        have ok:o2<k:=hI.lt o2 (by simp)
        have on:o2<l.length:=by omega
        have ond:o2 ∉ idx0:=fun h=>by
          have:=(List.nodup_append.1 hI.nd).2.2 o2 h o2 (by simp)
          exact this rfl
        refine ld ((H14 4 _ _ _ rfl).cell rfl) ?_
        refine ix ?_
        refine stx (H14 3 _ _ _ rfl) (fun w15 h15 y15 => ?_) (ho:=by simp;omega)
        have H15:=H14.wr nd 3 rfl h15 y15
        have O15:=O14.wr h15 (fun g hg=>by have:=(O14.lt hg).1;omega)
        have B15:Bl w w15:=Below.trans B14 (h15.below u7)
        have Y15:=h15.box Y14 (by omega)
        refine ld ((H15 4 _ _ _ rfl).cell rfl) ?_
        refine ix ?_
        refine ld (b:=b1) (o:=0+k*1) (v:=I o2) ?_ ?_
        · rw [Nat.zero_add,Nat.mul_one];exact (H15 0 _ _ _ rfl).cell (cO14 o2 (by simp))
        obtain ⟨y,b',o',_,hy,ey,_,hAty,rfl⟩:=at_some (hS.bl B15) (i:=o2) (by omega)
        simp only [Option.some.injEq,Addr.mk.injEq,and_true] at ey
        obtain ⟨rfl,rfl⟩:=ey
        have hyD:(l.map (·.op)).getD o2 0=y.op:=by rw [List.getD_eq_getElem?_getD,List.getElem?_map,hy];rfl
        obtain ⟨e,he⟩:=some_of_lt (l:=E.set k (-1)) (k:=o2) (by omega)
        have hEo:((E.set k (-1)).map I)[o2]? = some (I e):=by rw [List.getElem?_map,he];rfl
        have heD:(E.set k (-1)).getD o2 (-1)=e:=by rw [List.getD_eq_getElem?_getD,he];rfl
        have hst2:runB ((l.map (·.op)).take (k+1)) [] 0=stepB ((y.op,decide (0≤e))::stk (l.map (·.op)) (E.set k (-1)) idx0) D x.op:=by rw [hst,stk_push,hyD,heD]
        have fail:stepB ((y.op,decide (0≤e))::stk (l.map (·.op)) (E.set k (-1)) idx0) D x.op=none→okB (l.map (·.op))=false:=fun h=>okB_fail (k:=k+1) (by rw [hst2];exact h)
        refine ix ?_
        refine ld (hAty 0 _ rfl) ?_
        refine ixg (fun _=>on) ?_
        refine ldg (fun _=>hAty 0 _ rfl) ?_
        refine ld (Y15.cell rfl) ?_
        refine br (fun h4 => ?_) (fun h4 => ?_)
        · have h4:=of_decide_eq_true h4
          refine ldg (fun _=>(H15 4 _ _ _ rfl).cell rfl) ?_
          refine ixg (fun _=>on) ?_
          refine ldg (b:=b3) (o:=0+o2*1) (v:=I e) (fun _ => ?_) ?_
          · rw [Nat.zero_add,Nat.mul_one];exact (H15 1 _ _ _ rfl).cell hEo
          refine br (t:=(!(decide (y.op=29)||decide (y.op=33)))||decide (0≤e)) (fun h5 => ?_) (fun h5 => ?_)
          · refine st (H15 4 _ _ _ rfl) (fun w16 h16 y16 => ?_)
            have H16:=H15.wr nd 4 rfl h16 y16
            refine lda (H16 4 _ _ _ rfl).at ?_
            refine sta (H16 5 _ _ _ rfl) (fun w17 h17 y17 => ?_)
            refine rtc y17.at ⟨⟨slv b1 l.length,slv b3 l.length,slv b5 l.length,slv b7 l.length,I D,?_⟩,Below.trans (Below.trans B15 (h16.below u4)) (h17.below u2)⟩
            rw [fail]
            rw [h4,stepB_else,if_neg]
            rintro ⟨h6,h7⟩
            simp only [Bool.or_eq_true,Bool.not_eq_true',Bool.or_eq_false_iff,decide_eq_true_eq,decide_eq_false_iff_not] at h5 h6
            omega
          · simp only [Bool.or_eq_false_iff,Bool.not_eq_false',Bool.or_eq_true,decide_eq_true_eq,decide_eq_false_iff_not] at h5
            refine ld ((H15 4 _ _ _ rfl).cell rfl) ?_
            refine ix ?_
            refine stx (H15 1 _ _ _ rfl) (fun w16 h16 y16 => ?_) (ho:=by simp;omega)
            have H16:=H15.wr nd 1 rfl h16 y16
            have O16:=O15.wr h16 (fun g hg=>by have:=(O15.lt hg).1;omega)
            have eE2:((E.set k (-1)).map I).set (0+o2*1) (I k)=((E.set k (-1)).set o2 k).map I:=by rw [Nat.zero_add,Nat.mul_one,List.map_set (l:=E.set k (-1))]
            rw [eE2] at H16
            refine ih hlt ⟨_,_,idx0++[o2],_,_,_,(E.set k (-1)).set o2 k,D,rfl,O16,H16,lO14,by simp [lN],by simp [lD],by simp [lE],fun o ho => ?_,hI.nd,by omega,?_,by omega,Below.trans B15 (h16.below u3),?_⟩
            · have:=hI.lt o ho;omega
            · rw [hst2,h4,stepB_else,if_pos ⟨decide_eq_false h5.2,h5.1⟩,stk_push,stk_set ond,hyD,set_getD (by rw [List.length_set];omega),decide_eq_true (by omega)]
            · rw [h16.size,h15.size];exact s14
        · have h4:=of_decide_eq_false h4
          have h35:x.op=35:=by omega
          refine ix ?_
          refine ld (hAty 0 _ rfl) ?_
          refine ldg (fun _=>(H15 4 _ _ _ rfl).cell rfl) ?_
          refine ixg (fun _=>on) ?_
          refine ldg (b:=b3) (o:=0+o2*1) (v:=I e) (fun _ => ?_) ?_
          · rw [Nat.zero_add,Nat.mul_one];exact (H15 1 _ _ _ rfl).cell hEo
          refine br (t:=decide (y.op=33)&&decide (e<0)) (fun h5 => ?_) (fun h5 => ?_)
          · simp only [Bool.and_eq_true,decide_eq_true_eq] at h5
            refine st (H15 4 _ _ _ rfl) (fun w16 h16 y16 => ?_)
            have H16:=H15.wr nd 4 rfl h16 y16
            refine lda (H16 4 _ _ _ rfl).at ?_
            refine sta (H16 5 _ _ _ rfl) (fun w17 h17 y17 => ?_)
            refine rtc y17.at ⟨⟨slv b1 l.length,slv b3 l.length,slv b5 l.length,slv b7 l.length,I D,?_⟩,Below.trans (Below.trans B15 (h16.below u4)) (h17.below u2)⟩
            rw [fail]
            rw [h35,stepB_end,if_pos ⟨h5.1,decide_eq_false (by omega)⟩]
          · simp only [Bool.and_eq_false_iff,decide_eq_false_iff_not] at h5
            refine ld ((H15 4 _ _ _ rfl).cell rfl) ?_
            refine ix ?_
            refine stx (H15 2 _ _ _ rfl) (fun w16 h16 y16 => ?_) (ho:=by simp;omega)
            have H16:=H15.wr nd 2 rfl h16 y16
            have O16:=O15.wr h16 (fun g hg=>by have:=(O15.lt hg).1;omega)
            have hcap:(idx0++[o2]).length≤cap:=by
              rcases O16.shape with ⟨_,h00,_⟩ | ⟨_,_,_,_,_,hc,_⟩
              · omega
              · exact hc
            refine sl 0 idx0.length ?_ (h2:=by exact ⟨.i64,vi hw2⟩)
            refine ih hlt ⟨_,cap,idx0,_,_,_,E.set k (-1),D,lst1 ?_,owp_pop O16,H16,lO14,by simp [lN],by simp [lD],lE1,fun o ho => ?_,(List.nodup_append.1 hI.nd).1,by omega,?_,by omega,Below.trans B15 (h16.below u5),?_⟩
            · rw [if_neg (by omega),cut_addr O16.shape];rfl
            · have:=hI.lt o (List.mem_append_left _ ho);omega
            · rw [hst2,h35,stepB_end,if_neg (fun ⟨h6,h7⟩=>by have:=of_decide_eq_false h7;omega)]
            · rw [h16.size,h15.size];exact s14
      · simp only [Bool.or_eq_false_iff,decide_eq_false_iff_not] at h2
        refine ih hlt ⟨_,_,idx,_,_,_,E.set k (-1),D,rfl,O14,H14,lO14,by simp [lN],by simp [lD],lE1,fun o ho => ?_,hI.nd,by omega,?_,by omega,B14,s14⟩
        · have:=hI.lt o ho;omega
        · rw [hst,stepB_plain h1 h2.1 h2.2]
  refine brF ?_
  obtain rfl:k=l.length:=by omega
  have H:=hI.has
  have hrun:=hI.run
  rw [List.take_of_length_le (by simp)] at hrun
  refine ldg (fun _=>(H 4 _ _ _ rfl).cell rfl) ?_
  refine st (H 4 _ _ _ rfl) (fun w6 h6 y6 => ?_)
  have H6:=H.wr nd 4 rfl h6 y6
  refine lda (H6 4 _ _ _ rfl).at ?_
  refine sta (H6 5 _ _ _ rfl) (fun w7 h7 y7 => ?_)
  refine rtc y7.at ⟨⟨slv b1 l.length,slv b3 l.length,slv b5 l.length,slv b7 l.length,I D,?_⟩,Below.trans (Below.trans hI.bl (h6.below u4)) (h7.below u2)⟩
  have:okB (l.map (·.op))=(decide ((idx.length:Int)=0)&&decide ((D:Int)≤6)):=by
    unfold okB
    rw [hrun]
    cases idx with
    | nil =>
      show decide (D≤6)=(true&&decide ((D:Int)≤6))
      rw [Bool.true_and]
      by_cases h:D≤6
      · rw [decide_eq_true h,decide_eq_true (by omega)]
      · rw [decide_eq_false h,decide_eq_false (by omega)]
    | cons i0 idx =>
      have:((i0::idx).length:Int)≠0:=by simp;omega
      rw [decide_eq_false this]
      have h2:stk (l.map (·.op)) E (i0::idx)≠[]:=by simp [stk]
      cases hs:stk (l.map (·.op)) E (i0::idx) with
      | nil=>exact absurd hs h2
      | cons=>rfl
  rw [this]
theorem u_codeCheck (l:List Ins) (a:Option Addr) (cap:Nat) (p:Bool) (S:Nat→Prop) (w:World) (hS:Sl eIns S w a l):Ret Tryz.prog 149 #[.slice a l.length cap,.bool p] w fun v w'=>v=I (codeE l p)∧Bl w w':=by
  have hbig:=hS.big
  refine entr (vs:=[.slice a l.length cap,.bool p]) [0,1,3,4,5,9,13] tabok Tryz.func149 (by kernel_rfl) ?_
  refine bx (cs:=[.bool p]) fun b w1 h1 => ?_
  refine br (fun h => ?_) (fun h => ?_)
  · have h:=of_decide_eq_true h
    exact rt1 ⟨vi (by unfold codeE;rw [if_pos (by omega)]),h1.bl⟩
  have h120:=of_decide_eq_false h
  have hS1:=hS.bl h1.bl
  refine cl (ContainsFunc_ins l _ cap 211 [.pointer (some ⟨b,0,none⟩)] (fun i => !validI i p) S w1 hS1 (fun x cs hx w2 hB2 hr => ?_)) ?_
  · obtain rfl:cs=[I x.op,I x.a,I x.b]:=hr
    refine entr (vs:=[.agg #[I x.op,I x.a,I x.b],.pointer (some ⟨b,0,none⟩)]) [0,1,2,3] tabok Tryz.func211 (by kernel_rfl) ?_
    refine bx (cs:=[I x.op,I x.a,I x.b]) fun b3 w3 h3 => ?_
    refine lda h3.box.at ?_
    refine ld ((Bl.box h3.bl (Bl.box hB2 h1.box)).cell rfl) ?_
    refine cl (w_Valid x p _) ?_
    rintro _ w4 ⟨rfl,hB4⟩
    exact rt1 ⟨rfl,h3.bl.trans hB4⟩
  rintro _ w2 ⟨rfl,hB2⟩
  refine br (t:=l.any fun i => !validI i p) (fun h => ?_) (fun h => ?_)
  · refine rt1 ⟨vi ?_,h1.bl.trans hB2⟩
    unfold codeE
    obtain ⟨x,hx,hv⟩:=List.any_eq_true.1 h
    rw [if_neg (by omega),if_neg (fun ha=>by have:=List.all_eq_true.1 ha x hx;rw [this] at hv;cases hv)]
  have hall:(l.all fun i=>validI i p)=true:=List.all_eq_true.2 fun x hx=>by have:=List.any_eq_false.1 h x hx;simpa using this
  have hc:codeE l p=if okB (l.map (·.op))=true then 0 else 7:=by unfold codeE;rw [if_neg (by omega),if_pos hall]
  refine cl (u_shapeOf l _ cap S _ (hS1.bl hB2)) ?_
  rintro _ w3 ⟨⟨c0,c1,c2,c3,c4,rfl⟩,hB3⟩
  refine fd 5 ?_
  refine br (t := !okB (l.map (·.op))) (fun h => ?_) (fun h => ?_)
  · refine rt1 ⟨vi ?_,(h1.bl.trans hB2).trans hB3⟩
    rw [hc,if_neg (by simpa using h)]
  · refine rt1 ⟨vi ?_,(h1.bl.trans hB2).trans hB3⟩
    rw [hc,if_pos (by simpa using h)]
end Go.Proofs.YtkmdfjpafkcleaaGreatDoor
namespace Go.Proofs.YtkmdfjpafkcleaaGreatDoor
open Eng Go.RowKit Go.Sort
abbrev toL (s:ByteArray):List UInt8:=s.data.toList
abbrev sEnc:List UInt8→Value:=Go.Proofs.encStr
theorem sEnc_toL (s:ByteArray):sEnc (toL s) = .string s:=by cases s;simp [sEnc,Go.Proofs.encStr]
theorem consec_nodup:∀ {l:List (List UInt8)},l.Pairwise (· ≤ ·)→((∀ (j:Nat) x y,l[j]? = some x→l[j+1]? = some y→x≠y)↔l.Nodup)
  | [],_=>by simp
  | [x],_=>by simp
  | x::y::r,h=>by
    rw [List.pairwise_cons] at h
    have ih:=consec_nodup h.2
    constructor
    · intro hc
      have hxy:x≠y:=hc 0 x y rfl rfl
      have hn:=ih.1 fun j a b h1 h2=>hc (j+1) a b (by simpa using h1) (by simpa using h2)
      rw [List.nodup_cons]
      refine ⟨fun hm => ?_,hn⟩
      have h2:=List.pairwise_cons.1 h.2
      have hxley:=h.1 y (List.mem_cons_self ..)
      cases hm with
      | head=>exact hxy rfl
      | tail _ hm=>exact hxy (List.le_antisymm hxley (h2.1 x hm))
    · intro hn j a b h1 h2 e
      subst e
      have hp:=List.pairwise_iff_getElem.1 hn
      obtain ⟨l1,e1⟩:=List.getElem?_eq_some_iff.1 h1
      obtain ⟨l2,e2⟩:=List.getElem?_eq_some_iff.1 h2
      exact hp j (j+1) l1 l2 (by omega) (e1.trans e2.symm)
theorem compact_len {zs:List (List UInt8)} (hs:zs.Pairwise (· ≤ ·)):((Lib.compact zs).length<zs.length↔¬zs.Nodup)∧(Lib.compact zs).length≤zs.length:=by
  have hlen:(Lib.compact zs).length=((List.range zs.length).filter (Lib.keeps zs.toArray)).length:=by unfold Lib.compact Lib.compactUpTo;rw [List.length_map]
  have hle:(Lib.compact zs).length≤zs.length:=by rw [hlen];exact Nat.le_trans (List.length_filter_le _ _) (by simp)
  refine ⟨?_,hle⟩
  have hall:(Lib.compact zs).length=zs.length↔∀ j,j<zs.length→Lib.keeps zs.toArray j=true:=by
    rw [hlen]
    constructor
    · intro h j hj
      have h2:((List.range zs.length).filter (Lib.keeps zs.toArray)).length=(List.range zs.length).length:=by rw [h,List.length_range]
      exact (List.length_filter_eq_length_iff.1 h2) j (List.mem_range.2 hj)
    · intro h
      rw [List.filter_eq_self.2 fun j hj=>h j (List.mem_range.1 hj),List.length_range]
  have hk:(∀ j,j<zs.length→Lib.keeps zs.toArray j=true)↔zs.Nodup:=by
    rw [←consec_nodup hs]
    constructor
    · intro h j x y hx hy e
      obtain ⟨l2,e2⟩:=List.getElem?_eq_some_iff.1 hy
      obtain ⟨l1,e1⟩:=List.getElem?_eq_some_iff.1 hx
      have:=h (j+1) l2
      unfold Lib.keeps at this
      simp [l1,l2,e1,e2,e] at this
    · intro h j hj
      unfold Lib.keeps
      rw [decide_eq_true_eq]
      by_cases h0:j=0
      · exact .inl h0
      · right
        have hx:=List.getElem?_eq_getElem (l:=zs) (i:=j-1) (by omega)
        have hy:=List.getElem?_eq_getElem (l:=zs) (i:=j) hj
        have:=h (j-1) _ _ hx (by rw [show j-1+1=j by omega];exact hy)
        simp [hj,show j-1<zs.length by omega]
        exact fun e=>this e.symm
  rw [←hk,←hall];omega
theorem dup_nodup (l:List ByteArray):dup l=true↔¬(l.map toL).Nodup:=by
  have:l.Nodup↔(l.map toL).Nodup:=by
    rw [List.nodup_iff_pairwise_ne,List.nodup_iff_pairwise_ne,List.pairwise_map]
    exact ⟨fun h=>h.imp fun hne e=>hne (ba_ext e),fun h=>h.imp fun hne e=>hne (by rw [e])⟩
  rw [←this]
  induction l with
  | nil=>simp [dup]
  | cons x r ih =>
    simp only [dup,Bool.or_eq_true,hasB_iff,List.nodup_cons]
    have ih':dup r=true↔¬r.Nodup:=by
      apply ih
      rw [List.nodup_iff_pairwise_ne,List.nodup_iff_pairwise_ne,List.pairwise_map]
      exact ⟨fun h=>h.imp fun hne e=>hne (ba_ext e),fun h=>h.imp fun hne e=>hne (by rw [e])⟩
    rw [ih']
    by_cases h1:x∈r <;> simp [h1]
theorem sorted_le (l:List (List UInt8)):(l.mergeSort fun x y=>decide (x≤y)).Pairwise (· ≤ ·):=by
  have:=List.pairwise_mergeSort (le:=fun x y:List UInt8=>decide (x≤y)) (fun a b c h1 h2=>by simp only [decide_eq_true_eq] at *;exact List.le_trans h1 h2) (fun a b=>by simp only [Bool.or_eq_true,decide_eq_true_eq];exact List.le_total a b) l
  exact this.imp fun h=>of_decide_eq_true h
theorem grown_bl {w w':World} {g:Nat} (h:w.grownBy w' (some g)) {B:Nat} (hB:B≤g) (hw:B≤w.heap.size) {w0:World} (h0:Below B w0 w):Below B w0 w' :=
  h0.grown h hw (fun k e=>by cases e;exact hB)
theorem u_twice (l:List ByteArray) (a:Option Addr) (cap:Nat) (S:Nat→Prop) (w:World) (hS:Sl eStr S w a l):Ret Tryz.prog 210 #[.slice a l.length cap] w fun v w'=>v = .bool (dup l)∧Bl w w':=by
  have hbig:=hS.big
  refine entr (vs:=[.slice a l.length cap]) [0,2] tabok Tryz.func210 (by kernel_rfl) ?_
  refine cl (R:=fun v w'=>∃ b,v = .func (.func 214) #[] #[.pointer (some ⟨b,0,none⟩)]∧New w b 33 [.slice a l.length cap] w') ?_ ?_
  · refine entr (vs:=[.slice a l.length cap]) [0,1,2] tabok Tryz.func151 (by kernel_rfl) ?_
    refine bx (cs:=[.slice a l.length cap]) fun b w1 h1 => ?_
    exact rt1 ⟨b,rfl,h1⟩
  rintro _ w1 ⟨b,rfl,h1⟩
  have hS1:=hS.bl h1.bl
  have hlt1:∀ (j:Nat) x,(l.map toL)[j]? = some x→∃ b off,a=some ⟨b,off,none⟩∧b<w1.heap.size∧w1.cell? ⟨b,off+j,none⟩=some (sEnc x):=fun j x hx=>by
    rw [List.getElem?_map] at hx
    cases hl:l[j]? with
    | none=>rw [hl] at hx;cases hx
    | some s =>
      rw [hl] at hx
      obtain rfl:=Option.some.inj hx
      obtain ⟨b',o',cs,e,_,hAt,rfl⟩:=hS1.el j s hl
      have hc:=hAt 0 _ rfl
      have hc':w1.cell? ⟨b',o'+j,none⟩=some (.string s):=by simpa [eStr,plainEl] using hc
      exact ⟨b',o',e,cell_lt hc',by rw [hc',sEnc_toL]⟩
  have hlen:(l.map toL).length=l.length:=List.length_map ..
  refine cl (R:=fun v w'=>∃ a' cap',v = .slice a' l.length cap'∧Ow w' w1.heap.size 9 1 a' l.length cap' (((l.map toL).mergeSort fun x y=>decide (x≤y)).map sEnc)∧Bl w1 w') ⟨by kernel_rfl,(c_sorted (l.map toL) a cap b w1 (by rw [hlen];exact hbig) (by rw [hlen];exact h1.box.cell rfl) h1.box.lt hlt1).mono ?_⟩ ?_
  · rintro e w2 ⟨v,rfl,hrow,hb⟩
    rw [hlen] at hrow
    have hr:=hrow
    rcases hrow.2 with ⟨rfl,h0⟩ | ⟨g,cap',cur,rfl,_⟩
    · exact ⟨none,0,by rw [h0],⟨by rw [h0] at hr ⊢;exact hr⟩,hb⟩
    · exact ⟨_,cap',rfl,⟨hr⟩,hb⟩
  rintro _ w2 ⟨a',cap',rfl,hO,hB2⟩
  have hsl:((l.map toL).mergeSort fun x y=>decide (x≤y)).length=l.length:=by rw [List.length_mergeSort,hlen]
  have hres:dup l=decide ((Lib.compact ((l.map toL).mergeSort fun x y=>decide (x≤y))).length<l.length):=by
    rw [Bool.eq_iff_iff,dup_nodup,decide_eq_true_eq,←hsl,(compact_len (sorted_le _)).1,List.Perm.nodup_iff (List.mergeSort_perm _ _)]
  refine cl (R:=fun v w'=>∃ cap2,v = .slice a' (Lib.compact ((l.map toL).mergeSort fun x y=>decide (x≤y))).length cap2∧Bl w w') ?_ ?_
  · rcases hO.shape with ⟨rfl,h0,rfl,_⟩ | ⟨g,cur,rfl,hg,hgb,hn,hcs,htk⟩
    · refine ⟨by kernel_rfl,?_⟩
      have he:((l.map toL).mergeSort fun x y=>decide (x≤y))=[]:=List.eq_nil_of_length_eq_zero (by rw [hsl,h0])
      rw [h0,he]
      refine (Tryz.slices_Compact_string_empty none 0 w2).mono ?_
      rintro e w3 ⟨rfl,rfl⟩
      exact ⟨0,rfl,h1.bl.trans hB2⟩
    · refine ⟨by kernel_rfl,?_⟩
      have hH:Holds sEnc w2 g 0 ((l.map toL).mergeSort fun x y=>decide (x≤y)).toArray:=holds_of_block hgb (by rw [hsl];simpa using htk)
      have:=Tryz.slices_Compact_string g 0 cap' ((l.map toL).mergeSort fun x y=>decide (x≤y)) w2 hH (by rw [hsl];omega) (by rw [hsl];exact hn)
      rw [hsl] at this
      refine this.mono ?_
      rintro e w3 ⟨rfl,q,hw3⟩
      refine ⟨cap',rfl,h1.bl.trans ?_⟩
      rw [←Go.Sort.grow_empty (putRow _ _ _ _ _)] at hw3
      rw [hw3]
      exact grown_bl (grownBy_sorted _) hg hB2.size hB2
  rintro _ w3 ⟨cap2,rfl,hB3⟩
  refine rt1 ⟨vb ?_,hB3⟩
  rw [hres,Bool.eq_iff_iff,decide_eq_true_eq,decide_eq_true_eq];omega
end Go.Proofs.YtkmdfjpafkcleaaGreatDoor
namespace Go.Proofs.YtkmdfjpafkcleaaGreatDoor
open Eng Go.RowKit
structure ClsI (us:List Unt) (D:Dcl) (p:ByteArray) (n k:Nat) (u:Unt) (c:Cls):Prop where
  g:getM D.classes p=some (n,k)
  hu:us[n]? = some u
  hc:u.classes[k]? = some c
theorem ClsI.of {us:List Unt} {D:Dcl} {p:ByteArray} {n k:Nat} {u:Unt} {c:Cls} (h:ClsI us D p n k u c):clsOf us D p=some (u,c):=by
  unfold clsOf clsAt
  rw [h.g]
  simp [h.hu,h.hc]
theorem ClsI.sup {us:List Unt} {D:Dcl} {p:ByteArray} {n k:Nat} {u:Unt} {c:Cls} (h:ClsI us D p n k u c):supL us D p=if 0≤c.super then nm u c.super else nost:=by
  unfold supL;rw [h.of]
theorem ClsI.own {us:List Unt} {D:Dcl} {p:ByteArray} {n k:Nat} {u:Unt} {c:Cls} (h:ClsI us D p n k u c):ownL us D p=c.fields.map fun f=>nm u f.name:=by
  unfold ownL;rw [h.of]
def Deep (us:List Unt) (D:Dcl):Nat→ByteArray→Prop
  | 0,_=>False
  | m+1,p=>(∃ n k u c,ClsI us D p n k u c)∧(supL us D p=nost∨Deep us D m (supL us D p))
variable {w:World} {b:Nat} {us:List Unt} {D:Dcl}
theorem k_super (hL:Lnk w b us D) (hI:∀ u∈us,Ixs u) {p:ByteArray} {n k:Nat} {u:Unt} {c:Cls} (hc:ClsI us D p n k u c) :
    Ret Tryz.prog 96 #[.pointer (some ⟨b,0,none⟩),.string p] w fun v w'=>v = .string (supL us D p)∧Bl w w':=by
  refine entr (vs:=[.pointer (some ⟨b,0,none⟩),.string p]) [0,1,4,5,6,28] tabok Tryz.func96 (by kernel_rfl) ?_
  obtain ⟨m,h1,hm⟩:=hL.cl
  refine ld h1 ?_
  refine lk tD hm ?_
  rw [hc.g]
  refine al fun b1 w1 k1 => ?_
  refine sta (vs:=[I n,I k]) (cs':=[I n,I k]) k1.box fun w2 k2 x2 => ?_
  have B2:=k1.wr k2
  refine ds fun w3 k3 => ?_
  have B3:=B2.trans k3.bl
  have x3:=k3.box x2
  have L3:=hL.bl B3
  obtain ⟨a,cc,h0,hS⟩:=L3.us
  obtain ⟨b4,o4,cs4,rfl,_,hAt,ua,rfl,hU⟩:=hS.el n u hc.hu
  obtain ⟨b5,o5,cs5,e5,_,hAt5,af,cf,rfl,hF⟩:=hU.cls.el k c hc.hc
  have hn:n<us.length:=(List.getElem?_eq_some_iff.1 hc.hu).1
  have hk:k<u.classes.length:=(List.getElem?_eq_some_iff.1 hc.hc).1
  refine ld h0 ?_
  refine ld (x3.cell rfl) ?_
  refine ix ?_
  refine ld (hAt 2 _ rfl) ?_
  refine ld (x3.cell rfl) ?_
  rw [e5]
  refine ix ?_
  refine ld (hAt5 1 _ rfl) ?_
  rw [hc.sup]
  by_cases h:0≤c.super
  · refine brT ?_ (hp:=h)
    refine ld (x3.cell rfl) ?_
    refine cl (k_path L3 hc.hu (((hI u (List.mem_of_getElem? hc.hu)).sup c (List.mem_of_getElem? hc.hc)).inP (by omega))) ?_
    rintro _ _ ⟨rfl,rfl⟩
    rw [if_pos h]
    exact rt1 ⟨rfl,B3⟩
  · refine brF ?_ (hp:=h)
    rw [if_neg h]
    exact rt1 ⟨rfl,B3⟩
theorem k_layout (hI:∀ u∈us,Ixs u) (hF7:∀ u∈us,∀ c∈u.classes,c.fields.length≤7):∀ (m:Nat) (p:ByteArray) (w:World),m≤1000→Lnk w b us D→Deep us D m p →
    Ret Tryz.prog 97 #[.pointer (some ⟨b,0,none⟩),.string p] w fun v w'=>∃ a c,v = .slice a (layL us D m p).length c∧OwP 1 encStr w' w.heap.size 9 a c (layL us D m p)∧(layL us D m p).length≤7*m∧Bl w w'
  | 0,_,_,_,_,h=>h.elim
  | m+1,p,w,hm,hL,⟨⟨n,k,u,c,hc⟩,hd⟩=>by
    have hum:=List.mem_of_getElem? hc.hu
    have hcm:=List.mem_of_getElem? hc.hc
    have hf7:=hF7 u hum c hcm
    refine entr (vs:=[.pointer (some ⟨b,0,none⟩),.string p]) [0,1,4,5,6,7,9,14,37,38,39,40] tabok Tryz.func97 (by kernel_rfl) ?_
    refine cl (k_super hL hI hc) ?_
    rintro _ w1 ⟨rfl,B1⟩
    have hlay:layL us D (m+1) p=(if supL us D p=nost then [] else layL us D m (supL us D p))++c.fields.map fun f=>nm u f.name:=by
      rw [←hc.own];rfl
    refine jn [5] [(0,.pointer (some ⟨b,0,none⟩)),(1,.string p)] (fun vals w2=>∃ up a c,vals=[.slice a up.length c]∧OwP 1 encStr w2 w.heap.size 9 a c up∧up=(if supL us D p=nost then [] else layL us D m (supL us D p))∧up.length≤7*m∧Bl w w2) (fun h jo => ?_) (fun h jo => ?_) ?_
    · have hs:¬supL us D p=nost:=of_decide_eq_true h
      refine cl (k_layout hI hF7 m _ w1 (by omega) (hL.bl B1) (hd.resolve_left hs)) ?_
      rintro _ w2 ⟨a,cc,rfl,hO,hlen,B2⟩
      exact jo ⟨_,a,cc,rfl,hO.base B1.size,by rw [if_neg hs],hlen,B1.trans B2⟩
    · have hs:supL us D p=nost:=Classical.byContradiction fun q=>of_decide_eq_false h q
      exact jo ⟨[],none,0,rfl,Ow.nil ..,by rw [if_pos hs],by simp,B1⟩
    rintro _ w2 ⟨up,a0,c0,rfl,hO2,hup,hlen,B2⟩
    rw [←hup] at hlay
    obtain ⟨m1,h1,hm1⟩:=(hL.bl B2).cl
    refine ld h1 ?_
    refine lk tD hm1 ?_
    rw [hc.g]
    refine al fun b3 w3 k3 => ?_
    refine sta (vs:=[I n,I k]) (cs':=[I n,I k]) k3.box fun w4 k4 x4 => ?_
    have B4:=B2.trans (k3.wr k4)
    refine ds fun w5 k5 => ?_
    have B5:=B4.trans k5.bl
    have x5:=k5.box x4
    obtain ⟨a,cc,h0,hS⟩:=hL.us
    obtain ⟨b6,o6,cs6,rfl,_,hAt,ua,rfl,hU⟩:=hS.el n u hc.hu
    obtain ⟨b7,o7,cs7,e7,_,hAt7,af,cf,rfl,hF⟩:=hU.cls.el k c hc.hc
    have hn:n<us.length:=(List.getElem?_eq_some_iff.1 hc.hu).1
    have hk:k<u.classes.length:=(List.getElem?_eq_some_iff.1 hc.hc).1
    refine ld (B5.cl h0) ?_
    refine ld (x5.cell rfl) ?_
    refine ix ?_
    refine ld ((hAt.bl B5) 2 _ rfl) ?_
    refine ld (x5.cell rfl) ?_
    rw [e7]
    refine ix ?_
    refine ld ((hAt7.bl B5) 2 _ rfl) ?_
    have hO5:=hO2.bl ((k3.wr k4).trans k5.bl)
    refine lpk (vals:=[.slice a0 up.length c0]) c.fields.length 39 [5] [(0,.pointer (some ⟨b,0,none⟩)),(7,.pointer (some ⟨b3,0,none⟩)),(37,.slice af c.fields.length cf),(38,I c.fields.length)]
      (fun j vals w'=>∃ a9 c9,vals=[.slice a9 (up++(c.fields.take j).map fun f=>nm u f.name).length c9]∧OwP 1 encStr w' w.heap.size 9 a9 c9 (up++(c.fields.take j).map fun f=>nm u f.name)∧Bl w w'∧Box w' b3 151 [I n,I k]) ⟨a0,c0,by simp,by simpa using hO5,B5,x5⟩ ?_
    rintro j vals w6 hj ⟨a9,c9,rfl,hO6,B6,x6⟩ ih
    by_cases hlt:j<c.fields.length
    · refine brT ?_
      obtain ⟨f,bf,off,csf,hf,rfl,_,hAtf,rfl⟩:=at_some (hF.bl B6) hlt
      refine ix ?_
      refine lda hAtf ?_
      refine al fun b8 w8 k8 => ?_
      refine sta k8.box fun w9 k9 x9 => ?_
      have B69:=k8.wr k9
      have x69:=Bl.box B69 x6
      refine ld (x69.cell rfl) ?_
      refine ld (x9.cell rfl) ?_
      refine cl (k_path (hL.bl (B6.trans B69)) hc.hu ((hI u hum).plc.fn c hcm f (List.mem_of_getElem? hf))) ?_
      rintro _ _ ⟨rfl,rfl⟩
      refine bs fun b10 w10 k10 => ?_
      have B10:=(B6.trans B69).trans k10.bl
      have O10:=(hO6.bl B69).bl k10.bl
      have hl:(up++(c.fields.take j).map fun f=>nm u f.name).length≤7*m+7:=by rw [List.length_append,List.length_map,List.length_take];omega
      have e1:up++(c.fields.take (j+1)).map (fun f=>nm u f.name)=(up++(c.fields.take j).map fun f=>nm u f.name)++[nm u f.name]:=by rw [map_snoc hf,List.append_assoc]
      refine apl (l1:=[nm u f.name]) O10 (.inr ⟨b10,0,rfl,k10.box.at⟩) B10.size (fun a11 c11 w11 hO11 hA11 _ => ?_) (hb:=by simp only [List.length_cons,List.length_nil];omega) (hn:=by simp only [List.length_cons,List.length_nil];omega)
      have x10:=Bl.box k10.bl x69
      exact ih hlt ⟨a11,c11,by rw [e1],by rw [e1];exact hO11,Eng.Ow.below O10 hA11 B10 B10.size,hA11.box x10 (O10.nbox x10 (by decide))⟩
    · refine brF ?_
      obtain rfl:j=c.fields.length:=by omega
      rw [List.take_length,←hlay] at hO6 ⊢
      exact rt1 ⟨a9,c9,rfl,hO6,by rw [hlay,List.length_append,List.length_map];omega,B6⟩
end Go.Proofs.YtkmdfjpafkcleaaGreatDoor
namespace Go.Proofs.YtkmdfjpafkcleaaGreatDoor
open Eng Go.RowKit
structure MthI (us:List Unt) (d:Option (Nat×Nat)) (n k:Nat) (u:Unt) (m:Mth):Prop where
  g:d=some (n,k)
  hu:us[n]? = some u
  hm:u.methods[k]? = some m
theorem MthI.of {us:List Unt} {d:Option (Nat×Nat)} {n k:Nat} {u:Unt} {m:Mth} (h:MthI us d n k u m):d.bind (mthAt us)=some (u,m):=by
  unfold mthAt
  rw [h.g]
  simp [h.hu,h.hm]
theorem getM_mem {α:Type}:∀ {m:Mp α} {k:ByteArray} {v:α},getM m k=some v→(k,v)∈m
  | [],_,_,h=>by cases h
  | (k0,v0)::m,k,v,h=>by
    simp only [getM] at h
    split at h
    · rename_i e;subst e;obtain rfl:=Option.some.inj h;exact List.mem_cons_self ..
    · exact List.mem_cons_of_mem _ (getM_mem h)
abbrev rs0:Rs:=⟨none,0,[]⟩
theorem rows_at {S:Nat→Prop} {w:World} {M:Mp Rs} (h:∀ p∈M,Sl eStr S w p.2.a p.2.l) (k:ByteArray):Sl eStr S w ((getM M k).getD rs0).a ((getM M k).getD rs0).l:=by
  cases hg:getM M k with
  | none=>exact Sl.nil ..
  | some r=>exact h (k,r) (getM_mem hg)
theorem named_at {D:Dcl} {M:Mp Rs} (h:mapV Rs.l M=D.named) (k:ByteArray):((getM M k).getD rs0).l=(getM D.named k).getD []:=by
  rw [←h,getM_mapV]
  cases getM M k <;> rfl
variable {w:World} {b:Nat} {us:List Unt} {D:Dcl}
theorem calI_len {u:Unt} {i:Ins} (hN:∀ p∈D.named,p.2.length≤1000):(calI D u i).length≤1000:=by
  unfold calI
  split
  · simp
  · split
    · cases hg:getM D.named (nm u i.a) with
      | none=>simp
      | some l=>exact hN _ (getM_mem hg)
    · simp
theorem k_callees (hL:Lnk w b us D) (hI:∀ u∈us,Ixs u) (hN:∀ p∈D.named,p.2.length≤1000) {p:ByteArray} {n k:Nat} {u:Unt} {m:Mth} (hm:MthI us (mthD D p) n k u m) (hcl:m.code.length≤120) :
    Ret Tryz.prog 102 #[.pointer (some ⟨b,0,none⟩),.string p] w fun v w'=>∃ a c,v = .slice a (calL us D p).length c∧OwP 1 encStr w' w.heap.size 9 a c (calL us D p)∧(calL us D p).length≤120000∧Bl w w':=by
  have hum:=List.mem_of_getElem? hm.hu
  have hmm:=List.mem_of_getElem? hm.hm
  have hcal:calL us D p=m.code.flatMap (calI D u):=by
    unfold calL mthOf;rw [hm.of]
  have hB:=flatMap_le (f:=calI D u) (B:=1000) (l:=m.code) fun x _=>calI_len hN
  have hg:=hm.g
  unfold mthD at hg
  refine entr (vs:=[.pointer (some ⟨b,0,none⟩),.string p]) [0,1,4,5,6,7,9,20,40,41,42,43,47,48,59] tabok Tryz.func102 (by kernel_rfl) ?_
  obtain ⟨m1,h1,hm1⟩:=hL.ca
  refine ld h1 ?_
  refine lko tD hm1 ?_
  rw [getD_enc]
  refine al fun b1 w1 k1 => ?_
  refine sta k1.box fun w2 k2 x2 => ?_
  have B2:=k1.wr k2
  refine jn [] [(0,.pointer (some ⟨b,0,none⟩)),(5,.pointer (some ⟨b1,0,none⟩))] (fun vals w'=>vals=[]∧Box w' b1 151 [I n,I k]∧Bl w w') (fun h jo => ?_) (fun h jo => ?_) ?_
  · have hn:getM D.calls p=none:=by
      simp only [hasM,Bool.not_eq_true'] at h
      cases hc:getM D.calls p with
      | none=>rfl
      | some d=>rw [hc] at h;cases h
    have hg2:getM D.sends p=some (n,k):=by rw [hn] at hg;exact hg
    obtain ⟨m2,h2,hm2⟩:=(hL.bl B2).se
    refine ld h2 ?_
    refine lk tD hm2 ?_
    rw [hg2]
    refine sta (vs:=[I n,I k]) (cs':=[I n,I k]) x2 fun w3 k3 x3 => ?_
    exact jo ⟨rfl,x3,Below.trans B2 (k3.below (Nat.le_of_eq k1.blk.symm))⟩
  · simp only [hasM,Bool.not_eq_false'] at h
    obtain ⟨d,hd⟩:=Option.isSome_iff_exists.1 h
    have hd2:d=(n,k):=by rw [hd] at hg;exact Option.some.inj hg
    rw [hd,hd2] at x2
    exact jo ⟨rfl,x2,B2⟩
  rintro _ w3 ⟨rfl,x3,B3⟩
  refine ds fun w5 k5 => ?_
  have B5:=B3.trans k5.bl
  have x5:=k5.box x3
  obtain ⟨a,cc,h0,hS⟩:=hL.us
  obtain ⟨b6,o6,cs6,rfl,_,hAt,ua,rfl,hU⟩:=hS.el n u hm.hu
  obtain ⟨b7,o7,cs7,e7,_,hAt7,a1,c1,a2,c2,a3,c3,rfl,hF1,hF2,hF⟩:=hU.mth.el k m hm.hm
  have hn:n<us.length:=(List.getElem?_eq_some_iff.1 hm.hu).1
  have hk:k<u.methods.length:=(List.getElem?_eq_some_iff.1 hm.hm).1
  refine ld (B5.cl h0) ?_
  refine ld (x5.cell rfl) ?_
  refine ix ?_
  refine ld ((hAt.bl B5) 4 _ rfl) ?_
  refine ld (x5.cell rfl) ?_
  rw [e7]
  refine ix ?_
  refine ld ((hAt7.bl B5) 6 _ rfl) ?_
  refine lpk m.code.length 42 [7] [(0,.pointer (some ⟨b,0,none⟩)),(5,.pointer (some ⟨b1,0,none⟩)),(40,.slice a3 m.code.length c3),(41,I m.code.length)]
    (fun j vals w'=>∃ a9 c9,vals=[.slice a9 ((m.code.take j).flatMap (calI D u)).length c9]∧OwP 1 encStr w' w.heap.size 9 a9 c9 ((m.code.take j).flatMap (calI D u))∧Bl w w'∧Box w' b1 151 [I n,I k]) ⟨none,0,rfl,Ow.nil ..,B5,x5⟩ ?_
  rintro j vals w6 hj ⟨a9,c9,rfl,hO6,B6,x6⟩ ih
  by_cases hlt:j<m.code.length
  · refine brT ?_
    obtain ⟨i,bf,off,csf,hi,rfl,_,hAtf,rfl⟩:=at_some (hF.bl B6) hlt
    have him:=List.mem_of_getElem? hi
    have hIx:=hI u hum
    have hBj:=flatMap_take_le (f:=calI D u) (B:=1000) (l:=m.code) (fun x _=>calI_len hN) (Nat.le_of_lt hlt)
    have e1:(m.code.take (j+1)).flatMap (calI D u)=(m.code.take j).flatMap (calI D u)++calI D u i:=flatMap_snoc hi
    refine ix ?_
    refine lda hAtf ?_
    refine al fun b8 w8 k8 => ?_
    refine sta k8.box fun w9 k9 x9 => ?_
    have B69:=k8.wr k9
    have x69:=Bl.box B69 x6
    have B9:=B6.trans B69
    have O9:=hO6.bl B69
    refine ld (x9.cell rfl) ?_
    by_cases e25:i.op=25
    · have eI:calI D u i=[nm u i.a]:=by unfold calI;rw [if_pos e25]
      refine brT ?_ (hp:=e25)
      refine ld (x69.cell rfl) ?_
      refine ld (x9.cell rfl) ?_
      refine cl (k_path (hL.bl B9) hm.hu (hIx.opa m hmm i him (by omega))) ?_
      rintro _ _ ⟨rfl,rfl⟩
      refine bs fun b10 w10 k10 => ?_
      have B10:=B9.trans k10.bl
      have O10:=O9.bl k10.bl
      refine apl (l1:=[nm u i.a]) O10 (.inr ⟨b10,0,rfl,k10.box.at⟩) B10.size (fun a11 c11 w11 hO11 hA11 _ => ?_) (hb:=by simp only [List.length_cons,List.length_nil];omega) (hn:=by simp only [List.length_cons,List.length_nil];omega)
      rw [←eI,←e1] at hO11 ⊢
      have x10:=Bl.box k10.bl x69
      exact ih hlt ⟨a11,c11,rfl,hO11,Eng.Ow.below O10 hA11 B10 B10.size,hA11.box x10 (O10.nbox x10 (by decide))⟩
    refine brF ?_ (hp:=e25)
    by_cases e26:i.op=26
    · have eI:calI D u i=(getM D.named (nm u i.a)).getD []:=by unfold calI;rw [if_neg e25,if_pos e26]
      refine brT ?_ (hp:=e26)
      obtain ⟨m5,M,h5,hm5,hNm,hR⟩:=hL.na
      refine dt 2 fun w10 k10 => ?_
      have B10:=B9.trans k10.bl
      have O10:=O9.bl k10.bl
      have x610:=k10.box x69
      refine ld (B10.cl h5) ?_
      refine ld (x610.cell rfl) ?_
      refine ld ((k10.box x9).cell rfl) ?_
      refine clq (k_path (hL.bl B10) hm.hu (hIx.opa m hmm i him (by omega))) ?_
      refine lk tN (hm5.bl B10) ?_
      rw [getD_enc]
      have hrow:=rows_at hR (nm u i.a)
      have hnm:=named_at hNm (nm u i.a)
      have hlen:=calI_len (u:=u) (i:=i) hN
      rw [eI,←hnm] at hlen
      refine apl O10 (src_of (hrow.bl B10)) B10.size (fun a11 c11 w11 hO11 hA11 _ => ?_)
      rw [hnm,←eI,←e1] at hO11 ⊢
      exact ih hlt ⟨a11,c11,rfl,hO11,Eng.Ow.below O10 hA11 B10 B10.size,hA11.box x610 (O10.nbox x610 (by decide))⟩
    refine brF ?_ (hp:=e26)
    have eI:calI D u i=[]:=by unfold calI;rw [if_neg e25,if_neg e26]
    rw [eI,List.append_nil] at e1
    exact ih hlt ⟨a9,c9,by rw [e1],by rw [e1];exact O9,B9,x69⟩
  · refine brF ?_
    obtain rfl:j=m.code.length:=by omega
    rw [List.take_length,←hcal] at hO6 ⊢
    exact rt1 ⟨a9,c9,rfl,hO6,by rw [hcal];omega,B6⟩
end Go.Proofs.YtkmdfjpafkcleaaGreatDoor
namespace Go.Proofs.YtkmdfjpafkcleaaGreatDoor
open Eng Go.RowKit
theorem slNone {α:Type} {E:El α} {S:Nat→Prop} {w:World} {a:Option Addr} {l:List α} (h:Sl E S w a l) (ha:a.isNone=true):l=[]:=by
  cases l with
  | nil=>rfl
  | cons x l =>
    obtain ⟨b,o,cs,e,_⟩:=h.el 0 x rfl
    rw [e] at ha;cases ha
theorem blAp {w w' w'':World} {a:Option Addr} (h:Bl w w') (k:Ap w' a w'') (ha:∀ g,a=some ⟨g,0,none⟩→w.heap.size≤g):Bl w w'':=Below.trans h (k.below h.size ha)
theorem k_CloneTy (l:List Ty) (a:Option Addr) (cap:Nat) (S:Nat→Prop) (w:World) (hS:Sl eTy S w a l) :
    Ret Tryz.prog 216 #[.slice a l.length cap] w fun v w'=>∃ a' cap',v = .slice a' l.length cap'∧OwP 2 encTy w' w.heap.size 77 a' cap' l∧Bl w w':=by
  have hbig:=hS.big
  refine entr (vs:=[.slice a l.length cap]) [0,2,4] tabok Tryz.func216 (by kernel_rfl) ?_
  refine sln ?_
  refine br (t:=a.isNone) (fun h => ?_) (fun h => ?_)
  · have hl:=slNone hS h
    subst hl
    exact rt1 ⟨none,0,rfl,Ow.nil ..,Bl.refl _⟩
  refine bs (cs:=[]) fun b1 w1 h1 => ?_
  refine apl (enc:=encTy) (base:=w.heap.size) (l0:=[]) (l1:=l) (Ow.base (Ow.made (n:=0) h1 rfl (by omega)) (by rw [h1.blk];exact Nat.le_refl _)) (src_of (hS.bl h1.bl)) (by rw [h1.size];omega) (fun a' cap' w2 hO hA hf => ?_)
  exact rt1 ⟨a',cap',rfl,hO,blAp h1.bl hA fun g hg=>by
    simp only [Option.some.injEq,Addr.mk.injEq,and_true] at hg
    rw [←hg,h1.blk];exact Nat.le_refl _⟩
theorem k_types {w:World} (m:Mth) (a1:Option Addr) (c1:Nat) (a2:Option Addr) (c2:Nat) (a3:Option Addr) (c3:Nat) (h1:Sl eTy T w a1 m.params) (h2:Sl eTy T w a2 m.locals) (hp:m.params.length≤100) (hl:m.locals.length≤100) :
    Ret Tryz.prog 156 #[.agg (mcells m a1 c1 a2 c2 a3 c3).toArray] w fun v w'=>∃ a c,v = .slice a (m.params++m.locals++[m.result]).length c∧OwP 2 encTy w' w.heap.size 77 a c (m.params++m.locals++[m.result])∧Bl w w':=by
  refine entr (vs:=[.agg (mcells m a1 c1 a2 c2 a3 c3).toArray]) [0,1,2] tabok Tryz.func156 (by kernel_rfl) ?_
  refine bx (cs:=mcells m a1 c1 a2 c2 a3 c3) fun b1 w1 k1 => ?_
  have z1:=k1.size
  have y1:=k1.blk
  refine dhb (· < w1.heap.size) (.row [0,1,3,4,6,7] (.two 2 (.two 5 (.row [8,9,10] .done) 8 (.row [5,9,10] .done)) 8 (.row [2,5,9,10] .done))) fun w2 k2 => ?_
  have B2:=k1.bl.trans k2.bl
  have x2:=k2.box k1.box
  have z2:w2.heap.size=w1.heap.size:=by rw [k2.heap]
  have hb1:b1<w1.heap.size:=by omega
  refine ld (x2.cell rfl) ?_ (hm:=hb1)
  refine ld (x2.cell rfl) ?_ (hm:=hb1)
  refine lda (x2.at.sub 4 2) ?_ (hm:=hb1)
  refine bt ?_ ?_
  · refine cl (k_CloneTy m.params a1 c1 T w2 (h1.bl B2)) ?_ (hm:=fun _ _ r=>by obtain ⟨_,_,_,_,hB⟩:=r;exact mdW_bl hB)
    rintro _ w3 ⟨a5,c5,rfl,O3,B23⟩
    have B3:=B2.trans B23
    refine bt ?_ ?_
    · refine apl O3 (src_of (h2.bl B3)) B23.size (fun a6 c6 w4 O4 A4 f4 => ?_) (hm:=apB fun g hg=>by have:=(O3.lt hg).1;omega)
      have B4:Bl w w4:=Below.trans B3 (A4.below B3.size fun g hg=>by have:=(O3.lt hg).1;omega)
      refine bs fun b5 w5 k5 => ?_
      have O5:=O4.bl k5.bl
      refine apl (l1:=[m.result]) O5 (.inr ⟨b5,0,rfl,k5.box.at⟩) (by have:=A4.size;have:=k5.size;have:=B23.size;omega) (fun a7 c7 w6 O6 A6 f6 => ?_) (hm:=apB fun g hg=>by have:=(O5.lt hg).1;omega)
      exact rt1 ⟨a7,c7,rfl,O6.base B2.size,Below.trans (B4.trans k5.bl) (A6.below (B4.trans k5.bl).size fun g hg=>by have:=(O5.lt hg).1;omega)⟩
    · refine bs fun b5 w5 k5 => ?_
      have O5:=O3.bl k5.bl
      have B5:=B3.trans k5.bl
      refine apl O5 (src_of (h2.bl B5)) (by have:=k5.size;have:=B23.size;omega) (fun a6 c6 w6 O6 A6 f6 => ?_) (hm:=apB fun g hg=>by have:=(O5.lt hg).1;omega)
      have B6:Bl w w6:=Below.trans B5 (A6.below B5.size fun g hg=>by have:=(O5.lt hg).1;omega)
      have x5:=A6.box k5.box fun e=>by have:=(O3.lt e).2;have:=k5.blk;omega
      refine apl (l1:=[m.result]) O6 (.inr ⟨b5,0,rfl,x5.at⟩) (by have:=A6.size;have:=k5.size;have:=B23.size;omega) (fun a7 c7 w7 O7 A7 f7 => ?_) (hm:=apB fun g hg=>by have:=(O6.lt hg).1;omega)
      exact rt1 ⟨a7,c7,rfl,O7.base B2.size,Below.trans B6 (A7.below B6.size fun g hg=>by have:=(O6.lt hg).1;omega)⟩
  · refine bs fun b5 w3 k5 => ?_
    have B3:=B2.trans k5.bl
    refine cl (k_CloneTy m.params a1 c1 T w3 (h1.bl B3)) ?_ (hm:=fun _ _ r=>by obtain ⟨_,_,_,_,hB⟩:=r;exact mdW_bl hB)
    rintro _ w4 ⟨a5,c5,rfl,O4,B34⟩
    have B4:=B3.trans B34
    have x4:=Bl.box B34 k5.box
    have y5:=k5.blk
    have z5:=k5.size
    refine apl O4 (src_of (h2.bl B4)) B34.size (fun a6 c6 w6 O6 A6 f6 => ?_) (hm:=apB fun g hg=>by have:=(O4.lt hg).1;omega)
    have B6:Bl w w6:=Below.trans B4 (A6.below B4.size fun g hg=>by have:=(O4.lt hg).1;omega)
    have x6:=A6.box x4 fun e=>by have:=(O4.lt e).1;omega
    refine apl (l1:=[m.result]) O6 (.inr ⟨b5,0,rfl,x6.at⟩) (by have:=A6.size;have:=B34.size;omega) (fun a7 c7 w7 O7 A7 f7 => ?_) (hm:=apB fun g hg=>by have:=(O6.lt hg).1;omega)
    exact rt1 ⟨a7,c7,rfl,O7.base B3.size,Below.trans B6 (A7.below B6.size fun g hg=>by have:=(O6.lt hg).1;have:=B3.size;omega)⟩
end Go.Proofs.YtkmdfjpafkcleaaGreatDoor
namespace Go.Proofs.YtkmdfjpafkcleaaGreatDoor
open Eng Go.RowKit
variable {w:World} {b:Nat} {us:List Unt} {D:Dcl}
theorem nm_mem {u:Unt} {i:Int} (h:inP u i):nm u i∈u.pool:=by
  obtain ⟨k,rfl,hk⟩:=inP_at h
  exact List.mem_of_getElem? hk
theorem Lnk.sz (hL:Lnk w b us D) {n:Nat} {u:Unt} (hu:us[n]? = some u):u.name.size≤1048576∧∀ i,inP u i→(nm u i).size≤1048576:=by
  obtain ⟨a,c,_,hS⟩:=hL.us
  obtain ⟨b1,o1,cs1,_,_,_,ua,rfl,hU⟩:=hS.el n u hu
  exact ⟨hU.nm,fun i hi=>hU.ps _ (nm_mem hi)⟩
theorem dig_size (k:Int):(dig k).size=1:=rfl
theorem dig_enc {k:Int} (h0:0≤k) (h1:k≤4):Utf8.encode (IntKind.i32.wrap (IntKind.i64.wrap (48+k)))=dig k:=by
  have e1:IntKind.i64.wrap (48+k)=48+k:=wrap_fit (by omega) (by omega)
  have e2:IntKind.i32.wrap (48+k)=48+k:=by
    have:k=0∨k=1∨k=2∨k=3∨k=4:=by omega
    rcases this with rfl | rfl | rfl | rfl | rfl <;> rfl
  rw [e1,e2,utf8_one (by omega) (by omega)];rfl
def kindOk (t:Ty):Prop:=0≤t.kind∧t.kind≤4
theorem shown_size {u:Unt} {t:Ty} (hs:∀ i,inP u i→(nm u i).size≤1048576) (ht:optP u t.cls):(shownL u t).size≤1048577:=by
  unfold shownL
  split
  · have:=hs t.cls (ht.inP (by omega))
    rw [ByteArray.size_append,dig_size];omega
  · rw [dig_size];omega
theorem k_shown (hL:Lnk w b us D) {n:Nat} {u:Unt} (hu:us[n]? = some u) {t:Ty} (ht:optP u t.cls) (hk:kindOk t) :
    Ret Tryz.prog 219 #[.pointer (some ⟨b,0,none⟩),I n,.agg (encTy t).toArray] w fun v w'=>v = .string (shownL u t)∧Bl w w':=by
  refine entr (vs:=[.pointer (some ⟨b,0,none⟩),I n,.agg (encTy t).toArray]) [0,1,2,5,6,7,15] tabok Tryz.func219 (by kernel_rfl) ?_
  refine bx (cs:=encTy t) fun b1 w1 k1 => ?_
  refine ld (k1.box.cell rfl) ?_
  refine cv Tryz.underlying3 Tryz.underlying21 ?_
  refine cvs Tryz.underlying21 Tryz.underlying9 ?_
  rw [dig_enc hk.1 hk.2]
  refine ld (k1.box.cell rfl) ?_
  by_cases h0:0≤t.cls
  · have hi:=ht.inP (by omega)
    refine brT ?_ (hp:=h0)
    refine ld (k1.box.cell rfl) ?_
    refine cl (k_path (hL.bl k1.bl) hu hi) ?_
    rintro _ _ ⟨rfl,rfl⟩
    have:=(hL.sz hu).2 _ hi
    refine cat ?_ (hab:=by rw [dig_size];omega)
    exact rt1 ⟨by unfold shownL;rw [if_pos h0],k1.bl⟩
  · refine brF ?_ (hp:=h0)
    exact rt1 ⟨by unfold shownL;rw [if_neg h0],k1.bl⟩
def sigK (u:Unt) (m:Mth) (j:Nat):ByteArray:=(m.params.take j).foldl (fun s t=>s++(⟨#[44]⟩++shownL u t)) (shownL u m.result)
theorem sigK_succ {u:Unt} {m:Mth} {j:Nat} {t:Ty} (h:m.params[j]? = some t):sigK u m (j+1)=sigK u m j++(⟨#[44]⟩++shownL u t):=by
  unfold sigK
  rw [take_succ_some h,List.foldl_append];rfl
theorem k_signature (hL:Lnk w b us D) {n k:Nat} {u:Unt} {m:Mth} (hu:us[n]? = some u) (hmk:u.methods[k]? = some m) (ht:∀ t∈m.params++m.locals++[m.result],optP u t.cls∧kindOk t) (hp:m.params.length≤100) :
    Ret Tryz.prog 163 #[.pointer (some ⟨b,0,none⟩),encD (n,k)] w fun v w'=>v = .string (sigL u m)∧Bl w w':=by
  have hsz:=(hL.sz hu).2
  refine entr (vs:=[.pointer (some ⟨b,0,none⟩),.agg #[I n,I k]]) [0,1,3,4,5,6,8,29,30,31,32] tabok Tryz.func163 (by kernel_rfl) ?_
  refine bx (cs:=[I n,I k]) fun b1 w1 k1 => ?_
  obtain ⟨a,cc,h0,hS⟩:=hL.us
  obtain ⟨b6,o6,cs6,rfl,_,hAt,ua,rfl,hU⟩:=hS.el n u hu
  obtain ⟨b7,o7,cs7,e7,_,hAt7,a1,c1,a2,c2,a3,c3,rfl,hF1,hF2,hF⟩:=hU.mth.el k m hmk
  have hn:n<us.length:=(List.getElem?_eq_some_iff.1 hu).1
  have hk:k<u.methods.length:=(List.getElem?_eq_some_iff.1 hmk).1
  refine dh (· < w1.heap.size) (List.range 15) fun w2 k2 => ?_
  have B2:=k1.bl.trans k2.bl
  have x2:=k2.box k1.box
  have z2:w2.heap.size=w1.heap.size:=by rw [k2.heap]
  have lt1:∀ {b o:Nat} {v:Value},w.cell? ⟨b,o,none⟩=some v→b<w1.heap.size:=fun h=>Nat.lt_of_lt_of_le (cell_lt h) k1.bl.size
  refine ld (B2.cl h0) ?_ (hm:=lt1 h0)
  refine ld (x2.cell rfl) ?_ (hm:=k1.box.lt)
  refine ix ?_
  refine ld ((hAt.bl B2) 4 _ rfl) ?_ (hm:=lt1 (hAt 4 _ rfl))
  refine ld (x2.cell rfl) ?_ (hm:=k1.box.lt)
  rw [e7]
  refine ix ?_
  refine lda (hAt7.bl B2) ?_ (hm:=lt1 (hAt7 0 _ rfl))
  refine al fun b3 w3 k3 => ?_
  refine sta (cs':=mcells m a1 c1 a2 c2 a3 c3) k3.box (fun w4 k4 x4 => ?_) (hm:=wrS (by have:=k3.blk;omega))
  have B24:=k3.wr k4
  have B4:=B2.trans B24
  have x14:=Bl.box B24 x2
  refine ld (x14.cell rfl) ?_
  refine lda (x4.at.sub 4 2) ?_
  have hr:=ht m.result (by simp)
  refine cl (k_shown (hL.bl B4) hu hr.1 hr.2) ?_
  rintro _ w5 ⟨rfl,B45⟩
  have B5:=B4.trans B45
  have x15:=Bl.box B45 x14
  have x5:=Bl.box B45 x4
  refine ld (x5.cell rfl) ?_
  refine lpk (vals:=[.string (shownL u m.result)]) m.params.length 31 [6] [(0,.pointer (some ⟨b,0,none⟩)),(3,.pointer (some ⟨b1,0,none⟩)),(5,.pointer (some ⟨b3,0,none⟩)),(29,.slice a1 m.params.length c1),(30,I m.params.length)]
    (fun j vals w'=>vals=[.string (sigK u m j)]∧(sigK u m j).size≤1048577+j*1048578∧Bl w5 w') ⟨rfl,by have:=shown_size hsz hr.1;show (shownL u m.result).size≤_;omega,Bl.refl _⟩ ?_
  rintro j vals w6 hj ⟨rfl,hs6,B56⟩ ih
  have B6:=B5.trans B56
  by_cases hlt:j<m.params.length
  · refine brT ?_
    obtain ⟨t,bf,off,csf,hi,rfl,_,hAtf,rfl⟩:=at_some (hF1.bl B6) hlt
    have htt:=ht t (by simp [List.mem_of_getElem? hi])
    refine ix ?_
    refine lda hAtf ?_
    refine al fun b8 w8 k8 => ?_
    refine sta k8.box fun w9 k9 x9 => ?_
    have B69:=k8.wr k9
    have B9:=B6.trans B69
    refine ld ((Bl.box (B56.trans B69) x15).cell rfl) ?_
    refine lda x9.at ?_
    refine cl (k_shown (hL.bl B9) hu htt.1 htt.2) ?_
    rintro _ w10 ⟨rfl,B910⟩
    have hss:=shown_size hsz htt.1
    refine cat ?_ (hab:=by show 1+_≤_;omega)
    have hs2:(⟨#[44]⟩++shownL u t:ByteArray).size=1+(shownL u t).size:=by rw [ByteArray.size_append];rfl
    refine cat ?_ (hab:=by rw [hs2];omega)
    exact ih hlt ⟨by rw [sigK_succ hi],by rw [sigK_succ hi,ByteArray.size_append,hs2];omega,(B56.trans B69).trans B910⟩
  · refine brF ?_
    obtain rfl:j=m.params.length:=by omega
    refine rt1 ⟨?_,B6⟩
    unfold sigK sigL
    rw [List.take_length]
end Go.Proofs.YtkmdfjpafkcleaaGreatDoor
namespace Go.Proofs.YtkmdfjpafkcleaaGreatDoor
open Eng Go.RowKit
variable {w:World} {b:Nat} {us:List Unt} {D:Dcl}
def TyOk (u:Unt):Prop:=∀ m∈u.methods,m.params.length≤100∧∀ t∈m.params++m.locals++[m.result],optP u t.cls∧kindOk t
def badP (us:List Unt) (D:Dcl) (l:List ByteArray) (p:ByteArray):Bool := !decide (sigD us D p=sigD us D (l.getD 0 nost))
theorem sig_of {p:ByteArray} {n k:Nat} {u:Unt} {m:Mth} (h:MthI us (getM D.sends p) n k u m):sigD us D p=sigL u m:=by
  unfold sigD;rw [h.of]
theorem nodup_inj {α β:Type} {f:α→β}:∀ {l:List α},(l.map f).Nodup→∀ {a b:α},a∈l→b∈l→f a=f b→a=b
  | [],_,_,_,ha,_,_=>by cases ha
  | x::l,h,a,b,ha,hb,e=>by
    rw [List.map_cons,List.nodup_cons] at h
    rcases List.mem_cons.1 ha with ea | ha'
    · rcases List.mem_cons.1 hb with eb | hb'
      · rw [ea,eb]
      · rw [ea] at e;exact absurd (List.mem_map.2 ⟨b,hb',e.symm⟩) h.1
    · rcases List.mem_cons.1 hb with eb | hb'
      · rw [eb] at e;exact absurd (List.mem_map.2 ⟨a,ha',e⟩) h.1
      · exact nodup_inj h.2 ha' hb' e
theorem mem_one {α:Type} {M:Mp α} (h:(keysM M).Nodup) {k:ByteArray} {r r':α} (h1:(k,r)∈M) (h2:(k,r')∈M):r=r':=congrArg Prod.snd (nodup_inj h h1 h2 rfl)
set_option maxHeartbeats 1000000 in
theorem k_unlike (hL:Lnk w b us D) (hT:∀ u∈us,TyOk u) (hS:∀ q∈D.named,∀ p∈q.2,∃ n k u m,MthI us (getM D.sends p) n k u m) :
    Ret Tryz.prog 98 #[.pointer (some ⟨b,0,none⟩)] w fun v w'=>v = .bool (unlikeL us D)∧Bl w w':=by
  obtain ⟨mb,M,h5,hm5,hNm,hR⟩:=hL.na
  obtain ⟨es,clock,hes,hkv,hst⟩:=hm5.is
  have hent:∀ e∈es.toList,∃ k r,(k,r)∈M∧e.key = .string k∧e.val=encR r:=fun e he=>by
    have:kv e∈M.map (kvm encR):=hkv▸List.mem_map.2 ⟨e,he,rfl⟩
    obtain ⟨p,hp,h2⟩:=List.mem_map.1 this
    exact ⟨p.1,p.2,hp,(congrArg Prod.fst h2).symm,(congrArg Prod.snd h2).symm⟩
  have hback:∀ q∈D.named,∃ e∈es.toList,∃ k r,(k,r)∈M∧e.key = .string k∧r.l=q.2:=fun q hq=>by
    rw [←hNm] at hq
    obtain ⟨p,hp,rfl⟩:=List.mem_map.1 hq
    have:kvm encR p∈es.toList.map kv:=hkv▸List.mem_map.2 ⟨p,hp,rfl⟩
    obtain ⟨e,he,h2⟩:=List.mem_map.1 this
    exact ⟨e,he,p.1,p.2,hp,congrArg Prod.fst h2,rfl⟩
  have hin:∀ {k r},(k,r)∈M→(k,r.l)∈D.named:=fun h=>by rw [←hNm];exact List.mem_map.2 ⟨_,h,rfl⟩
  refine entr (vs:=[.pointer (some ⟨b,0,none⟩)]) [0,2,4,6,11,13,16,17,18,19,40] tabok Tryz.func98 (by kernel_rfl) ?_
  refine ld h5 ?_
  refine rg tN hes (fun it w1 hit B1 i1 => ?_)
  refine lp [] [(0,.pointer (some ⟨b,0,none⟩)),(11,.pointer (some ⟨it,0,none⟩))]
    (fun q vals w'=>∃ seen,q=(leftOf es seen).size∧vals=[]∧Bl w w'∧w'.heap[it]? = some (.mapIter (some mb) clock seen clock)∧∀ e∈es.toList,seen.contains e.born=true→∀ k r,(k,r)∈M→e.key = .string k→r.l.any (badP us D r.l)=false)
    ⟨rfl,rfl,trivial⟩ ⟨#[],rfl,rfl,B1,i1,fun e _ h=>by simp at h⟩ ?_
  rintro q vals w2 ⟨seen,rfl,rfl,B2,i2,hgood⟩ ih
  have hes2:w2.heap[mb]? = some (.map es clock):=(B2.block mb hm5.lt).trans hes
  refine nx hes2 i2 hst (fun h0 => ?_) (fun e w3 he hw3 i3 => ?_)
  · refine brf ?_
    refine rt1 ⟨vb ?_,B2⟩
    symm
    unfold unlikeL
    rw [←Bool.not_eq_true,List.any_eq_true]
    rintro ⟨q,hq,hb⟩
    obtain ⟨e,he,k,r,hkr,hek,hrl⟩:=hback q hq
    have hs:seen.contains e.born=true:=by
      have:(leftOf es seen)=#[]:=Array.eq_empty_of_size_eq_zero h0
      unfold leftOf at this
      rw [Array.filter_eq_empty_iff] at this
      have:=this e (Array.mem_toList_iff.1 he)
      simpa using this
    have:=hgood e he hs k r hkr hek
    rw [hrl] at this
    unfold badP at this
    rw [this] at hb;cases hb
  · have heM:e∈es.toList:=by unfold leftOf at he;simp at he ⊢;exact he.1
    obtain ⟨key,r,hkr,hkey,hval⟩:=hent e heM
    have hlt:=left_lt he
    have B3:Bl w w3:=Below.trans B2 (hw3.below (Nat.le_of_eq hit.symm))
    have hes3:w3.heap[mb]? = some (.map es clock):=(B3.block mb hm5.lt).trans hes
    refine brt ?_
    refine ety hes3 i3 hst heM ?_
    rw [hval]
    have hrow:Sl eStr (· ≠ b) w r.a r.l:=hR (key,r) hkr
    have hbig:=hrow.big
    have hnam:=hin hkr
    refine lpk (vals:=[]) r.l.length 18 [] [(0,.pointer (some ⟨b,0,none⟩)),(11,.pointer (some ⟨it,0,none⟩)),(4,.slice r.a r.l.length r.c),(16,.slice r.a r.l.length r.c),(17,I r.l.length)]
      (fun j vals w'=>vals=[]∧Bl w3 w'∧(r.l.take j).any (badP us D r.l)=false) ⟨rfl,Bl.refl _,rfl⟩ ?_
    rintro j vals w4 hj ⟨rfl,B34,hany⟩ ih2
    have B4:=B3.trans B34
    by_cases hjl:j<r.l.length
    · refine brT ?_
      have L4:=hL.bl B4
      obtain ⟨p,b5,o5,cs5,hp,ha5,_,hAt5,rfl⟩:=at_some (hrow.bl B4) hjl
      obtain ⟨p0,b6,o6,cs6,hp0,ha6,_,hAt6,rfl⟩:=at_some (hrow.bl B4) (i:=0) (by omega)
      obtain ⟨n1,k1,u1,m1,hM1⟩:=hS _ hnam p (List.mem_of_getElem? hp)
      obtain ⟨n2,k2,u2,m2,hM2⟩:=hS _ hnam p0 (List.mem_of_getElem? hp0)
      have T1:=hT u1 (List.mem_of_getElem? hM1.hu) m1 (List.mem_of_getElem? hM1.hm)
      have T2:=hT u2 (List.mem_of_getElem? hM2.hu) m2 (List.mem_of_getElem? hM2.hm)
      have hd0:r.l.getD 0 nost=p0:=by rw [List.getD_eq_getElem?_getD,hp0];rfl
      have hbad:badP us D r.l p = !decide (sigL u1 m1=sigL u2 m2):=by unfold badP;rw [hd0,sig_of hM1,sig_of hM2]
      rw [ha5]
      refine ix ?_
      refine ld (hAt5 0 _ rfl) ?_
      refine dh T [0,1,2,3,4,5,6,8,9,10,11,12,13,14,15,16,7,17,18] fun w5 k5 => ?_
      have B45:Bl w4 w5:=k5.bl
      have B5:=B4.trans B45
      obtain ⟨m4,h4,hm4⟩:=(hL.bl B5).se
      refine ld h4 ?_ (hm:=trivial)
      refine lk tD hm4 ?_ (hm:=trivial)
      rw [hM1.g]
      refine ld h4 ?_ (hm:=trivial)
      rw [ha5] at ha6
      obtain ⟨rfl,rfl⟩:b5=b6∧o5=o6:=by simpa using ha6
      refine ix (j:=0) ?_
      refine ld ((hAt6.bl B45) 0 _ rfl) ?_ (hm:=trivial)
      refine lk tD hm4 ?_ (hm:=trivial)
      rw [hM2.g]
      refine cl (k_signature (hL.bl B5) hM1.hu hM1.hm T1.2 T1.1) ?_
      rintro _ w6 ⟨rfl,B56⟩
      have B6:=B5.trans B56
      refine cl (k_signature (hL.bl B6) hM2.hu hM2.hm T2.2 T2.1) ?_
      rintro _ w7 ⟨rfl,B67⟩
      have B7:=B6.trans B67
      by_cases hq:sigL u1 m1=sigL u2 m2
      · refine brF ?_ (hp:=by exact fun h=>h hq)
        have:badP us D r.l p=false:=by rw [hbad,decide_eq_true hq];rfl
        exact ih2 hjl ⟨rfl,((B34.trans B45).trans B56).trans B67,any_snoc hp hany this⟩ (hsub:=by simp only [ha5];repeat (first | exact True.intro | (refine ⟨rfl,?_⟩)))
      · refine brT ?_ (hp:=hq)
        refine rt1 ⟨vb ?_,B7⟩
        symm
        unfold unlikeL
        have h1:badP us D r.l p=true:=by rw [hbad,decide_eq_false hq];rfl
        exact List.any_eq_true.2 ⟨_,hnam,any_hit hp h1⟩
    · refine brF ?_
      obtain rfl:j=r.l.length:=by omega
      have hany':=any_end hany
      refine again (ih _ _ _ _ hlt ⟨rfl,rfl,trivial⟩ rfl ⟨seen.push e.born,rfl,rfl,B4,(B34.block it (Array.getElem?_eq_some_iff.1 i3).1).trans i3,fun e' he' hs' k' r' hkr' hek' => ?_⟩)
      rw [Array.contains_push,Bool.or_eq_true] at hs'
      rcases hs' with hs' | hs'
      · exact hgood e' he' hs' k' r' hkr' hek'
      · have hb:e'.born=e.born:=by simpa using hs'
        obtain rfl:=nodup_inj hst.2.1 he' heM hb
        rw [hkey] at hek'
        obtain rfl:=Value.string.inj hek'
        rw [mem_one (keys_nodup hm5) hkr' hkr];exact hany'
end Go.Proofs.YtkmdfjpafkcleaaGreatDoor
namespace Go.Proofs.YtkmdfjpafkcleaaGreatDoor
open Eng Go.RowKit Go.Sort
theorem map_sEnc (l:List (List UInt8)):l.map sEnc=(l.map ofL).flatMap encStr:=by
  rw [List.flatMap_map]
  induction l with
  | nil=>rfl
  | cons x l ih=>rw [List.map_cons,List.flatMap_cons,ih];rfl
theorem sortL_len (l:List ByteArray):(sortL l).length=l.length:=by unfold sortL;rw [List.length_map,List.length_mergeSort,List.length_map]
theorem Eng.Ow.shrink {w:World} {base e esz n m cap:Nat} {a:Option Addr} {xs:List Value} (h:Ow w base e esz a n cap xs) (hm:m≤n):Ow w base e esz a m cap (xs.take (m*esz)):=by
  obtain ⟨h1,h2⟩:=h.own
  have hle:m*esz≤n*esz:=Nat.mul_le_mul_right _ hm
  refine ⟨by rw [List.length_take,h1];omega,?_⟩
  rcases h2 with ⟨h2,h3⟩ | ⟨g,cap',cur,h2,h3,h4,h5,h6,h7,h8⟩
  · simp only [Value.slice.injEq] at h2
    obtain ⟨rfl,rfl,rfl⟩:=h2
    obtain rfl:m=0:=by omega
    exact .inl ⟨rfl,rfl⟩
  · simp only [Value.slice.injEq] at h2
    obtain ⟨rfl,-,rfl⟩:=h2
    refine .inr ⟨g,cap,cur,rfl,h3,h4,by omega,h6,h7,?_⟩
    rw [←h8,List.take_take,Nat.min_eq_left hle]
theorem k_values (a:Option Addr) (n cap:Nat) (w:World):Ret Tryz.prog 151 #[.slice a n cap] w fun v w'=>∃ b,v = .func (.func 214) #[] #[.pointer (some ⟨b,0,none⟩)]∧New w b 33 [.slice a n cap] w':=by
  refine entr (vs:=[.slice a n cap]) [0,1,2] tabok Tryz.func151 (by kernel_rfl) ?_
  refine bx (cs:=[.slice a n cap]) fun b w1 h1 => ?_
  exact rt1 ⟨b,rfl,h1⟩
theorem own_of_row {w w':World} {l:List (List UInt8)} {v:Value} {n:Nat} (hn:n=l.length) (hrow:w'.ownsRow w.heap.size 9 1 v n (l.map sEnc)):∃ a' cap',v = .slice a' (l.map ofL).length cap'∧OwP 1 encStr w' w.heap.size 9 a' cap' (l.map ofL):=by
  subst hn
  have hr:=hrow
  unfold OwP
  rw [List.length_map,←map_sEnc]
  rcases hrow.2 with ⟨rfl,h0⟩ | ⟨g,cap',cur,rfl,_⟩
  · exact ⟨none,0,by rw [h0],⟨by rw [h0] at hr ⊢;exact hr⟩⟩
  · exact ⟨_,cap',rfl,⟨hr⟩⟩
theorem k_sortV (l:List ByteArray) (a:Option Addr) (cap:Nat) (S:Nat→Prop) (w0 w:World) (b:Nat) (hS:Sl eStr S w a l) (h1:New w0 b 33 [.slice a l.length cap] w) :
    Ret Tryz.prog 99 #[.func (.func 214) #[] #[.pointer (some ⟨b,0,none⟩)]] w fun v w'=>∃ a' cap',v = .slice a' (sortL l).length cap'∧OwP 1 encStr w' w.heap.size 9 a' cap' (sortL l)∧Bl w w':=by
  have hbig:=hS.big
  have hlt1:∀ (j:Nat) x,(l.map toL)[j]? = some x→∃ b off,a=some ⟨b,off,none⟩∧b<w.heap.size∧w.cell? ⟨b,off+j,none⟩=some (sEnc x):=fun j x hx=>by
    rw [List.getElem?_map] at hx
    cases hl:l[j]? with
    | none=>rw [hl] at hx;cases hx
    | some s =>
      rw [hl] at hx
      obtain rfl:=Option.some.inj hx
      obtain ⟨b',o',cs,e,_,hAt,rfl⟩:=hS.el j s hl
      have hc:=hAt 0 _ rfl
      have hc':w.cell? ⟨b',o'+j,none⟩=some (.string s):=by simpa [eStr,plainEl] using hc
      exact ⟨b',o',e,cell_lt hc',by rw [hc',sEnc_toL]⟩
  have hlen:(l.map toL).length=l.length:=List.length_map ..
  refine ⟨by kernel_rfl,(c_sorted (l.map toL) a cap b w (by rw [hlen];exact hbig) (by rw [hlen];exact h1.box.cell rfl) h1.box.lt hlt1).mono ?_⟩
  rintro e w2 ⟨v,rfl,hrow,hb⟩
  obtain ⟨a',cap',rfl,hO⟩:=own_of_row (by rw [List.length_mergeSort]) hrow
  exact ⟨a',cap',rfl,hO,hb⟩
theorem dup_sort (l:List ByteArray):dup l=decide ((Lib.compact ((l.map toL).mergeSort fun x y=>decide (x≤y))).length<l.length):=by
  have hsl:((l.map toL).mergeSort fun x y=>decide (x≤y)).length=l.length:=by rw [List.length_mergeSort,List.length_map]
  rw [Bool.eq_iff_iff,dup_nodup,decide_eq_true_eq,←hsl,(compact_len (sorted_le _)).1,List.Perm.nodup_iff (List.mergeSort_perm _ _)]
theorem k_doubled (l:List ByteArray) (a:Option Addr) (cap:Nat) (S:Nat→Prop) (w:World) (hS:Sl eStr S w a l):Ret Tryz.prog 90 #[.slice a l.length cap] w fun v w'=>v = .bool (dup l)∧Bl w w':=by
  have hbig:=hS.big
  refine entr (vs:=[.slice a l.length cap]) [0,2,3] tabok Tryz.func90 (by kernel_rfl) ?_
  refine cl (k_values a l.length cap w) ?_
  rintro _ w1 ⟨b,rfl,h1⟩
  refine cl (k_sortV l a cap S w w1 b (hS.bl h1.bl) h1) ?_
  rintro _ w2 ⟨a',cap',rfl,hO,hB2⟩
  have hsl:=sortL_len l
  have hsm:((l.map toL).mergeSort fun x y=>decide (x≤y)).length=l.length:=by rw [List.length_mergeSort,List.length_map]
  refine cl (R:=fun v w'=>∃ cap2,v = .slice a' (Lib.compact ((l.map toL).mergeSort fun x y=>decide (x≤y))).length cap2∧Bl w w') ?_ ?_
  · rcases hO.shape with ⟨rfl,h0,rfl,_⟩ | ⟨g,cur,rfl,hg,hgb,hn,hcs,htk⟩
    · refine ⟨by kernel_rfl,?_⟩
      have he:((l.map toL).mergeSort fun x y=>decide (x≤y))=[]:=List.eq_nil_of_length_eq_zero (by rw [hsm];omega)
      rw [he,h0]
      refine (Tryz.slices_Compact_string_empty none 0 w2).mono ?_
      rintro e w3 ⟨rfl,rfl⟩
      exact ⟨0,rfl,h1.bl.trans hB2⟩
    · refine ⟨by kernel_rfl,?_⟩
      have hH:Holds sEnc w2 g 0 ((l.map toL).mergeSort fun x y=>decide (x≤y)).toArray:=holds_of_block hgb (by rw [map_sEnc,hsm,←hsl];show _=(sortL l).flatMap encStr;simpa using htk)
      have:=Tryz.slices_Compact_string g 0 cap' ((l.map toL).mergeSort fun x y=>decide (x≤y)) w2 hH (by rw [hsm];omega) (by rw [hsm,←hsl];exact hn)
      rw [hsm] at this
      rw [hsl]
      refine this.mono ?_
      rintro e w3 ⟨rfl,q,hw3⟩
      refine ⟨cap',rfl,h1.bl.trans ?_⟩
      rw [←Go.Sort.grow_empty (putRow _ _ _ _ _)] at hw3
      rw [hw3]
      exact grown_bl (grownBy_sorted _) hg hB2.size hB2
  rintro _ w3 ⟨cap2,rfl,hB3⟩
  refine rt1 ⟨vb ?_,hB3⟩
  rw [dup_sort,Bool.eq_iff_iff,decide_eq_true_eq,decide_eq_true_eq];omega
theorem k_Delete {w:World} {base cap:Nat} {a:Option Addr} {l:List ByteArray} (hO:OwP 1 encStr w base 9 a cap l) {k:Nat} (hk:k<l.length) :
    Ret Tryz.prog 161 #[.slice a l.length cap,I k,I ((k+1:Nat):Int)] w fun v w'=>v = .slice a (l.eraseIdx k).length cap∧OwP 1 encStr w' base 9 a cap (l.eraseIdx k)∧Ap w a w':=by
  refine ⟨by kernel_rfl,?_⟩
  rcases hO.shape with ⟨_,h0,_⟩ | ⟨g,cur,rfl,hg,hgb,hn,hcs,htk⟩
  · omega
  obtain ⟨_,hown⟩:=hO.own
  rcases hown with ⟨h1,_⟩ | ⟨g',cap',cur',h1,_,hgb',hn',hmx,hcs',htk'⟩
  · cases h1
  simp only [Value.slice.injEq,Option.some.injEq,Addr.mk.injEq,and_true,true_and] at h1
  obtain ⟨rfl,rfl⟩:=h1
  have hfm:(l.map toL).map sEnc=l.flatMap encStr:=by rw [map_sEnc,List.map_map,show ofL ∘ toL=id from funext ofL_toL,List.map_id]
  have hH:Holds sEnc w g 0 (l.map toL).toArray:=holds_of_block hgb (by rw [hfm,List.length_map];simpa using htk)
  have:=Tryz.slices_Delete_string g 0 cap k (k+1) (l.map toL) w hH (by rw [List.length_map];exact hn) (by unfold maxLen at hmx;omega) (by omega) (by rw [List.length_map];omega)
  rw [List.length_map] at this
  refine this.mono ?_
  rintro e w3 ⟨rfl,q,hw3⟩
  rw [←Go.Sort.grow_empty (putRow _ _ _ _ _)] at hw3
  have hlen:l.length-(k+1-k)=(l.eraseIdx k).length:=by rw [List.length_eraseIdx_of_lt hk];omega
  have htl:(List.take k (l.map toL)++List.drop (k+1) (l.map toL)++List.replicate (k+1-k) []).length=l.length:=by
    simp only [List.length_append,List.length_take,List.length_drop,List.length_map,List.length_replicate];omega
  have hrow:=ownsRow_sorted (w:=w) (base:=base) (g:=g) (cap:=cap) (n:=q) (e:=9) (os:=#[]) (ss:=l.map toL) (ts:=List.take k (l.map toL)++List.drop (k+1) (l.map toL)++List.replicate (k+1-k) []) (by rw [htl,List.length_map]) hg hgb (by rw [List.length_map];exact hn) hmx (by simpa using hcs)
  rw [←hw3,List.length_map] at hrow
  have hO3:Ow w3 base 9 1 (some ⟨g,0,none⟩) l.length cap _:=⟨hrow⟩
  have hO4:=hO3.shrink (m:=(l.eraseIdx k).length) (by rw [List.length_eraseIdx_of_lt hk];omega)
  refine ⟨by rw [hlen],?_,?_⟩
  · have e:List.take ((l.eraseIdx k).length*1) ((List.take k (l.map toL)++List.drop (k+1) (l.map toL)++List.replicate (k+1-k) []).map Go.Proofs.encStr)=(l.eraseIdx k).flatMap encStr:=by
      have e1:List.take k (l.map toL)++List.drop (k+1) (l.map toL)=(l.eraseIdx k).map toL:=by rw [List.eraseIdx_eq_take_drop_succ,List.map_append,List.map_take,List.map_drop]
      have e2:((l.eraseIdx k).map toL).map sEnc=(l.eraseIdx k).flatMap encStr:=by rw [map_sEnc,List.map_map,show ofL ∘ toL=id from funext ofL_toL,List.map_id]
      rw [e1,List.map_append,←e2,Nat.mul_one]
      exact List.take_left' (by simp)
    unfold OwP
    rw [e] at hO4;exact hO4
  · have hgr:w.grownBy w3 (some g):=by rw [hw3];exact grownBy_sorted _
    exact ⟨hgr.os,hgr.tape,hgr.output,hgr.size,fun i hi hne=>hgr.block i hi fun e=>by
      simp only [Option.some.injEq] at e;exact hne (by rw [e])⟩
def idxI (o:Option Nat):Int:=match o with
  | some k=>k
  | none => -1
theorem find_snoc {p:ByteArray→Bool} {l:List ByteArray} {k:Nat} {x:ByteArray} (hx:l[k]? = some x) (h:(l.take k).any p=false) (h2:p x=true):l.findIdx? p=some k:=by
  have hk:k<l.length:=(List.getElem?_eq_some_iff.1 hx).1
  rw [List.findIdx?_eq_some_iff_getElem]
  refine ⟨hk,?_,fun j hj => ?_⟩
  · have:=List.getElem?_eq_some_iff.1 hx;obtain ⟨_,e⟩:=this;rw [e];exact h2
  · have:l[j]'(by omega)∈l.take k:=List.mem_take_iff_getElem.2 ⟨j,by omega,rfl⟩
    have h3:=List.any_eq_false.1 h _ this
    simpa using h3
theorem find_none {p:ByteArray→Bool} {l:List ByteArray} (h:l.any p=false):l.findIdx? p=none:=by
  rw [List.findIdx?_eq_none_iff]
  intro x hx
  have:=List.any_eq_false.1 h x hx
  simpa using this
theorem k_IndexFunc (l:List ByteArray) (a:Option Addr) (cap:Nat) (g:FuncId) (caps:List Value) (p:ByteArray→Bool) (S:Nat→Prop) (w:World) (hS:Sl eStr S w a l)
    (hp:∀ x,x∈l→∀ w',Bl w w'→Ret Tryz.prog g ([Value.string x]++caps).toArray w' fun v w''=>v = .bool (p x)∧Bl w' w'') :
    Ret Tryz.prog 158 #[.slice a l.length cap,.func (.func g) #[] caps.toArray] w fun v w'=>v=I (idxI (l.findIdx? p))∧Bl w w':=by
  refine entr (vs:=[.slice a l.length cap,.func (.func g) #[] caps.toArray]) [0,1,4,5,7,8,9,16] tabok Tryz.func158 (by kernel_rfl) ?_
  have hbig:=hS.big
  refine lp [8] [(0,.slice a l.length cap),(1,.func (.func g) #[] caps.toArray),(7,I l.length)] (fun m vals w'=>∃ k:Nat,m=l.length-k∧k≤l.length∧vals=[I k]∧(l.take k).any p=false∧Bl w w') ⟨rfl,rfl,rfl,trivial⟩ ⟨0,rfl,Nat.zero_le _,rfl,rfl,Bl.refl _⟩ ?_
  rintro m vals w1 ⟨k,rfl,hk,rfl,ha,hB⟩ ih
  by_cases hlt:k<l.length
  · refine brT ?_
    obtain ⟨x,b,o,cs,hx,rfl,hSb,hAt,rfl⟩:=at_some (hS.bl hB) hlt
    refine ix ?_
    refine ld (hAt 0 _ rfl) ?_
    refine cl (hp x (List.mem_of_getElem? hx) _ hB) ?_
    rintro _ w2 ⟨rfl,hB2⟩
    refine br (fun h => ?_) (fun h => ?_)
    · exact rt1 ⟨by rw [find_snoc hx ha h],hB.trans hB2⟩
    · refine again (ih _ _ _ _ (by omega) ⟨rfl,rfl,rfl,trivial⟩ rfl ⟨k+1,rfl,by omega,lst1 (inc hlt),any_snoc hx ha h,hB.trans hB2⟩)
  · refine brF ?_
    obtain rfl:k=l.length:=by omega
    exact rt1 ⟨by rw [find_none (any_end ha)],hB⟩
end Go.Proofs.YtkmdfjpafkcleaaGreatDoor
namespace Go.Proofs.YtkmdfjpafkcleaaGreatDoor
open Eng Go.RowKit
structure NeedF (S:List ByteArray) (g:FuncId) (first caps:List Value) (needs:ByteArray→List ByteArray) (w:World):Prop where
  run:∀ x∈S,∀ w',Bl w w'→Ret Tryz.prog g (first++([Value.string x]++caps)).toArray w' fun v w''=>∃ a c,v = .slice a (needs x).length c∧Sl eStr T w'' a (needs x)∧Bl w' w''
theorem k_placed {w:World} {b mb:Nat} {P:Mp Bool} (hb:w.cell? ⟨b,0,none⟩=some (.map (some mb))) (hM:MapIs Value.bool w mb P) (x:ByteArray) :
    Ret Tryz.prog 160 #[.string x,.pointer (some ⟨b,0,none⟩)] w fun v w'=>v = .bool (!((getM P x).getD false))∧w'=w:=by
  refine entr (vs:=[.string x,.pointer (some ⟨b,0,none⟩)]) [0,1,3] tabok Tryz.func160 (by kernel_rfl) ?_
  refine ld hb ?_
  refine lk tB hM ?_
  rw [show ((getM P x).map Value.bool).getD (.bool false) = .bool ((getM P x).getD false) from getD_enc Value.bool _ false]
  exact rt1 ⟨rfl,rfl⟩
theorem k_ready {w:World} {S:List ByteArray} {g:FuncId} {first caps:List Value} {needs:ByteArray→List ByteArray} (hN:NeedF S g first caps needs w) {b3 b mb:Nat} {P:Mp Bool} (h3:w.cell? ⟨b3,0,none⟩=some (.func (.func g) first.toArray caps.toArray))
    (hb:w.cell? ⟨b,0,none⟩=some (.map (some mb))) (hM:MapIs Value.bool w mb P) {x:ByteArray} (hx:x∈S) :
    Ret Tryz.prog 159 #[.string x,.pointer (some ⟨b3,0,none⟩),.pointer (some ⟨b,0,none⟩)] w fun v w'=>v = .bool ((needs x).all fun y=>(getM P y).getD false)∧Bl w w':=by
  refine entr (vs:=[.string x,.pointer (some ⟨b3,0,none⟩),.pointer (some ⟨b,0,none⟩)]) [0,1,2,4] tabok Tryz.func159 (by kernel_rfl) ?_
  refine ld h3 ?_
  refine cl (hN.run x hx w (Bl.refl w)) ?_ (hav:=by simp)
  rintro _ w1 ⟨a,c,rfl,hS,B1⟩
  refine cl (ContainsFunc_str (needs x) a c 160 [.pointer (some ⟨b,0,none⟩)] (fun y => !((getM P y).getD false)) T w1 hS fun y cs hy w' k hr => ?_) ?_
  · obtain rfl:cs=[.string y]:=hr
    exact (k_placed ((B1.trans k).cl hb) (hM.bl (B1.trans k)) y).mono fun v w'' r=>⟨r.1,by rw [r.2];exact Bl.refl _⟩
  rintro _ w2 ⟨rfl,B2⟩
  refine rt1 ⟨vb ?_,B1.trans B2⟩
  rw [List.not_any_eq_all_not]
  congr 1
  funext y
  simp
theorem Eng.Ow.apart {w w':World} {base e esz n cap:Nat} {a a2:Option Addr} {xs:List Value} (h:Ow w base e esz a n cap xs) (k:Ap w a2 w') (hne:∀ g,a=some ⟨g,0,none⟩→a2≠some ⟨g,0,none⟩):Ow w' base e esz a n cap xs:=h.same fun g hg=>k.block g (h.lt hg).2 (hne g hg)
theorem hasB_snoc (O:List ByteArray) (x y:ByteArray):hasB (O++[x]) y=(hasB O y||decide (x=y)):=by
  unfold hasB
  rw [List.any_append];simp
structure PlI (needs:ByteArray→List ByteArray) (names:List ByteArray) (w0:World) (b3 b7 mb:Nat) (fv:Value) (L O:List ByteArray) (a6:Option Addr) (c6:Nat) (a8:Option Addr) (c8:Nat) (P:Mp Bool) (w:World):Prop where
  o6:OwP 1 encStr w w0.heap.size 9 a6 c6 L
  o8:OwP 1 encStr w w0.heap.size 9 a8 c8 O
  ne:∀ g,a6=some ⟨g,0,none⟩→a8≠some ⟨g,0,none⟩
  mp:MapIs Value.bool w mb P
  hp:∀ x,(getM P x).getD false=hasB O x
  x7:Box w b7 85 [.map (some mb)]
  x3:Box w b3 153 [fv]
  bl:Bl w0 w
  mb0:w0.heap.size≤mb
  sub:∀ x∈L,x∈names
  eq:placeL needs L.length L O=orderL needs names
  len:O.length+L.length=names.length
set_option maxHeartbeats 1000000 in
theorem k_place {w:World} {names:List ByteArray} {an:Option Addr} {cn:Nat} {g:FuncId} {first caps:List Value} {needs:ByteArray→List ByteArray} (hS:Sl eStr T w an names) (hN:NeedF names g first caps needs w) :
    Ret Tryz.prog 93 #[.slice an names.length cn,.func (.func g) first.toArray caps.toArray] w fun v w'=>Bl w w'∧match orderL needs names with
      | none=>v = .tuple #[.slice none 0 0,.bool false]
      | some o=>∃ a c,v = .tuple #[.slice a o.length c,.bool true]∧OwP 1 encStr w' w.heap.size 9 a c o:=by
  have hbig:=hS.big
  refine entr (vs:=[.slice an names.length cn,.func (.func g) first.toArray caps.toArray]) [0,1,3,4,5,6,7,8,9,16,21] tabok Tryz.func93 (by kernel_rfl) ?_
  refine bx (cs:=[.func (.func g) first.toArray caps.toArray]) fun b3 w1 k1 => ?_
  refine cl (k_values an names.length cn w1) ?_
  rintro _ w2 ⟨b2,rfl,h2⟩
  have B2:=k1.bl.trans h2.bl
  refine cl (k_sortV names an cn T w1 w2 b2 (hS.bl B2) h2) ?_
  rintro _ w3 ⟨a6,c6,rfl,O6,B23⟩
  have B3:=B2.trans B23
  refine mm fun mb w4 k4 => ?_
  refine al fun b7 w5 k5 => ?_
  refine st k5.box fun w6 k6 x6 => ?_
  have B36:Bl w3 w6:=k4.bl.trans (k5.wr k6)
  have B6:=B3.trans B36
  have hne7:mb≠b7:=by have:=k4.blk;have:=k4.size;have:=k5.blk;omega
  have hM6:MapIs Value.bool w6 mb []:=(k4.is Value.bool).bl (k5.wr k6)
  have x36:Box w6 b3 153 [.func (.func g) first.toArray caps.toArray]:=Bl.box ((h2.bl.trans B23).trans B36) k1.box
  refine lp [6,8] [(3,.pointer (some ⟨b3,0,none⟩)),(7,.pointer (some ⟨b7,0,none⟩))]
    (fun m vals w'=>∃ L O a6 c6 a8 c8 P,m=L.length∧vals=[.slice a6 L.length c6,.slice a8 O.length c8]∧PlI needs names w b3 b7 mb (.func (.func g) first.toArray caps.toArray) L O a6 c6 a8 c8 P w')
    ⟨rfl,rfl,trivial⟩ ⟨sortL names,[],a6,c6,none,0,[],rfl,rfl,⟨(O6.bl B36).base (by have:=B2.size;omega),Ow.nil ..,(fun _ _ h=>by cases h),hM6,(fun _=>rfl),x6,x36,B6,(by have:=k4.blk;have:=B3.size;omega),(fun x hx => ?_),?_,?_⟩⟩ ?_
  · unfold sortL at hx
    obtain ⟨y,hy,rfl⟩:=List.mem_map.1 hx
    obtain ⟨z,hz,rfl⟩:=List.mem_map.1 (List.mem_mergeSort.1 hy)
    rw [ofL_toL];exact hz
  · unfold orderL;rw [sortL_len]
  · rw [sortL_len];simp
  clear hM6 x36 x6 O6
  rintro m vals w7 ⟨L,O,a6,c6,a8,c8,P,rfl,rfl,hI⟩ ih
  cases hL:L with
  | nil =>
    subst hL
    refine brF ?_ (hp:=by simp)
    have:=hI.eq
    simp only [List.length_nil,placeL] at this
    refine rt2 ⟨hI.bl,?_⟩
    rw [←this]
    exact ⟨a8,c8,rfl,hI.o8⟩
  | cons x0 L0 =>
    rw [←hL]
    have hpos:0<L.length:=by rw [hL];simp
    refine brT ?_
    have N7:NeedF L g first caps needs w7:=⟨fun x hx w' k=>hN.run x (hI.sub x hx) w' (hI.bl.trans k)⟩
    have hlL:L.length≤4194304:=by have:=hI.len;omega
    have hlO:O.length≤4194304:=by have:=hI.len;omega
    refine cl (k_IndexFunc L a6 c6 159 [.pointer (some ⟨b3,0,none⟩),.pointer (some ⟨b7,0,none⟩)] (fun x=>(needs x).all fun y=>hasB O y) T w7 (owp_sl hI.o6 hlL fun _ _=>trivial) fun x hx w' k => ?_) ?_
    · have:=k_ready (S:=L) (g:=g) (first:=first) (caps:=caps) (needs:=needs) (w:=w') ⟨fun x hx w'' k'=>N7.run x hx w'' (k.trans k')⟩ (b3:=b3) (b:=b7) (mb:=mb) (P:=P) (k.cl (hI.x3.cell rfl)) (k.cl (hI.x7.cell rfl)) (hI.mp.bl k) hx
      refine this.mono fun v w'' r=>⟨?_,r.2⟩
      rw [r.1]
      congr 2
      funext y
      exact hI.hp y
    rintro _ w8 ⟨rfl,B78⟩
    have heq:=hI.eq
    obtain ⟨n,hn⟩:∃ n,L.length=n+1:=⟨L.length-1,by omega⟩
    rw [hn] at heq
    simp only [placeL] at heq
    cases hf:L.findIdx? (fun x=>(needs x).all fun y=>hasB O y) with
    | none =>
      rw [hf] at heq
      refine brT ?_ (hp:=by decide)
      refine rt2 ⟨hI.bl.trans B78,?_⟩
      rw [←heq]
    | some k =>
      rw [hf] at heq
      have hk:k<L.length:=by
        obtain ⟨h1,_⟩:=List.findIdx?_eq_some_iff_getElem.1 hf
        exact h1
      obtain ⟨x,hx⟩:=some_of_lt hk
      have hgx:L.getD k nost=x:=by rw [List.getD_eq_getElem?_getD,hx];rfl
      simp only [hgx] at heq
      refine brF ?_ (hp:=by show ¬((k:Int)<0);omega)
      have o68:=hI.o6.bl B78
      have S8:=owp_sl (S:=T) o68 hlL fun _ _=>trivial
      obtain ⟨x',b9,o9,cs9,hx',rfl,_,hAt9,rfl⟩:=at_some S8 hk
      rw [hx] at hx'
      obtain rfl:=Option.some.inj hx'
      refine dt 1 fun w9 k9 => ?_
      have B79:=B78.trans k9.bl
      refine ld (B79.cl (hI.x7.cell rfl)) ?_
      refine ix (j:=k) ?_
      refine ld ((hAt9.bl k9.bl) 0 _ rfl) ?_
      refine mu true tB (hI.mp.bl B79) fun w10 k10 hM10 => ?_
      have hmb0:=hI.mb0
      have B10:Bl w w10:=Below.trans (hI.bl.trans B79) (k10.below hmb0)
      have hM9:=hI.mp.bl B79
      have x79:=Bl.box B79 hI.x7
      have x39:=Bl.box B79 hI.x3
      have x710:=k10.box x79 (hM9.ne x79).symm
      have x310:=k10.box x39 (hM9.ne x39).symm
      have o69:=o68.bl k9.bl
      have o89:=hI.o8.bl B79
      have o610:=o69.wr k10 fun g hg e=>hM9.ow o69 (by rw [hg,e])
      have o810:=o89.wr k10 fun g hg e=>hM9.ow o89 (by rw [hg,e])
      obtain ⟨x',b10,o10,cs10,hx',e10,_,hAt10,rfl⟩:=at_some (owp_sl (S:=T) o610 hlL fun _ _=>trivial) hk
      rw [hx] at hx'
      obtain rfl:=Option.some.inj hx'
      simp only [Option.some.injEq,Addr.mk.injEq,and_true] at e10
      obtain ⟨rfl,rfl⟩:=e10
      refine ix (j:=k) ?_
      refine ld (hAt10 0 _ rfl) ?_
      refine bs fun b11 w11 k11 => ?_
      have B11:=B10.trans k11.bl
      have o611:=o610.bl k11.bl
      have o811:=o810.bl k11.bl
      refine apl (l1:=[x]) o811 (.inr ⟨b11,0,rfl,k11.box.at⟩) B11.size (fun a12 c12 w12 o812 A12 f12 => ?_) (hb:=by simp only [List.length_cons,List.length_nil];omega) (hn:=by simp only [List.length_cons,List.length_nil];omega)
      have B12:Bl w w12:=Eng.Ow.below o811 A12 B11 B11.size
      have o612:=o611.apart A12 fun g hg e=>hI.ne g hg e
      have x712:=A12.box (Bl.box k11.bl x710) (o811.nbox (Bl.box k11.bl x710) (by decide))
      have x312:=A12.box (Bl.box k11.bl x310) (o811.nbox (Bl.box k11.bl x310) (by decide))
      have hM12:=(hM10.bl k11.bl).ap A12 ((hM10.bl k11.bl).ow o811)
      have ne12:∀ g,some (⟨b9,o9,none⟩:Addr)=some ⟨g,0,none⟩→a12≠some ⟨g,0,none⟩:=fun g hg e=>by
        rcases f12 g e with q | q
        · exact hI.ne g hg q
        · have:=(o611.lt hg).2;omega
      have hD:=k_Delete o612 hk
      rw [←inc hk] at hD
      refine cl hD ?_
      rintro _ w13 ⟨rfl,o613,A13⟩
      have hle:(L.eraseIdx k).length=n:=by rw [List.length_eraseIdx_of_lt hk];omega
      refine again (ih _ _ _ _ (by rw [hle,hn];exact Nat.lt_succ_self n) ⟨rfl,rfl,trivial⟩ rfl ⟨L.eraseIdx k,O++[x],_,c6,a12,c12,putM P x true,rfl,rfl,⟨o613,o812.apart A13 (fun g hg e=>ne12 g e hg),ne12,hM12.ap A13 (hM12.ow o612),fun y => ?_,A13.box x712 (o612.nbox x712 (by decide)),A13.box x312 (o612.nbox x312 (by decide)),
        Eng.Ow.below o612 A13 B12 B12.size,hmb0,fun y hy=>hI.sub y (List.mem_of_mem_eraseIdx hy),?_,?_⟩⟩)
      · rw [putM_get,hasB_snoc,←hI.hp y]
        by_cases hxy:x=y
        · simp [hxy]
        · simp [hxy]
      · rw [hle,←heq]
      · rw [hle,List.length_append]
        have:=hI.len
        simp only [List.length_cons,List.length_nil];omega
end Go.Proofs.YtkmdfjpafkcleaaGreatDoor
namespace Go.Proofs.YtkmdfjpafkcleaaGreatDoor
open Eng Go.RowKit Go.Sort Go.Maps
open Go.WideShapes (sorted_perm)
abbrev anyR:Value→Option (DataW Unit×List MemPlace):=fun _=>some (.lit (.bool true),[])
theorem owns_of {α:Type} {enc:α→Value} {w:World} {b:Nat} {m:Mp α} (hM:MapIs enc w b m) (hn:m.length≤1000) (hs:∀ p∈m,p.1.size≤maxLen) :
    ∃ D:DataW Unit,w.ownsMap Tryz.prog 9 anyR b m.length D∧(strKeys D).Perm ((keysM m).map toL)∧Maps.size D=m.length:=by
  obtain ⟨es,clock,h1,h2,h3⟩:=hM.is
  have hlen:es.size=m.length:=by have:=congrArg List.length h2;simpa using this
  have hk:∀ x∈es.toList,∃ s:ByteArray,x.key = .string s∧s.size≤maxLen:=fun x hx=>by
    have:kv x∈m.map (kvm enc):=h2▸List.mem_map.2 ⟨x,hx,rfl⟩
    obtain ⟨p,hp,e⟩:=List.mem_map.1 this
    exact ⟨p.1,(congrArg Prod.fst e).symm,hs p hp⟩
  have hrd:∀ x∈es.toList,∀ s:ByteArray,x.key = .string s→Go.WideElems.rd Tryz.prog 9 anyR x=some (.string s.data.toList,.lit (.bool true)):=fun x hx s e=>by
    obtain ⟨s',e',hs'⟩:=hk x hx
    rw [e] at e'
    obtain rfl:=Value.string.inj e'
    unfold Go.WideElems.rd
    rw [e,Go.WideMaps.keyOf_string_mk Tryz.underlying9 hs'];rfl
  refine ⟨_,⟨es,clock,h1,⟨by rw [hlen];unfold maxLen;omega,h3,fun x hx => ?_⟩,Nat.le_of_eq hlen,rfl⟩,?_,?_⟩
  · obtain ⟨s,e,_⟩:=hk x hx
    exact ⟨_,hrd x hx s e⟩
  · have hp:=(sorted_perm (es.toList.map (Go.WideElems.rg Tryz.prog 9 anyR))).map fun p:Lit×DataW Unit=>strOf p.1
    refine hp.trans (List.Perm.of_eq ?_)
    have key:∀ (L:List MapEntry) (m:Mp α),(∀ x∈L,x∈es.toList)→L.map kv=m.map (kvm enc)→(L.map (Go.WideElems.rg Tryz.prog 9 anyR)).map (fun p:Lit×DataW Unit=>strOf p.1)=(keysM m).map toL:=by
      intro L
      induction L with
      | nil=>intro m _ h;cases m with
        | nil=>rfl
        | cons p m=>simp at h
      | cons x L ih =>
        intro m hin h
        cases m with
        | nil=>simp at h
        | cons p m =>
          simp only [List.map_cons,List.cons.injEq] at h
          have:=hrd x (hin x (List.mem_cons_self ..)) p.1 (congrArg Prod.fst h.1)
          have ih':=ih m (fun y hy=>hin y (List.mem_cons_of_mem _ hy)) h.2
          have e1:strOf (Go.WideElems.rg Tryz.prog 9 anyR x).1=toL p.1:=by rw [Go.WideElems.rg_of this];rfl
          exact congr (congrArg List.cons e1) ih'
    exact key es.toList m (fun _ h=>h) h2
  · rw [Maps.size_eq,(sorted_perm _).length_eq,List.length_map,Array.length_toList,hlen]
theorem map_tL (L:List (List UInt8)):(L.map ofL).map toL=L:=by
  rw [List.map_map]
  conv=>rhs;rw [←List.map_id L]
  exact List.map_congr_left fun x _=>toL_ofL x
theorem k_KeysD (b:Nat) (w:World):Ret Tryz.prog 100 #[.map (some b)] w fun v w'=>∃ b1,v = .func (.func 165) #[] #[.pointer (some ⟨b1,0,none⟩)]∧New w b1 83 [.map (some b)] w':=by
  refine entr (vs:=[.map (some b)]) [0,1,2] tabok Tryz.func100 (by kernel_rfl) ?_
  refine bx (cs:=[.map (some b)]) fun b1 w1 h1 => ?_
  exact rt1 ⟨b1,rfl,h1⟩
theorem k_KeysN (b:Nat) (w:World):Ret Tryz.prog 101 #[.map (some b)] w fun v w'=>∃ b1,v = .func (.func 166) #[] #[.pointer (some ⟨b1,0,none⟩)]∧New w b1 84 [.map (some b)] w':=by
  refine entr (vs:=[.map (some b)]) [0,1,2] tabok Tryz.func101 (by kernel_rfl) ?_
  refine bx (cs:=[.map (some b)]) fun b1 w1 h1 => ?_
  exact rt1 ⟨b1,rfl,h1⟩
theorem k_keys {w:World} {b:Nat} {m:Mp (Nat×Nat)} (hM:MapIs encD w b m) (hn:m.length≤1000) (hs:∀ p∈m,p.1.size≤maxLen) :
    Ret Tryz.prog 94 #[.map (some b)] w fun v w'=>∃ a c l,v = .slice a l.length c∧OwP 1 encStr w' w.heap.size 9 a c l∧(l.map toL).Perm ((keysM m).map toL)∧Bl w w':=by
  refine entr (vs:=[.map (some b)]) [0,2] tabok Tryz.func94 (by kernel_rfl) ?_
  refine cl (k_KeysD b w) ?_
  rintro _ w1 ⟨b1,rfl,h1⟩
  refine cl (R:=fun v w'=>∃ a c l,v = .slice a l.length c∧OwP 1 encStr w' w1.heap.size 9 a c l∧(l.map toL).Perm ((keysM m).map toL)∧Bl w1 w') ?_ ?_
  · refine ⟨by kernel_rfl,?_⟩
    obtain ⟨D,hown,hperm,hsz⟩:=owns_of (hM.bl h1.bl) hn hs
    have key:=AnyZ.collect_in Tryz.zCollect Fence.wide 6 trivial trivial rfl (by omega) 165 #[.pointer (some ⟨b1,0,none⟩)] trivial (enters_of Tryz.func165 (by kernel_rfl) rfl)
      (fun ss=>ss.Perm (strKeys D)) (Maps.size D) (by rw [hsz];unfold maxLen;omega) (by rw [hsz];omega) w1 (AnyZ.keys_gives Tryz.zItD Fence.wide _ trivial rfl (by omega) b1 b m.length D w1 h1.box.lt (h1.box.cell rfl) hown)
    refine (callsIn_wide.1 key).mono ?_
    rintro e w' ⟨v,ss,rfl,hp,hrow,_,hb⟩
    obtain ⟨a',cap',rfl,hO⟩:=own_of_row rfl hrow
    exact ⟨a',cap',_,rfl,hO,by rw [map_tL];exact hp.trans hperm,hb⟩
  rintro _ w2 ⟨a,c,l,rfl,hO,hp,B2⟩
  exact rt1 ⟨a,c,l,rfl,hO.base (by rw [h1.size];omega),hp,h1.bl.trans B2⟩
theorem sort_perm {a b:List (List UInt8)} (h:a.Perm b):a.mergeSort (fun x y=>decide (x≤y))=b.mergeSort (fun x y=>decide (x≤y)):=mergeSort_of_perm h
theorem sortL_perm {a b:List ByteArray} (h:(a.map toL).Perm (b.map toL)):sortL a=sortL b:=by
  show ((a.map toL).mergeSort _).map ofL=((b.map toL).mergeSort _).map ofL
  rw [sort_perm h]
theorem k_sortK {α:Type} {enc:α→Value} {g:FuncId} {w0 w:World} {b1 b:Nat} {t:TypeId} {m:Mp α} (hM:MapIs enc w b m) (hn:m.length≤1000) (hs:∀ p∈m,p.1.size≤maxLen) (_h1:New w0 b1 t [.map (some b)] w)
    (hg:∀ args w,(callFunc g args).run Tryz.prog w = .ok (.enter g args) w) (hgives:∀ D:DataW Unit,w.ownsMap Tryz.prog 9 anyR b m.length D→SeqGives Fence.wide 3 Tryz.prog g #[.pointer (some ⟨b1,0,none⟩)] Go.Proofs.encStr (fun ss=>ss.Perm (strKeys D)) (Maps.size D) w) :
    Ret Tryz.prog 99 #[.func (.func g) #[] #[.pointer (some ⟨b1,0,none⟩)]] w fun v w'=>∃ a c,v = .slice a (sortL (keysM m)).length c∧OwP 1 encStr w' w.heap.size 9 a c (sortL (keysM m))∧Bl w w':=by
  obtain ⟨D,hown,hperm,hsz⟩:=owns_of hM hn hs
  refine ⟨by kernel_rfl,?_⟩
  have key:=AnyZ.sorted_in Tryz.zSorted Fence.wide 6 trivial trivial trivial trivial rfl (by omega)
    ⟨fun blk off cap ss W hH hblk hsz=>callsIn_wide.2 (Tryz.slices_Sort_string blk off cap ss W hH hblk hsz),fun p cap W=>callsIn_wide.2 (Tryz.slices_Sort_string_none p cap W)⟩ (enters_of Tryz.func164 (by kernel_rfl) rfl)
    g #[.pointer (some ⟨b1,0,none⟩)] trivial hg (fun ss=>ss.Perm (strKeys D)) (Maps.size D) (by rw [hsz];unfold maxLen;omega) (by rw [hsz];omega) w (hgives D hown)
  refine (callsIn_wide.1 key).mono ?_
  rintro e w' ⟨v,ss,rfl,hp,hrow,_,hb⟩
  have e2:ss.mergeSort (fun x y=>decide (x≤y))=((keysM m).map toL).mergeSort (fun x y=>decide (x≤y)):=sort_perm (hp.trans hperm)
  rw [e2] at hrow
  obtain ⟨a',cap',rfl,hO⟩:=own_of_row (by rw [List.length_mergeSort,←(hp.trans hperm).length_eq]) hrow
  exact ⟨a',cap',rfl,hO,hb⟩
theorem k_sortD {w0 w:World} {b1 b:Nat} {m:Mp (Nat×Nat)} (hM:MapIs encD w b m) (hn:m.length≤1000) (hs:∀ p∈m,p.1.size≤maxLen) (h1:New w0 b1 83 [.map (some b)] w) :
    Ret Tryz.prog 99 #[.func (.func 165) #[] #[.pointer (some ⟨b1,0,none⟩)]] w fun v w'=>∃ a c,v = .slice a (sortL (keysM m)).length c∧OwP 1 encStr w' w.heap.size 9 a c (sortL (keysM m))∧Bl w w' :=
  k_sortK hM hn hs h1 (enters_of Tryz.func165 (by kernel_rfl) rfl) fun D hown=>AnyZ.keys_gives Tryz.zItD Fence.wide 3 trivial rfl (by omega) b1 b m.length D w h1.box.lt (h1.box.cell rfl) hown
theorem k_sortN {w0 w:World} {b1 b:Nat} {m:Mp Rs} (hM:MapIs encR w b m) (hn:m.length≤1000) (hs:∀ p∈m,p.1.size≤maxLen) (h1:New w0 b1 84 [.map (some b)] w) :
    Ret Tryz.prog 99 #[.func (.func 166) #[] #[.pointer (some ⟨b1,0,none⟩)]] w fun v w'=>∃ a c,v = .slice a (sortL (keysM m)).length c∧OwP 1 encStr w' w.heap.size 9 a c (sortL (keysM m))∧Bl w w' :=
  k_sortK hM hn hs h1 (enters_of Tryz.func166 (by kernel_rfl) rfl) fun D hown=>AnyZ.keys_gives Tryz.zItN Fence.wide 3 trivial rfl (by omega) b1 b m.length D w h1.box.lt (h1.box.cell rfl) hown
end Go.Proofs.YtkmdfjpafkcleaaGreatDoor
namespace Go.Proofs.YtkmdfjpafkcleaaGreatDoor
open Go.RowKit
def Placed (needs:ByteArray→List ByteArray) (o:List ByteArray):Prop:=∀ (i:Nat) x,o[i]? = some x→∀ y∈needs x,y∈o.take i
theorem placeL_placed {needs:ByteArray→List ByteArray}:∀ {n:Nat} {left out o:List ByteArray},Placed needs out→placeL needs n left out=some o→Placed needs o
  | 0,left,out,o,h,e=>by simp only [placeL] at e;obtain rfl:=Option.some.inj e;exact h
  | n+1,left,out,o,h,e=>by
    simp only [placeL] at e
    cases hf:left.findIdx? (fun x=>(needs x).all fun y=>hasB out y) with
    | none=>rw [hf] at e;cases e
    | some k =>
      rw [hf] at e
      refine placeL_placed ?_ e
      obtain ⟨hk,hp,_⟩:=List.findIdx?_eq_some_iff_getElem.1 hf
      have hx:left.getD k nost=left[k]:=by rw [List.getD_eq_getElem?_getD,List.getElem?_eq_getElem hk];rfl
      rw [hx]
      intro i x hi y hy
      rcases Nat.lt_or_ge i out.length with q | q
      · rw [List.getElem?_append_left q] at hi
        rw [List.take_append_of_le_length (Nat.le_of_lt q)]
        exact h i x hi y hy
      · rw [List.getElem?_append_right q] at hi
        have h0:i-out.length=0:=by
          have:=(List.getElem?_eq_some_iff.1 hi).1
          simp at this;omega
        rw [h0] at hi
        simp only [List.getElem?_cons_zero,Option.some.injEq] at hi
        subst hi
        have hi2:i=out.length:=by omega
        subst hi2
        rw [List.take_left]
        exact hasB_iff.1 (List.all_eq_true.1 hp y hy)
theorem placeL_perm {needs:ByteArray→List ByteArray}:∀ {n:Nat} {left out o:List ByteArray},left.length=n→placeL needs n left out=some o→o.Perm (out++left)
  | 0,left,out,o,h,e=>by
    simp only [placeL] at e
    obtain rfl:=Option.some.inj e
    rw [List.eq_nil_of_length_eq_zero h,List.append_nil]
  | n+1,left,out,o,h,e=>by
    simp only [placeL] at e
    cases hf:left.findIdx? (fun x=>(needs x).all fun y=>hasB out y) with
    | none=>rw [hf] at e;cases e
    | some k =>
      rw [hf] at e
      obtain ⟨hk,hp,_⟩:=List.findIdx?_eq_some_iff_getElem.1 hf
      have hx:left.getD k nost=left[k]:=by rw [List.getD_eq_getElem?_getD,List.getElem?_eq_getElem hk];rfl
      simp only [hx] at e
      have:=placeL_perm (by rw [List.length_eraseIdx_of_lt hk];omega) e
      refine this.trans ?_
      rw [List.append_assoc]
      refine List.Perm.append_left _ ?_
      have e2:left=left.take k++left[k]::left.drop (k+1):=by rw [←List.drop_eq_getElem_cons hk,List.take_append_drop]
      rw [List.eraseIdx_eq_take_drop_succ]
      conv=>rhs;rw [e2]
      exact (List.perm_middle (a:=left[k]) (l₁:=left.take k) (l₂:=left.drop (k+1))).symm
theorem sortL_perm' (l:List ByteArray):(sortL l).Perm l:=by
  unfold sortL
  refine ((List.mergeSort_perm _ _).map ofL).trans ?_
  rw [List.map_map,show (ofL ∘ fun s:ByteArray=>s.data.toList)=id from funext ofL_toL,List.map_id]
theorem orderL_perm {needs:ByteArray→List ByteArray} {names o:List ByteArray} (h:orderL needs names=some o):o.Perm names:=by
  have:=placeL_perm (sortL_len names) h
  rw [List.nil_append] at this
  exact this.trans (sortL_perm' names)
theorem orderL_placed {needs:ByteArray→List ByteArray} {names o:List ByteArray} (h:orderL needs names=some o):Placed needs o :=
  placeL_placed (fun i x hi=>by simp at hi) h
theorem orderL_names {needs:ByteArray→List ByteArray} {a b:List ByteArray} (h:(a.map toL).Perm (b.map toL)):orderL needs a=orderL needs b:=by
  unfold orderL
  rw [sortL_perm h,show a.length=b.length by simpa using h.length_eq]
theorem mem_keys {α:Type} {m:Mp α} {k:ByteArray} (h:k∈keysM m):∃ v,getM m k=some v:=by
  induction m with
  | nil=>cases h
  | cons p m ih =>
    obtain ⟨k0,v0⟩:=p
    simp only [getM]
    by_cases e:k0=k
    · exact ⟨v0,by rw [if_pos e]⟩
    · rw [if_neg e]
      rcases List.mem_cons.1 h with q | q
      · exact absurd q.symm e
      · exact ih q
variable {us:List Unt}
theorem clsI_of {c s m:Nat} {D:Dcl} (h:DOk us c s m D) {p:ByteArray} (hp:p∈keysM D.classes):∃ n k u x,ClsI us D p n k u x:=by
  obtain ⟨⟨n,k⟩,hg⟩:=mem_keys hp
  obtain ⟨⟨u,x⟩,hx⟩:=h.cl p _ hg
  unfold clsAt at hx
  simp only [Option.bind_eq_some_iff,Option.map_eq_some_iff,Prod.mk.injEq] at hx
  obtain ⟨u',hu,x',hx',rfl,rfl⟩:=hx
  exact ⟨n,k,u',x',hg,hu,hx'⟩
theorem mthI_at {d:Option (Nat×Nat)} {e:Nat×Nat} (hd:d=some e) (h:∃ x,mthAt us e=some x):∃ n k u m,MthI us d n k u m:=by
  obtain ⟨⟨u,x⟩,hx⟩:=h
  unfold mthAt at hx
  simp only [Option.bind_eq_some_iff,Option.map_eq_some_iff,Prod.mk.injEq] at hx
  obtain ⟨u',hu,x',hx',rfl,rfl⟩:=hx
  exact ⟨e.1,e.2,u',x',hd,hu,hx'⟩
theorem mthI_of {c s m:Nat} {D:Dcl} (h:DOk us c s m D) {p:ByteArray} (hp:p∈keysM D.calls++keysM D.sends):∃ n k u x,MthI us (mthD D p) n k u x:=by
  unfold mthD
  cases hg:getM D.calls p with
  | some d=>exact mthI_at rfl (h.ca p d hg)
  | none =>
    rcases List.mem_append.1 hp with q | q
    · obtain ⟨v,hv⟩:=mem_keys q;rw [hg] at hv;cases hv
    · obtain ⟨v,hv⟩:=mem_keys q
      exact mthI_at hv (h.se p v hv)
theorem sendI_of {c s m:Nat} {D:Dcl} (h:DOk us c s m D):∀ q∈D.named,∀ p∈q.2,∃ n k u x,MthI us (getM D.sends p) n k u x:=fun q hq p hp=>by
  obtain ⟨v,hv⟩:=Option.isSome_iff_exists.1 (h.na q hq p hp)
  exact mthI_at hv (h.se p v hv)
theorem deep_mono {D:Dcl}:∀ {m:Nat} {p:ByteArray},Deep us D m p→Deep us D (m+1) p
  | 0,_,h=>h.elim
  | _+1,_,⟨h1,h2⟩=>⟨h1,h2.imp id deep_mono⟩
theorem deep_le {D:Dcl} {m n:Nat} {p:ByteArray} (h:Deep us D m p) (hmn:m≤n):Deep us D n p:=by
  induction hmn with
  | refl=>exact h
  | step _ ih=>exact deep_mono ih
theorem deep_of {D:Dcl} {o:List ByteArray} (hcl:∀ p∈o,∃ n k u c,ClsI us D p n k u c) (hp:Placed (neeC us D) o):∀ (i:Nat) x,o[i]? = some x→Deep us D (i+1) x:=by
  intro i
  induction i using Nat.strongRecOn with
  | _ i ih =>
    intro x hx
    refine ⟨hcl x (List.mem_of_getElem? hx),?_⟩
    by_cases hs:supL us D x=nost
    · exact .inl hs
    · right
      have hy:supL us D x∈o.take i:=hp i x hx _ (by unfold neeC;rw [if_neg hs];simp)
      obtain ⟨j,hj⟩:=List.mem_iff_getElem?.1 hy
      rw [List.getElem?_take] at hj
      split at hj
      · rename_i hji
        exact deep_le (ih j hji _ hj) (by omega)
      · cases hj
theorem tyOk_of {u:Unt} (hC:CkU u):TyOk u:=fun m hm=>by
  have hI:=ixs_of hC
  refine ⟨by have:=(lim_of hC.lim).pars m hm;omega,fun t ht=>⟨hI.mty m hm t ht,?_⟩⟩
  have hk:=hC.kd
  unfold kinds at hk
  simp only [Bool.and_eq_true] at hk
  have:=List.all_eq_true.1 hk.2 m hm
  unfold kmth at this
  simp only [Bool.and_eq_true] at this
  obtain ⟨⟨h1,h2⟩,h3⟩:=this
  unfold kindOk
  simp only [List.mem_append,List.mem_singleton] at ht
  rcases ht with (ht | ht) | rfl
  · have:=List.all_eq_true.1 h1 t ht
    simp only [kin,Bool.and_eq_true,decide_eq_true_eq] at this;omega
  · have:=List.all_eq_true.1 h2 t ht
    simp only [kin,Bool.and_eq_true,decide_eq_true_eq] at this;omega
  · simp only [kout,Bool.and_eq_true,decide_eq_true_eq] at h3;omega
theorem code_len {u:Unt} (hC:CkU u) {m:Mth} (hm:m∈u.methods):m.code.length≤120:=by
  have h1:=mErr_zero hC.me m hm
  unfold codeE at h1
  split at h1
  · cases h1
  · omega
end Go.Proofs.YtkmdfjpafkcleaaGreatDoor
namespace Go.Proofs.YtkmdfjpafkcleaaGreatDoor
open Eng Go.RowKit
theorem flatten_get {sz:Nat}:∀ {xs:List (List Value)} (_:∀ c∈xs,c.length=sz) {i:Nat} {c:List Value},xs[i]? = some c→∀ j,j<sz→xs.flatten[i*sz+j]? = c[j]?
  | [],_,i,c,hx,_,_=>by simp at hx
  | y::l,h,0,c,hx,j,hj=>by
    simp at hx;subst hx
    rw [List.flatten_cons,Nat.zero_mul,Nat.zero_add,List.getElem?_append_left (by rw [h _ (List.mem_cons_self ..)];exact hj)]
  | y::l,h,i+1,c,hx,j,hj=>by
    have hy:=h y (List.mem_cons_self ..)
    have:=flatten_get (xs:=l) (fun c hc=>h c (List.mem_cons_of_mem _ hc)) (i:=i) (by simpa using hx) j hj
    rw [List.flatten_cons,List.getElem?_append_right (by rw [hy,Nat.succ_mul];omega),hy,←this]
    congr 1;rw [Nat.succ_mul];omega
structure OwC {α:Type} (E:El α) (R:Nat→Prop) (w:World) (base e:Nat) (a:Option Addr) (cap:Nat) (l:List α):Prop where
  row:∃ xs:List (List Value),xs.length=l.length∧(∀ c∈xs,c.length=E.sz)∧Ow w base e E.sz a l.length cap xs.flatten ∧
    ∀ (i:Nat) (cs:List Value) (x:α),xs[i]? = some cs→l[i]? = some x→E.rel (fun b=>R b∧a≠some ⟨b,0,none⟩∧b<w.heap.size) w cs x
theorem OwC.nil {α:Type} (E:El α) (R:Nat→Prop) (w:World) (base e:Nat):OwC E R w base e none 0 ([]:List α) :=
  ⟨[],rfl,(fun _ h=>by simp at h),Ow.nil ..,(fun i cs x h=>by simp at h)⟩
theorem OwC.bl {α:Type} {E:El α} {R:Nat→Prop} {w w':World} {base e cap:Nat} {a:Option Addr} {l:List α} (h:OwC E R w base e a cap l) (k:Bl w w'):OwC E R w' base e a cap l:=by
  obtain ⟨xs,h1,h2,h3,h4⟩:=h.row
  exact ⟨xs,h1,h2,h3.bl k,fun i cs x hi hl=>E.sub (fun b hb=>⟨hb.1,hb.2.1,Nat.lt_of_lt_of_le hb.2.2 k.size⟩) (E.kp (k.kp _) (h4 i cs x hi hl))⟩
theorem OwC.wr {α:Type} {E:El α} {R:Nat→Prop} {w w':World} {base e cap:Nat} {a:Option Addr} {l:List α} (h:OwC E R w base e a cap l) {b:Nat} (k:Wr w b w') (hb:b<base) (hR:∀ i,R i→i≠b):OwC E R w' base e a cap l:=by
  obtain ⟨xs,h1,h2,h3,h4⟩:=h.row
  exact ⟨xs,h1,h2,h3.wr k fun g hg=>by have:=(h3.lt hg).1;omega,fun i cs x hi hl=>E.sub (fun b hb=>⟨hb.1,hb.2.1,by rw [k.size];exact hb.2.2⟩) (E.kp (k.kp fun i hi=>hR i hi.1) (h4 i cs x hi hl))⟩
theorem OwC.ow {α:Type} {E:El α} {R:Nat→Prop} {w:World} {base e cap:Nat} {a:Option Addr} {l:List α} (h:OwC E R w base e a cap l):∃ xs,Ow w base e E.sz a l.length cap xs:=by
  obtain ⟨xs,h1,h2,h3,h4⟩:=h.row
  exact ⟨_,h3⟩
theorem OwC.lt {α:Type} {E:El α} {R:Nat→Prop} {w:World} {base e cap:Nat} {a:Option Addr} {l:List α} (h:OwC E R w base e a cap l) {g:Nat} (hg:a=some ⟨g,0,none⟩):base≤g∧g<w.heap.size:=by
  obtain ⟨xs,h3⟩:=h.ow
  exact h3.lt hg
theorem OwC.push {α:Type} {E:El α} {R:Nat→Prop} {w w':World} {base e cap':Nat} {a a':Option Addr} {l:List α} {x:α} {cs:List Value} {xs:List (List Value)} (h1:xs.length=l.length) (h2:∀ c∈xs,c.length=E.sz)
    (h4:∀ (i:Nat) (cs:List Value) (x:α),xs[i]? = some cs→l[i]? = some x→E.rel (fun b=>R b∧a≠some ⟨b,0,none⟩∧b<w.heap.size) w cs x)
    (hO:Ow w' base e E.sz a' (l.length+1) cap' (xs.flatten++cs)) (hA:Ap w a w') (hf:∀ g,a'=some ⟨g,0,none⟩→a=some ⟨g,0,none⟩∨w.heap.size≤g)
    (hr:E.rel (fun b=>R b∧a≠some ⟨b,0,none⟩∧b<w.heap.size) w cs x):OwC E R w' base e a' cap' (l++[x]):=by
  have hsub:∀ b,(R b∧a≠some ⟨b,0,none⟩∧b<w.heap.size)→(R b∧a'≠some ⟨b,0,none⟩∧b<w'.heap.size):=fun b ⟨q1,q2,q3⟩=>by
    refine ⟨q1,fun e => ?_,Nat.lt_of_lt_of_le q3 hA.size⟩
    rcases hf b e with h | h
    · exact q2 h
    · omega
  have hkp:Kp (fun b=>R b∧a≠some ⟨b,0,none⟩∧b<w.heap.size) w w':=hA.kp.sub fun i hi=>hi.2.1
  refine ⟨xs++[cs],by simp [h1],fun c hc => ?_,by rw [List.length_append,List.flatten_append];simpa using hO,fun i c y hi hl => ?_⟩
  · rcases List.mem_append.1 hc with hc | hc
    · exact h2 c hc
    · rw [List.mem_singleton.1 hc];exact E.len hr
  · rcases Nat.lt_or_ge i l.length with hlt | hge
    · rw [List.getElem?_append_left (by omega)] at hi
      rw [List.getElem?_append_left hlt] at hl
      exact E.sub hsub (E.kp hkp (h4 i c y hi hl))
    · rw [List.getElem?_append_right (by omega),h1] at hi
      rw [List.getElem?_append_right hge] at hl
      rcases Nat.eq_zero_or_pos (i-l.length) with h0 | h0
      · rw [h0] at hi hl
        simp at hi hl
        subst hi hl
        exact E.sub hsub (E.kp hkp hr)
      · rw [List.getElem?_eq_none (by simp;omega)] at hi
        cases hi
theorem OwC.sl2 {α:Type} {E:El α} {w:World} {base e cap:Nat} {a:Option Addr} {l:List α} (h:OwC E (fun b=>base≤b) w base e a cap l) (hl:l.length≤4194304):Sl E (fun b=>base≤b∧b<w.heap.size) w a l:=by
  obtain ⟨xs,h1,h2,h3,h4⟩:=h.row
  refine ⟨hl,fun i x hx => ?_⟩
  have hi:i<l.length:=(List.getElem?_eq_some_iff.1 hx).1
  obtain ⟨cs,hc⟩:=some_of_lt (l:=xs) (k:=i) (by omega)
  have hcl:=h2 cs (List.mem_of_getElem? hc)
  rcases h3.shape with ⟨_,h0,_⟩ | ⟨g,cur,rfl,_⟩
  · omega
  · refine ⟨g,0,cs,rfl,h3.lt rfl,fun j v hj => ?_,E.sub (fun b hb=>⟨hb.1,hb.2.2⟩) (h4 i cs x hc hx)⟩
    have hj':j<E.sz:=by rw [←hcl];exact (List.getElem?_eq_some_iff.1 hj).1
    have:=h3.at rfl (i*E.sz+j) v (by rw [flatten_get h2 hc j hj'];exact hj)
    rw [Nat.zero_add] at this
    rw [Nat.zero_add];exact this
end Go.Proofs.YtkmdfjpafkcleaaGreatDoor
namespace Go.Proofs.YtkmdfjpafkcleaaGreatDoor
open Go.RowKit Eng
theorem Eng.Ow.capn {w:World} {base e esz n cap:Nat} {a:Option Addr} {xs:List Value} (h:Ow w base e esz a n cap xs):n≤cap∧(a=none→cap=0):=by
  rcases h.shape with ⟨rfl,rfl,rfl,_⟩ | ⟨g,cur,rfl,_,_,h,_⟩
  · exact ⟨Nat.le_refl _,fun _=>rfl⟩
  · exact ⟨h,fun e=>by cases e⟩
structure MC where
  name:ByteArray
  super:Int
  fields:List Ty
  table:List Int
deriving DecidableEq
structure MM where
  name:ByteArray
  cls:Int
  params:List Ty
  locals:List Ty
  result:Ty
  code:List Ins
deriving DecidableEq
structure Mod where
  classes:List MC
  statics:List Ty
  methods:List MM
  sels:Int
def mod0:Mod:=⟨[],[],[],0⟩
abbrev mccells (c:MC) (a1:Option Addr) (c1:Nat) (a2:Option Addr) (c2:Nat):List Value:=[.string c.name,I c.super,.slice a1 c.fields.length c1,.slice a2 c.table.length c2]
abbrev mmcells (m:MM) (a1:Option Addr) (c1:Nat) (a2:Option Addr) (c2:Nat) (a3:Option Addr) (c3:Nat):List Value :=
  [.string m.name,I m.cls,.slice a1 m.params.length c1,.slice a2 m.locals.length c2,I m.result.kind,I m.result.cls,.slice a3 m.code.length c3]
def eMC:El MC :=
  { sz:=4,rel:=fun S w cs c=>∃ a1 c1 a2 c2,cs=mccells c a1 c1 a2 c2∧Sl eTy S w a1 c.fields∧Sl eInt S w a2 c.table∧c.name.size≤1048576∧c.fields.length≤c1
    len:=fun ⟨_,_,_,_,e,_⟩=>by rw [e];rfl
    kp:=fun k ⟨a1,c1,a2,c2,e,h1,h2,h3⟩=>⟨a1,c1,a2,c2,e,h1.kp k,h2.kp k,h3⟩
    sub:=fun k ⟨a1,c1,a2,c2,e,h1,h2,h3⟩=>⟨a1,c1,a2,c2,e,h1.sub k,h2.sub k,h3⟩ }
def eMM:El MM :=
  { sz:=7
    rel:=fun S w cs m=>∃ a1 c1 a2 c2 a3 c3,cs=mmcells m a1 c1 a2 c2 a3 c3∧Sl eTy S w a1 m.params∧Sl eTy S w a2 m.locals∧Sl eIns S w a3 m.code∧m.name.size≤1048576
    len:=fun ⟨_,_,_,_,_,_,e,_⟩=>by rw [e];rfl
    kp:=fun k ⟨a1,c1,a2,c2,a3,c3,e,h1,h2,h3,h4⟩=>⟨a1,c1,a2,c2,a3,c3,e,h1.kp k,h2.kp k,h3.kp k,h4⟩
    sub:=fun k ⟨a1,c1,a2,c2,a3,c3,e,h1,h2,h3,h4⟩=>⟨a1,c1,a2,c2,a3,c3,e,h1.sub k,h2.sub k,h3.sub k,h4⟩ }
structure MA where
  a1:Option Addr
  c1:Nat
  a2:Option Addr
  c2:Nat
  a3:Option Addr
  c3:Nat
def modcells (m:Mod) (a:MA):List Value:=[.slice a.a1 m.classes.length a.c1,.slice a.a2 m.statics.length a.c2,.slice a.a3 m.methods.length a.c3,I m.sels]
structure MdR (S:Nat→Prop) (w:World) (m:Mod) (a:MA):Prop where
  cls:Sl eMC S w a.a1 m.classes
  sta:Sl eTy S w a.a2 m.statics
  mth:Sl eMM S w a.a3 m.methods
theorem MdR.kp {S:Nat→Prop} {w w':World} {m:Mod} {a:MA} (h:MdR S w m a) (k:Kp S w w'):MdR S w' m a:=⟨h.cls.kp k,h.sta.kp k,h.mth.kp k⟩
theorem MdR.bl {S:Nat→Prop} {w w':World} {m:Mod} {a:MA} (h:MdR S w m a) (k:Bl w w'):MdR S w' m a:=h.kp (k.kp S)
theorem MdR.sub {S S':Nat→Prop} {w:World} {m:Mod} {a:MA} (h:MdR S w m a) (k:∀ i,S i→S' i):MdR S' w m a:=⟨h.cls.sub k,h.sta.sub k,h.mth.sub k⟩
abbrev idxB (l:List ByteArray) (x:ByteArray):Int:=Lib.idxOfS l x
def kindM (oc:List ByteArray) (u:Unt) (t:Ty):Ty:=if t.cls<0 then ⟨t.kind,0⟩ else ⟨t.kind,idxB oc (nm u t.cls)⟩
def cutI (p:ByteArray):Nat:=(Lib.lastIndexByte p 46).toNat
def layA (us:List Unt) (oc:List ByteArray) (q:ByteArray):List ByteArray:=if hasB oc q=true then lay us q else []
def fldM (us:List Unt) (oc:List ByteArray) (p:ByteArray):Int:=idxB (layA us oc (p.extract 0 (cutI p))) (p.extract (cutI p+1) p.size)
structure Ords where
  oc:List ByteArray
  os:List ByteArray
  om:List ByteArray
  oz:List ByteArray
def instM (us:List Unt) (O:Ords) (u:Unt) (i:Ins):Ins :=
  if i.op=14∨i.op=24 then ⟨i.op,idxB O.oc (nm u i.a),i.b⟩
  else if i.op=16 then ⟨i.op,i.a,idxB O.oc (nm u i.b)⟩
  else if i.op=12 then (if i.a=3 then i else ⟨i.op,i.a,idxB O.oc (nm u i.b)⟩)
  else if i.op=17∨i.op=18 then ⟨i.op,fldM us O.oc (nm u i.a),i.b⟩
  else if i.op=22∨i.op=23 then ⟨i.op,idxB O.os (nm u i.a),i.b⟩
  else if i.op=25 then ⟨i.op,idxB O.om (nm u i.a),i.b⟩
  else if i.op=26 then ⟨i.op,idxB O.oz (nm u i.a),i.b⟩
  else i
def ownT (us:List Unt) (D:Dcl) (oc:List ByteArray) (p:ByteArray):List Ty:=match clsOf us D p with
  | some (u,c)=>c.fields.map fun f=>kindM oc u f.ty
  | none=>[]
def ftL (us:List Unt) (D:Dcl) (oc:List ByteArray):Nat→ByteArray→List Ty
  | 0,_=>[]
  | n+1,p=>(if supL us D p=nost then [] else ftL us D oc n (supL us D p))++ownT us D oc p
def nearM (us:List Unt) (D:Dcl) (om:List ByteArray):Nat→ByteArray→ByteArray→Int
  | 0,_,_ => -1
  | n+1,p,s=>if p=nost then -1 else if 0≤idxB om (dots p s) then idxB om (dots p s) else nearM us D om n (supL us D p) s
def clsM (us:List Unt) (O:Ords) (p:ByteArray):MC :=
  ⟨p,idxB O.oc (supL us (decl us) p),ftL us (decl us) O.oc (keysM (decl us).classes).length p,O.oz.map fun s=>nearM us (decl us) O.om ((keysM (decl us).classes).length+1) p s⟩
def staM (us:List Unt) (O:Ords) (p:ByteArray):Ty:=match (getM (decl us).statics p).bind fun d=>(us[d.1]?).bind fun u=>(u.statics[d.2]?).map fun f=>(u,f) with
  | some (u,f)=>kindM O.oc u f.ty
  | none=>⟨0,0⟩
def mthM (us:List Unt) (O:Ords) (p:ByteArray):MM:=match mthOf us (decl us) p with
  | some (u,m)=>⟨p,if 0≤m.cls then idxB O.oc (nm u m.cls) else -1,m.params.map (kindM O.oc u),m.locals.map (kindM O.oc u),kindM O.oc u m.result,m.code.map (instM us O u)⟩
  | none=>⟨p,-1,[],[],⟨0,0⟩,[]⟩
def ordsL (us:List Unt):Ords:=⟨(ordC us).getD [],sortL (keysM (decl us).statics),(ordM us).getD [],sortL (keysM (decl us).named)⟩
def modO (us:List Unt) (O:Ords):Mod:=⟨O.oc.map (clsM us O),O.os.map (staM us O),O.om.map (mthM us O),(O.oz.length:Int)⟩
def modL (us:List Unt):Mod:=if runE us=0 then modO us (ordsL us) else mod0
end Go.Proofs.YtkmdfjpafkcleaaGreatDoor
namespace Go.Proofs.YtkmdfjpafkcleaaGreatDoor
open Eng Go.ChangeShapes Go.WideShapes Go.ChangeAt Go.RowKit
section
variable {H:Type} {enc:TypeId×Value→H} {w:World} {base:Nat} {sp:Nat→Bool} {hd:Bool}
set_option maxRecDepth 100000 in
theorem rd_type:Reads enc Tryz.prog w base sp hd 51 fun cs=>∃ x,eTy.rel T w cs x:=fun n cs y h hb=>by
  obtain ⟨h1,h2⟩:=reads_fields (L:=[(3,0),(3,1)]) (by kernel_rfl) (by kernel_rfl) h hb
  rw [show Tryz.prog.cellsOf 51=2 by kernel_rfl] at h1
  match cs,h1 with
  | [c0,c1],_ =>
    obtain ⟨a,ea⟩:=h2 (3,0) (by simp) _ (reads_int (by kernel_rfl))
    obtain ⟨b,eb⟩:=h2 (3,1) (by simp) _ (reads_int (by kernel_rfl))
    simp only [show Tryz.prog.cellsOf 3=1 by kernel_rfl,List.drop,List.take,List.cons.injEq,and_true] at ea eb
    subst ea eb
    exact ⟨⟨a,b⟩,rfl⟩
theorem rd_int:Reads enc Tryz.prog w base sp hd 3 fun cs=>∃ x,eInt.rel T w cs x:=fun n cs y h hb=>by
  obtain ⟨x,e⟩:=reads_int (by kernel_rfl) n cs y h hb
  exact ⟨x,e⟩
set_option maxRecDepth 100000 in
theorem rd_mc:Reads enc Tryz.prog w base sp hd 49 fun cs=>∃ x,eMC.rel T w cs x:=fun n cs y h hb=>by
  obtain ⟨h1,h2⟩:=reads_fields (L:=[(9,0),(3,1),(26,2),(47,3)]) (by kernel_rfl) (by kernel_rfl) h hb
  rw [show Tryz.prog.cellsOf 49=4 by kernel_rfl] at h1
  match cs,h1 with
  | [c0,c1,c2,c3],_ =>
    obtain ⟨s,es,hs⟩:=h2 (9,0) (by simp) _ rd_str
    obtain ⟨b,eb⟩:=h2 (3,1) (by simp) _ (reads_int (by kernel_rfl))
    obtain ⟨a1,l1,k1,e1,s1,n1⟩:=h2 (26,2) (by simp) _ (reads_sliceC (by kernel_rfl) (by kernel_rfl) (by decide) rd_type)
    obtain ⟨a2,l2,k2,e2,s2⟩:=h2 (47,3) (by simp) _ (reads_slice (by kernel_rfl) (by kernel_rfl) (by decide) rd_int)
    simp only [show Tryz.prog.cellsOf 3=1 by kernel_rfl,show Tryz.prog.cellsOf 9=1 by kernel_rfl,show Tryz.prog.cellsOf 26=1 by kernel_rfl,show Tryz.prog.cellsOf 47=1 by kernel_rfl,List.drop,List.take,List.cons.injEq,and_true] at es eb e1 e2
    subst es eb e1 e2
    exact ⟨⟨s,b,l1,l2⟩,a1,k1,a2,k2,rfl,s1,s2,hs,n1⟩
set_option maxRecDepth 100000 in
theorem rd_mm:Reads enc Tryz.prog w base sp hd 54 fun cs=>∃ x,eMM.rel T w cs x:=fun n cs y h hb=>by
  obtain ⟨h1,h2⟩:=reads_fields (L:=[(9,0),(3,1),(26,2),(26,3),(51,4),(52,6)]) (by kernel_rfl) (by kernel_rfl) h hb
  rw [show Tryz.prog.cellsOf 54=7 by kernel_rfl] at h1
  match cs,h1 with
  | [c0,c1,c2,c3,c4,c5,c6],_ =>
    obtain ⟨s,es,hs⟩:=h2 (9,0) (by simp) _ rd_str
    obtain ⟨b,eb⟩:=h2 (3,1) (by simp) _ (reads_int (by kernel_rfl))
    obtain ⟨a1,l1,k1,e1,s1⟩:=h2 (26,2) (by simp) _ (reads_slice (by kernel_rfl) (by kernel_rfl) (by decide) rd_type)
    obtain ⟨a2,l2,k2,e2,s2⟩:=h2 (26,3) (by simp) _ (reads_slice (by kernel_rfl) (by kernel_rfl) (by decide) rd_type)
    obtain ⟨t,et⟩:=h2 (51,4) (by simp) _ rd_type
    obtain ⟨a3,l3,k3,e3,s3⟩:=h2 (52,6) (by simp) _ (reads_slice (by kernel_rfl) (by kernel_rfl) (by decide) rd_ins)
    simp only [show Tryz.prog.cellsOf 3=1 by kernel_rfl,show Tryz.prog.cellsOf 9=1 by kernel_rfl,show Tryz.prog.cellsOf 51=2 by kernel_rfl,show Tryz.prog.cellsOf 26=1 by kernel_rfl,show Tryz.prog.cellsOf 52=1 by kernel_rfl,List.drop,List.take,List.cons.injEq,and_true] at es eb e1 e2 e3 et
    subst es eb e1 e2 e3
    simp only [eTy,plainEl,encTy,List.cons.injEq,and_true] at et
    obtain ⟨rfl,rfl⟩:=et
    exact ⟨⟨s,b,l1,l2,t,l3⟩,a1,k1,a2,k2,a3,k3,rfl,s1,s2,s3,hs⟩
set_option maxRecDepth 100000 in
theorem rd_mod:Reads enc Tryz.prog w base sp hd 29 fun cs=>∃ (m:Mod) (a:MA),cs=modcells m a∧MdR T w m a:=fun n cs y h hb=>by
  obtain ⟨h1,h2⟩:=reads_fields (L:=[(25,0),(26,1),(27,2),(3,3)]) (by kernel_rfl) (by kernel_rfl) h hb
  rw [show Tryz.prog.cellsOf 29=4 by kernel_rfl] at h1
  match cs,h1 with
  | [c0,c1,c2,c3],_ =>
    obtain ⟨a1,l1,k1,e1,s1⟩:=h2 (25,0) (by simp) _ (reads_slice (by kernel_rfl) (by kernel_rfl) (by decide) rd_mc)
    obtain ⟨a2,l2,k2,e2,s2⟩:=h2 (26,1) (by simp) _ (reads_slice (by kernel_rfl) (by kernel_rfl) (by decide) rd_type)
    obtain ⟨a3,l3,k3,e3,s3⟩:=h2 (27,2) (by simp) _ (reads_slice (by kernel_rfl) (by kernel_rfl) (by decide) rd_mm)
    obtain ⟨b,eb⟩:=h2 (3,3) (by simp) _ (reads_int (by kernel_rfl))
    simp only [show Tryz.prog.cellsOf 3=1 by kernel_rfl,show Tryz.prog.cellsOf 25=1 by kernel_rfl,show Tryz.prog.cellsOf 26=1 by kernel_rfl,show Tryz.prog.cellsOf 27=1 by kernel_rfl,List.drop,List.take,List.cons.injEq,and_true] at e1 e2 e3 eb
    subst e1 e2 e3 eb
    exact ⟨⟨l1,l2,l3,b⟩,⟨a1,k1,a2,k2,a3,k3⟩,rfl,⟨s1,s2,s3⟩⟩
set_option maxRecDepth 100000 in
theorem open_mod {r:Reach} {b0:Nat} {v:Value} {d:DataW H} {p:List MemPlace} (hval:Value.okWide Tryz.prog w r b0 29 v) (h:DataW.Trod enc Tryz.prog w base sp hd 29 v d p) (hb:Rows.uptoBulk d≤1048576) :
    ∃ (m:Mod) (a:MA),v = .agg (modcells m a).toArray∧MdR T w m a:=by
  obtain ⟨cs,rfl,_⟩:=okWide_struct (show Tryz.prog.underlying 29=some (.struct (Tryz.prog.fieldsOf 29)) by kernel_rfl) hval
  obtain ⟨n,h⟩:=h
  obtain ⟨m,a,e,hm⟩:=rd_mod n _ _ h hb
  refine ⟨m,a,?_,hm⟩
  rw [←e]
  simp [Value.cells]
set_option maxRecDepth 100000 in
theorem open_ints {r:Reach} {b0:Nat} {v:Value} {d:DataW H} {p:List MemPlace} (hval:Value.okWide Tryz.prog w r b0 47 v) (h:DataW.Trod enc Tryz.prog w base sp hd 47 v d p) (hb:Rows.uptoBulk d≤1048576) :
    ∃ (a:Option Addr) (l:List Int) (cap:Nat),v = .slice a l.length cap∧Sl eInt T w a l∧l.length≤cap:=by
  obtain ⟨a0,len,cap0,rfl⟩:=okWide_slice Tryz.underlying47 hval
  obtain ⟨n,h⟩:=h
  obtain ⟨a,l,cap,e,hS,hc⟩:=reads_sliceC (E:=eInt) (t:=47) (e:=3) (by kernel_rfl) (by kernel_rfl) (by decide) rd_int n _ _ h hb
  simp only [Value.cells,List.cons.injEq,and_true] at e
  exact ⟨a,l,cap,e,hS,hc⟩
end
end Go.Proofs.YtkmdfjpafkcleaaGreatDoor
namespace Go.Proofs.YtkmdfjpafkcleaaGreatDoor
open Eng Go.RowKit
def ityp (m:Mod) (t:Ty) (least:Int):Bool :=
  if t.kind=2∨t.kind=4 then decide (0≤t.cls)&&decide (t.cls<m.classes.length)
  else if t.kind=0∨t.kind=1∨t.kind=3 then decide (least≤t.kind)&&decide (t.cls=0) else false
def supM (m:Mod) (a:Int):Int:=((m.classes[a.toNat]?).map fun c=>c.super).getD (-1)
def chn (m:Mod):Nat→Int→List Int
  | 0,_=>[]
  | n+1,a=>if a<0 then [] else a::chn m n (supM m a)
def upM (m:Mod) (a:Int):List Int:=chn m (a.toNat+1) a
def Desc (m:Mod) (k:Nat):Prop:=k≤m.classes.length∧∀ (i:Nat) x,i<k→m.classes[i]? = some x → -1≤x.super∧x.super<i
variable {m:Mod} {k:Nat}
theorem supM_at {i:Nat} {x:MC} (h:m.classes[i]? = some x):supM m (i:Int)=x.super:=by unfold supM;rw [Int.toNat_natCast,h];rfl
theorem sup_lt (h:Desc m k) {a:Int} (h0:0≤a) (ha:a<k) : -1≤supM m a∧supM m a<a:=by
  obtain ⟨i,rfl⟩:=Int.eq_ofNat_of_zero_le h0
  obtain ⟨x,hx⟩:=some_of_lt (l:=m.classes) (k:=i) (by have:=h.1;omega)
  rw [supM_at hx]
  exact h.2 i x (by omega) hx
theorem chn_neg {n:Nat} {a:Int} (h:a<0):chn m n a=[]:=by
  cases n with
  | zero=>rfl
  | succ n=>simp only [chn,if_pos h]
theorem chn_fuel (h:Desc m k):∀ (n n':Nat) (a:Int),a<k→a<n→a<n'→chn m n a=chn m n' a
  | 0,n',a,_,h1,_=>by rw [chn_neg (by omega),chn_neg (by omega)]
  | n+1,0,a,_,_,h2=>by rw [chn_neg (by omega),chn_neg (by omega)]
  | n+1,n'+1,a,ha,h1,h2=>by
    simp only [chn]
    split
    · rfl
    · obtain ⟨_,q2⟩:=sup_lt h (a:=a) (by omega) ha
      rw [chn_fuel h n n' (supM m a) (by omega) (by omega) (by omega)]
theorem upM_neg {a:Int} (h:a<0):upM m a=[]:=chn_neg h
theorem upM_step (h:Desc m k) {a:Int} (h0:0≤a) (ha:a<k):upM m a=a::upM m (supM m a):=by
  obtain ⟨q1,q2⟩:=sup_lt h h0 ha
  unfold upM
  rw [show chn m (a.toNat+1) a=a::chn m a.toNat (supM m a) from by simp only [chn,if_neg (show ¬a<0 by omega)]]
  congr 1
  exact chn_fuel h _ _ _ (by omega) (by omega) (by omega)
theorem upM_le (h:Desc m k):∀ (n:Nat) {a b:Int},a<n→a<k→b∈upM m a→0≤b∧b≤a
  | 0,a,b,h1,_,hb=>by rw [upM_neg (by omega)] at hb;cases hb
  | n+1,a,b,h1,ha,hb=>by
    rcases Classical.em (a<0) with h0 | h0
    · rw [upM_neg h0] at hb;cases hb
    · rw [upM_step h (by omega) ha] at hb
      obtain ⟨q1,q2⟩:=sup_lt h (a:=a) (by omega) ha
      rcases List.mem_cons.1 hb with rfl | hb
      · omega
      · have:=upM_le h n (a:=supM m a) (by omega) (by omega) hb
        omega
theorem upM_mem_le (h:Desc m k) {a b:Int} (ha:a<k) (hb:b∈upM m a):0≤b∧b≤a:=upM_le h k ha ha hb
theorem upM_self {a:Int} (h0:0≤a):a∈upM m a:=by
  unfold upM
  simp only [chn,if_neg (show ¬a<0 by omega)]
  exact List.mem_cons_self ..
def AscI (l:List Int):Prop:=l.Pairwise (· < ·)
theorem asc_eq:∀ {a b:List Int},AscI a→AscI b→(∀ x,x∈a↔x∈b)→a=b
  | [],[],_,_,_=>rfl
  | [],y::b,_,_,h=>by have:=(h y).2 (List.mem_cons_self ..);cases this
  | x::a,[],_,_,h=>by have:=(h x).1 (List.mem_cons_self ..);cases this
  | x::a,y::b,ha,hb,h=>by
    obtain ⟨a1,a2⟩:=List.pairwise_cons.1 ha
    obtain ⟨b1,b2⟩:=List.pairwise_cons.1 hb
    have e:x=y:=by
      rcases List.mem_cons.1 ((h x).1 (List.mem_cons_self ..)) with q | q
      · exact q
      · rcases List.mem_cons.1 ((h y).2 (List.mem_cons_self ..)) with p | p
        · exact p.symm
        · have:=b1 x q;have:=a1 y p;omega
    subst e
    rw [asc_eq a2 b2 fun z => ?_]
    constructor
    · intro hz
      rcases List.mem_cons.1 ((h z).1 (List.mem_cons_of_mem _ hz)) with q | q
      · subst q;exact absurd (a1 z hz) (by omega)
      · exact q
    · intro hz
      rcases List.mem_cons.1 ((h z).2 (List.mem_cons_of_mem _ hz)) with q | q
      · subst q;exact absurd (b1 z hz) (by omega)
      · exact q
def insI (x:Int):List Int→List Int
  | []=>[x]
  | y::l=>if x<y then x::y::l else if x=y then y::l else y::insI x l
theorem mem_insI {x z:Int}:∀ {l:List Int},z∈insI x l↔z=x∨z∈l
  | []=>by simp [insI]
  | y::l=>by
    unfold insI
    split
    · simp
    · split
      · rename_i h;subst h;simp
      · simp only [List.mem_cons,mem_insI (l:=l)]
        exact or_left_comm
theorem asc_insI {x:Int}:∀ {l:List Int},AscI l→AscI (insI x l)
  | [],_=>by simp [insI,AscI]
  | y::l,h=>by
    obtain ⟨h1,h2⟩:=List.pairwise_cons.1 h
    unfold insI
    split
    · rename_i q
      refine List.pairwise_cons.2 ⟨fun z hz => ?_,h⟩
      rcases List.mem_cons.1 hz with rfl | hz
      · exact q
      · have:=h1 z hz;omega
    · split
      · exact h
      · refine List.pairwise_cons.2 ⟨fun z hz => ?_,asc_insI h2⟩
        rcases mem_insI.1 hz with rfl | hz
        · omega
        · exact h1 z hz
def srtI (l:List Int):List Int:=l.foldr insI []
theorem srtI_asc:∀ (l:List Int),AscI (srtI l)
  | []=>List.Pairwise.nil
  | _::l=>asc_insI (srtI_asc l)
theorem mem_srtI {z:Int}:∀ {l:List Int},z∈srtI l↔z∈l
  | []=>Iff.rfl
  | x::l=>by
    show z∈insI x (srtI l)↔_
    rw [mem_insI,mem_srtI (l:=l),List.mem_cons]
theorem srtI_of {a l:List Int} (ha:AscI a) (h:∀ x,x∈a↔x∈l):a=srtI l:=asc_eq ha (srtI_asc l) fun x=>by rw [h,mem_srtI]
def rawT (m:Mod) (s:Nat):List Int:=(m.classes.map fun c=>c.table.getD s (-1)).filter fun n=>decide (0≤n)
def trgM (m:Mod) (s:Nat):List Int:=srtI (rawT m s)
def calO (m:Mod) (i:Ins):List Int:=if i.op=25 then [i.a] else if i.op=26 then trgM m i.a.toNat else []
def calM (m:Mod) (k:Nat):List Int:=srtI ((((m.methods[k]?).map fun x=>x.code).getD []).flatMap (calO m))
structure EntP (m:Mod) (k:Nat) (x:MC) (s:Nat) (n:Int):Prop where
  lo : -1≤n
  hi:n<m.methods.length
  own:0≤n→∃ y z,m.methods[n.toNat]? = some y∧y.cls∈upM m k∧m.classes[y.cls.toNat]? = some z∧z.table[s]? = some n
  up:n<0→0≤x.super→∀ y q,m.classes[x.super.toNat]? = some y→y.table[s]? = some q→q<0
structure ClsP (m:Mod) (k:Nat) (x:MC):Prop where
  s1 : -1≤x.super
  s2:x.super<k
  fl:x.fields.length≤7
  ft:∀ t∈x.fields,ityp m t 1=true
  tl:(x.table.length:Int)=m.sels
  tb:∀ s n,x.table[s]? = some n→EntP m k x s n
  up:0≤x.super→∀ y,m.classes[x.super.toNat]? = some y→y.fields.length≤x.fields.length∧x.fields.take y.fields.length=y.fields
def mcl (m:Mod) (n:Int):Int:=((m.methods[n.toNat]?).map fun x=>x.cls).getD 0
def oprB (m:Mod) (k:Nat) (i:Ins):Bool :=
  if i.op=12 then decide (i.a=3)||decide (i.b<m.classes.length)
  else if i.op=14∨i.op=24 then decide (i.a<m.classes.length)
  else if i.op=16 then decide (i.b<m.classes.length)
  else if i.op=22∨i.op=23 then decide (i.a<m.statics.length)
  else if i.op=25 then decide (i.a<k)&&decide (mcl m i.a = -1)
  else if i.op=26 then decide (i.a<m.sels)&&(trgM m i.a.toNat).all fun t=>decide (t<k)
  else true
structure MthP (m:Mod) (k:Nat) (x:MM):Prop where
  c1 : -1≤x.cls
  c2:x.cls<m.classes.length
  pl:x.params.length≤4
  ll:(x.params.length:Int)+x.locals.length+(if 0≤x.cls then 1 else 0)≤10
  pt:∀ t∈x.params,ityp m t 1=true
  lt:∀ t∈x.locals,ityp m t 1=true
  rt:ityp m x.result 0=true
  cd:codeE x.code false=0
  op:∀ i∈x.code,oprB m k i=true
def AlkP (m:Mod) (s:Nat):Prop:=∀ t∈trgM m s,∀ u∈trgM m s,∀ x y,m.methods[t.toNat]? = some x→m.methods[u.toNat]? = some y→x.params=y.params∧x.result=y.result
structure ModP (m:Mod):Prop where
  cl:m.classes.length≤10
  sl:m.statics.length≤10
  ml:m.methods.length≤16
  z0:0≤m.sels
  z1:m.sels≤16
  cls:∀ k x,m.classes[k]? = some x→ClsP m k x
  sta:∀ t∈m.statics,ityp m t 1=true
  mth:∀ k x,m.methods[k]? = some x→MthP m k x
  alk:∀ s:Nat,s<m.sels→AlkP m s
open Classical in
noncomputable def mchkE (m:Mod):Int:=if ModP m then 0 else 1
theorem desc_of {k:Nat} (hk:k≤m.classes.length) (h:∀ i x,i<k→m.classes[i]? = some x→ClsP m i x):Desc m k:=⟨hk,fun i x hi hx=>⟨(h i x hi hx).s1,(h i x hi hx).s2⟩⟩
theorem ModP.desc (h:ModP m):Desc m m.classes.length:=desc_of (Nat.le_refl _) fun i x _ hx=>h.cls i x hx
theorem rawT_le (m:Mod) (s:Nat):(rawT m s).length≤m.classes.length:=by
  unfold rawT
  refine Nat.le_trans (List.length_filter_le _ _) ?_
  rw [List.length_map];exact Nat.le_refl _
theorem mem_rawT {s:Nat} {t:Int}:t∈rawT m s↔0≤t∧∃ c∈m.classes,c.table.getD s (-1)=t:=by
  unfold rawT
  rw [List.mem_filter,List.mem_map,decide_eq_true_eq,and_comm]
theorem mem_trg {s:Nat} {t:Int}:t∈trgM m s↔0≤t∧∃ c∈m.classes,c.table.getD s (-1)=t:=by unfold trgM;rw [mem_srtI,mem_rawT]
theorem insI_len (x:Int):∀ (l:List Int),(insI x l).length≤l.length+1
  | []=>Nat.le_refl _
  | y::l=>by
    unfold insI
    split
    · simp
    · split
      · simp
      · have:=insI_len x l;simp only [List.length_cons];omega
theorem srtI_len:∀ (l:List Int),(srtI l).length≤l.length
  | []=>Nat.le_refl _
  | x::l=>by
    have:=srtI_len l
    have:=insI_len x (srtI l)
    show (insI x (srtI l)).length≤_
    simp only [List.length_cons];omega
theorem trg_len (s:Nat):(trgM m s).length≤m.classes.length:=Nat.le_trans (srtI_len _) (rawT_le m s)
theorem ModP.trg (h:ModP m) {s:Nat} {t:Int} (ht:t∈trgM m s):0≤t∧t<m.methods.length:=by
  obtain ⟨h0,c,hc,e⟩:=mem_trg.1 ht
  obtain ⟨k,hk⟩:=List.mem_iff_getElem?.1 hc
  cases hs:c.table[s]? with
  | none=>rw [List.getD_eq_getElem?_getD,hs] at e;simp at e;omega
  | some n =>
    rw [List.getD_eq_getElem?_getD,hs] at e
    simp only [Option.getD_some] at e
    subst e
    exact ⟨h0,((h.cls k c hk).tb s n hs).hi⟩
end Go.Proofs.YtkmdfjpafkcleaaGreatDoor
namespace Go.Proofs.YtkmdfjpafkcleaaGreatDoor
open Eng Go.RowKit Go.Sort
theorem compactI_at {zs:List Int} {x:Int}:x∈Lib.compact zs↔∃ j,j<zs.length∧Lib.keeps zs.toArray j=true∧zs.getD j 0=x:=by
  unfold Lib.compact Lib.compactUpTo
  simp only [List.mem_map,List.mem_filter,List.mem_range]
  constructor
  · rintro ⟨j,⟨h1,h2⟩,h3⟩
    exact ⟨j,h1,h2,by simpa [h1] using h3⟩
  · rintro ⟨j,h1,h2,h3⟩
    exact ⟨j,⟨h1,h2⟩,by simpa [h1] using h3⟩
theorem keepsI_iff {zs:List Int} {j:Nat} (h:j<zs.length):Lib.keeps zs.toArray j=true↔j=0∨zs.getD (j-1) 0≠zs.getD j 0:=by
  unfold Lib.keeps
  rw [decide_eq_true_eq]
  constructor
  · rintro (h0 | h1)
    · exact .inl h0
    · refine .inr fun e => ?_
      simp [h,show j-1<zs.length by omega] at h1 e
      exact h1 e.symm
  · rintro (h0 | h1)
    · exact .inl h0
    · refine .inr ?_
      simp [h,show j-1<zs.length by omega] at h1 ⊢
      exact fun e=>h1 e.symm
theorem compactI_mem {zs:List Int} {x:Int}:x∈Lib.compact zs↔x∈zs:=by
  rw [compactI_at]
  constructor
  · rintro ⟨j,h1,_,rfl⟩
    simp [h1]
  · intro hx
    obtain ⟨i,hi,rfl⟩:=List.getElem_of_mem hx
    have key:∀ n,n<zs.length→∃ j,j<zs.length∧Lib.keeps zs.toArray j=true∧zs.getD j 0=zs.getD n 0:=by
      intro n
      induction n with
      | zero=>intro h;exact ⟨0,h,(keepsI_iff h).2 (.inl rfl),rfl⟩
      | succ n ih =>
        intro h
        by_cases e:zs.getD n 0=zs.getD (n+1) 0
        · obtain ⟨j,h1,h2,h3⟩:=ih (by omega)
          exact ⟨j,h1,h2,h3.trans e⟩
        · exact ⟨n+1,h,(keepsI_iff h).2 (.inr (by simpa using e)),rfl⟩
    obtain ⟨j,h1,h2,h3⟩:=key i hi
    exact ⟨j,h1,h2,by rw [h3];simp [hi]⟩
theorem compactI_lt {zs:List Int} (hs:zs.Pairwise (· ≤ ·)):AscI (Lib.compact zs):=by
  have hp:∀ i j,i≤j→j<zs.length→zs.getD i 0≤zs.getD j 0:=fun i j hij hj=>by
    rcases Nat.eq_or_lt_of_le hij with rfl | h
    · exact Int.le_refl _
    · have:=List.pairwise_iff_getElem.1 hs i j (by omega) hj h
      simpa [hj,show i<zs.length by omega] using this
  unfold AscI Lib.compact Lib.compactUpTo
  rw [List.pairwise_map]
  have hr:((List.range zs.toArray.size).filter (Lib.keeps zs.toArray)).Pairwise (· < ·):=List.pairwise_lt_range.filter _
  refine List.Pairwise.imp_of_mem (fun {i j} hi hj hij => ?_) hr
  simp only [List.mem_filter,List.mem_range] at hi hj
  have h1:=hp i (j-1) (by omega) (by omega)
  have h2:=hp (j-1) j (by omega) hj.1
  have h3:zs.getD (j-1) 0≠zs.getD j 0:=by
    rcases (keepsI_iff hj.1).1 hj.2 with q | q
    · omega
    · exact q
  have h5:zs.getD i 0<zs.getD j 0:=by omega
  simpa [hi.1,hj.1] using h5
def sortI (l:List Int):List Int:=l.mergeSort fun x y=>decide (x≤y)
theorem sortI_le (l:List Int):(sortI l).Pairwise (· ≤ ·):=by
  have:=List.pairwise_mergeSort (le:=fun x y:Int=>decide (x≤y)) (fun a b c h1 h2=>by simp at *;omega) (fun a b=>by simp;omega) l
  exact this.imp fun h=>of_decide_eq_true h
theorem compactI_srt (l:List Int):Lib.compact (sortI l)=srtI l:=srtI_of (compactI_lt (sortI_le l)) fun x=>by rw [compactI_mem];exact List.mem_mergeSort
theorem encI_map (l:List Int):l.flatMap encInt=l.map (Value.int .i64):=by
  induction l with
  | nil=>rfl
  | cons x l ih=>rw [List.flatMap_cons,ih];rfl
theorem ap_grownI {w w':World} {g:Nat} (h:w.grownBy w' (some g)):Ap w (some ⟨g,0,none⟩) w':=by
  obtain ⟨q1,q2,q3,q4,q5⟩:=h
  first
    | exact ⟨q1,q2,q3,q4,fun k hk hne=>q5 k hk fun e=>hne (by cases e;rfl)⟩
    | exact ⟨q1,q3,q2,q4,fun k hk hne=>q5 k hk fun e=>hne (by cases e;rfl)⟩
theorem c_SortI (l:List Int) (base:Nat) (a:Option Addr) (cap:Nat) (w:World) (hO:OwP 1 encInt w base 3 a cap l) (hl:l.length≤4194304) :
    Ret Tryz.prog 134 #[.slice a l.length cap] w fun _ w'=>OwP 1 encInt w' base 3 a cap (sortI l)∧Ap w a w':=by
  have hsl:(sortI l).length=l.length:=by unfold sortI;rw [List.length_mergeSort]
  refine ⟨by kernel_rfl,?_⟩
  unfold OwP at hO ⊢
  rw [encI_map] at hO ⊢
  obtain ⟨_,h2⟩:=hO.own
  rcases h2 with ⟨h3,h4⟩ | ⟨g,cap',cur,h2,hg,hgb,r1,r2,r3,r4⟩
  · simp only [Value.slice.injEq] at h3
    obtain ⟨rfl,h0,rfl⟩:=h3
    have:l=[]:=List.eq_nil_of_length_eq_zero h0
    subst this
    refine (Tryz.slices_Sort_int_none none 0 w).mono ?_
    rintro e w' ⟨rfl,rfl⟩
    have e0:sortI ([]:List Int)=[]:=by simp [sortI]
    rw [e0]
    exact ⟨Ow.nil ..,⟨rfl,rfl,rfl,Nat.le_refl _,fun _ _ _=>rfl⟩⟩
  · simp only [Value.slice.injEq] at h2
    obtain ⟨rfl,_,rfl⟩:=h2
    have hH:Holds (Value.int .i64) w g 0 l.toArray:=holds_of_blockI hgb (by simpa using r4)
    refine (Tryz.slices_Sort_int g 0 cap l w hH (Array.getElem?_eq_some_iff.1 hgb).1 (by omega)).mono ?_
    rintro e w' ⟨rfl,n,os,rfl⟩
    refine ⟨⟨?_⟩,ap_grownI (grownBy_sortedI _)⟩
    have:=ownsRow_sortedI (ss:=l) (ts:=sortI l) (os:=os) (n:=n) hsl hg hgb r1 r2 r3
    rw [hsl]
    exact this
theorem c_CompactI (zs:List Int) (base:Nat) (a:Option Addr) (cap:Nat) (w:World) (hO:OwP 1 encInt w base 3 a cap zs) (hl:zs.length≤4194304) :
    Ret Tryz.prog 135 #[.slice a zs.length cap] w fun v w'=>v = .slice a (Lib.compact zs).length cap∧OwP 1 encInt w' base 3 a cap (Lib.compact zs)∧Ap w a w':=by
  have hle:=Lib.compact_length_le zs
  refine ⟨by kernel_rfl,?_⟩
  unfold OwP at hO ⊢
  rw [encI_map] at hO ⊢
  obtain ⟨_,h2⟩:=hO.own
  rcases h2 with ⟨h3,h4⟩ | ⟨g,cap',cur,h2,hg,hgb,r1,r2,r3,r4⟩
  · simp only [Value.slice.injEq] at h3
    obtain ⟨rfl,h0,rfl⟩:=h3
    have:zs=[]:=List.eq_nil_of_length_eq_zero h0
    subst this
    refine (Tryz.slices_Compact_int_empty none 0 w).mono ?_
    rintro e w' ⟨rfl,rfl⟩
    exact ⟨rfl,Ow.nil ..,⟨rfl,rfl,rfl,Nat.le_refl _,fun _ _ _=>rfl⟩⟩
  · simp only [Value.slice.injEq] at h2
    obtain ⟨rfl,_,rfl⟩:=h2
    have hH:Holds (Value.int .i64) w g 0 zs.toArray:=holds_of_blockI hgb (by simpa using r4)
    refine (Tryz.slices_Compact_int g 0 cap zs w hH (by omega) r1).mono ?_
    rintro e w' ⟨rfl,q,hw⟩
    rw [←Go.Sort.grow_empty (putRow _ _ _ _ _)] at hw
    have e1:(Lib.compact zs++List.replicate (zs.length-(Lib.compact zs).length) 0).length=zs.length:=by rw [List.length_append,List.length_replicate];omega
    have hrow:=ownsRow_sortedI (ss:=zs) (ts:=Lib.compact zs++List.replicate (zs.length-(Lib.compact zs).length) 0) (os:=#[]) (n:=q) e1 hg hgb r1 r2 r3
    rw [←hw] at hrow
    have hO2:Ow w' base 3 1 (some ⟨g,0,none⟩) zs.length cap ((Lib.compact zs++List.replicate (zs.length-(Lib.compact zs).length) 0).map (Value.int .i64)):=⟨hrow⟩
    have hO3:=hO2.cut hle
    refine ⟨rfl,?_,?_⟩
    · have e2:((Lib.compact zs++List.replicate (zs.length-(Lib.compact zs).length) 0).map (Value.int .i64)).take ((Lib.compact zs).length*1)=(Lib.compact zs).map (Value.int .i64):=by
        rw [Nat.mul_one,List.map_append,List.take_left' (by simp)]
      rw [e2] at hO3;exact hO3
    · rw [hw];exact ap_grownI (grownBy_sortedI _)
end Go.Proofs.YtkmdfjpafkcleaaGreatDoor
namespace Go.Proofs.YtkmdfjpafkcleaaGreatDoor
open Eng Go.RowKit
theorem Sl.take {α:Type} {E:El α} {S:Nat→Prop} {w:World} {a:Option Addr} {l:List α} (h:Sl E S w a l) (k:Nat):Sl E S w a (l.take k) :=
  ⟨Nat.le_trans (List.length_take_le' ..) h.big,fun i x hx=>by
    rw [List.getElem?_take] at hx
    split at hx
    · exact h.el i x hx
    · cases hx⟩
theorem Sl.drop {α:Type} {E:El α} {S:Nat→Prop} {w:World} {a:Option Addr} {l:List α} (h:Sl E S w a l) (k:Nat):Sl E S w (a.map (·.add (k*E.sz))) (l.drop k) :=
  ⟨by have:=h.big;rw [List.length_drop];omega,fun i x hx=>by
    rw [List.getElem?_drop] at hx
    obtain ⟨b,o,cs,rfl,hs,hat,hr⟩:=h.el (k+i) x hx
    refine ⟨b,o+k*E.sz,cs,by simp [Addr.add],hs,?_,hr⟩
    rw [Nat.add_mul] at hat
    rw [Nat.add_assoc];exact hat⟩
theorem OwC.sl3 {α:Type} {E:El α} {R:Nat→Prop} {w:World} {base e cap:Nat} {a:Option Addr} {l:List α} (h:OwC E R w base e a cap l) (hl:l.length≤4194304):Sl E (· < w.heap.size) w a l:=by
  obtain ⟨xs,h1,h2,h3,h4⟩:=h.row
  refine ⟨hl,fun i x hx => ?_⟩
  have hi:i<l.length:=(List.getElem?_eq_some_iff.1 hx).1
  obtain ⟨cs,hc⟩:=some_of_lt (l:=xs) (k:=i) (by omega)
  have hcl:=h2 cs (List.mem_of_getElem? hc)
  rcases h3.shape with ⟨_,h0,_⟩ | ⟨g,cur,rfl,_⟩
  · omega
  · refine ⟨g,0,cs,rfl,(h3.lt rfl).2,fun j v hj => ?_,E.sub (fun b hb=>hb.2.2) (h4 i cs x hc hx)⟩
    have hj':j<E.sz:=by rw [←hcl];exact (List.getElem?_eq_some_iff.1 hj).1
    have:=h3.at rfl (i*E.sz+j) v (by rw [flatten_get h2 hc j hj'];exact hj)
    rw [Nat.zero_add] at this
    rw [Nat.zero_add];exact this
end Go.Proofs.YtkmdfjpafkcleaaGreatDoor
namespace Go.Proofs.YtkmdfjpafkcleaaGreatDoor.Eng
open Go Go.RowKit
theorem bounds3_run {P:Program} {w:World} {sl:Bool} {len cap lo hi mx:Nat} {vlo vhi:Option Value} {km kh:IntKind} (h1:bnd 0 vlo lo) (h2:vhi=some (.int kh hi)) (h3:lo≤hi) (h4:hi≤mx) (h5:mx≤cap) :
    (Instr.sliceBounds sl len cap vlo vhi (some (.int km mx))).run P w = .ok (lo,hi,mx) w:=by
  subst h2
  unfold Instr.sliceBounds
  simp only
  refine (run_bind_ok (bound_run h5)).trans ?_
  refine (run_bind_ok (bound_run h4)).trans ?_
  cases vlo with
  | none=>have:lo=0:=h1;subst this;rfl
  | some v=>obtain ⟨k,rfl⟩:=h1;exact (run_bind_ok (bound_run h3)).trans rfl
theorem exec_slm {P:Program} {ρ:Operand→Value} {w:World} {d:Option Nat} {T:TypeId} {x hi mx:Operand} {lo:Option Operand} {ty:TypeId} {pos:String} {af:Array Edge} {g:Option (Nat×Bool)} {e esz by' sz:Nat} {ag:Bool} {zr:List Value}
    (ht:tiOk P T ⟨.slice e esz by',sz,ag,zr⟩=true) {a:Option Addr} {len cap nl nh nm:Nat} {kh km:IntKind} (hx:ρ x = .slice a len cap) (h1:bnd 0 (lo.map ρ) nl) (h2:ρ hi = .int kh nh) (h2':ρ mx = .int km nm) (h3:nl≤nh) (h4:nh≤nm) (h5:nm≤cap) :
    (execOp ρ ⟨d,.slice T x lo (some hi) (some mx),ty,pos,af,g⟩).run P w = .ok (.value (.slice (if nm=nl then a else a.map (·.add (nl*esz))) (nh-nl) (nm-nl))) w:=by
  obtain ⟨dd,xx,zz,hT⟩:=tiOk_und ht
  obtain ⟨rfl,hel⟩:=hT.sl _ _ _ rfl
  obtain ⟨y,z,hy,hys,_⟩:=elemOk_of hel
  simp only [execOp,hx]
  refine (run_bind_ok (P:=P) (x:=_) (w':=w) ?_).trans rfl
  simp only [Instr.sliceAt]
  rw [run_bind_ok (und_run hT.und w)]
  simp only [Instr.slice]
  rw [run_bind_ok (und_run hT.und w)]
  simp only [Option.map_some,h2,h2']
  rw [run_bind_ok (bounds3_run h1 rfl h3 h4 h5)]
  simp only
  rw [run_bind_ok (size_run hy w),hys]
  rfl
section
variable {C:Cx} {s:St} {w:World}
theorem slm {md:Option Md} {ops:Array Oper} {T:TypeId} {x hi mx:Operand} {lo:Option Operand} {d:Nat} {ty:TypeId} {pos:String} {af:Array Edge} {g:Option (Nat×Bool)} {rest:List Oper} {k:List Item} {l:Env} {c:CEnv} {e esz by' sz:Nat} {ag:Bool} {zr:List Value}
    {a:Option Addr} {len cap:Nat} (nl nh nm:Nat) {vlo:Option Value} {kh km:IntKind} (h:Wk C (.reg md ops rest k ((d,.slice (if nm=nl then a else a.map (·.add (nl*esz))) (nh-nl) (nm-nl))::l) c) w)
    (hs:adv C.tab C.n C.ks 400 s = .opn md ops ⟨some d,.slice T x lo (some hi) (some mx),ty,pos,af,g⟩ rest k l c []:=by rfl) (ht:C.tab.at T=some ⟨.slice e esz by',sz,ag,zr⟩:=by rfl) (hx:evc l c [] x=some (.slice a len cap):=by rfl)
    (hlo:evo l c [] lo=some vlo:=by rfl) (hhi:evc l c [] hi=some (.int kh nh):=by rfl) (hmx:evc l c [] mx=some (.int km nm):=by rfl) (h1:bnd 0 vlo nl:=by first | rfl | exact ⟨_,rfl⟩) (h3:nl≤nh:=by omega) (h4:nh≤nm:=by omega) (h5:nm≤cap:=by omega) (hf:fresh d l c []=true:=by rfl):Wk C s w :=
  rd (p:=[]) (fun hT _ hA hp _ _=>exec_slm (tab_at hT ht) (evc_ok hA.k hA.kc.c hp hx) (by rw [evo_ok hA.k hA.kc.c hp hlo];exact h1) (evc_ok hA.k hA.kc.c hp hhi) (evc_ok hA.k hA.kc.c hp hmx) h3 h4 h5) h hs rfl hf (okR_no rfl)
theorem grow_run {P:Program} {w:World} {T e esz by' sz:Nat} {ag:Bool} {zr:List Value} (ht:tiOk P T ⟨.slice e esz by',sz,ag,zr⟩=true) (hsz:0<esz) {a:Option Addr} {n cap:Nat} {xs:List Value} (hO:Src w a n xs) (hc:a=none→cap=0)
    {ay:Option Addr} {m cy:Nat} {news:List Value} (hy:Src w ay m news) (hlx:xs.length=n*esz) (hl:news.length=m*esz) (h1:news.all Value.oneCell'=true) (hg:cap<n+m) (hm:0<m) (hb:(n+m)*by'≤140737488355328) (hn:n+m≤1152921504606846976) (ty:TypeId) :
    ∃ a' cap' w',(Builtin.append_ #[T,T] ty #[.slice a n cap,.slice ay m cy]).run P w = .ok (.slice a' (n+m) cap') w'∧Ow w' w.heap.size e esz a' (n+m) cap' (xs++news)∧Bl w w':=by
  obtain ⟨d,x,z,hT⟩:=tiOk_und ht
  obtain ⟨rfl,hel⟩:=hT.sl _ _ _ rfl
  obtain ⟨y,zz,hyi,hys,hyb,hyz,hzc⟩:=elemOk_of hel
  have h63:n+m≤maxLen:=by unfold maxLen;omega
  rcases hy with ⟨rfl,rfl⟩ | ⟨b,o,rfl,hat⟩
  · omega
  have hnews:∀ j u,news[j]? = some u→w.cell? ((⟨b,o,none⟩:Addr).add j)=some u:=fun j u hu=>by rw [add_none];exact hat j u hu
  cases a with
  | none =>
    obtain rfl:=hc rfl
    rcases hO with ⟨rfl,rfl⟩ | ⟨b,o,h,_⟩
    · obtain ⟨a',cap',w',g1,g2,g3,g4⟩:=append_run (w:=w) (base:=w.heap.size) ht hsz (Ow.nil w w.heap.size e y.size |> fun h=>by rw [hys] at h;exact h) (.inr ⟨b,o,rfl,hat⟩) hl h1 (by omega) hn (Nat.le_refl _) ty (cy:=cy)
      exact ⟨a',cap',w',g1,g2,g3.below (Nat.le_refl _) fun g hg=>by cases hg⟩
    · cases h
  | some ad =>
    have hold:∀ j u,xs[j]? = some u→w.cell? (ad.add j)=some u:=fun j u hu=>by
      rcases hO with ⟨rfl,rfl⟩ | ⟨b,o,h,hx⟩
      · simp at hu
      · obtain rfl:=Option.some.inj h
        rw [add_none];exact hx j u hu
    obtain ⟨v',w',hr,ho,hgr⟩:=run_append_arg_grows (P:=P) w T ty _ y zz esz by' hT.und hyi hyz hys hyb hzc hsz ad n cap xs hlx hold ⟨b,o,none⟩ m cy news hl hnews hg h63 hb
    have hB:Bl w w':=⟨hgr.os,hgr.tape,hgr.output,hgr.size,fun k hk=>hgr.block k hk (by simp)⟩
    rcases ho.2 with ⟨rfl,h0⟩ | ⟨g',cap',cur',rfl,hb',_⟩
    · omega
    · exact ⟨_,_,w',hr,⟨ho⟩,hB⟩
theorem apg {md:Option Md} {ops:Array Oper} {T T':TypeId} {x y:Operand} {d:Nat} {ty:TypeId} {pos:String} {af:Array Edge} {g:Option (Nat×Bool)} {rest:List Oper} {k:List Item} {l:Env} {c:CEnv} {e esz by' sz:Nat} {ag:Bool} {zr:List Value}
    {a:Option Addr} {n cap:Nat} {xs:List Value} {ay:Option Addr} {m cy:Nat} {news:List Value} (hO:Src w a n xs) (hsrc:Src w ay m news) (hc:a=none→cap=0) (hg:cap<n+m) (hmp:0<m)
    (h:∀ a' cap' w',Ow w' w.heap.size e esz a' (n+m) cap' (xs++news)→Bl w w'→Wk C (.reg md ops rest k ((d,.slice a' (n+m) cap')::l) c) w')
    (hs:adv C.tab C.n C.ks 400 s = .opn md ops ⟨some d,.call ⟨.builtin .append,#[x,y],#[T,T']⟩,ty,pos,af,g⟩ rest k l c []:=by rfl) (ht:C.tab.at T=some ⟨.slice e esz by',sz,ag,zr⟩:=by rfl)
    (hx:evc l c [] x=some (.slice a n cap):=by rfl) (hy:evc l c [] y=some (.slice ay m cy):=by rfl) (hTT:T'=T:=by rfl) (hsz:Nat.blt 0 esz=true:=by rfl) (hlx:xs.length=n*esz:=by first | rfl | (simp;done) | omega) (hl:news.length=m*esz:=by first | rfl | (simp;done) | omega) (h1:news.all Value.oneCell'=true:=by first | rfl | (simp;done))
    (hb:(n+m)*by'≤140737488355328:=by omega) (hn:n+m≤1152921504606846976:=by omega) (hf:fresh d l c []=true:=by rfl) (hm:∀ w',Bl w w'→mdW md w w':=by exact fun _ h=>mdW_bl h) (hnt:notT md=true:=by rfl):Wk C s w:=by
  subst hTT
  refine by_adv hs ⟨fun hT hfn => ?_⟩
  obtain ⟨a',cap',w',hr,hO',hB⟩:=grow_run (tab_at hT ht) (blt_lt hsz) hO hc hsrc hlx hl h1 hg hmp hb hn ty (cy:=cy)
  refine (op_val0 (okW_of rfl hnt) (hm _ hB) (fun _ a hA => ?_) (h a' cap' w' hO' hB) rfl hf).run hT hfn
  simp only [execOp,resolve,List.map_toArray,List.map_cons,List.map_nil,evc_ok hA.k hA.kc.c (p:=[]) trivial hx,evc_ok hA.k hA.kc.c (p:=[]) trivial hy]
  show (Sem.bind (Sem.pure _) _).run C.P w=_
  simp only [Sem.bind,invoke,builtin]
  exact (run_bind_ok hr).trans rfl
end
end Go.Proofs.YtkmdfjpafkcleaaGreatDoor.Eng
namespace Go.Proofs.YtkmdfjpafkcleaaGreatDoor
open Eng Go.RowKit
theorem int_one (l:List Int):(l.flatMap encInt).all Value.oneCell'=true:=by
  rw [List.all_flatMap,List.all_eq_true];exact fun _ _=>rfl
theorem int_len (l:List Int):(l.flatMap encInt).length=l.length:=by
  rw [flat_length (sz:=1) (fun _=>rfl),Nat.mul_one]
theorem lt_at {out:List Int} {x:Int} {j:Nat} (h:∀ (i:Nat) y,i<j→out[i]? = some y→y<x) {y:Int} (hy:out[j]? = some y) (hlt:y<x):∀ (i:Nat) y,i<j+1→out[i]? = some y→y<x:=fun i z hi hz=>by
  rcases Nat.lt_or_ge i j with q | q
  · exact h i z q hz
  · obtain rfl:i=j:=by omega
    rw [hy] at hz;obtain rfl:=Option.some.inj hz;exact hlt
theorem ins_at {out:List Int} {x:Int} {j:Nat} (ha:AscI out) (_hj:j≤out.length) (h1:∀ (i:Nat) y,i<j→out[i]? = some y→y<x) (h2:∀ y,out[j]? = some y→x<y):AscI (out.take j++[x]++out.drop j):=by
  have ha':=ha
  unfold AscI at ha ⊢
  rw [←List.take_append_drop j out,List.pairwise_append] at ha
  rw [List.append_assoc,List.pairwise_append]
  refine ⟨ha.1,List.pairwise_cons.2 ⟨fun z hz => ?_,ha.2.1⟩,fun y hy z hz => ?_⟩
  · cases hd:out.drop j with
    | nil=>rw [hd] at hz;cases hz
    | cons d r =>
      have hdj:out[j]? = some d:=by
        have:(out.drop j)[0]? = some d:=by rw [hd];rfl
        rwa [List.getElem?_drop,Nat.add_zero] at this
      have hxd:=h2 d hdj
      rw [hd] at hz
      have hp:=ha.2.1
      rw [hd] at hp
      rcases List.mem_cons.1 hz with rfl | hz
      · exact hxd
      · have:=(List.pairwise_cons.1 hp).1 z hz;omega
  · obtain ⟨i,hi⟩:=List.mem_iff_getElem?.1 hy
    rw [List.getElem?_take] at hi
    split at hi
    · rename_i hij
      have hyx:=h1 i y hij hi
      rcases List.mem_cons.1 hz with rfl | hz
      · exact hyx
      · exact ha.2.2 y hy z hz
    · cases hi
theorem sl_dropI {S:Nat→Prop} {w:World} {a:Option Addr} {out:List Int} {c j:Nat} (h:Sl eInt S w a out) (hc:out.length≤c):Sl eInt S w (if c=j then a else a.map (·.add (j*1))) (out.drop j):=by
  split
  · rename_i e
    rw [List.drop_of_length_le (by omega)]
    exact Sl.nil ..
  · exact h.drop j
theorem r5_SortO (l:List Int) (al:Option Addr) (cl:Nat) (w:World) (hS:Sl eInt T w al l) :
    Ret Tryz.prog 79 #[.slice al l.length cl] w fun v w'=>∃ a c,v = .slice a (srtI l).length c∧OwP 1 encInt w' w.heap.size 3 a c (srtI l)∧Bl w w':=by
  have hbig:=hS.big
  refine entr (vs:=[.slice al l.length cl]) [0,2,3,4,5,6,10,27,44] tabok Tryz.func79 (by kernel_rfl) ?_
  refine lpk l.length 4 [3] [(0,.slice al l.length cl)] (fun k vals w'=>∃ out a c,vals=[.slice a out.length c]∧AscI out∧(∀ x,x∈out↔x∈l.take k)∧out.length≤k∧out.length≤c∧(a=none→c=0)∧Sl eInt (fun b=>w.heap.size≤b∧b<w'.heap.size) w' a out∧Bl w w'∧OwP 1 encInt w' w.heap.size 3 a c out)
    ⟨[],none,0,rfl,List.Pairwise.nil,fun x=>by simp,Nat.le_refl _,Nat.le_refl _,fun _=>rfl,Sl.nil ..,Bl.refl _,Ow.nil ..⟩ ?_
  rintro k vals w1 hk ⟨out,a,c,rfl,hA,hM,hl,hc,hn,hO,B1,hP⟩ ih
  by_cases hlt:k<l.length
  rotate_left
  · refine brF ?_
    obtain rfl:k=l.length:=by omega
    rw [List.take_length] at hM
    rw [srtI_of hA hM] at hP ⊢
    exact rt1 ⟨a,c,rfl,hP,B1⟩
  refine brT ?_
  obtain ⟨x,b,o,cs,hx,rfl,hbw,hAt,rfl⟩:=at_some (Sl.lt (by decide) hS) hlt
  refine lpk out.length 5 [] [(0,.slice (some ⟨b,o,none⟩) l.length cl),(3,.slice a out.length c),(4,I k)] (fun j vals w'=>vals=[]∧Bl w1 w'∧∀ (i:Nat) y,i<j→out[i]? = some y→y<x) ⟨rfl,Bl.refl _,fun i y h=>by omega⟩ ?_
  rintro j vals w2 hj ⟨rfl,B2,hb⟩ ih2
  refine dh T (List.range 15) fun w3 h3 => ?_
  have B3:=B2.trans h3.bl
  have B03:=B1.trans B3
  by_cases hjl:j<out.length
  · obtain ⟨y,b2,o2,cs2,hy,rfl,_,hA2,rfl⟩:=at_some (hO.bl B3) hjl
    refine spt (.bool false) ?_ (hb:=by simp;omega)
    refine ix ?_
    refine ldg (fun _=>hA2 0 _ rfl) ?_ (hm:=trivial)
    refine spt (.bool false) ?_
    refine ix ?_
    refine ldg (fun _=>hAt.bl B03 0 _ rfl) ?_ (hm:=trivial)
    refine br (fun h => ?_) (fun h => ?_)
    · have hyx:y<x:=by simpa using h
      exact ih2 hjl ⟨rfl,B3,lt_at hb hy hyx⟩
    · have hyx:¬y<x:=by simpa using h
      refine dh T (List.range 15) fun w4 h4 => ?_
      have B4:=B3.trans h4.bl
      have B04:=B1.trans B4
      refine spt (.bool false) ?_ (hb:=by simp;omega)
      refine ix ?_
      refine ldg (fun _=>hA2.bl h4.bl 0 _ rfl) ?_ (hm:=trivial)
      refine spt (.bool false) ?_
      refine ix ?_
      refine ldg (fun _=>hAt.bl B04 0 _ rfl) ?_ (hm:=trivial)
      refine br (fun h => ?_) (fun h => ?_)
      · have exy:y=x:=by simpa using h
        subst exy
        refine ih hlt ⟨out,some ⟨b2,o2,none⟩,c,rfl,hA,fun z => ?_,by omega,hc,hn,(hO.bl B4).sub fun i hi=>⟨hi.1,by have:=B4.size;omega⟩,B04,hP.bl B4⟩
        rw [take_succ_some hx,List.mem_append,←hM z,List.mem_singleton]
        exact ⟨.inl,fun q=>q.elim id fun q=>by subst q;exact List.mem_of_getElem? hy⟩
      · have hne:¬y=x:=by simpa using h
        have hgt:∀ z,out[j]? = some z→x<z:=fun z hz=>by
          rw [hy] at hz;obtain rfl:=Option.some.inj hz;omega
        clear ih2
        obtain ⟨a,ea⟩:∃ a,a=some (⟨b2,o2,none⟩:Addr):=⟨_,rfl⟩
        rw [←ea] at hO hn ⊢
        refine bs (cs:=[]) fun b6 w5 k5 => ?_
        have y5:=k5.blk
        have B5:=B4.trans k5.bl
        refine sl j out.length ?_
        have D5:=sl_dropI (j:=j) ((hO.bl B5).sub (S':=T) fun i hi=>trivial) hc
        have e1:(out.drop j).length=out.length-j:=List.length_drop
        have O5:OwP 1 encInt w5 b6 3 (some ⟨b6,0,none⟩) 0 ([]:List Int):=Ow.made (n:=0) k5 rfl (by omega)
        rw [←e1]
        refine apl (l0:=[]) O5 (src_of D5) (by have:=k5.size;omega) fun a6 c6 w6 O6 A6 F6 => ?_
        have B56:Bl w4 w6:=Below.trans k5.bl (A6.below (by have:=k5.size;omega) fun g hg=>by
          have h7:b6=g:=by simpa using hg
          omega)
        have B6:=B4.trans B56
        have B06:=B1.trans B6
        refine dh (· < w.heap.size) [0,1,2,3,4,5,6,7,10,8,9,11,12] fun w7 h7 => ?_
        have B07:=B06.trans h7.bl
        have B17:=B6.trans h7.bl
        have O7:=O6.bl h7.bl
        refine slm 0 j j ?_
        refine ix ?_
        refine ld (hAt.bl B07 0 _ rfl) ?_ (hm:=hbw)
        refine bs (cs:=encInt x) fun b8 w8 k8 => ?_
        have B18:=B17.trans k8.bl
        have T8:Eng.Src w8 (if j=0 then a else a.map (·.add (0*1))) (j-0) ((out.take j).flatMap encInt):=by
          have h0:=src_of ((hO.bl B18).take j)
          rw [List.length_take,Nat.min_eq_left hj] at h0
          have e2:(if j=0 then a else a.map (·.add (0*1)))=a:=by
            split
            · rfl
            · cases a <;> simp [Addr.add]
          rw [e2];exact h0
        refine apg (m:=1) (cap:=j-0) T8 (.inr ⟨b8,0,rfl,k8.box.at⟩) (fun e => ?_) (by omega) (by omega) (fun a9 c9 w9 O9 B89 => ?_) (hlx:=by rw [int_len,List.length_take];omega) (h1:=rfl)
        · split at e
          · omega
          · have:a=none:=by cases a with
              | none=>rfl
              | some q=>cases e
            have:=hn this
            omega
        have O9s:=src_of (owp_sl (S:=T) ((O7.bl k8.bl).bl B89) (by simp only [List.length_append,List.length_nil,List.length_drop];omega) (fun _ _=>trivial))
        have B19:=B18.trans B89
        refine ap O9 O9s (by have:=B89.size;omega) (fun a10 c10 w10 O10 A10 F10 => ?_) (hl:=by rw [int_len];omega) (h1:=int_one _) (hb:=by simp only [List.nil_append,List.length_drop];omega) (hn:=by simp only [List.nil_append,List.length_drop];omega) (hm:=apS fun g hg q=>by have:=(O9.lt hg).1;have:=B07.size;have:=k8.size;omega)
        have e3:j-0+1+([]++out.drop j).length=(out.take j++[x]++out.drop j).length:=by
          simp only [List.length_append,List.length_take,List.length_drop,List.length_nil,List.length_cons];omega
        have e4:(out.take j).flatMap encInt++encInt x++([]++out.drop j).flatMap encInt=(out.take j++[x]++out.drop j).flatMap encInt:=by
          simp only [List.flatMap_append,List.flatMap_cons,List.flatMap_nil,List.nil_append,List.append_nil]
        rw [e4,e3] at O10
        rw [e3]
        have B110:Bl w1 w10:=Below.trans B19 (A10.below (by exact B19.size) fun g hg=>by have:=(O9.lt hg).1;have:=B18.size;omega)
        have hlen:(out.take j++[x]++out.drop j).length=out.length+1:=by
          simp only [List.length_append,List.length_take,List.length_drop,List.length_nil,List.length_cons];omega
        refine ih hlt ⟨out.take j++[x]++out.drop j,a10,c10,rfl,ins_at hA hj hb hgt,fun z => ?_,by omega,O10.capn.1,O10.capn.2,O10.sl rfl (by omega) fun g hg => ?_,B1.trans B110,O10.base (by have:=B18.size;have:=B1.size;omega)⟩
        · rw [take_succ_some hx,List.mem_append (s:=l.take k),←hM z]
          have:z∈out↔z∈out.take j++out.drop j:=by rw [List.take_append_drop]
          rw [this]
          simp only [List.mem_append,List.mem_singleton]
          exact or_right_comm
        · have:=O10.lt hg
          have:=B17.size
          have:=B1.size
          have:=k8.size
          omega
  · refine spn (.pointer (some ⟨0,0,none⟩)) ?_ (hb:=by simp;omega)
    refine spn (I 0) ?_ (hb:=by simp;omega)
    refine spn (.pointer (some ⟨0,0,none⟩)) ?_ (hb:=by simp;omega)
    refine spn (I 0) ?_ (hb:=by simp;omega)
    refine brf ?_ (hp:=by first | (simp;done) | (simp;omega))
    refine dh T (List.range 15) fun w4 h4 => ?_
    have B4:=B3.trans h4.bl
    have B04:=B1.trans B4
    refine spn (.pointer (some ⟨0,0,none⟩)) ?_ (hb:=by simp;omega)
    refine spn (I 0) ?_ (hb:=by simp;omega)
    refine spn (.pointer (some ⟨0,0,none⟩)) ?_ (hb:=by simp;omega)
    refine spn (I 0) ?_ (hb:=by simp;omega)
    refine brf ?_ (hp:=by simp;omega)
    have hgt:∀ z,out[j]? = some z→x<z:=fun z hz=>by
      rw [List.getElem?_eq_none (by omega)] at hz;cases hz
    clear ih2
    refine bs (cs:=[]) fun b6 w5 k5 => ?_
    have y5:=k5.blk
    have B5:=B4.trans k5.bl
    refine sl j out.length ?_
    have D5:=sl_dropI (j:=j) ((hO.bl B5).sub (S':=T) fun i hi=>trivial) hc
    have e1:(out.drop j).length=out.length-j:=List.length_drop
    have O5:OwP 1 encInt w5 b6 3 (some ⟨b6,0,none⟩) 0 ([]:List Int):=Ow.made (n:=0) k5 rfl (by omega)
    rw [←e1]
    refine apl (l0:=[]) O5 (src_of D5) (by have:=k5.size;omega) fun a6 c6 w6 O6 A6 F6 => ?_
    have B56:Bl w4 w6:=Below.trans k5.bl (A6.below (by have:=k5.size;omega) fun g hg=>by
      have h7:b6=g:=by simpa using hg
      omega)
    have B6:=B4.trans B56
    have B06:=B1.trans B6
    refine dh (· < w.heap.size) [0,1,2,3,4,5,6,7,10,8,9,11,12] fun w7 h7 => ?_
    have B07:=B06.trans h7.bl
    have B17:=B6.trans h7.bl
    have O7:=O6.bl h7.bl
    refine slm 0 j j ?_
    refine ix ?_
    refine ld (hAt.bl B07 0 _ rfl) ?_ (hm:=hbw)
    refine bs (cs:=encInt x) fun b8 w8 k8 => ?_
    have B18:=B17.trans k8.bl
    have T8:Eng.Src w8 (if j=0 then a else a.map (·.add (0*1))) (j-0) ((out.take j).flatMap encInt):=by
      have h0:=src_of ((hO.bl B18).take j)
      rw [List.length_take,Nat.min_eq_left hj] at h0
      have e2:(if j=0 then a else a.map (·.add (0*1)))=a:=by
        split
        · rfl
        · cases a <;> simp [Addr.add]
      rw [e2];exact h0
    refine apg (m:=1) (cap:=j-0) T8 (.inr ⟨b8,0,rfl,k8.box.at⟩) (fun e => ?_) (by omega) (by omega) (fun a9 c9 w9 O9 B89 => ?_) (hlx:=by rw [int_len,List.length_take];omega) (h1:=rfl)
    · split at e
      · omega
      · have:a=none:=by cases a with
          | none=>rfl
          | some q=>cases e
        have:=hn this
        omega
    have O9s:=src_of (owp_sl (S:=T) ((O7.bl k8.bl).bl B89) (by simp only [List.length_append,List.length_nil,List.length_drop];omega) (fun _ _=>trivial))
    have B19:=B18.trans B89
    refine ap O9 O9s (by have:=B89.size;omega) (fun a10 c10 w10 O10 A10 F10 => ?_) (hl:=by rw [int_len];omega) (h1:=int_one _) (hb:=by simp only [List.nil_append,List.length_drop];omega) (hn:=by simp only [List.nil_append,List.length_drop];omega) (hm:=apS fun g hg q=>by have:=(O9.lt hg).1;have:=B07.size;have:=k8.size;omega)
    have e3:j-0+1+([]++out.drop j).length=(out.take j++[x]++out.drop j).length:=by
      simp only [List.length_append,List.length_take,List.length_drop,List.length_nil,List.length_cons];omega
    have e4:(out.take j).flatMap encInt++encInt x++([]++out.drop j).flatMap encInt=(out.take j++[x]++out.drop j).flatMap encInt:=by
      simp only [List.flatMap_append,List.flatMap_cons,List.flatMap_nil,List.nil_append,List.append_nil]
    rw [e4,e3] at O10
    rw [e3]
    have B110:Bl w1 w10:=Below.trans B19 (A10.below (by exact B19.size) fun g hg=>by have:=(O9.lt hg).1;have:=B18.size;omega)
    have hlen:(out.take j++[x]++out.drop j).length=out.length+1:=by
      simp only [List.length_append,List.length_take,List.length_drop,List.length_nil,List.length_cons];omega
    refine ih hlt ⟨out.take j++[x]++out.drop j,a10,c10,rfl,ins_at hA hj hb hgt,fun z => ?_,by omega,O10.capn.1,O10.capn.2,O10.sl rfl (by omega) fun g hg => ?_,B1.trans B110,O10.base (by have:=B18.size;have:=B1.size;omega)⟩
    · rw [take_succ_some hx,List.mem_append (s:=l.take k),←hM z]
      have:z∈out↔z∈out.take j++out.drop j:=by rw [List.take_append_drop]
      rw [this]
      simp only [List.mem_append,List.mem_singleton]
      exact or_right_comm
    · have:=O10.lt hg
      have:=B17.size
      have:=B1.size
      have:=k8.size
      omega
theorem r5_Sort (l:List Int) (al:Option Addr) (cl:Nat) (w:World) (hS:Sl eInt T w al l) :
    Ret Tryz.prog 79 #[.slice al l.length cl] w fun v w'=>∃ a c,v = .slice a (srtI l).length c∧Sl eInt (fun b=>w.heap.size≤b∧b<w'.heap.size) w' a (srtI l)∧Bl w w' :=
  (r5_SortO l al cl w hS).mono fun v w' ⟨a,c,e,hO,hB⟩=>⟨a,c,e,owp_sl hO (by have:=srtI_len l;have:=hS.big;omega) fun _ hg=>hO.lt hg,hB⟩
end Go.Proofs.YtkmdfjpafkcleaaGreatDoor
namespace Go.Proofs.YtkmdfjpafkcleaaGreatDoor
open Eng Go.RowKit
theorem ityp_bad {m:Mod} {t:Ty} {least:Int} (hl:least=0∨least=1) (h:t.kind<least∨4<t.kind):ityp m t least=false:=by
  unfold ityp
  rw [if_neg (by omega)]
  split
  · rw [decide_eq_false (by omega)];rfl
  · rfl
theorem ityp_obj {m:Mod} {t:Ty} {least:Int} (h:t.kind=2∨t.kind=4):ityp m t least=(decide (0≤t.cls)&&decide (t.cls<m.classes.length)):=by
  unfold ityp
  rw [if_pos h]
theorem ityp_no {m:Mod} {t:Ty} {least:Int} (h0:0≤least) (h:¬(t.kind=2∨t.kind=4)) (h1:¬t.kind<least) (h2:¬4<t.kind):ityp m t least=decide (t.cls=0):=by
  unfold ityp
  rw [if_neg h,if_pos (by omega),decide_eq_true (show least≤t.kind by omega),Bool.true_and]
theorem r5_IsType (m:Mod) (a:MA) (t:Ty) (least:Int) (hl:least=0∨least=1) (w:World) :
    Ret Tryz.prog 115 #[.agg (modcells m a).toArray,.agg (encTy t).toArray,I least] w fun v w'=>v = .bool (ityp m t least)∧Bl w w':=by
  refine entr (vs:=[.agg (modcells m a).toArray,.agg (encTy t).toArray,I least]) [0,1,2,3,4,6,15,23] tabok Tryz.func115 (by kernel_rfl) ?_
  refine bx (cs:=modcells m a) fun b1 w1 k1 => ?_
  refine bx (cs:=encTy t) fun b2 w2 k2 => ?_
  have B2:=k1.bl.trans k2.bl
  have x1:=Bl.box k2.bl k1.box
  have x2:=k2.box
  refine ld (x2.cell rfl) ?_
  refine ldg (fun _=>x2.cell rfl) ?_
  refine br (fun h => ?_) (fun h => ?_)
  · refine rt1 ⟨congrArg Value.bool (ityp_bad hl (by simpa using h)).symm,B2⟩
  have h':¬t.kind<least∧¬4<t.kind:=by simpa using h
  refine ld (x2.cell rfl) ?_
  refine ldg (fun _=>x2.cell rfl) ?_
  refine br (fun h2 => ?_) (fun h2 => ?_)
  · refine ld (x2.cell rfl) ?_
    refine ldg (fun _=>x2.cell rfl) ?_
    refine ldg (fun _=>x1.cell rfl) ?_
    refine rt1 ⟨congrArg Value.bool (ityp_obj (by simpa using h2)).symm,B2⟩
  have h2':¬(t.kind=2∨t.kind=4):=by simpa using h2
  refine ld (x2.cell rfl) ?_
  refine rt1 ⟨congrArg Value.bool (ityp_no (by omega) h2' h'.1 h'.2).symm,B2⟩
theorem r5_types (m:Mod) (a:MA) (l:List Ty) (al:Option Addr) (ce:Nat) (w:World) (hS:Sl eTy T w al l) :
    Ret Tryz.prog 52 #[.agg (modcells m a).toArray,.slice al l.length ce] w fun v w'=>v = .bool (l.all fun t=>ityp m t 1)∧Bl w w':=by
  have hbig:=hS.big
  refine entr (vs:=[.agg (modcells m a).toArray,.slice al l.length ce]) [0,1,2,4,5,9,18] tabok Tryz.func52 (by kernel_rfl) ?_
  refine bx (cs:=modcells m a) fun b1 w1 k1 => ?_
  have x1:=k1.box
  refine lpk l.length 5 [] [(1,.slice al l.length ce),(2,.pointer (some ⟨b1,0,none⟩))] (fun k vals w'=>vals=[]∧(l.take k).all (fun t=>ityp m t 1)=true∧Bl w1 w') ⟨rfl,rfl,Bl.refl _⟩ ?_
  rintro k vals w2 hk ⟨rfl,ha,B2⟩ ih
  have y1:=Bl.box B2 x1
  have B02:=k1.bl.trans B2
  by_cases hlt:k<l.length
  · refine brT ?_
    refine dh T (List.range 7) fun w3 h3 => ?_
    have B3:=B2.trans h3.bl
    obtain ⟨t,b,o,cs,ht,rfl,_,hAt,rfl⟩:=at_some (hS.bl (B02.trans h3.bl)) hlt
    refine lda (h3.box y1).at ?_ (hm:=trivial)
    refine ix ?_
    refine lda hAt ?_ (hm:=trivial)
    refine cl (r5_IsType m a t 1 (.inr rfl) w3) ?_
    rintro _ w4 ⟨rfl,B34⟩
    refine br (fun h => ?_) (fun h => ?_)
    · refine rt1 ⟨congrArg Value.bool (all_miss ht (by simpa using h)).symm,(k1.bl.trans B3).trans B34⟩
    · exact ih hlt ⟨rfl,all_snoc' ht ha (by simpa using h),B3.trans B34⟩
  refine brF ?_
  obtain rfl:k=l.length:=by omega
  refine rt1 ⟨congrArg Value.bool (all_end ha).symm,B02⟩
theorem mem_step {m:Mod} {k:Nat} (h:Desc m k) {a b:Int} (h0:0≤a) (ha:a<k) (hne:¬a=b):b∈upM m a↔b∈upM m (supM m a):=by
  rw [upM_step h h0 ha,List.mem_cons]
  exact ⟨fun q=>q.resolve_left fun e=>hne e.symm,.inr⟩
theorem r5_above (m:Mod) (a:MA) {kk:Nat} (hd:Desc m kk) (x y:Int) (hx:x<kk) (hx0 : -1≤x) (w:World) (hM:MdR T w m a) :
    Ret Tryz.prog 73 #[.agg (modcells m a).toArray,I x,I y] w fun v w'=>v = .bool (decide (y∈upM m x))∧Bl w w':=by
  have hbig:=hM.cls.big
  have hdl:=hd.1
  refine entr (vs:=[.agg (modcells m a).toArray,I x,I y]) [0,1,2,3,6,7,16,21] tabok Tryz.func73 (by kernel_rfl) ?_
  refine bx (cs:=modcells m a) fun b1 w1 k1 => ?_
  have x1:=k1.box
  refine lpk (m.classes.length+1) 7 [1] [(2,I y),(3,.pointer (some ⟨b1,0,none⟩))] (fun k vals w'=>(∃ z:Int,vals=[I z] ∧ -1≤z∧z<kk∧(z+k≤x∨z = -1)∧(y∈upM m x↔y∈upM m z))∧w1=w') ⟨⟨x,rfl,hx0,hx,.inl (by omega),Iff.rfl⟩,rfl⟩ ?_
  rintro k vals _ hk ⟨⟨z,rfl,hz0,hzk,hzx,hzy⟩,rfl⟩ ih
  refine ld (x1.cell rfl) ?_
  refine br (fun h => ?_) (fun h => ?_)
  · have h':(k:Int)≤m.classes.length∧0≤z:=by simpa using h
    obtain ⟨j,rfl⟩:=Int.eq_ofNat_of_zero_le h'.2
    refine br (fun h2 => ?_) (fun h2 => ?_)
    · have e:(j:Int)=y:=by simpa using h2
      refine rt1 ⟨congrArg Value.bool (decide_eq_true (hzy.2 (e▸upM_self h'.2))).symm,k1.bl⟩
    have hne:¬(j:Int)=y:=by simpa using h2
    obtain ⟨c,b,o,cs,hc,e2,_,hAt,a1,c1,a2,c2,rfl,_⟩:=at_some (hM.bl k1.bl).cls (i:=j) (by omega)
    refine ld (x1.cell rfl) ?_
    rw [e2]
    refine ix ?_
    refine ld (hAt 1 _ rfl) ?_
    have hs:=sup_lt hd h'.2 hzk
    rw [mem_step hd h'.2 hzk hne] at hzy
    rw [supM_at hc] at hs hzy
    exact ih (by omega) ⟨⟨c.super,rfl,hs.1,by omega,by omega,hzy⟩,rfl⟩
  · have hz:z<0:=by
      rcases Classical.em (z<0) with q | q
      · exact q
      · rw [decide_eq_true (show (k:Int)≤m.classes.length by omega),decide_eq_true (show (0:Int)≤z by omega)] at h
        cases h
    rw [upM_neg hz] at hzy
    refine rt1 ⟨congrArg Value.bool (decide_eq_false (fun q=>by have:=hzy.1 q;cases this)).symm,k1.bl⟩
def rT (s:Nat) (l:List MC):List Int:=(l.map fun c=>c.table.getD s (-1)).filter fun n=>decide (0≤n)
theorem rT_snoc {s:Nat} {l:List MC} {k:Nat} {c:MC} {n:Int} (hc:l[k]? = some c) (hn:c.table[s]? = some n):rT s (l.take (k+1))=rT s (l.take k)++(if 0≤n then [n] else []):=by
  have e:c.table.getD s (-1)=n:=by rw [List.getD_eq_getElem?_getD,hn];rfl
  unfold rT
  rw [take_succ_some hc,List.map_append,List.filter_append]
  congr 1
  simp only [List.map_cons,List.map_nil,e]
  split
  · rename_i h;rw [List.filter_cons_of_pos (by simpa using h)];rfl
  · rename_i h;rw [List.filter_cons_of_neg (by simpa using h)];rfl
theorem rT_len (s:Nat) (l:List MC):(rT s l).length≤l.length:=by
  unfold rT
  refine Nat.le_trans (List.length_filter_le _ _) ?_
  rw [List.length_map];exact Nat.le_refl _
theorem r5_targets (m:Mod) (a:MA) (s:Nat) (hT:∀ c∈m.classes,s<c.table.length) (w:World) (hM:MdR T w m a) :
    Ret Tryz.prog 54 #[.agg (modcells m a).toArray,I s] w fun v w'=>∃ a c,v = .slice a (trgM m s).length c∧Sl eInt (fun b=>w.heap.size≤b∧b<w'.heap.size) w' a (trgM m s)∧Bl w w':=by
  have hbig:=hM.cls.big
  refine entr (vs:=[.agg (modcells m a).toArray,I s]) [0,1,2,4,5,6,11,23] tabok Tryz.func54 (by kernel_rfl) ?_
  refine bx (cs:=modcells m a) fun b1 w1 k1 => ?_
  have x1:=k1.box
  have y1:=k1.blk
  have z1:=k1.size
  refine lpk m.classes.length 6 [5] [(1,I s),(2,.pointer (some ⟨b1,0,none⟩))] (fun k vals w'=>∃ a c,vals=[.slice a (rT s (m.classes.take k)).length c]∧OwP 1 encInt w' w1.heap.size 3 a c (rT s (m.classes.take k))∧Bl w1 w') ⟨none,0,rfl,Ow.nil ..,Bl.refl _⟩ ?_
  rintro k vals w2 hk ⟨a2,c2,rfl,O2,B2⟩ ih
  have y2:=Bl.box B2 x1
  have B02:=k1.bl.trans B2
  have z2:=B2.size
  refine ld (y2.cell rfl) ?_
  by_cases hlt:k<m.classes.length
  · refine brT ?_
    obtain ⟨c,b,o,cs,hc,e2,_,hAt,a3,c3,a4,c4,rfl,_,hF,_⟩:=at_some (hM.bl B02).cls hlt
    have hcm:=List.mem_of_getElem? hc
    obtain ⟨n,b5,o5,cs5,hn,e5,_,hA5,rfl⟩:=at_some hF (hT c hcm)
    refine ld (y2.cell rfl) ?_
    rw [e2]
    refine ix ?_
    refine ld (hAt 3 _ rfl) ?_
    rw [e5]
    refine ix (j:=s) ?_ (hb:=hT c hcm)
    refine ld (hA5 0 _ rfl) ?_
    have hl:=rT_len s (m.classes.take k)
    rw [List.length_take] at hl
    refine br (fun h => ?_) (fun h => ?_)
    · have h0:0≤n:=by simpa using h
      refine ld (y2.cell rfl) ?_
      rw [e2]
      refine ix ?_
      refine ld (hAt 3 _ rfl) ?_
      rw [e5]
      refine ix (j:=s) ?_ (hb:=hT c hcm)
      refine ld (hA5 0 _ rfl) ?_
      refine bs (cs:=encInt n) fun b6 w6 k6 => ?_
      refine apl (l1:=[n]) (O2.bl k6.bl) (.inr ⟨b6,0,rfl,k6.box.at⟩) (by have:=k6.size;omega) fun a7 c7 w7 O7 A7 _ => ?_
      have e7:rT s (m.classes.take (k+1))=rT s (m.classes.take k)++[n]:=by rw [rT_snoc hc hn,if_pos h0]
      refine ih hlt ⟨a7,c7,by rw [e7],by rw [e7];exact O7,Below.trans (B2.trans k6.bl) (A7.below (by have:=k6.size;omega) fun g hg=>(O2.lt hg).1)⟩
    · have h0:¬0≤n:=by simpa using h
      have e7:rT s (m.classes.take (k+1))=rT s (m.classes.take k):=by rw [rT_snoc hc hn,if_neg h0,List.append_nil]
      exact ih hlt ⟨a2,c2,by rw [e7],by rw [e7];exact O2,B2⟩
  refine brF ?_
  obtain rfl:k=m.classes.length:=by omega
  rw [List.take_length] at O2 ⊢
  have hl:=rT_len s m.classes
  refine cl (r5_Sort (rT s m.classes) a2 c2 w2 (owp_sl O2 (by omega) fun _ _=>trivial)) ?_ (hm:=fun _ _ r=>by obtain ⟨_,_,_,_,hB⟩:=r;exact mdW_bl hB)
  rintro _ w3 ⟨a3,c3,rfl,hS3,B3⟩
  exact rt1 ⟨a3,c3,rfl,hS3.sub fun i hi=>by have:=B02.size;omega,B02.trans B3⟩
end Go.Proofs.YtkmdfjpafkcleaaGreatDoor
namespace Go.Proofs.YtkmdfjpafkcleaaGreatDoor
open Eng Go.RowKit
theorem part_cell {P:Program} {w:World} {t:TypeId} {tk:TK} {sz:Nat} {zr:List Value} {xs:Array Value} {off:Nat} {v:Value} (h:tiOk P t ⟨tk,sz,false,zr⟩=true) (hv:xs[off]? = some v):(part t xs off).run P w = .ok v w:=by
  unfold part
  rw [run_bind_ok (ti_agg h w).1]
  simp only [hv];rfl
def shp:List Field→List (Nat×Nat)→Bool
  | [],[]=>true
  | f::fs,(t,o)::ts=>decide (f.name ≠ "_")&&decide (f.type=t)&&decide (f.offset=o)&&shp fs ts
  | _,_=>false
theorem eqf_gen {P:Program} {w:World} {d:Nat} {t o:Nat} {ts:List (Nat×Nat)} {fs:List Field} {xs ys:Array Value} {vx vy:Value} {r:Bool} (h:shp fs ((t,o)::ts)=true)
    (hx:(part t xs o).run P w = .ok vx w) (hy:(part t ys o).run P w = .ok vy w) (he:(Op.equalIn d t vx vy).run P w = .ok r w):∃ fs',shp fs' ts=true∧(Op.eqFields d xs ys fs).run P w=if r=true then (Op.eqFields d xs ys fs').run P w else .ok false w:=by
  cases fs with
  | nil=>simp [shp] at h
  | cons f fs =>
    simp only [shp,Bool.and_eq_true,decide_eq_true_eq] at h
    obtain ⟨⟨⟨h1,rfl⟩,rfl⟩,h4⟩:=h
    refine ⟨fs,h4,?_⟩
    rw [Op.eqFields,if_pos h1,run_bind_ok hx,run_bind_ok hy,run_bind_ok he]
    cases r <;> rfl
theorem eqf_nil {P:Program} {w:World} {d:Nat} {fs:List Field} {xs ys:Array Value} (h:shp fs []=true):(Op.eqFields d xs ys fs).run P w = .ok true w:=by
  cases fs with
  | nil=>rfl
  | cons f fs=>simp [shp] at h
theorem ti_i:tiOk Tryz.prog 3 ⟨.other,1,false,[.int .i64 0]⟩=true:=tab_at tabok rfl
theorem eq_i {w:World} {d:Nat} (a b:Int):(Op.equalIn (d+1) 3 (I a) (I b)).run Tryz.prog w = .ok (a == b) w:=run_equalIn_int w d _ .i64 .i64 _ _ (by kernel_rfl)
theorem eq_ty {w:World} {d:Nat} (x y:Ty):(Op.equalIn (d+2) 51 (.agg (encTy x).toArray) (.agg (encTy y).toArray)).run Tryz.prog w = .ok (decide (x=y)) w:=by
  rw [run_equalIn_struct w (d+1) _ _ _ (by kernel_rfl) (by kernel_rfl)]
  obtain ⟨f1,h1,e1⟩:=eqf_gen (P:=Tryz.prog) (w:=w) (d:=d+1) (ts:=[(3,1)]) (xs:=(encTy x).toArray) (ys:=(encTy y).toArray) (show shp (Tryz.prog.fieldsOf 51).toList [(3,0),(3,1)]=true by kernel_rfl) (part_cell ti_i rfl) (part_cell ti_i rfl) (eq_i x.kind y.kind)
  obtain ⟨f2,h2,e2⟩:=eqf_gen (P:=Tryz.prog) (w:=w) (d:=d+1) (xs:=(encTy x).toArray) (ys:=(encTy y).toArray) h1 (part_cell ti_i rfl) (part_cell ti_i rfl) (eq_i x.cls y.cls)
  rw [e1,e2,eqf_nil h2]
  obtain ⟨a,b⟩:=x
  obtain ⟨c,e⟩:=y
  by_cases p:a=c <;> by_cases q:b=e <;> simp [p,q]
theorem Eng.neA {C:Cx} {s:St} {w:World} {md:Option Md} {ops:Array Oper} {T T':TypeId} {x y:Operand} {d:Nat} {ty:TypeId} {pos:String} {af:Array Edge} {g:Option (Nat×Bool)} {rest:List Oper} {k:List Item} {l:Env} {c:CEnv} {a b:List Value} {r:Bool}
    (he:∀ w',(Op.equalIn 10000 T (.agg a.toArray) (.agg b.toArray)).run C.P w' = .ok r w') (h:Wk C (.reg md ops rest k ((d,.bool (!r))::l) c) w)
    (hs:adv C.tab C.n C.ks 400 s = .opn md ops ⟨some d,.binOp .neq T x y T',ty,pos,af,g⟩ rest k l c []:=by rfl) (hx:evc l c [] x=some (.agg a.toArray):=by rfl) (hy:evc l c [] y=some (.agg b.toArray):=by rfl) (hg:C.P.eqGuardType C.P.depth T=false:=by kernel_rfl) (hf:fresh d l c []=true:=by rfl):Wk C s w :=
  rd (p:=[]) (fun _ _ hA hp w' _=>by
    simp only [execOp,evc_ok hA.k hA.kc.c hp hx,evc_ok hA.k hA.kc.c hp hy]
    have hb:(binOp .neq T (.agg a.toArray) (.agg b.toArray)).run C.P w' = .ok (.bool (!r)) w':=by rw [run_neq_struct,he];rfl
    exact run_bind_ok (run_bind_ok (run_eqGuard_agg _ _ _ _ _ _ _ hg) |>.trans hb) |>.trans rfl) h hs rfl hf (okR_no rfl)
theorem same_no {α:Type} [DecidableEq α] {l m:List α} {k:Nat} {x y:α} (hx:l[k]? = some x) (hy:m[k]? = some y) (h:x≠y):decide (l=m)=false:=by
  rw [decide_eq_false_iff_not]
  rintro rfl
  rw [hx] at hy
  exact h (Option.some.inj hy)
theorem same_len {α:Type} [DecidableEq α] {l m:List α} (h:(l.length:Int)≠m.length):decide (l=m)=false:=by
  rw [decide_eq_false_iff_not]
  rintro rfl
  exact h rfl
theorem same_go {α:Type} {l m:List α} {k:Nat} {x y:α} (hx:l[k]? = some x) (hy:m[k]? = some y) (h:x=y) (hk:l.take k=m.take k):l.take (k+1)=m.take (k+1):=by
  rw [take_succ_some hx,take_succ_some hy,hk,h]
theorem same_end {α:Type} [DecidableEq α] {l m:List α} {k:Nat} (hl:(l.length:Int)=m.length) (h:l.take k=m.take k) (hk:k=l.length):decide (l=m)=true:=by
  subst hk
  rw [List.take_length,List.take_of_length_le (by omega)] at h
  exact decide_eq_true h
theorem r_SameTypes (l m:List Ty) (a1 a2:Option Addr) (c1 c2:Nat) (w:World) (h1:Sl eTy T w a1 l) (h2:Sl eTy T w a2 m):Ret Tryz.prog 40 #[.slice a1 l.length c1,.slice a2 m.length c2] w fun v w'=>v = .bool (decide (l=m))∧Bl w w':=by
  refine entr (vs:=[.slice a1 l.length c1,.slice a2 m.length c2]) [0,1,4,5,10,14,25] tabok Tryz.func40 (by kernel_rfl) ?_
  have hb1:=h1.big
  have hb2:=h2.big
  refine br (fun h => ?_) (fun h => ?_)
  · exact rt1 ⟨vb (same_len (of_decide_eq_true h)).symm,Bl.refl _⟩
  have hl:=Classical.not_not.1 (of_decide_eq_false h)
  refine lpk l.length 5 [] [(0,.slice a1 l.length c1),(1,.slice a2 m.length c2)] (fun k vals w'=>vals=[]∧l.take k=m.take k∧Bl w w') ⟨rfl,rfl,Bl.refl _⟩ ?_
  rintro k vals w2 hk ⟨rfl,ha,hB⟩ ih
  by_cases hlt:k<l.length
  · refine brT ?_
    obtain ⟨x,b,o,cs,hx,rfl,_,hAt,rfl⟩:=at_some (h1.bl hB) hlt
    obtain ⟨y,b',o',cs',hy,rfl,_,hAt',rfl⟩:=at_some (h2.bl hB) (i:=k) (by omega)
    refine dh T (List.range 9) fun w8 h8 => ?_
    have hC:=hAt.bl h8.bl
    have hC':=hAt'.bl h8.bl
    refine ix ?_
    refine lda hC ?_ (hm:=trivial)
    refine ix ?_
    refine lda hC' ?_ (hm:=trivial)
    refine neA (fun w=>eq_ty x y) ?_
    refine br (fun h => ?_) (fun h => ?_)
    · exact rt1 ⟨vb (same_no hx hy (fun e=>by rw [decide_eq_true e] at h;cases h)).symm,hB.trans h8.bl⟩
    · exact ih hlt ⟨rfl,same_go hx hy (Classical.byContradiction fun e=>by rw [decide_eq_false e] at h;cases h) ha,hB.trans h8.bl⟩
  refine brF ?_
  exact rt1 ⟨vb (same_end hl ha (by omega)).symm,hB⟩
end Go.Proofs.YtkmdfjpafkcleaaGreatDoor
namespace Go.Proofs.YtkmdfjpafkcleaaGreatDoor
open Eng Go.RowKit
theorem IndexFunc_int (l:List Int) (a:Option Addr) (cap:Nat) (g:FuncId) (caps:List Value) (p:Int→Bool) (S:Nat→Prop) (w:World) (hS:Sl eInt S w a l)
    (hp:∀ x cs,x∈l→∀ w',Bl w w'→(eInt).rel S w' cs x→Ret Tryz.prog g ([asV cs]++caps).toArray w' fun v w''=>v = .bool (p x)∧Bl w' w'') :
    Ret Tryz.prog 193 #[.slice a l.length cap,.func (.func g) #[] caps.toArray] w fun v w'=>(∃ i:Int,v=I i∧decide (i≥0)=l.any p)∧Bl w w':=by
  refine entr (vs:=[.slice a l.length cap,.func (.func g) #[] caps.toArray]) [0,1,4,5,7,8,9,16] tabok Tryz.func193 (by kernel_rfl) ?_
  have hbig:=hS.big
  refine lp [8] [(0,.slice a l.length cap),(1,.func (.func g) #[] caps.toArray),(7,I l.length)] (fun m vals w'=>∃ k:Nat,m=l.length-k∧k≤l.length∧vals=[I k]∧(l.take k).any p=false∧Bl w w') ⟨rfl,rfl,rfl,trivial⟩ ⟨0,rfl,Nat.zero_le _,rfl,rfl,Bl.refl _⟩ ?_
  rintro m vals w1 ⟨k,rfl,hk,rfl,ha,hB⟩ ih
  by_cases hlt:k<l.length
  · refine brT ?_
    obtain ⟨x,b,o,cs,hx,rfl,hSb,hAt,rfl⟩:=at_some (hS.bl hB) hlt
    refine ix ?_
    refine ld (hAt 0 _ rfl) ?_
    refine cl (hp x _ (List.mem_of_getElem? hx) _ hB rfl) ?_
    rintro _ w2 ⟨rfl,hB2⟩
    refine br (fun h => ?_) (fun h => ?_)
    · exact rt1 ⟨⟨k,rfl,by rw [any_hit hx h];simp⟩,hB.trans hB2⟩
    · refine again (ih _ _ _ _ (by omega) ⟨rfl,rfl,rfl,trivial⟩ rfl ⟨k+1,rfl,by omega,lst1 (inc hlt),any_snoc hx ha h,hB.trans hB2⟩)
  · refine brF ?_
    obtain rfl:k=l.length:=by omega
    exact rt1 ⟨⟨-1,rfl,by rw [any_end ha];rfl⟩,hB⟩
theorem ContainsFunc_int (l:List Int) (a:Option Addr) (cap:Nat) (g:FuncId) (caps:List Value) (p:Int→Bool) (S:Nat→Prop) (w:World) (hS:Sl eInt S w a l)
    (hp:∀ x cs,x∈l→∀ w',Bl w w'→(eInt).rel S w' cs x→Ret Tryz.prog g ([asV cs]++caps).toArray w' fun v w''=>v = .bool (p x)∧Bl w' w'') :
    Ret Tryz.prog 132 #[.slice a l.length cap,.func (.func g) #[] caps.toArray] w fun v w'=>v = .bool (l.any p)∧Bl w w':=by
  refine entr (vs:=[.slice a l.length cap,.func (.func g) #[] caps.toArray]) [0,1,4] tabok Tryz.func132 (by kernel_rfl) ?_
  refine cl (IndexFunc_int l a cap g caps p S w hS hp) ?_
  rintro _ w1 ⟨⟨i,rfl,hi⟩,hB⟩
  exact rt1 ⟨vb hi,hB⟩
theorem IndexFunc_typ (l:List Ty) (a:Option Addr) (cap:Nat) (g:FuncId) (caps:List Value) (p:Ty→Bool) (S:Nat→Prop) (w:World) (hS:Sl eTy S w a l)
    (hp:∀ x cs,x∈l→∀ w',Bl w w'→(eTy).rel S w' cs x→Ret Tryz.prog g ([asV cs]++caps).toArray w' fun v w''=>v = .bool (p x)∧Bl w' w'') :
    Ret Tryz.prog 223 #[.slice a l.length cap,.func (.func g) #[] caps.toArray] w fun v w'=>(∃ i:Int,v=I i∧decide (i≥0)=l.any p)∧Bl w w':=by
  refine entr (vs:=[.slice a l.length cap,.func (.func g) #[] caps.toArray]) [0,1,4,5,7,8,9,16] tabok Tryz.func223 (by kernel_rfl) ?_
  have hbig:=hS.big
  refine lp [8] [(0,.slice a l.length cap),(1,.func (.func g) #[] caps.toArray),(7,I l.length)] (fun m vals w'=>∃ k:Nat,m=l.length-k∧k≤l.length∧vals=[I k]∧(l.take k).any p=false∧Bl w w') ⟨rfl,rfl,rfl,trivial⟩ ⟨0,rfl,Nat.zero_le _,rfl,rfl,Bl.refl _⟩ ?_
  rintro m vals w1 ⟨k,rfl,hk,rfl,ha,hB⟩ ih
  by_cases hlt:k<l.length
  · refine brT ?_
    obtain ⟨x,b,o,cs,hx,rfl,hSb,hAt,rfl⟩:=at_some (hS.bl hB) hlt
    refine ix ?_
    refine lda hAt ?_
    refine cl (hp x _ (List.mem_of_getElem? hx) _ hB rfl) ?_
    rintro _ w2 ⟨rfl,hB2⟩
    refine br (fun h => ?_) (fun h => ?_)
    · exact rt1 ⟨⟨k,rfl,by rw [any_hit hx h];simp⟩,hB.trans hB2⟩
    · refine again (ih _ _ _ _ (by omega) ⟨rfl,rfl,rfl,trivial⟩ rfl ⟨k+1,rfl,by omega,lst1 (inc hlt),any_snoc hx ha h,hB.trans hB2⟩)
  · refine brF ?_
    obtain rfl:k=l.length:=by omega
    exact rt1 ⟨⟨-1,rfl,by rw [any_end ha];rfl⟩,hB⟩
theorem ContainsFunc_typ (l:List Ty) (a:Option Addr) (cap:Nat) (g:FuncId) (caps:List Value) (p:Ty→Bool) (S:Nat→Prop) (w:World) (hS:Sl eTy S w a l)
    (hp:∀ x cs,x∈l→∀ w',Bl w w'→(eTy).rel S w' cs x→Ret Tryz.prog g ([asV cs]++caps).toArray w' fun v w''=>v = .bool (p x)∧Bl w' w'') :
    Ret Tryz.prog 168 #[.slice a l.length cap,.func (.func g) #[] caps.toArray] w fun v w'=>v = .bool (l.any p)∧Bl w w':=by
  refine entr (vs:=[.slice a l.length cap,.func (.func g) #[] caps.toArray]) [0,1,4] tabok Tryz.func168 (by kernel_rfl) ?_
  refine cl (IndexFunc_typ l a cap g caps p S w hS hp) ?_
  rintro _ w1 ⟨⟨i,rfl,hi⟩,hB⟩
  exact rt1 ⟨vb hi,hB⟩
theorem l_EqualT (l m:List Ty) (a1 a2:Option Addr) (c1 c2:Nat) (w:World) (h1:Sl eTy T w a1 l) (h2:Sl eTy T w a2 m):Ret Tryz.prog 172 #[.slice a1 l.length c1,.slice a2 m.length c2] w fun v w'=>v = .bool (decide (l=m))∧Bl w w':=by
  refine entr (vs:=[.slice a1 l.length c1,.slice a2 m.length c2]) [0,1,4,5,10,12,13,14,24] tabok Tryz.func172 (by kernel_rfl) ?_
  have hb1:=h1.big
  have hb2:=h2.big
  refine br (fun h => ?_) (fun h => ?_)
  · exact rt1 ⟨vb (same_len (of_decide_eq_true h)).symm,Bl.refl _⟩
  have hl:=Classical.not_not.1 (of_decide_eq_false h)
  refine lpk l.length 13 [] [(0,.slice a1 l.length c1),(1,.slice a2 m.length c2),(12,I l.length)] (fun k vals w'=>vals=[]∧l.take k=m.take k∧Bl w w') ⟨rfl,rfl,Bl.refl _⟩ ?_
  rintro k vals w2 hk ⟨rfl,ha,hB⟩ ih
  by_cases hlt:k<l.length
  · refine brT ?_
    obtain ⟨x,b,o,cs,hx,rfl,_,hAt,rfl⟩:=at_some (h1.bl hB) hlt
    obtain ⟨y,b',o',cs',hy,rfl,_,hAt',rfl⟩:=at_some (h2.bl hB) (i:=k) (by omega)
    refine dh T (List.range 9) fun w8 h8 => ?_
    have hC:=hAt.bl h8.bl
    have hC':=hAt'.bl h8.bl
    refine ix ?_
    refine lda hC ?_ (hm:=trivial)
    refine ix ?_
    refine lda hC' ?_ (hm:=trivial)
    refine neA (fun w=>eq_ty x y) ?_
    refine br (fun h => ?_) (fun h => ?_)
    · exact rt1 ⟨vb (same_no hx hy (fun e=>by rw [decide_eq_true e] at h;cases h)).symm,hB.trans h8.bl⟩
    · exact ih hlt ⟨rfl,same_go hx hy (Classical.byContradiction fun e=>by rw [decide_eq_false e] at h;cases h) ha,hB.trans h8.bl⟩
  refine brF ?_
  exact rt1 ⟨vb (same_end hl ha (by omega)).symm,hB⟩
end Go.Proofs.YtkmdfjpafkcleaaGreatDoor
namespace Go.Proofs.YtkmdfjpafkcleaaGreatDoor
open Eng
theorem Eng.jlk {C:Cx} {s:St} {w:World} {c:Code} {k:List Item} (n i:Nat) (sel:List Nat) (keep:Env) (Inv:Nat→List Value→World→Prop)
    (hb:(∀ {s':St} {l:Env} {vals:List Value} {w':World},Inv 0 vals w'→(hs:adv C.tab C.n C.ks 400 s' = .code (.code (.loop c)::k) l:=by rfl)→(hkeep:Sub keep l:=by repeat (first | exact True.intro | (refine ⟨rfl,?_⟩))) →
        (hv:lookAll l (i::sel)=some (I 0::vals):=by rfl)→Wk C s' w')→Wk C s w)
    (hr:∀ j vals w',j≤n→Inv j vals w' →
      (∀ {s':St} {l'':Env} {vals'':List Value} {w'':World},j<n→Inv (j+1) vals'' w''→(hs:adv C.tab C.n C.ks 400 s' = .code (.inLoop c::k) l'':=by rfl) →
        (hsub:Sub keep l'':=by repeat (first | exact True.intro | (refine ⟨rfl,?_⟩)))→(hv:lookAll l'' (i::sel)=some (.int .i64 (IntKind.wrap .i64 ((j:Int)+1))::vals''):=by rfl)→Wk C s' w'') →
      Wk C (.code (.code c :: .inLoop c::k) ((i,I j)::pair sel vals keep)) w')
    (hn:n≤4611686018427387904):Wk C s w :=
  hb fun h0 hs hk hv=>lpk n i sel keep Inv h0 hr hs hk hv hn
end Go.Proofs.YtkmdfjpafkcleaaGreatDoor
namespace Go.Proofs.YtkmdfjpafkcleaaGreatDoor
open Eng Go.RowKit
theorem k_isClass (m:Mod) (a:MA) (n:Int) (w:World) (_hn:m.classes.length≤4194304):Ret Tryz.prog 224 #[.agg (modcells m a).toArray,I n] w fun v w'=>v = .bool (decide (0≤n)&&decide (n<m.classes.length))∧Bl w w':=by
  refine entr (vs:=[.agg (modcells m a).toArray,I n]) [0,1,2,4] tabok Tryz.func224 (by kernel_rfl) ?_
  refine bx (cs:=modcells m a) fun b1 w1 k1 => ?_
  refine ldg (fun _=>k1.box.cell rfl) ?_
  exact rt1 ⟨rfl,k1.bl⟩
theorem k_isTypeM (m:Mod) (a:MA) (t:Ty) (least:Int) (_hl:least=0∨least=1) (w:World) (hn:m.classes.length≤4194304) :
    Ret Tryz.prog 170 #[.agg (modcells m a).toArray,.agg (encTy t).toArray,I least] w fun v w'=>v = .bool (ityp m t least)∧Bl w w':=by
  refine entr (vs:=[.agg (modcells m a).toArray,.agg (encTy t).toArray,I least]) [0,1,2,3,4,6,8,9,16] tabok Tryz.func170 (by kernel_rfl) ?_
  refine bx (cs:=modcells m a) fun b1 w1 k1 => ?_
  refine bx (cs:=encTy t) fun b2 w2 k2 => ?_
  have B2:=k1.bl.trans k2.bl
  have x1:=Bl.box k2.bl k1.box
  have x2:=k2.box
  refine ld (x2.cell rfl) ?_
  by_cases h2:t.kind=2
  · refine brT ?_ (hp:=h2)
    refine brT ?_ (hp:=h2)
    refine lda x1.at ?_
    refine ld (x2.cell rfl) ?_
    refine cl (k_isClass m a t.cls w2 hn) ?_
    rintro _ w3 ⟨rfl,B3⟩
    exact rt1 ⟨congrArg Value.bool (ityp_obj (.inl h2)).symm,B2.trans B3⟩
  refine brF ?_ (hp:=h2)
  by_cases h4:t.kind=4
  · refine brT ?_ (hp:=h4)
    refine lda x1.at ?_
    refine ld (x2.cell rfl) ?_
    refine cl (k_isClass m a t.cls w2 hn) ?_
    rintro _ w3 ⟨rfl,B3⟩
    exact rt1 ⟨congrArg Value.bool (ityp_obj (.inr h4)).symm,B2.trans B3⟩
  refine brF ?_ (hp:=h4)
  have e:(t.kind=0∨t.kind=1∨t.kind=3)→ityp m t least=(decide (least≤t.kind)&&decide (t.cls=0)):=fun h=>by
    unfold ityp
    rw [if_neg (by omega),if_pos h]
  by_cases h0:t.kind=0
  · refine brT ?_ (hp:=h0)
    refine brT ?_ (hp:=h0)
    refine ld (x2.cell rfl) ?_
    refine ldg (fun _=>x2.cell rfl) ?_
    exact rt1 ⟨congrArg Value.bool (e (.inl h0)).symm,B2⟩
  refine brF ?_ (hp:=h0)
  by_cases h1:t.kind=1
  · refine brT ?_ (hp:=h1)
    refine brT ?_ (hp:=h1)
    refine ld (x2.cell rfl) ?_
    refine ldg (fun _=>x2.cell rfl) ?_
    exact rt1 ⟨congrArg Value.bool (e (.inr (.inl h1))).symm,B2⟩
  refine brF ?_ (hp:=h1)
  by_cases h3:t.kind=3
  · refine brT ?_ (hp:=h3)
    refine ld (x2.cell rfl) ?_
    refine ldg (fun _=>x2.cell rfl) ?_
    exact rt1 ⟨congrArg Value.bool (e (.inr (.inr h3))).symm,B2⟩
  refine brF ?_ (hp:=h3)
  refine rt1 ⟨congrArg Value.bool ?_,B2⟩
  unfold ityp
  rw [if_neg (by omega),if_neg (by omega)]
theorem k_areTypes1 (m:Mod) (a:MA) (t:Ty) (b:Nat) (w:World) (hx:At w b 0 (modcells m a)) (hn:m.classes.length≤4194304):Ret Tryz.prog 169 #[.agg (encTy t).toArray,.pointer (some ⟨b,0,none⟩)] w fun v w'=>v = .bool (!ityp m t 1)∧Bl w w':=by
  refine entr (vs:=[.agg (encTy t).toArray,.pointer (some ⟨b,0,none⟩)]) [0,1,2,3] tabok Tryz.func169 (by kernel_rfl) ?_
  refine bx (cs:=encTy t) fun b2 w2 k2 => ?_
  refine lda (hx.bl k2.bl) ?_
  refine lda k2.box.at ?_
  refine cl (k_isTypeM m a t 1 (.inr rfl) w2 hn) ?_
  rintro _ w3 ⟨rfl,B3⟩
  exact rt1 ⟨rfl,k2.bl.trans B3⟩
theorem k_areTypes (m:Mod) (a:MA) (l:List Ty) (al:Option Addr) (ce:Nat) (most:Int) (w:World) (hS:Sl eTy T w al l) (hn:m.classes.length≤4194304) :
    Ret Tryz.prog 111 #[.agg (modcells m a).toArray,.slice al l.length ce,I most] w fun v w'=>v = .bool (decide ((l.length:Int)≤most)&&l.all fun t=>ityp m t 1)∧Bl w w':=by
  have hbig:=hS.big
  refine entr (vs:=[.agg (modcells m a).toArray,.slice al l.length ce,I most]) [0,1,2,3,6] tabok Tryz.func111 (by kernel_rfl) ?_
  refine bx (cs:=modcells m a) fun b1 w1 k1 => ?_
  by_cases hle:(l.length:Int)≤most
  · refine spt (.bool false) ?_ (hb:=decide_eq_true hle)
    refine cl (ContainsFunc_typ l al ce 169 [.pointer (some ⟨b1,0,none⟩)] (fun t => !ityp m t 1) T w1 (hS.bl k1.bl) fun t cs ht w' k hr => ?_) ?_
    · obtain rfl:cs=encTy t:=hr
      exact k_areTypes1 m a t b1 w' (Bl.box k k1.box).at hn
    rintro _ w2 ⟨rfl,B2⟩
    refine rt1 ⟨congrArg Value.bool ?_,k1.bl.trans B2⟩
    rw [decide_eq_true hle,List.all_eq_not_any_not]
  · refine spn (.bool false) ?_ (hb:=decide_eq_false hle)
    refine rt1 ⟨congrArg Value.bool ?_,k1.bl⟩
    rw [decide_eq_false hle];simp
theorem k_above (m:Mod) (a:MA) {kk:Nat} (hd:Desc m kk) (x y:Int) (hx:x<kk) (hx0 : -1≤x) (hy:0≤y) (w:World) (hM:MdR T w m a) :
    Ret Tryz.prog 72 #[.agg (modcells m a).toArray,I x,I y] w fun v w'=>v = .bool (decide (y∈upM m x))∧Bl w w':=by
  have hbig:=hM.cls.big
  have hdl:=hd.1
  refine entr (vs:=[.agg (modcells m a).toArray,I x,I y]) [0,1,2,3,6,9] tabok Tryz.func72 (by kernel_rfl) ?_
  refine bx (cs:=modcells m a) fun b1 w1 k1 => ?_
  have x1:=k1.box
  refine lp (vals:=[I x]) [1] [(2,I y),(3,.pointer (some ⟨b1,0,none⟩))] (fun n vals w'=>(∃ z:Int,vals=[I z]∧n=(z+1).toNat ∧ -1≤z∧z<kk∧(y∈upM m x↔y∈upM m z))∧w1=w') ⟨rfl,rfl,trivial⟩ (m:=(x+1).toNat) ⟨⟨x,rfl,rfl,hx0,hx,Iff.rfl⟩,rfl⟩ ?_
  rintro n vals _ ⟨⟨z,rfl,rfl,hz0,hzk,hzy⟩,rfl⟩ ih
  by_cases hgt:y<z
  · refine brT ?_
    obtain ⟨j,rfl⟩:=Int.eq_ofNat_of_zero_le (show 0≤z by omega)
    obtain ⟨c,b,o,cs,hc,e2,_,hAt,a1,c1,a2,c2,rfl,_⟩:=at_some (hM.bl k1.bl).cls (i:=j) (by omega)
    refine ld (x1.cell rfl) ?_
    rw [e2]
    refine ix ?_
    refine ld (hAt 1 _ rfl) ?_
    have hs:=sup_lt hd (a:=(j:Int)) (by omega) hzk
    rw [mem_step hd (by omega) hzk (by omega)] at hzy
    rw [supM_at hc] at hs hzy
    exact again (ih _ _ _ _ (by omega) ⟨rfl,rfl,trivial⟩ rfl ⟨⟨c.super,rfl,rfl,hs.1,by omega,hzy⟩,rfl⟩)
  · refine brF ?_
    refine rt1 ⟨congrArg Value.bool (Bool.eq_iff_iff.2 ?_),k1.bl⟩
    rw [decide_eq_true_eq,decide_eq_true_eq,hzy]
    constructor
    · rintro rfl;exact upM_self hy
    · intro h
      have:=upM_mem_le hd hzk h
      omega
theorem k_entry (m:Mod) (a:MA) (k s j:Nat) (hd:Desc m (k+1)) {y:MM} (hy:m.methods[j]? = some y) (hT:∀ (i:Nat) z,i≤k→m.classes[i]? = some z→s<z.table.length) (w:World) (hM:MdR T w m a) :
    Ret Tryz.prog 171 #[.agg (modcells m a).toArray,I k,I s,I j] w fun v w'=>(∃ b,v = .bool b∧(b=true↔∃ z,y.cls∈upM m k∧m.classes[y.cls.toNat]? = some z∧z.table[s]? = some (j:Int)))∧Bl w w':=by
  have hdl:=hd.1
  refine entr (vs:=[.agg (modcells m a).toArray,I k,I s,I j]) [0,1,2,3,4,8,9] tabok Tryz.func171 (by kernel_rfl) ?_
  refine bx (cs:=modcells m a) fun b1 w1 k1 => ?_
  have x1:=k1.box
  obtain ⟨y',b,o,cs,hy',e2,_,hAt,a3,c3,a4,c4,a5,c5,rfl,_⟩:=at_some (hM.bl k1.bl).mth (i:=j) (List.getElem?_eq_some_iff.1 hy).1
  obtain rfl:y=y':=by rw [hy] at hy';exact Option.some.inj hy'
  refine ld (x1.cell rfl) ?_
  rw [e2]
  refine ix ?_ (hb:=(List.getElem?_eq_some_iff.1 hy).1)
  refine ld (hAt 1 _ rfl) ?_
  have no:¬y.cls∈upM m k→(false=true↔∃ z,y.cls∈upM m k∧m.classes[y.cls.toNat]? = some z∧z.table[s]? = some (j:Int)):=fun h=>⟨(fun q=>(by cases q)),fun ⟨_,q,_⟩=>absurd q h⟩
  by_cases hA:0≤y.cls∧y.cls≤k
  rotate_left
  · refine spn (.agg (modcells m a).toArray) ?_ (hb:=by first | (simp;done) | (simp;omega))
    refine spn (.bool false) ?_ (hb:=by first | (simp;done) | (simp;omega))
    refine spn (.slice none 0 0) ?_ (hb:=by first | (simp;done) | (simp;omega))
    refine spn (.pointer (some ⟨0,0,none⟩)) ?_ (hb:=by first | (simp;done) | (simp;omega))
    refine spn (.slice none 0 0) ?_ (hb:=by first | (simp;done) | (simp;omega))
    refine spn (.pointer (some ⟨0,0,none⟩)) ?_ (hb:=by first | (simp;done) | (simp;omega))
    refine spn (I 0) ?_ (hb:=by first | (simp;done) | (simp;omega))
    refine rt1 ⟨⟨false,congrArg Value.bool ?_,no fun q=>hA (upM_mem_le hd (by omega) q)⟩,k1.bl⟩
    first | (simp;done) | (simp;omega)
  obtain ⟨o',ho'⟩:=Int.eq_ofNat_of_zero_le hA.1
  refine spt (.agg (modcells m a).toArray) ?_ (hb:=by first | (simp;done) | (simp;omega))
  refine lda x1.at ?_
  refine spt (.bool false) ?_ (hb:=by first | rfl | (simp;done) | (simp;omega))
  refine cl (k_above m a hd (k:Int) y.cls (by omega) (by omega) hA.1 w1 (hM.bl k1.bl)) ?_
  rintro _ w2 ⟨rfl,B2⟩
  have x2:=Bl.box B2 x1
  have B02:=k1.bl.trans B2
  by_cases hin:y.cls∈upM m k
  rotate_left
  · rw [decide_eq_false hin]
    refine spn (.slice none 0 0) ?_ (hb:=by first | rfl | (simp;done) | (simp;omega))
    refine spn (.pointer (some ⟨0,0,none⟩)) ?_ (hb:=by first | rfl | (simp;done) | (simp;omega))
    refine spn (.slice none 0 0) ?_ (hb:=by first | rfl | (simp;done) | (simp;omega))
    refine spn (.pointer (some ⟨0,0,none⟩)) ?_ (hb:=by first | rfl | (simp;done) | (simp;omega))
    refine spn (I 0) ?_ (hb:=by first | rfl | (simp;done) | (simp;omega))
    refine rt1 ⟨⟨false,congrArg Value.bool ?_,no hin⟩,B02⟩
    first | rfl | (simp;done) | (simp;omega)
  rw [decide_eq_true hin]
  obtain ⟨z,b6,o6,cs6,hz,e6,_,hA6,a7,c7,a8,c8,rfl,_,hT6,_⟩:=at_some (hM.bl B02).cls (i:=o') (by omega)
  obtain ⟨q,b9,o9,cs9,hq,e9,_,hA9,rfl⟩:=at_some hT6 (i:=s) (hT o' z (by omega) hz)
  refine ldg (fun _=>x2.cell rfl) ?_
  rw [e6]
  refine spt (.pointer (some ⟨0,0,none⟩)) ?_ (hb:=by first | rfl | (simp;done) | (simp;omega))
  refine ix (j:=o') ?_ (hij:=ho') (hb:=by omega)
  refine ldg (fun _=>hA6 3 _ rfl) ?_
  rw [e9]
  refine spt (.pointer (some ⟨0,0,none⟩)) ?_ (hb:=by first | rfl | (simp;done) | (simp;omega))
  refine ix (j:=s) ?_ (hb:=hT o' z (by omega) hz)
  refine ldg (fun _=>hA9 0 _ rfl) ?_
  refine rt1 ⟨⟨decide (q=j),congrArg Value.bool ?_,?_⟩,B02⟩
  · first | rfl | (simp;done) | (simp;omega)
  · rw [decide_eq_true_eq,ho',Int.toNat_natCast,hz]
    constructor
    · rintro rfl;exact ⟨z,by rw [←ho'];exact hin,rfl,hq⟩
    · rintro ⟨z',_,e1,e3⟩
      obtain rfl:=Option.some.inj e1
      rw [hq] at e3;exact Option.some.inj e3
end Go.Proofs.YtkmdfjpafkcleaaGreatDoor
