import Derived.Test.YtdjkoljonlcemaaGreatM1
import Derived.Laws.IdiomRangeMap
import Derived.Lib.AppendZerosOnto
import Derived.Laws.AppendOwn
import Derived.Test.YtdjkoljonlcemaaGreatSeq
import Derived.Shelf.SlIter.Collect
import Derived.Shelf.SlIter.Sorted
import Derived.Lib.SlicesS
import Derived.Lib.LastIndexByte
import Derived.Test.YtdjkoljonlcemaaGreatRows
import Derived.ProofKit
import Derived.OpenShut
import Derived.ShutString
import Derived.Deep.DeepHandedRow
import Derived.Deep.Slices
import Derived.Lib.LaidTab
import Derived.Lib.SlicesCompact
import Derived.Shelf.Strings.Split
import Derived.Shelf.Slices.SearchI
import Derived.Shelf.Strings.Prefix
import Derived.Shelf.Strings.OnBuilder
import Derived.Test.YtdjkoljonlcemaaGreatShelf
import Derived.Sort.OwnSortedInts
import Derived.Lib.RowBridge
/- Walks: valid instructions, in the program. -/
namespace Go.Proofs.YtdjkoljonlcemaaGreat
open Eng Go.RowKit
def mosts:List Int:=[0,0,9,4,9,48,6,9,15,15,3,9,50,5,24]
def isPool (r:Nat):Bool:=decide ((r:Int)=4)||decide ((r:Int)=6)||decide ((r:Int)=7)||decide ((r:Int)=8)||decide ((r:Int)=9)
def inR (n:Int) (r:Nat) (pooled:Bool):Bool :=
 if r=1 then decide (-2147483648<=n)&&decide (n<=2147483647) else if r=3 then decide (2<=n)&&decide (n<=4) else if r=14 then decide (1<=n)&&decide (n<=24)
 else if (pooled&&isPool r)=true then decide (0<=n)&&decide (n<60) else decide (0<=n)&&decide (n<=mosts.getD r 0)
def rngs:List (Nat×Nat):=[(0,0),(1,0),(2,0),(2,0),(0,0),(0,0),(0,0),(0,0),(0,0),(0,0),(0,0),(0,0),(3,4),(0,0),(4,0),(5,0),(5,4),(6,0),(6,0),(0,0),(0,0),(0,0),(7,0),(7,0),(4,0),(8,0),(9,0),(10,0),(11,0),(0,0),(12,2),(13,0),(14,0),(0,0),(0,0),(0,0)]
def validI (i:Ins) (pooled:Bool):Bool:=decide (0<=i.op)&&decide (i.op<36)&&inR i.a (rngs.getD i.op.toNat (0,0)).1 pooled&&inR i.b (rngs.getD i.op.toNat (0,0)).2 pooled&&(decide (¬i.op=12)||decide (¬i.a=3)||decide (i.b=0))
theorem w_most (r:Nat) (hr:r<15) (w:World):Ret Tryz.prog 224 #[I r] w fun v w'=>v=I (mosts.getD r 0)/\w'=w:=by
 refine entr (vs:=[I r]) [0,2] tabok Tryz.func224 (by kernel_rfl) ?_
 refine bda ?_
 refine ixv (j:=r) (v:=I (mosts.getD r 0)) ?_ ?_
 rotate_left
 ·exact rt1 ⟨rfl,rfl⟩
 ·show (mosts.map I)[r*1]? = _
  rw [Nat.mul_one,List.getElem?_map,List.getD_eq_getElem?_getD]
  obtain ⟨x,hx⟩:=some_of_lt (l:=mosts) (k:=r) hr
  rw [hx];rfl
theorem w_pools (r:Nat) (w:World):Ret Tryz.prog 225 #[I r] w fun v w'=>v = .bool (isPool r)/\w'=w:=by
 refine entr (vs:=[I r]) [0,2] tabok Tryz.func225 (by kernel_rfl) ?_
 exact rt1 ⟨rfl,rfl⟩
theorem w_in (n:Int) (r:Nat) (p:Bool) (hr:r<15) (w:World):Ret Tryz.prog 200 #[I n,I r,.bool p] w fun v w'=>v = .bool (inR n r p)/\w'=w:=by
 refine entr (vs:=[I n,I r,.bool p]) [0,1,2,6,7,16,25,35] tabok Tryz.func200 (by kernel_rfl) ?_
 refine br (t:=decide ((r:Int)=1)) (fun h => ?_) (fun h => ?_)
 ·have h1:r=1:=by have:=of_decide_eq_true h;omega
  exact rt1 ⟨vb (by unfold inR;rw [if_pos h1]),rfl⟩
 have n1:¬r=1:=by have:=of_decide_eq_false h;omega
 refine br (t:=decide ((r:Int)=3)) (fun h => ?_) (fun h => ?_)
 ·have h1:r=3:=by have:=of_decide_eq_true h;omega
  exact rt1 ⟨vb (by unfold inR;rw [if_neg n1,if_pos h1]),rfl⟩
 have n3:¬r=3:=by have:=of_decide_eq_false h;omega
 refine br (t:=decide ((r:Int)=14)) (fun h => ?_) (fun h => ?_)
 ·have h1:r=14:=by have:=of_decide_eq_true h;omega
  refine sp (I 0) (fun p1 => ?_) (fun p1 => ?_)
  ·refine cl (w_most 14 (by omega) _) ?_
   rintro _ _ ⟨rfl,rfl⟩
   refine rt1 ⟨vb ?_,rfl⟩
   unfold inR;rw [if_neg n1,if_neg n3,if_pos h1]
   rw [show decide (1<=n)=true from p1];rfl
  ·refine rt1 ⟨vb ?_,rfl⟩
   unfold inR;rw [if_neg n1,if_neg n3,if_pos h1]
   rw [show decide (1<=n)=false from p1];rfl
 have n14:¬r=14:=by have:=of_decide_eq_false h;omega
 refine sp (.bool false) (fun p1 => ?_) (fun p1 => ?_)
 ·refine cl (w_pools r _) ?_
  rintro _ _ ⟨rfl,rfl⟩
  refine br (t:=isPool r) (fun h => ?_) (fun h => ?_)
  ·refine rt1 ⟨vb ?_,rfl⟩
   unfold inR;rw [if_neg n1,if_neg n3,if_neg n14,p1,h,if_pos (by rfl)]
  ·refine sp (I 0) (fun p2 => ?_) (fun p2 => ?_)
   ·refine cl (w_most r hr _) ?_
    rintro _ _ ⟨rfl,rfl⟩
    refine rt1 ⟨vb ?_,rfl⟩
    unfold inR;rw [if_neg n1,if_neg n3,if_neg n14,p1,h,if_neg (by simp),show decide (0<=n)=true from p2]
   ·refine rt1 ⟨vb ?_,rfl⟩
    unfold inR;rw [if_neg n1,if_neg n3,if_neg n14,p1,h,if_neg (by simp),show decide (0<=n)=false from p2];rfl
 ·refine br (fun h => ?_) (fun h => ?_)
  ·rw [p1] at h;cases h
  ·refine sp (I 0) (fun p2 => ?_) (fun p2 => ?_)
   ·refine cl (w_most r hr _) ?_
    rintro _ _ ⟨rfl,rfl⟩
    refine rt1 ⟨vb ?_,rfl⟩
    unfold inR;rw [if_neg n1,if_neg n3,if_neg n14,p1,if_neg (by simp),show decide (0<=n)=true from p2]
   ·refine rt1 ⟨vb ?_,rfl⟩
    unfold inR;rw [if_neg n1,if_neg n3,if_neg n14,p1,if_neg (by simp),show decide (0<=n)=false from p2];rfl
set_option maxRecDepth 200000 in
theorem w_table (w:World):Ret Tryz.prog 201 #[] w fun v w'=>(∃ cs:List Value,v = .agg cs.toArray/\cs.length=144/\cs.all Value.oneCell'=true/\((List.range 36).map fun k=>(cs[k*4+1]?,cs[k*4+2]?))=rngs.map fun r=>(some (I r.1),some (I r.2)))/\Bl w w':=by
 refine entr (vs:=[]) [0] tabok Tryz.func201 (by kernel_rfl) ?_
 refine al fun b w1 hn => ?_
 iterate 36 refine bd ?_
 refine bda ?_
 refine stw hn.box ?_ rfl ?_ fun w2 h2 hb2 => ?_
 ·rfl
 ·rfl
 exact rtc hb2.at ⟨⟨_,rfl,rfl,rfl,rfl⟩,hn.wr h2⟩
theorem w_known (op:Int) (w:World):Ret Tryz.prog 147 #[I op] w fun v w'=>(if 0<=op/\op<36 then ∃ x y,x.oneCell'=true/\y.oneCell'=true/\v = .tuple #[.agg #[x,I (rngs.getD op.toNat (0,0)).1,I (rngs.getD op.toNat (0,0)).2,y],.bool true]
  else v = .tuple #[.agg #[.string ⟨#[]⟩,I 0,I 0,I 0],.bool false])/\Bl w w':=by
 refine entr (vs:=[I op]) [0,2,3,4,11] tabok Tryz.func147 (by kernel_rfl) ?_
 refine al fun b0 w1 h1 => ?_
 refine cl (w_table _) ?_
 rintro _ w2 ⟨⟨cs,rfl,hl,ha,ht⟩,hB2⟩
 refine al fun b3 w3 h3 => ?_
 refine stw h3.box hl rfl ha fun w4 h4 hb4 => ?_
 have hB14:=hB2.trans (h3.wr h4)
 have hb0:=Bl.box hB14 h1.box
 refine br (t:=decide (op<0)||decide (op≥36)) (fun h => ?_) (fun h => ?_)
 ·simp only [Bool.or_eq_true,decide_eq_true_eq] at h
  refine bd ?_
  refine sta hb0 fun w5 h5 hb5 => ?_
  refine rtc2 hb5.at ⟨?_,?_⟩
  ·rw [if_neg (by omega)]
  ·exact Below.trans (Bl.trans h1.bl hB14) (h5.below (by have:=h1.blk;omega))
 ·simp only [Bool.or_eq_false_iff,decide_eq_false_iff_not] at h
  obtain ⟨j,rfl⟩:∃ j:Nat,op=j:=⟨op.toNat,by omega⟩
  have hj:j<36:=by omega
  have key:(cs[j*4+1]?,cs[j*4+2]?)=(some (I (rngs.getD j (0,0)).1),some (I (rngs.getD j (0,0)).2)):=by
   have:=congrArg (fun l=>l[j]?) ht
   simp only [List.getElem?_map] at this
   rw [List.getElem?_range hj] at this
   obtain ⟨r,hr⟩:=some_of_lt (l:=rngs) (k:=j) hj
   rw [hr] at this
   rw [List.getD_eq_getElem?_getD,hr]
   exact Option.some.inj this
  obtain ⟨x,hx⟩:=some_of_lt (l:=cs) (k:=j*4) (by omega)
  obtain ⟨y,hy⟩:=some_of_lt (l:=cs) (k:=j*4+3) (by omega)
  simp only [Prod.mk.injEq] at key
  have hAt:At w4 b3 (0+j*4) [x,I (rngs.getD j (0,0)).1,I (rngs.getD j (0,0)).2,y]:=fun i v hv=>by
   rw [Nat.zero_add]
   match i,hv with
   | 0,hv=>simp at hv;subst hv;exact hb4.cell hx
   | 1,hv=>simp at hv;subst hv;exact hb4.cell key.1
   | 2,hv=>simp at hv;subst hv;exact hb4.cell key.2
   | 3,hv=>simp at hv;subst hv;exact hb4.cell hy
   | i+4,hv=>simp at hv
  have hx1:x.oneCell'=true:=List.all_eq_true.1 ha x (List.mem_of_getElem? hx)
  have hy1:y.oneCell'=true:=List.all_eq_true.1 ha y (List.mem_of_getElem? hy)
  refine ixa ?_
  refine lda hAt ?_
  refine stw (vs:=[x,I (rngs.getD j (0,0)).1,I (rngs.getD j (0,0)).2,y]) hb0 rfl rfl (by simp only [List.all_cons,hx1,hy1];rfl) fun w5 h5 hb5 => ?_
  refine rtc2 hb5.at ⟨?_,?_⟩
  ·rw [if_pos (by omega)]
   exact ⟨x,y,hx1,hy1,rfl⟩
  ·exact Below.trans (Bl.trans h1.bl hB14) (h5.below (by have:=h1.blk;omega))
end Go.Proofs.YtdjkoljonlcemaaGreat
namespace Go.Proofs.YtdjkoljonlcemaaGreat
open Eng Go.RowKit
theorem rng_lt (j:Nat):(rngs.getD j (0,0)).1<15/\(rngs.getD j (0,0)).2<15:=by
 by_cases hj:j<36
 ·obtain ⟨r,hr⟩:=some_of_lt (l:=rngs) (k:=j) hj
  rw [List.getD_eq_getElem?_getD,hr]
  have:rngs.all (fun r=>decide (r.1<15)&&decide (r.2<15))=true:=by decide
  have:=List.all_eq_true.1 this r (List.mem_of_getElem? hr)
  simpa using this
 ·rw [List.getD_eq_getElem?_getD,List.getElem?_eq_none (by show 36<=j;omega)];simp
theorem w_Valid (i:Ins) (p:Bool) (w:World):Ret Tryz.prog 146 #[.agg #[I i.op,I i.a,I i.b],.bool p] w fun v w'=>v = .bool (validI i p)/\Bl w w':=by
 refine entr (vs:=[.agg #[I i.op,I i.a,I i.b],.bool p]) [0,1,2,4,5,6,32] tabok Tryz.func146 (by kernel_rfl) ?_
 refine bx (cs:=[I i.op,I i.a,I i.b]) fun b w1 hn => ?_
 refine ld (hn.box.cell rfl) ?_
 refine cl (w_known i.op _) ?_
 rintro v w2 ⟨hv,hB⟩
 by_cases hk:0<=i.op/\i.op<36
 ·rw [if_pos hk] at hv
  obtain ⟨x,y,hx1,hy1,rfl⟩:=hv
  have hval:validI i p=(inR i.a (rngs.getD i.op.toNat (0,0)).1 p&&inR i.b (rngs.getD i.op.toNat (0,0)).2 p&&(decide (¬i.op=12)||decide (¬i.a=3)||decide (i.b=0))):=by
   unfold validI;rw [decide_eq_true hk.1,decide_eq_true hk.2];rfl
  obtain ⟨hr1,hr2⟩:=rng_lt i.op.toNat
  generalize (rngs.getD i.op.toNat (0,0)).1=ra at *
  generalize (rngs.getD i.op.toNat (0,0)).2=rb at *
  refine al fun b5 w3 h5 => ?_
  refine stw (vs:=[x,I ra,I rb,y]) h5.box rfl rfl (by simp only [List.all_cons,hx1,hy1];rfl) fun w4 h6 hb5 => ?_
  have hB4:=hB.trans (h5.wr h6)
  have hb:=Bl.box hB4 hn.box
  refine ldg (fun _=>hb.cell rfl) ?_
  refine ldg (fun _=>hb5.cell rfl) ?_
  refine sp (.bool false) (fun _ => ?_) (fun q => ?_)
  rotate_left
  ·exact absurd q (by decide)
  refine cl (w_in i.a ra p hr1 _) ?_
  rintro _ _ ⟨rfl,rfl⟩
  refine ldg (fun _=>hb.cell rfl) ?_
  refine ldg (fun _=>hb5.cell rfl) ?_
  refine sp (.bool false) (fun q => ?_) (fun q => ?_)
  ·refine cl (w_in i.b rb p hr2 _) ?_
   rintro _ _ ⟨rfl,rfl⟩
   refine br (fun h => ?_) (fun h => ?_)
   ·refine rt1 ⟨vb ?_,hn.bl.trans hB4⟩
    rw [hval];revert q h;cases inR i.a ra p <;> cases inR i.b rb p <;> simp
   ·refine ld (hb.cell rfl) ?_
    refine ldg (fun _=>hb.cell rfl) ?_
    refine ldg (fun _=>hb.cell rfl) ?_
    refine rt1 ⟨vb ?_,hn.bl.trans hB4⟩
    rw [hval];revert q h;cases inR i.a ra p <;> cases inR i.b rb p <;> simp
  ·refine br (fun h => ?_) (fun h => ?_)
   ·refine rt1 ⟨vb ?_,hn.bl.trans hB4⟩
    rw [hval];revert q;cases inR i.a ra p <;> simp
   ·simp at h
 ·rw [if_neg hk] at hv
  subst hv
  refine al fun b5 w3 h5 => ?_
  refine sta h5.box fun w4 h6 hb5 => ?_
  have hB4:=hB.trans (h5.wr h6)
  have hb:=Bl.box hB4 hn.box
  refine ldg (fun _=>hb.cell rfl) ?_
  refine ldg (fun _=>hb5.cell rfl) ?_
  refine sp (.bool false) (fun q => ?_) (fun q => ?_)
  ·exact absurd q (by decide)
  refine ldg (fun _=>hb.cell rfl) ?_
  refine ldg (fun _=>hb5.cell rfl) ?_
  refine sp (.bool false) (fun q2 => ?_) (fun q2 => ?_)
  ·exact absurd q2 (by decide)
  refine br (fun h => ?_) (fun h => ?_)
  ·refine rt1 ⟨vb ?_,hn.bl.trans hB4⟩
   unfold validI
   by_cases h1:0<=i.op
   ·rw [decide_eq_false (p:=i.op<36) (by omega)];simp
   ·rw [decide_eq_false h1];simp
  ·simp at h
end Go.Proofs.YtdjkoljonlcemaaGreat
namespace Go.Proofs.YtdjkoljonlcemaaGreat
open Eng Go.RowKit
def opN (op:Int):Int:=if op=12∨op=16∨op=30 then 2 else if op=1∨op=2∨op=3∨op=14∨op=15∨op=17∨op=18∨op=22∨op=23∨op=24∨op=25∨op=26∨op=27∨op=28∨op=31∨op=32 then 1 else 0
def opE (op:Int):Int:=if op<0∨35<op then 3 else 0
theorem r3_Operands (op:Int) (w:World):Ret Tryz.prog 219 #[I op] w fun v w'=>v = .tuple #[I (opN op),I (opE op)]/\w'=w:=by
 refine entr (vs:=[I op]) [0,2,3,4,5,9,31] tabok Tryz.func219 (by kernel_rfl) ?_
 have fin:∀ {a b:Int},opN op=a->opE op=b->Value.tuple #[I a,I b] = .tuple #[I (opN op),I (opE op)]:=fun e f=>by rw [e,f]
 refine br (t:=decide (op=12)) (fun h => ?_) (fun h => ?_)
 ·have e:=of_decide_eq_true h
  refine brt ?_ (hp:=h)
  subst e
  exact rt2 ⟨fin (a:=2) (b:=0) (by decide) (by decide),rfl⟩
 have n12:=of_decide_eq_false h
 refine br (t:=decide (op=16)) (fun h => ?_) (fun h => ?_)
 ·have e:=of_decide_eq_true h
  refine brt ?_ (hp:=h)
  subst e
  exact rt2 ⟨fin (a:=2) (b:=0) (by decide) (by decide),rfl⟩
 have n16:=of_decide_eq_false h
 refine br (t:=decide (op=30)) (fun h => ?_) (fun h => ?_)
 ·have e:=of_decide_eq_true h
  subst e
  exact rt2 ⟨fin (a:=2) (b:=0) (by decide) (by decide),rfl⟩
 have n30:=of_decide_eq_false h
 refine br (t:=decide (op=1)) (fun h => ?_) (fun h => ?_)
 ·have e:=of_decide_eq_true h
  refine brt ?_ (hp:=h)
  subst e
  exact rt2 ⟨fin (a:=1) (b:=0) (by decide) (by decide),rfl⟩
 have n1:=of_decide_eq_false h
 refine br (t:=decide (op=2)) (fun h => ?_) (fun h => ?_)
 ·have e:=of_decide_eq_true h
  refine brt ?_ (hp:=h)
  subst e
  exact rt2 ⟨fin (a:=1) (b:=0) (by decide) (by decide),rfl⟩
 have n2:=of_decide_eq_false h
 refine br (t:=decide (op=3)) (fun h => ?_) (fun h => ?_)
 ·have e:=of_decide_eq_true h
  refine brt ?_ (hp:=h)
  subst e
  exact rt2 ⟨fin (a:=1) (b:=0) (by decide) (by decide),rfl⟩
 have n3:=of_decide_eq_false h
 refine br (t:=decide (op=14)) (fun h => ?_) (fun h => ?_)
 ·have e:=of_decide_eq_true h
  refine brt ?_ (hp:=h)
  subst e
  exact rt2 ⟨fin (a:=1) (b:=0) (by decide) (by decide),rfl⟩
 have n14:=of_decide_eq_false h
 refine br (t:=decide (op=15)) (fun h => ?_) (fun h => ?_)
 ·have e:=of_decide_eq_true h
  refine brt ?_ (hp:=h)
  subst e
  exact rt2 ⟨fin (a:=1) (b:=0) (by decide) (by decide),rfl⟩
 have n15:=of_decide_eq_false h
 refine br (t:=decide (op=17)) (fun h => ?_) (fun h => ?_)
 ·have e:=of_decide_eq_true h
  refine brt ?_ (hp:=h)
  subst e
  exact rt2 ⟨fin (a:=1) (b:=0) (by decide) (by decide),rfl⟩
 have n17:=of_decide_eq_false h
 refine br (t:=decide (op=18)) (fun h => ?_) (fun h => ?_)
 ·have e:=of_decide_eq_true h
  refine brt ?_ (hp:=h)
  subst e
  exact rt2 ⟨fin (a:=1) (b:=0) (by decide) (by decide),rfl⟩
 have n18:=of_decide_eq_false h
 refine br (t:=decide (op=22)) (fun h => ?_) (fun h => ?_)
 ·have e:=of_decide_eq_true h
  refine brt ?_ (hp:=h)
  subst e
  exact rt2 ⟨fin (a:=1) (b:=0) (by decide) (by decide),rfl⟩
 have n22:=of_decide_eq_false h
 refine br (t:=decide (op=23)) (fun h => ?_) (fun h => ?_)
 ·have e:=of_decide_eq_true h
  refine brt ?_ (hp:=h)
  subst e
  exact rt2 ⟨fin (a:=1) (b:=0) (by decide) (by decide),rfl⟩
 have n23:=of_decide_eq_false h
 refine br (t:=decide (op=24)) (fun h => ?_) (fun h => ?_)
 ·have e:=of_decide_eq_true h
  refine brt ?_ (hp:=h)
  subst e
  exact rt2 ⟨fin (a:=1) (b:=0) (by decide) (by decide),rfl⟩
 have n24:=of_decide_eq_false h
 refine br (t:=decide (op=25)) (fun h => ?_) (fun h => ?_)
 ·have e:=of_decide_eq_true h
  refine brt ?_ (hp:=h)
  subst e
  exact rt2 ⟨fin (a:=1) (b:=0) (by decide) (by decide),rfl⟩
 have n25:=of_decide_eq_false h
 refine br (t:=decide (op=26)) (fun h => ?_) (fun h => ?_)
 ·have e:=of_decide_eq_true h
  refine brt ?_ (hp:=h)
  subst e
  exact rt2 ⟨fin (a:=1) (b:=0) (by decide) (by decide),rfl⟩
 have n26:=of_decide_eq_false h
 refine br (t:=decide (op=27)) (fun h => ?_) (fun h => ?_)
 ·have e:=of_decide_eq_true h
  refine brt ?_ (hp:=h)
  subst e
  exact rt2 ⟨fin (a:=1) (b:=0) (by decide) (by decide),rfl⟩
 have n27:=of_decide_eq_false h
 refine br (t:=decide (op=28)) (fun h => ?_) (fun h => ?_)
 ·have e:=of_decide_eq_true h
  refine brt ?_ (hp:=h)
  subst e
  exact rt2 ⟨fin (a:=1) (b:=0) (by decide) (by decide),rfl⟩
 have n28:=of_decide_eq_false h
 refine br (t:=decide (op=31)) (fun h => ?_) (fun h => ?_)
 ·have e:=of_decide_eq_true h
  refine brt ?_ (hp:=h)
  subst e
  exact rt2 ⟨fin (a:=1) (b:=0) (by decide) (by decide),rfl⟩
 have n31:=of_decide_eq_false h
 refine br (t:=decide (op=32)) (fun h => ?_) (fun h => ?_)
 ·have e:=of_decide_eq_true h
  subst e
  exact rt2 ⟨fin (a:=1) (b:=0) (by decide) (by decide),rfl⟩
 have n32:=of_decide_eq_false h
 have e0:opN op=0:=by simp [opN,n12,n16,n30,n1,n2,n3,n14,n15,n17,n18,n22,n23,n24,n25,n26,n27,n28,n31,n32]
 refine br (t:=decide (op<0)||decide (op > 35)) (fun h => ?_) (fun h => ?_)
 ·simp only [Bool.or_eq_true,decide_eq_true_eq] at h
  exact rt2 ⟨fin (a:=0) (b:=3) e0 (by unfold opE;rw [if_pos (by omega)]),rfl⟩
 ·simp only [Bool.or_eq_false_iff,decide_eq_false_iff_not] at h
  exact rt2 ⟨fin (a:=0) (b:=0) e0 (by unfold opE;rw [if_neg (by omega)]),rfl⟩
theorem r3_in (n lo hi:Int) (w:World):Ret Tryz.prog 220 #[I n,I lo,I hi] w fun v w'=>v = .bool (decide (lo<=n)&&decide (n<=hi))/\w'=w:=by
 refine entr (vs:=[I n,I lo,I hi]) [0,1,2,6] tabok Tryz.func220 (by kernel_rfl) ?_
 exact rt1 ⟨rfl,rfl⟩
theorem r3_most (n:Int) (p:Bool) (w:World) (h0:0<=n) (h1:n<=1000):Ret Tryz.prog 221 #[I n,.bool p] w fun v w'=>v=I (if p=true then 59 else n-1)/\w'=w:=by
 refine entr (vs:=[I n,.bool p]) [0,1,4,5] tabok Tryz.func221 (by kernel_rfl) ?_
 refine br (fun h => ?_) (fun h => ?_)
 ·subst h;exact rt1 ⟨rfl,rfl⟩
 ·subst h
  refine rt1 ⟨?_,rfl⟩
  rw [wrap_fit (by omega) (by omega)];rfl
end Go.Proofs.YtdjkoljonlcemaaGreat
namespace Go.Proofs.YtdjkoljonlcemaaGreat
open Eng Go.RowKit
def vbad (op a b:Int):Bool:=(decide (¬opE op=0)||(decide (opN op<2)&&decide (¬b=0)))||(decide (opN op<1)&&decide (¬a=0))
theorem vgood {op a b:Int} (h:vbad op a b=false):opE op=0/\(opN op<2->b=0)/\(opN op<1->a=0):=by
 unfold vbad at h
 simp only [Bool.or_eq_false_iff,Bool.and_eq_false_iff,decide_eq_false_iff_not] at h
 omega
theorem valid_bad (op a b:Int) (p:Bool) (h:vbad op a b=true):validI ⟨op,a,b⟩ p=false:=by
 by_cases hr:0<=op/\op<=35
 ·have hc:op=0∨op=1∨op=2∨op=3∨op=4∨op=5∨op=6∨op=7∨op=8∨op=9∨op=10∨op=11∨op=12∨op=13∨op=14∨op=15∨op=16∨op=17∨op=18∨op=19∨op=20∨op=21∨op=22∨op=23∨op=24∨op=25∨op=26∨op=27∨op=28∨op=29∨op=30∨op=31∨op=32∨op=33∨op=34∨op=35:=by omega
  rcases hc with rfl | rfl | rfl | rfl | rfl | rfl | rfl | rfl | rfl | rfl | rfl | rfl | rfl | rfl | rfl | rfl | rfl | rfl | rfl | rfl | rfl | rfl | rfl | rfl | rfl | rfl | rfl | rfl | rfl | rfl | rfl | rfl | rfl | rfl | rfl | rfl <;>
   (simp [vbad,opE,opN] at h) <;> (try (cases p <;> (rw [<-Bool.not_eq_true];simp [validI,inR,rngs,isPool,mosts]) <;> omega))
 ·unfold validI
  by_cases h1:0<=op
  ·rw [decide_eq_false (p:=op<36) (by omega)];simp
  ·rw [decide_eq_false h1];simp
theorem r3_Valid (i:Ins) (p:Bool) (w:World):Ret Tryz.prog 196 #[.agg #[I i.op,I i.a,I i.b],.bool p] w fun v w'=>v = .bool (validI i p)/\Bl w w':=by
 obtain ⟨op,a,b⟩:=i
 refine entr (vs:=[.agg #[I op,I a,I b],.bool p]) [0,1,2,4,5,6,32,34,35,40,46,50,64,72,77,89,97,105,113,118,123,133,138] tabok Tryz.func196 (by kernel_rfl) ?_
 refine bx (cs:=[I op,I a,I b]) fun bb w1 hn => ?_
 have hx:=hn.box
 have hn2:=hn.bl
 refine ld (hx.cell rfl) ?_
 refine cl (r3_Operands op _) ?_
 rintro _ _ ⟨rfl,rfl⟩
 refine ldg2 (fun _ _=>hx.cell rfl) ?_
 refine ldg2 (fun _ _=>hx.cell rfl) ?_
 refine br (t:=vbad op a b) (fun h => ?_) (fun hg => ?_)
 ·exact rt1 ⟨vb (valid_bad op a b p h).symm,hn.bl⟩
 refine ld (hx.cell rfl) ?_
 refine br (t:=decide (op=1)) (fun h => ?_) (fun h => ?_)
 ·have e:=of_decide_eq_true h
  subst e
  refine ld (hx.cell rfl) ?_
  refine cl (r3_in _ _ _ _) ?_
  rintro _ _ ⟨rfl,rfl⟩
  refine rt1 ⟨vb ?_,hn2⟩
  obtain ⟨-,g1,g2⟩:=vgood hg
  try (have hb:=g1 (by decide);subst hb)
  cases p <;> (rw [Bool.eq_iff_iff];simp [validI,inR,rngs,isPool,mosts]) <;> omega
 have n1:=of_decide_eq_false h
 refine br (t:=decide (op=2)) (fun h => ?_) (fun h => ?_)
 ·have e:=of_decide_eq_true h
  refine brt ?_ (hp:=h)
  subst e
  refine ld (hx.cell rfl) ?_
  refine cl (r3_in _ _ _ _) ?_
  rintro _ _ ⟨rfl,rfl⟩
  refine rt1 ⟨vb ?_,hn2⟩
  obtain ⟨-,g1,g2⟩:=vgood hg
  try (have hb:=g1 (by decide);subst hb)
  cases p <;> (rw [Bool.eq_iff_iff];simp [validI,inR,rngs,isPool,mosts]) <;> omega
 have n2:=of_decide_eq_false h
 refine br (t:=decide (op=3)) (fun h => ?_) (fun h => ?_)
 ·have e:=of_decide_eq_true h
  subst e
  refine ld (hx.cell rfl) ?_
  refine cl (r3_in _ _ _ _) ?_
  rintro _ _ ⟨rfl,rfl⟩
  refine rt1 ⟨vb ?_,hn2⟩
  obtain ⟨-,g1,g2⟩:=vgood hg
  try (have hb:=g1 (by decide);subst hb)
  cases p <;> (rw [Bool.eq_iff_iff];simp [validI,inR,rngs,isPool,mosts]) <;> omega
 have n3:=of_decide_eq_false h
 refine br (t:=decide (op=12)) (fun h => ?_) (fun h => ?_)
 ·have e:=of_decide_eq_true h
  subst e
  refine ld (hx.cell rfl) ?_
  refine br (t:=decide (a=3)) (fun h3 => ?_) (fun h3 => ?_)
  ·have e3:=of_decide_eq_true h3
   subst e3
   refine ld (hx.cell rfl) ?_
   refine rt1 ⟨vb ?_,hn2⟩
   cases p <;> (rw [Bool.eq_iff_iff];simp [validI,inR,rngs,isPool,mosts]) <;> omega
  ·refine ds fun w2 h2 => ?_
   have hx:=h2.box hx
   have hn2:=hn.bl.trans h2.bl
   refine ld (hx.cell rfl) ?_
   refine clq (r3_in _ _ _ _) ?_
   refine ldg (fun _=>hx.cell rfl) ?_
   refine sp (I 0) (fun q => ?_) (fun q => ?_)
   ·refine clq (r3_most 10 p _ (by omega) (by omega)) ?_
    refine sp (.bool false) (fun q2 => ?_) (fun q2 => ?_)
    ·refine clq (r3_in _ _ _ _) ?_
     refine rt1 ⟨vb ?_,hn2⟩
     simp only [Bool.and_eq_true,decide_eq_true_eq] at q
     try have h3':=of_decide_eq_false h3
     cases p <;> (rw [Bool.eq_iff_iff];simp [validI,inR,rngs,isPool,mosts]) <;> omega
    ·exact absurd q2 (by decide)
   ·refine sp (.bool false) (fun q2 => ?_) (fun q2 => ?_)
    ·rw [q] at q2;cases q2
    ·refine rt1 ⟨vb ?_,hn2⟩
     rw [q]
     simp only [Bool.not_true,Bool.and_eq_false_iff,decide_eq_false_iff_not] at q
     try have h3':=of_decide_eq_false h3
     cases p <;> (rw [Bool.eq_iff_iff];simp [validI,inR,rngs,isPool,mosts]) <;> omega
 have n12:=of_decide_eq_false h
 refine br (t:=decide (op=14)) (fun h => ?_) (fun h => ?_)
 ·have e:=of_decide_eq_true h
  refine brt ?_ (hp:=h)
  subst e
  refine ds fun w2 h2 => ?_
  have hx:=h2.box hx
  have hn2:=hn.bl.trans h2.bl
  refine ld (hx.cell rfl) ?_
  refine clq (r3_most 10 p _ (by omega) (by omega)) ?_
  refine clq (r3_in _ _ _ _) ?_
  refine rt1 ⟨vb ?_,hn2⟩
  obtain ⟨-,g1,g2⟩:=vgood hg
  try (have hb:=g1 (by decide);subst hb)
  cases p <;> (rw [Bool.eq_iff_iff];simp [validI,inR,rngs,isPool,mosts]) <;> omega
 have n14:=of_decide_eq_false h
 refine br (t:=decide (op=24)) (fun h => ?_) (fun h => ?_)
 ·have e:=of_decide_eq_true h
  subst e
  refine ds fun w2 h2 => ?_
  have hx:=h2.box hx
  have hn2:=hn.bl.trans h2.bl
  refine ld (hx.cell rfl) ?_
  refine clq (r3_most 10 p _ (by omega) (by omega)) ?_
  refine clq (r3_in _ _ _ _) ?_
  refine rt1 ⟨vb ?_,hn2⟩
  obtain ⟨-,g1,g2⟩:=vgood hg
  try (have hb:=g1 (by decide);subst hb)
  cases p <;> (rw [Bool.eq_iff_iff];simp [validI,inR,rngs,isPool,mosts]) <;> omega
 have n24:=of_decide_eq_false h
 refine br (t:=decide (op=15)) (fun h => ?_) (fun h => ?_)
 ·have e:=of_decide_eq_true h
  subst e
  refine ld (hx.cell rfl) ?_
  refine cl (r3_in _ _ _ _) ?_
  rintro _ _ ⟨rfl,rfl⟩
  refine rt1 ⟨vb ?_,hn2⟩
  obtain ⟨-,g1,g2⟩:=vgood hg
  try (have hb:=g1 (by decide);subst hb)
  cases p <;> (rw [Bool.eq_iff_iff];simp [validI,inR,rngs,isPool,mosts]) <;> omega
 have n15:=of_decide_eq_false h
 refine br (t:=decide (op=16)) (fun h => ?_) (fun h => ?_)
 ·have e:=of_decide_eq_true h
  subst e
  refine ds fun w2 h2 => ?_
  have hx:=h2.box hx
  have hn2:=hn.bl.trans h2.bl
  refine ld (hx.cell rfl) ?_
  refine clq (r3_in _ _ _ _) ?_
  refine ldg (fun _=>hx.cell rfl) ?_
  refine sp (I 0) (fun q => ?_) (fun q => ?_)
  ·refine clq (r3_most 10 p _ (by omega) (by omega)) ?_
   refine sp (.bool false) (fun q2 => ?_) (fun q2 => ?_)
   ·refine clq (r3_in _ _ _ _) ?_
    refine rt1 ⟨vb ?_,hn2⟩
    simp only [Bool.and_eq_true,decide_eq_true_eq] at q
    try have h3':=of_decide_eq_false h3
    cases p <;> (rw [Bool.eq_iff_iff];simp [validI,inR,rngs,isPool,mosts]) <;> omega
   ·exact absurd q2 (by decide)
  ·refine sp (.bool false) (fun q2 => ?_) (fun q2 => ?_)
   ·rw [q] at q2;cases q2
   ·refine rt1 ⟨vb ?_,hn2⟩
    rw [q]
    simp only [Bool.not_true,Bool.and_eq_false_iff,decide_eq_false_iff_not] at q
    try have h3':=of_decide_eq_false h3
    cases p <;> (rw [Bool.eq_iff_iff];simp [validI,inR,rngs,isPool,mosts]) <;> omega
 have n16:=of_decide_eq_false h
 refine br (t:=decide (op=17)) (fun h => ?_) (fun h => ?_)
 ·have e:=of_decide_eq_true h
  refine brt ?_ (hp:=h)
  subst e
  refine ds fun w2 h2 => ?_
  have hx:=h2.box hx
  have hn2:=hn.bl.trans h2.bl
  refine ld (hx.cell rfl) ?_
  refine clq (r3_most 7 p _ (by omega) (by omega)) ?_
  refine clq (r3_in _ _ _ _) ?_
  refine rt1 ⟨vb ?_,hn2⟩
  obtain ⟨-,g1,g2⟩:=vgood hg
  try (have hb:=g1 (by decide);subst hb)
  cases p <;> (rw [Bool.eq_iff_iff];simp [validI,inR,rngs,isPool,mosts]) <;> omega
 have n17:=of_decide_eq_false h
 refine br (t:=decide (op=18)) (fun h => ?_) (fun h => ?_)
 ·have e:=of_decide_eq_true h
  subst e
  refine ds fun w2 h2 => ?_
  have hx:=h2.box hx
  have hn2:=hn.bl.trans h2.bl
  refine ld (hx.cell rfl) ?_
  refine clq (r3_most 7 p _ (by omega) (by omega)) ?_
  refine clq (r3_in _ _ _ _) ?_
  refine rt1 ⟨vb ?_,hn2⟩
  obtain ⟨-,g1,g2⟩:=vgood hg
  try (have hb:=g1 (by decide);subst hb)
  cases p <;> (rw [Bool.eq_iff_iff];simp [validI,inR,rngs,isPool,mosts]) <;> omega
 have n18:=of_decide_eq_false h
 refine br (t:=decide (op=22)) (fun h => ?_) (fun h => ?_)
 ·have e:=of_decide_eq_true h
  refine brt ?_ (hp:=h)
  subst e
  refine ds fun w2 h2 => ?_
  have hx:=h2.box hx
  have hn2:=hn.bl.trans h2.bl
  refine ld (hx.cell rfl) ?_
  refine clq (r3_most 10 p _ (by omega) (by omega)) ?_
  refine clq (r3_in _ _ _ _) ?_
  refine rt1 ⟨vb ?_,hn2⟩
  obtain ⟨-,g1,g2⟩:=vgood hg
  try (have hb:=g1 (by decide);subst hb)
  cases p <;> (rw [Bool.eq_iff_iff];simp [validI,inR,rngs,isPool,mosts]) <;> omega
 have n22:=of_decide_eq_false h
 refine br (t:=decide (op=23)) (fun h => ?_) (fun h => ?_)
 ·have e:=of_decide_eq_true h
  subst e
  refine ds fun w2 h2 => ?_
  have hx:=h2.box hx
  have hn2:=hn.bl.trans h2.bl
  refine ld (hx.cell rfl) ?_
  refine clq (r3_most 10 p _ (by omega) (by omega)) ?_
  refine clq (r3_in _ _ _ _) ?_
  refine rt1 ⟨vb ?_,hn2⟩
  obtain ⟨-,g1,g2⟩:=vgood hg
  try (have hb:=g1 (by decide);subst hb)
  cases p <;> (rw [Bool.eq_iff_iff];simp [validI,inR,rngs,isPool,mosts]) <;> omega
 have n23:=of_decide_eq_false h
 refine br (t:=decide (op=25)) (fun h => ?_) (fun h => ?_)
 ·have e:=of_decide_eq_true h
  refine brt ?_ (hp:=h)
  subst e
  refine ds fun w2 h2 => ?_
  have hx:=h2.box hx
  have hn2:=hn.bl.trans h2.bl
  refine ld (hx.cell rfl) ?_
  refine clq (r3_most 16 p _ (by omega) (by omega)) ?_
  refine clq (r3_in _ _ _ _) ?_
  refine rt1 ⟨vb ?_,hn2⟩
  obtain ⟨-,g1,g2⟩:=vgood hg
  try (have hb:=g1 (by decide);subst hb)
  cases p <;> (rw [Bool.eq_iff_iff];simp [validI,inR,rngs,isPool,mosts]) <;> omega
 have n25:=of_decide_eq_false h
 refine br (t:=decide (op=26)) (fun h => ?_) (fun h => ?_)
 ·have e:=of_decide_eq_true h
  subst e
  refine ds fun w2 h2 => ?_
  have hx:=h2.box hx
  have hn2:=hn.bl.trans h2.bl
  refine ld (hx.cell rfl) ?_
  refine clq (r3_most 16 p _ (by omega) (by omega)) ?_
  refine clq (r3_in _ _ _ _) ?_
  refine rt1 ⟨vb ?_,hn2⟩
  obtain ⟨-,g1,g2⟩:=vgood hg
  try (have hb:=g1 (by decide);subst hb)
  cases p <;> (rw [Bool.eq_iff_iff];simp [validI,inR,rngs,isPool,mosts]) <;> omega
 have n26:=of_decide_eq_false h
 refine br (t:=decide (op=27)) (fun h => ?_) (fun h => ?_)
 ·have e:=of_decide_eq_true h
  subst e
  refine ld (hx.cell rfl) ?_
  refine cl (r3_in _ _ _ _) ?_
  rintro _ _ ⟨rfl,rfl⟩
  refine rt1 ⟨vb ?_,hn2⟩
  obtain ⟨-,g1,g2⟩:=vgood hg
  try (have hb:=g1 (by decide);subst hb)
  cases p <;> (rw [Bool.eq_iff_iff];simp [validI,inR,rngs,isPool,mosts]) <;> omega
 have n27:=of_decide_eq_false h
 refine br (t:=decide (op=28)) (fun h => ?_) (fun h => ?_)
 ·have e:=of_decide_eq_true h
  subst e
  refine ld (hx.cell rfl) ?_
  refine cl (r3_in _ _ _ _) ?_
  rintro _ _ ⟨rfl,rfl⟩
  refine rt1 ⟨vb ?_,hn2⟩
  obtain ⟨-,g1,g2⟩:=vgood hg
  try (have hb:=g1 (by decide);subst hb)
  cases p <;> (rw [Bool.eq_iff_iff];simp [validI,inR,rngs,isPool,mosts]) <;> omega
 have n28:=of_decide_eq_false h
 refine br (t:=decide (op=30)) (fun h => ?_) (fun h => ?_)
 ·have e:=of_decide_eq_true h
  subst e
  refine ld (hx.cell rfl) ?_
  refine cl (r3_in _ _ _ _) ?_
  rintro _ _ ⟨rfl,rfl⟩
  refine ldg (fun _=>hx.cell rfl) ?_
  refine sp (.bool false) (fun q => ?_) (fun q => ?_)
  ·refine cl (r3_in _ _ _ _) ?_
   rintro _ _ ⟨rfl,rfl⟩
   refine rt1 ⟨vb ?_,hn2⟩
   simp only [Bool.and_eq_true,decide_eq_true_eq] at q
   cases p <;> (rw [Bool.eq_iff_iff];simp [validI,inR,rngs,isPool,mosts]) <;> omega
  ·refine rt1 ⟨vb ?_,hn2⟩
   rw [q]
   simp only [Bool.not_true,Bool.and_eq_false_iff,decide_eq_false_iff_not] at q
   cases p <;> (rw [Bool.eq_iff_iff];simp [validI,inR,rngs,isPool,mosts]) <;> omega
 have n30:=of_decide_eq_false h
 refine br (t:=decide (op=31)) (fun h => ?_) (fun h => ?_)
 ·have e:=of_decide_eq_true h
  subst e
  refine ld (hx.cell rfl) ?_
  refine cl (r3_in _ _ _ _) ?_
  rintro _ _ ⟨rfl,rfl⟩
  refine rt1 ⟨vb ?_,hn2⟩
  obtain ⟨-,g1,g2⟩:=vgood hg
  try (have hb:=g1 (by decide);subst hb)
  cases p <;> (rw [Bool.eq_iff_iff];simp [validI,inR,rngs,isPool,mosts]) <;> omega
 have n31:=of_decide_eq_false h
 refine br (t:=decide (op=32)) (fun h => ?_) (fun h => ?_)
 ·have e:=of_decide_eq_true h
  subst e
  refine ld (hx.cell rfl) ?_
  refine cl (r3_in _ _ _ _) ?_
  rintro _ _ ⟨rfl,rfl⟩
  refine rt1 ⟨vb ?_,hn2⟩
  obtain ⟨-,g1,g2⟩:=vgood hg
  try (have hb:=g1 (by decide);subst hb)
  cases p <;> (rw [Bool.eq_iff_iff];simp [validI,inR,rngs,isPool,mosts]) <;> omega
 have n32:=of_decide_eq_false h
 refine rt1 ⟨vb ?_,hn2⟩
 obtain ⟨g0,g1,g2⟩:=vgood hg
 have hr:0<=op/\op<=35:=by
  unfold opE at g0
  by_cases hb:op<0∨35<op
  ·rw [if_pos hb] at g0;omega
  ·omega
 have hc:op=0∨op=4∨op=5∨op=6∨op=7∨op=8∨op=9∨op=10∨op=11∨op=13∨op=19∨op=20∨op=21∨op=29∨op=33∨op=34∨op=35:=by omega
 rcases hc with rfl | rfl | rfl | rfl | rfl | rfl | rfl | rfl | rfl | rfl | rfl | rfl | rfl | rfl | rfl | rfl | rfl <;>
  (have hb:=g1 (by decide);have ha:=g2 (by decide);subst hb;subst ha;cases p <;> decide)
end Go.Proofs.YtdjkoljonlcemaaGreat
namespace Go.Proofs.YtdjkoljonlcemaaGreat
open Eng Go.RowKit
theorem r3_Opens (op:Int) (w:World):Ret Tryz.prog 222 #[I op] w fun v w'=>v = .bool (opensB op)/\w'=w:=by
 refine entr (vs:=[I op]) [0,2] tabok Tryz.func222 (by kernel_rfl) ?_
 exact rt1 ⟨rfl,rfl⟩
theorem max_nat (a b:Nat):max (a:Int) (b:Int)=((max a b:Nat):Int):=by omega
def PartsC (l:List Ins) (a:Option Addr) (cap:Nat) (w:World) (i:Nat):Prop :=
 Ret Tryz.prog 197 #[.slice a l.length cap,I i] w fun v w'=>(∃ next deep,v = .tuple #[I next,I deep]/\partsOk (l.map (·.op)) i next deep)/\w'=w
def BracketC (l:List Ins) (a:Option Addr) (cap:Nat) (w:World) (i:Nat):Prop :=
 Ret Tryz.prog 223 #[.slice a l.length cap,I i] w fun v w'=>(∃ alt next deep,v = .tuple #[I alt,I next,I deep]/\bracketOk (l.map (·.op)) i next deep)/\w'=w
theorem drop_at {l:List Ins} {k:Nat} {x:Ins} (h:l[k]? = some x):(l.map (·.op)).drop k=x.op::(l.map (·.op)).drop (k+1):=by
 obtain ⟨hk,e⟩:=List.getElem?_eq_some_iff.1 h
 rw [List.drop_eq_getElem_cons (by rw [List.length_map];exact hk)]
 simp [e]
theorem r3_parts (l:List Ins) (a:Option Addr) (cap:Nat) (S:Nat->Prop) (w:World) (hS:Sl eIns S w a l) (i:Nat) (hi:i<=l.length)
  (hb:∀ j,i<=j->j<l.length->(∀ x,l[j]? = some x->opensB x.op=true)->BracketC l a cap w j):PartsC l a cap w i:=by
 unfold PartsC
 have hbig:=hS.big
 refine entr (vs:=[.slice a l.length cap,I i]) [0,1,4,5,6,8,9,29,36,47] tabok Tryz.func197 (by kernel_rfl) ?_
 refine lp [1,6] [(0,.slice a l.length cap)] (fun m vals w'=>∃ j k:Nat,m=l.length-j/\vals=[I j,I k]/\i<=j/\j<=l.length/\k<=j-i/\w=w'/\∀ s D,s.length<=D->runB ((l.map (·.op)).drop i) s D=runB ((l.map (·.op)).drop j) s (max D (s.length+k))) ⟨rfl,trivial⟩
  ⟨i,0,rfl,rfl,Nat.le_refl _,hi,Nat.zero_le _,rfl,fun s D h=>by rw [Nat.add_zero,Nat.max_eq_left h]⟩ ?_
 rintro m vals _ ⟨j,k,rfl,rfl,hij,hjl,hk,rfl,hrun⟩ ih
 by_cases hlt:j<l.length
 ·obtain ⟨x,b,o,cs,hx,rfl,hSb,hAt,rfl⟩:=at_some hS hlt
  refine ixg (fun _=>hlt) ?_
  refine ldg (fun _=>hAt 0 _ rfl) ?_
  refine ixg (fun _=>hlt) ?_
  refine ldg (fun _=>hAt 0 _ rfl) ?_
  have hop:(l.map (·.op))[j]? = some x.op:=by rw [List.getElem?_map,hx];rfl
  have hd:=drop_at hx
  refine br (t:=(decide ((j:Int)<l.length)&&decide (¬x.op=34))&&decide (¬x.op=35)) (fun h => ?_) (fun h => ?_)
  ·simp only [Bool.and_eq_true,decide_eq_true_eq] at h
   refine ix ?_
   refine ld (hAt 0 _ rfl) ?_
   refine cl (r3_Opens x.op _) ?_
   rintro _ _ ⟨rfl,rfl⟩
   refine br (t := !opensB x.op) (fun h2 => ?_) (fun h2 => ?_)
   ·have h3:opensB x.op=false:=by simpa using h2
    refine again (ih _ _ _ _ ?_ ⟨rfl,trivial⟩ rfl ⟨j+1,k,rfl,lst2 (inc hlt) rfl,by omega,hlt,by omega,rfl,fun s D hs => ?_⟩)
    ·omega
    ·rw [hrun s D hs,hd,runB_plain h3 h.1.2 h.2]
   ·have h3:opensB x.op=true:=by simpa using h2
    refine cl (hb j hij hlt (fun y hy=>by rw [hx] at hy;obtain rfl:=Option.some.inj hy;exact h3)) ?_
    rintro _ _ ⟨⟨alt,next,deep,rfl,hbo⟩,rfl⟩
    refine br (fun h4 => ?_) (fun h4 => ?_)
    ·have h5:=of_decide_eq_true h4
     rcases hbo with ⟨rfl,hbad⟩ | ⟨n,k2,_,rfl,_⟩
     ·refine rt2 ⟨⟨0,-1,rfl,.inl ⟨rfl,fun s D D' hs e => ?_⟩⟩,rfl⟩
      rw [hrun s D hs] at e
      exact hbad s _ D' (by omega) e
     ·omega
    ·have h5:=of_decide_eq_false h4
     rcases hbo with ⟨rfl,hbad⟩ | ⟨n,k2,rfl,rfl,hn1,hn2,hk2,hrun2⟩
     ·omega
     ·rw [List.length_map] at hn2
      refine mx ?_
      refine again (ih _ _ _ _ ?_ ⟨rfl,trivial⟩ rfl ⟨n+1,max k (k2+1),rfl,lst2 (inc (by omega)) (vi ?_),by omega,by omega,by omega,rfl,fun s D hs => ?_⟩)
      ·omega
      ·rw [wrap_fit (by omega) (by omega)];omega
      ·rw [hrun s D hs,hrun2 s _ (by omega)]
       congr 1;omega
  ·refine rt2 ⟨⟨j,k,rfl,.inr ⟨j,k,rfl,rfl,hij,by rw [List.length_map];exact hjl,hk,.inr ?_,hrun⟩⟩,rfl⟩
   rw [hop]
   simp only [Bool.and_eq_false_iff,decide_eq_false_iff_not] at h
   by_cases h6:x.op=34
   ·exact .inl (by rw [h6])
   ·exact .inr (by congr 1;omega)
 ·refine sp (.pointer (some ⟨0,0,none⟩)) (fun q => ?_) (fun q => ?_)
  ·have:=of_decide_eq_true q;omega
  refine ldg (v:=I 0) (fun e => ?_) ?_
  ·have:=of_decide_eq_true e;omega
  refine sp (.pointer (some ⟨0,0,none⟩)) (fun q2 => ?_) (fun q2 => ?_)
  ·simp only [Bool.and_eq_true,decide_eq_true_eq] at q2;omega
  refine ldg (v:=I 0) (fun e => ?_) ?_
  ·simp only [Bool.and_eq_true,decide_eq_true_eq] at e;omega
  refine br (fun h => ?_) (fun h => ?_)
  ·simp only [Bool.and_eq_true,decide_eq_true_eq] at h;omega
  ·obtain rfl:j=l.length:=by omega
   exact rt2 ⟨⟨l.length,k,rfl,.inr ⟨l.length,k,rfl,rfl,hij,by rw [List.length_map];exact Nat.le_refl _,hk,.inl (by rw [List.length_map]),hrun⟩⟩,rfl⟩
theorem r3_bracket (l:List Ins) (a:Option Addr) (cap:Nat) (S:Nat->Prop) (w:World) (hS:Sl eIns S w a l) (i:Nat) (hi:i<l.length) (x:Ins) (hx:l[i]? = some x) (hox:opensB x.op=true)
  (hp:∀ j,i<j->j<=l.length->PartsC l a cap w j):BracketC l a cap w i:=by
 unfold BracketC
 have hbig:=hS.big
 have hp1:∀ j:Nat,i<=j->j<l.length->Ret Tryz.prog 197 #[.slice a l.length cap,.int .i64 (IntKind.i64.wrap ((j:Int)+1))] w fun v w'=>(∃ next deep,v = .tuple #[I next,I deep]/\partsOk (l.map (·.op)) (j+1) next deep)/\w'=w:=fun j h1 h2=>by
  rw [wrap_succ h2];exact hp (j+1) (by omega) h2
 refine entr (vs:=[.slice a l.length cap,I i]) [0,1,4,5,6,7,8,9,10,11,26,32,46,70,80] tabok Tryz.func223 (by kernel_rfl) ?_
 refine cl (hp1 i (Nat.le_refl _) hi) ?_
 rintro _ _ ⟨⟨next,deep,rfl,hpo⟩,rfl⟩
 have hd:=drop_at hx
 have bad:badB ((l.map (·.op)).drop (i+1))->badB ((l.map (·.op)).drop i):=fun hb s D D' hs e=>by
  rw [hd,runB_open hox] at e
  exact hb _ _ D' (by simp;omega) e
 refine br (fun h => ?_) (fun h => ?_)
 ·refine rt3 ⟨⟨0,0,-1,rfl,.inl ⟨rfl,?_⟩⟩,rfl⟩
  simp only [Bool.or_eq_true,decide_eq_true_eq] at h
  rcases hpo with ⟨_,hb⟩ | ⟨n,k,rfl,rfl,_,hn,_,_,hrun⟩
  ·exact bad hb
  ·rw [List.length_map] at hn
   obtain rfl:n=l.length:=by omega
   intro s D D' hs e
   rw [hd,runB_open hox,hrun _ _ (by simp;omega),List.drop_of_length_le (by rw [List.length_map];exact Nat.le_refl _)] at e
   simp [runB] at e
 simp only [Bool.or_eq_false_iff,decide_eq_false_iff_not] at h
 rcases hpo with ⟨rfl,_⟩ | ⟨n,k,rfl,rfl,hin,hn,hk,hnx,hrun⟩
 ·omega
 have hnl:n<l.length:=by omega
 obtain ⟨y,b,o,cs,hy,rfl,hSb,hAt,rfl⟩:=at_some hS hnl
 have hyop:(l.map (·.op))[n]? = some y.op:=by rw [List.getElem?_map,hy];rfl
 have hdy:=drop_at hy
 rw [hyop] at hnx
 have hnx':y.op=34∨y.op=35:=by
  rcases hnx with h1 | h1 | h1
  ·rw [List.length_map] at h1;omega
  ·exact .inl (Option.some.inj h1)
  ·exact .inr (Option.some.inj h1)
 have hstep:∀ s D,s.length<=D->runB ((l.map (·.op)).drop i) s D=runB (y.op::(l.map (·.op)).drop (n+1)) ((x.op,false)::s) (max D (s.length+1+k)):=fun s D hs=>by
  rw [hd,runB_open hox,hrun _ _ (by simp;omega),hdy]
  congr 1;simp
 refine ix ?_
 refine ld (hAt 0 _ rfl) ?_
 refine br (fun h34 => ?_) (fun h34 => ?_)
 ·have e34:=of_decide_eq_true h34
  obtain ⟨b',o',cs',e',hSb',hAt',rfl⟩:=hS.el i x hx
  simp only [Option.some.injEq,Addr.mk.injEq,and_true] at e'
  obtain ⟨rfl,rfl⟩:=e'
  refine ix ?_
  refine ld (hAt' 0 _ rfl) ?_
  refine ixg (fun _=>hi) ?_
  refine ldg (fun _=>hAt' 0 _ rfl) ?_
  refine br (t:=decide (¬x.op=29)&&decide (¬x.op=33)) (fun h2 => ?_) (fun h2 => ?_)
  ·simp only [Bool.and_eq_true,decide_eq_true_eq] at h2
   refine rt3 ⟨⟨0,0,-1,rfl,.inl ⟨rfl,fun s D D' hs e => ?_⟩⟩,rfl⟩
   rw [hstep s D hs,e34,runB_else,if_neg (by omega)] at e;cases e
  have h2':x.op=29∨x.op=33:=by
   simp only [Bool.and_eq_false_iff,decide_eq_false_iff_not] at h2;omega
  have hst2:∀ s D,s.length<=D->runB ((l.map (·.op)).drop i) s D=runB ((l.map (·.op)).drop (n+1)) ((x.op,true)::s) (max D (s.length+1+k)):=fun s D hs=>by
   rw [hstep s D hs,e34,runB_else,if_pos ⟨rfl,h2'⟩]
  refine cl (hp1 n (by omega) hnl) ?_
  rintro _ _ ⟨⟨next2,deep2,rfl,hpo2⟩,rfl⟩
  refine sp (.pointer (some ⟨0,0,none⟩)) (fun q => ?_) (fun q => ?_)
  ·simp only [Bool.or_eq_false_iff,decide_eq_false_iff_not] at q
   rcases hpo2 with ⟨rfl,_⟩ | ⟨n2,k2,rfl,rfl,hin2,hn2,hk2,hnx2,hrun2⟩
   ·omega
   have hnl2:n2<l.length:=by omega
   obtain ⟨z,b3,o3,cs3,hz,e3,hSb3,hAt3,rfl⟩:=at_some hS hnl2
   simp only [Option.some.injEq,Addr.mk.injEq,and_true] at e3
   obtain ⟨rfl,rfl⟩:=e3
   refine ix ?_
   refine ldg (fun _=>hAt3 0 _ rfl) ?_
   have hdz:=drop_at hz
   have hst3:∀ s D,s.length<=D->runB ((l.map (·.op)).drop i) s D=runB (z.op::(l.map (·.op)).drop (n2+1)) ((x.op,true)::s) (max (max D (s.length+1+k)) (s.length+1+k2)):=fun s D hs=>by
    rw [hst2 s D hs,hrun2 _ _ (by simp;omega),hdz];rfl
   have hz':z.op=34∨z.op=35:=by
    rcases hnx2 with h1 | h1 | h1
    ·rw [List.length_map] at h1;omega
    ·rw [List.getElem?_map,hz] at h1;exact .inl (Option.some.inj h1)
    ·rw [List.getElem?_map,hz] at h1;exact .inr (Option.some.inj h1)
   refine br (fun h3 => ?_) (fun h3 => ?_)
   ·have h3':z.op=34:=by
     rcases hz' with h | h
     ·exact h
     ·rw [h] at h3;simp at h3
    refine rt3 ⟨⟨0,0,-1,rfl,.inl ⟨rfl,fun s D D' hs e => ?_⟩⟩,rfl⟩
    rw [hst3 s D hs,h3',runB_else,if_neg (by simp)] at e;cases e
   ·have h3':z.op=35:=by
     rcases hz' with h | h
     ·rw [h] at h3;simp at h3
     ·exact h
    refine mx ?_
    rw [max_nat]
    refine rt3 ⟨⟨n,n2,(max k k2:Nat),rfl,.inr ⟨n2,max k k2,rfl,rfl,by omega,by rw [List.length_map];exact hnl2,by omega,fun s D hs => ?_⟩⟩,rfl⟩
    rw [hst3 s D hs,h3',runB_end,if_neg (by simp)]
    congr 1;omega
  ·refine ldg (v:=I 0) (fun e => ?_) ?_
   ·rw [q] at e;cases e
   refine br (fun h3 => ?_) (fun h3 => ?_)
   ·refine rt3 ⟨⟨0,0,-1,rfl,.inl ⟨rfl,fun s D D' hs e => ?_⟩⟩,rfl⟩
    simp only [Bool.not_false,Bool.or_eq_true,decide_eq_true_eq] at q
    rcases hpo2 with ⟨_,hb⟩ | ⟨n2,k2,rfl,rfl,_,hn2,_,_,hrun2⟩
    ·rw [hst2 s D hs] at e
     exact hb _ _ D' (by simp;omega) e
    ·rw [List.length_map] at hn2
     obtain rfl:n2=l.length:=by omega
     rw [hst2 s D hs,hrun2 _ _ (by simp;omega),List.drop_of_length_le (by rw [List.length_map];exact Nat.le_refl _)] at e
     simp [runB] at e
   ·rw [q] at h3;simp at h3
 ·have e34:=of_decide_eq_false h34
  have e35:y.op=35:=by omega
  obtain ⟨b',o',cs',e',hSb',hAt',rfl⟩:=hS.el i x hx
  simp only [Option.some.injEq,Addr.mk.injEq,and_true] at e'
  obtain ⟨rfl,rfl⟩:=e'
  refine ix ?_
  refine ld (hAt' 0 _ rfl) ?_
  refine br (fun h33 => ?_) (fun h33 => ?_)
  ·have e33:=of_decide_eq_true h33
   refine rt3 ⟨⟨0,0,-1,rfl,.inl ⟨rfl,fun s D D' hs e => ?_⟩⟩,rfl⟩
   rw [hstep s D hs,e35,runB_end,if_pos ⟨e33,rfl⟩] at e;cases e
  ·have e33:=of_decide_eq_false h33
   refine rt3 ⟨⟨-1,n,k,rfl,.inr ⟨n,k,rfl,rfl,by omega,by rw [List.length_map];exact hnl,by omega,fun s D hs => ?_⟩⟩,rfl⟩
   rw [hstep s D hs,e35,runB_end,if_neg (fun hc=>e33 hc.1)]
   congr 1;omega
end Go.Proofs.YtdjkoljonlcemaaGreat
namespace Go.Proofs.YtdjkoljonlcemaaGreat
open Eng Go.RowKit
theorem r3_tie (l:List Ins) (a:Option Addr) (cap:Nat) (S:Nat->Prop) (w:World) (hS:Sl eIns S w a l):∀ N i,l.length-i<=N->i<=l.length->PartsC l a cap w i
 | 0,i,h,hi=>r3_parts l a cap S w hS i hi fun j h1 h2=>by omega
 | N+1,i,h,hi=>r3_parts l a cap S w hS i hi fun j h1 h2 ho=>by
  obtain ⟨x,hx⟩:=some_of_lt h2
  exact r3_bracket l a cap S w hS j h2 x hx (ho x hx) fun j' h3 h4=>r3_tie l a cap S w hS N j' (by omega) h4
def codeE (l:List Ins) (p:Bool):Int:=if 120<l.length then 2 else if l.all (fun i=>validI i p)=true then (if okB (l.map (·.op))=true then 0 else 7) else 1
theorem okB_parts {c:List Int} {next deep:Int} (h:partsOk c 0 next deep):okB c = !((decide (deep<0)||decide (next<c.length))||decide (deep > 6)):=by
 rcases h with ⟨rfl,hb⟩ | ⟨n,k,rfl,rfl,_,hn,_,hnx,hrun⟩
 ·have:okB c=false:=by
   unfold okB
   have hb':=hb [] 0
   rw [List.drop_zero] at hb'
   split
   ·rename_i d e;exact absurd e (hb' d (Nat.le_refl _))
   ·rfl
  rw [this];rfl
 ·have hr:=hrun [] 0 (Nat.le_refl _)
  rw [List.drop_zero] at hr
  unfold okB
  rw [hr]
  by_cases hl:n=c.length
  ·rw [hl,List.drop_length]
   simp only [runB,List.length_nil]
   rw [decide_eq_false (p:=(k:Int)<0) (by omega),decide_eq_false (p:=(c.length:Int)<c.length) (by omega)]
   by_cases h6:k<=6
   ·rw [decide_eq_true (by omega),decide_eq_false (by omega)];rfl
   ·rw [decide_eq_false (by omega),decide_eq_true (by omega)];rfl
  ·have hlt:n<c.length:=by omega
   have h34:c[n]=34∨c[n]=35:=by
    rcases hnx with h | h | h
    ·exact absurd h hl
    ·rw [List.getElem?_eq_getElem hlt] at h;exact .inl (Option.some.inj h)
    ·rw [List.getElem?_eq_getElem hlt] at h;exact .inr (Option.some.inj h)
   rw [List.drop_eq_getElem_cons hlt,runB_top h34,decide_eq_true (p:=(n:Int)<c.length) (by omega)]
   simp
theorem r3_Check (l:List Ins) (a:Option Addr) (cap:Nat) (p:Bool) (S:Nat->Prop) (w:World) (hS:Sl eIns S w a l):Ret Tryz.prog 136 #[.slice a l.length cap,.bool p] w fun v w'=>v=I (codeE l p)/\Bl w w':=by
 have hbig:=hS.big
 refine entr (vs:=[.slice a l.length cap,.bool p]) [0,1,4,5,6,7,10,14,23,40] tabok Tryz.func136 (by kernel_rfl) ?_
 refine br (fun h => ?_) (fun h => ?_)
 ·have h:=of_decide_eq_true h
  exact rt1 ⟨vi (by unfold codeE;rw [if_pos (by omega)]),Bl.refl _⟩
 have h120:=of_decide_eq_false h
 refine lpk l.length 5 [] [(0,.slice a l.length cap),(1,.bool p)] (fun k vals w'=>vals=[]/\((l.take k).all fun i=>validI i p)=true/\Bl w w') ⟨rfl,rfl,Bl.refl _⟩ ?_
 rintro k vals w1 hk ⟨rfl,ha,hB⟩ ih
 by_cases hlt:k<l.length
 ·refine brT ?_
  obtain ⟨x,b,o,cs,hx,rfl,hSb,hAt,rfl⟩:=at_some (hS.bl hB) hlt
  refine ix ?_
  refine lda hAt ?_
  refine cl (r3_Valid x p _) ?_
  rintro _ w2 ⟨rfl,hB2⟩
  refine br (t := !validI x p) (fun h1 => ?_) (fun h1 => ?_)
  ·refine rt1 ⟨vi ?_,hB.trans hB2⟩
   unfold codeE
   rw [if_neg (by omega),all_miss hx (p:=fun i=>validI i p) (by simpa using h1),if_neg (by simp)]
  ·exact ih hlt ⟨rfl,all_snoc' hx ha (by simpa using h1),hB.trans hB2⟩
 refine brF ?_
 obtain rfl:k=l.length:=by omega
 have hall:=all_end ha
 have hc:codeE l p=if okB (l.map (·.op))=true then 0 else 7:=by unfold codeE;rw [if_neg (by omega),if_pos hall]
 refine cl (r3_tie l a cap S w1 (hS.bl hB) l.length 0 (by omega) (Nat.zero_le _)) ?_
 rintro _ _ ⟨⟨next,deep,rfl,hpo⟩,rfl⟩
 have hok:=okB_parts hpo
 rw [List.length_map] at hok
 refine br (t:=(decide (deep<0)||decide (next<l.length))||decide (deep > 6)) (fun h => ?_) (fun h => ?_)
 ·refine rt1 ⟨vi ?_,hB⟩
  rw [hc,hok,h];rfl
 ·refine rt1 ⟨vi ?_,hB⟩
  rw [hc,hok,h];rfl
end Go.Proofs.YtdjkoljonlcemaaGreat

/- Walks: the document's Check of a unit. -/
namespace Go.Proofs.YtdjkoljonlcemaaGreat
open Eng Go.RowKit
end Go.Proofs.YtdjkoljonlcemaaGreat

/- A unit whose indexes have moved, and whose strings have other names: it passes Check if the unit does. No program stands here. -/
namespace Go.Proofs.YtdjkoljonlcemaaGreat
open Eng Go.RowKit
end Go.Proofs.YtdjkoljonlcemaaGreat

/- What link does, as functions on units: declared things by their paths; what is defined; orders; layouts; signatures. No program stands here. -/
namespace Go.Proofs.YtdjkoljonlcemaaGreat
open Go.RowKit
def foldI {α β:Type} (f:β->α->Nat->β) (l:List α) (b:β):β:=l.zipIdx.foldl (fun b p=>f b p.1 p.2) b
structure Dcl where
 classes:Mp (Nat×Nat)
 statics:Mp (Nat×Nat)
 calls:Mp (Nat×Nat)
 sends:Mp (Nat×Nat)
 named:Mp (List ByteArray)
 fields:Mp Bool
def dcl0:Dcl:=⟨[],[],[],[],[],[]⟩
def dFld (u:Unt) (p:ByteArray) (D:Dcl) (f:Fld):Dcl:={ D with fields:=putM D.fields (dots p (nm u f.name)) true }
def dCls (u:Unt) (n:Nat) (D:Dcl) (c:Cls) (k:Nat):Dcl :=
 c.fields.foldl (dFld u (dots u.name (nm u c.name))) { D with classes:=putM D.classes (dots u.name (nm u c.name)) (n,k) }
def dSta (u:Unt) (n:Nat) (D:Dcl) (s:Fld) (k:Nat):Dcl:={ D with statics:=putM D.statics (dots u.name (nm u s.name)) (n,k) }
def dMth (u:Unt) (n:Nat) (D:Dcl) (m:Mth) (k:Nat):Dcl :=
 if m.cls<0 then { D with calls:=putM D.calls (dots u.name (nm u m.name)) (n,k) }
 else { D with sends:=putM D.sends (dots (nm u m.cls) (nm u m.name)) (n,k),named:=putM D.named (nm u m.name) ((getM D.named (nm u m.name)).getD []++[dots (nm u m.cls) (nm u m.name)]) }
def dUnt (D:Dcl) (u:Unt) (n:Nat):Dcl:=foldI (dMth u n) u.methods (foldI (dSta u n) u.statics (foldI (dCls u n) u.classes D))
def decl (us:List Unt):Dcl:=foldI dUnt us dcl0
abbrev nost:ByteArray:=⟨#[]⟩
def clsAt (us:List Unt) (d:Nat×Nat):Option (Unt×Cls):=(us[d.1]?).bind fun u=>(u.classes[d.2]?).map fun c=>(u,c)
def mthAt (us:List Unt) (d:Nat×Nat):Option (Unt×Mth):=(us[d.1]?).bind fun u=>(u.methods[d.2]?).map fun c=>(u,c)
def clsOf (us:List Unt) (D:Dcl) (p:ByteArray):Option (Unt×Cls):=(getM D.classes p).bind (clsAt us)
def supL (us:List Unt) (D:Dcl) (p:ByteArray):ByteArray:=match clsOf us D p with
 | some (u,c)=>if 0<=c.super then nm u c.super else nost
 | none=>nost
def ownL (us:List Unt) (D:Dcl) (p:ByteArray):List ByteArray:=match clsOf us D p with
 | some (u,c)=>c.fields.map fun f=>nm u f.name
 | none=>[]
def layL (us:List Unt) (D:Dcl):Nat->ByteArray->List ByteArray
 | 0,_=>[]
 | n+1,p=>(if supL us D p=nost then [] else layL us D n (supL us D p))++ownL us D p
def mthD (D:Dcl) (p:ByteArray):Option (Nat×Nat):=match getM D.calls p with
 | some d=>some d
 | none=>getM D.sends p
def mthOf (us:List Unt) (D:Dcl) (p:ByteArray):Option (Unt×Mth):=(mthD D p).bind (mthAt us)
def calI (D:Dcl) (u:Unt) (i:Ins):List ByteArray:=if i.op=25 then [nm u i.a] else if i.op=26 then (getM D.named (nm u i.a)).getD [] else []
def calL (us:List Unt) (D:Dcl) (p:ByteArray):List ByteArray:=match mthOf us D p with
 | some (u,m)=>m.code.flatMap (calI D u)
 | none=>[]
def neeC (us:List Unt) (D:Dcl) (p:ByteArray):List ByteArray:=if supL us D p=nost then [] else [supL us D p]
def placeL (needs:ByteArray->List ByteArray):Nat->List ByteArray->List ByteArray->Option (List ByteArray)
 | 0,_,out=>some out
 | n+1,left,out=>match left.findIdx? fun x=>(needs x).all fun y=>hasB out y with
  | none=>none
  | some k=>placeL needs n (left.eraseIdx k) (out++[left.getD k nost])
def sortL (l:List ByteArray):List ByteArray:=((l.map fun s=>s.data.toList).mergeSort fun x y=>decide (x<=y)).map ofL
def orderL (needs:ByteArray->List ByteArray) (names:List ByteArray):Option (List ByteArray):=placeL needs names.length (sortL names) []
def ordC (us:List Unt):Option (List ByteArray):=orderL (neeC us (decl us)) (keysM (decl us).classes)
def ordM (us:List Unt):Option (List ByteArray):=orderL (calL us (decl us)) (keysM (decl us).calls++keysM (decl us).sends)
def lay (us:List Unt) (p:ByteArray):List ByteArray:=layL us (decl us) ((keysM (decl us).classes).length) p
end Go.Proofs.YtdjkoljonlcemaaGreat

/- What is known of the indexes of a unit that passes Check. No program stands here. -/
namespace Go.Proofs.YtdjkoljonlcemaaGreat
open Go.RowKit
theorem inP_at {u:Unt} {i:Int} (h:inP u i):∃ k:Nat,i=k/\u.pool[k]? = some (nm u i):=by
 obtain ⟨h1,h2⟩:=h
 refine ⟨i.toNat,by omega,?_⟩
 unfold nm
 rw [List.getD_eq_getElem?_getD,List.getElem?_eq_getElem (by omega)];rfl
def optP (u:Unt) (i:Int):Prop:=i = -1∨inP u i
theorem optP.inP {u:Unt} {i:Int} (h:optP u i) (h0:¬i<0):inP u i:=by
 rcases h with rfl | h
 ·omega
 ·exact h
end Go.Proofs.YtdjkoljonlcemaaGreat

/- What declaring and placing give. No program stands here. -/
namespace Go.Proofs.YtdjkoljonlcemaaGreat
open Go.RowKit
structure DOk (us:List Unt) (c s m:Nat) (D:Dcl):Prop where
 cl:∀ p d,getM D.classes p=some d->∃ x,clsAt us d=some x
 st:∀ p d,getM D.statics p=some d->∃ u x,us[d.1]? = some u/\u.statics[d.2]? = some x
 ca:∀ p d,getM D.calls p=some d->∃ x,mthAt us d=some x
 se:∀ p d,getM D.sends p=some d->∃ x,mthAt us d=some x
 na:∀ q∈D.named,∀ p∈q.2,hasM D.sends p=true
 lc:D.classes.length<=c
 ls:D.statics.length<=s
 lm:D.calls.length+D.sends.length<=m
 ln:D.named.length<=m
 zc:∀ p∈D.classes,p.1.size<=200
 zs:∀ p∈D.statics,p.1.size<=200
 za:∀ p∈D.calls,p.1.size<=200
 ze:∀ p∈D.sends,p.1.size<=200
 zn:∀ p∈D.named,p.1.size<=200
theorem DOk.mono {us:List Unt} {c s m c' s' m':Nat} {D:Dcl} (h:DOk us c s m D) (h1:c<=c') (h2:s<=s') (h3:m<=m'):DOk us c' s' m' D :=
 ⟨h.cl,h.st,h.ca,h.se,h.na,Nat.le_trans h.lc h1,Nat.le_trans h.ls h2,Nat.le_trans h.lm h3,Nat.le_trans h.ln h3,h.zc,h.zs,h.za,h.ze,h.zn⟩
end Go.Proofs.YtdjkoljonlcemaaGreat

/- The engine: guards whose answer is known. -/
namespace Go.Proofs.YtdjkoljonlcemaaGreat
open Go Go.RowKit Eng
theorem Eng.spt {C:Cx} {s:St} {w:World} {md:Option Md} {ops:Array Oper} {o:Oper} {rest:List Oper} {k:List Item} {l:Env} {c:CEnv} {gs:Nat} {gb gt:Bool} {d:Nat} (u:Value)
  (h1:Wk C (.opn md ops o rest k (bools [(gs,gb)] (settleL [(gs,gb)] c l)) (settleC [(gs,gb)] c) []) w)
  (hs:adv C.tab C.n C.ks 400 s = .opn md ops o rest k l c [(gs,gb)]:=by rfl) (hg:evc l c [] (.tmp gs)=some (.bool gt):=by rfl) (hd:o.dst=some d:=by rfl) (hf:fresh d l c [(gs,gb)]=true:=by rfl) (hb:gt=gb:=by first | rfl | simp):Wk C s w :=
 sp u (fun _=>h1) (fun q=>by rw [hb] at q;cases gb <;> cases q) hs hg hd hf
theorem Eng.spn {C:Cx} {s:St} {w:World} {md:Option Md} {ops:Array Oper} {o:Oper} {rest:List Oper} {k:List Item} {l:Env} {c:CEnv} {gs:Nat} {gb gt:Bool} {d:Nat} (u:Value)
  (h2:Wk C (.reg md ops rest k l ((d,[(gs,gb)],u)::c)) w)
  (hs:adv C.tab C.n C.ks 400 s = .opn md ops o rest k l c [(gs,gb)]:=by rfl) (hg:evc l c [] (.tmp gs)=some (.bool gt):=by rfl) (hd:o.dst=some d:=by rfl) (hf:fresh d l c [(gs,gb)]=true:=by rfl) (hb:gt=(!gb):=by first | rfl | simp_all):Wk C s w :=
 sp u (fun q=>by rw [q] at hb;cases gb <;> cases hb) (fun _=>h2) hs hg hd hf
theorem Eng.spn2 {C:Cx} {s:St} {w:World} {md:Option Md} {ops:Array Oper} {o:Oper} {rest:List Oper} {k:List Item} {l:Env} {c:CEnv} {gs gs':Nat} {gb gt gb' gt':Bool} {d:Nat} (u:Value)
  (h2:Wk C (.reg md ops rest k l ((d,[(gs,gb),(gs',gb')],u)::c)) w)
  (hs:adv C.tab C.n C.ks 400 s = .opn md ops o rest k l c [(gs,gb),(gs',gb')]:=by rfl) (hg':evc l c [] (.tmp gs')=some (.bool gt'):=by rfl) (hg:evc l c [(gs',gb')] (.tmp gs)=some (.bool gt):=by rfl) (hd:o.dst=some d:=by rfl) (hf:fresh d l c [(gs,gb),(gs',gb')]=true:=by rfl) (hn:¬(gt'=gb'/\gt=gb):=by simp_all):Wk C s w :=
 sp2 u (fun a b=>absurd ⟨a,b⟩ hn) (fun _=>h2) hs hg' hg hd hf
theorem Eng.spt2 {C:Cx} {s:St} {w:World} {md:Option Md} {ops:Array Oper} {o:Oper} {rest:List Oper} {k:List Item} {l:Env} {c:CEnv} {gs gs':Nat} {gb gt gb' gt':Bool} {d:Nat} (u:Value)
  (h1:Wk C (.opn md ops o rest k (bools [(gs,gb),(gs',gb')] (settleL [(gs,gb),(gs',gb')] c l)) (settleC [(gs,gb),(gs',gb')] c) []) w)
  (hs:adv C.tab C.n C.ks 400 s = .opn md ops o rest k l c [(gs,gb),(gs',gb')]:=by rfl) (hg':evc l c [] (.tmp gs')=some (.bool gt'):=by rfl) (hg:evc l c [(gs',gb')] (.tmp gs)=some (.bool gt):=by rfl) (hd:o.dst=some d:=by rfl) (hf:fresh d l c [(gs,gb),(gs',gb')]=true:=by rfl) (hy:gt'=gb'/\gt=gb:=by simp_all):Wk C s w :=
 sp2 u (fun _ _=>h1) (fun q=>absurd hy q) hs hg' hg hd hf
end Go.Proofs.YtdjkoljonlcemaaGreat

/- Walks: the linker's readers: paths, what is declared. -/
namespace Go.Proofs.YtdjkoljonlcemaaGreat
open Eng Go.RowKit
def eUnt:El Unt :=
 {sz:=5,rel:=fun S w cs u=>∃ ua,cs=ucells u ua/\UnR S w u ua
  len:=fun ⟨_,e,_⟩=>by rw [e];rfl
  kp:=fun k ⟨a,e,h⟩=>⟨a,e,h.kp k⟩
  sub:=fun k ⟨a,e,h⟩=>⟨a,e,h.sub k⟩ }
abbrev encD:Nat×Nat->Value:=fun d => .agg #[I (d.1:Nat),I (d.2:Nat)]
structure Rs where
 a:Option Addr
 c:Nat
 l:List ByteArray
abbrev encR:Rs->Value:=fun r => .slice r.a r.l.length r.c
def mapV {α β:Type} (f:α->β) (m:Mp α):Mp β:=m.map fun p=>(p.1,f p.2)
theorem At.sub {w:World} {b o:Nat} {cs:List Value} (h:At w b o cs) (i n:Nat):At w b (o+i) ((cs.drop i).take n):=fun j v hj=>by
 rw [List.getElem?_take] at hj
 split at hj
 ·rw [List.getElem?_drop] at hj
  rw [Nat.add_assoc];exact h _ _ hj
 ·cases hj
structure Lnk (w:World) (b:Nat) (us:List Unt) (D:Dcl):Prop where
 us:∃ a c,w.cell? ⟨b,0,none⟩=some (.slice a us.length c)/\Sl eUnt (· ≠ b) w a us
 cl:∃ m,w.cell? ⟨b,1,none⟩=some (.map (some m))/\MapIs encD w m D.classes
 st:∃ m,w.cell? ⟨b,2,none⟩=some (.map (some m))/\MapIs encD w m D.statics
 ca:∃ m,w.cell? ⟨b,3,none⟩=some (.map (some m))/\MapIs encD w m D.calls
 se:∃ m,w.cell? ⟨b,4,none⟩=some (.map (some m))/\MapIs encD w m D.sends
 na:∃ m M,w.cell? ⟨b,5,none⟩=some (.map (some m))/\MapIs encR w m M/\mapV Rs.l M=D.named/\∀ p∈M,Sl eStr (· ≠ b) w p.2.a p.2.l
 fi:∃ m,w.cell? ⟨b,6,none⟩=some (.map (some m))/\MapIs Value.bool w m D.fields
structure Nb (b:Nat) (w w':World):Prop where
 size:w.heap.size<=w'.heap.size
 blk:∀ i,i<w.heap.size->i≠b->w'.heap[i]? = w.heap[i]?
theorem Nb.of_bl {b:Nat} {w w':World} (h:Bl w w'):Nb b w w':=⟨h.size,fun i hi _=>h.block i hi⟩
theorem Nb.kp {b:Nat} {w w':World} (h:Nb b w w'):Kp (· ≠ b) w w':=fun i o v s x=>by
 rw [World.cell?_of_block (w:=w) (h.blk i (cell_lt x) s)];exact x
theorem cell_map_ne {α:Type} {enc:α->Value} {w:World} {m b o:Nat} {M:Mp α} {v:Value} (h:MapIs enc w m M) (hc:w.cell? ⟨b,o,none⟩=some v):m≠b:=by
 rintro rfl
 obtain ⟨es,clock,h1,_⟩:=h.is
 simp [World.cell?,h1] at hc
theorem MapIs.nb {α:Type} {enc:α->Value} {w w':World} {m b:Nat} {M:Mp α} (h:MapIs enc w m M) (k:Nb b w w') (hne:m≠b):MapIs enc w' m M:=h.same (k.blk m h.lt hne)
theorem Lnk.nb {w w':World} {b:Nat} {us:List Unt} {D:Dcl} (h:Lnk w b us D) (k:Nb b w w') (hc:∀ o,o<7->w'.cell? ⟨b,o,none⟩=w.cell? ⟨b,o,none⟩):Lnk w' b us D:=by
 obtain ⟨⟨a,c,h1,h2⟩,⟨m1,h3,h4⟩,⟨m2,h5,h6⟩,⟨m3,h7,h8⟩,⟨m4,h9,h10⟩,⟨m5,M,h11,h12,h13,h14⟩,⟨m6,h15,h16⟩⟩:=h
 exact ⟨⟨a,c,(hc 0 (by omega)).trans h1,h2.kp k.kp⟩,⟨m1,(hc 1 (by omega)).trans h3,h4.nb k (cell_map_ne h4 h3)⟩,⟨m2,(hc 2 (by omega)).trans h5,h6.nb k (cell_map_ne h6 h5)⟩,⟨m3,(hc 3 (by omega)).trans h7,h8.nb k (cell_map_ne h8 h7)⟩,
  ⟨m4,(hc 4 (by omega)).trans h9,h10.nb k (cell_map_ne h10 h9)⟩,⟨m5,M,(hc 5 (by omega)).trans h11,h12.nb k (cell_map_ne h12 h11),h13,fun p hp=>(h14 p hp).kp k.kp⟩,⟨m6,(hc 6 (by omega)).trans h15,h16.nb k (cell_map_ne h16 h15)⟩⟩
theorem Lnk.lt {w:World} {b:Nat} {us:List Unt} {D:Dcl} (h:Lnk w b us D):b<w.heap.size:=by
 obtain ⟨a,c,h1,_⟩:=h.us
 exact cell_lt h1
theorem Lnk.bl {w w':World} {b:Nat} {us:List Unt} {D:Dcl} (h:Lnk w b us D) (k:Bl w w'):Lnk w' b us D :=
 h.nb (Nb.of_bl k) fun _ _=>World.cell?_of_block (w:=w) (k.block b h.lt)
theorem Bl.cl {w w':World} (k:Bl w w') {b o:Nat} {v:Value} (h:w.cell? ⟨b,o,none⟩=some v):w'.cell? ⟨b,o,none⟩=some v:=(k.kp T) _ _ _ trivial h
end Go.Proofs.YtdjkoljonlcemaaGreat

namespace Go.Proofs.YtdjkoljonlcemaaGreat
end Go.Proofs.YtdjkoljonlcemaaGreat

/- The engine, eleventh part: a slice against nil; numbers as texts; slices with three bounds; ways over a map. No program stands here. -/
namespace Go.Proofs.YtdjkoljonlcemaaGreat
open Go Go.RowKit Eng
theorem next_run {P:Program} {ty:TypeId} {w:World} {it b:Nat} {es:Array MapEntry} {clock:Nat} {seen:Array Nat} (hb:w.heap[b]? = some (.map es clock)) (hi:w.heap[it]? = some (.mapIter (some b) clock seen clock)) (hs:MapKept.Stamped es clock) :
  ((leftOf es seen).size=0/\(Instr.next (.pointer (some ⟨it,0,none⟩)) false ty).run P w = .ok (.tuple #[.bool false]) w) ∨
  ∃ e∈(leftOf es seen).toList,∃ w',Wr w it w'/\w'.heap[it]? = some (.mapIter (some b) clock (seen.push e.born) clock)/\(Instr.next (.pointer (some ⟨it,0,none⟩)) false ty).run P w = .ok (.tuple #[.bool true,e.key,e.val]) w':=by
 have hold:=hs.1
 have hlt:it<w.heap.size:=(Array.getElem?_eq_some_iff.1 hi).1
 simp only [Instr.next,getObj,Sem.run_bind,Sem.run,hb,hi,Result.andThen,next_test_false seen es clock clock hold (Nat.le_refl _),Bool.false_eq_true,if_false]
 unfold leftOf
 have hmem:∀ x∈(Array.filter (fun e => !seen.contains e.born) es).toList,x.born<clock:=fun x hx=>hold x (by simp at hx ⊢;exact hx.1)
 generalize Array.filter (fun e => !seen.contains e.born) es=L at hmem ⊢
 have e1:L.filter (fun x=>decide (x.born<clock))=L:=Array.filter_eq_self.2 (fun x hx=>by simpa using hmem x (by simpa using hx))
 have e2:L.filter (fun x=>decide (x.born≥clock))=#[]:=by
  rw [Array.filter_eq_empty_iff]
  intro x hx
  have:=hmem x (by simpa using hx)
  simp
  omega
 simp only [e1,e2,Array.append_empty]
 by_cases h0:L.size=0
 ·left
  have:L=#[]:=Array.eq_empty_of_size_eq_zero h0
  subst this
  refine ⟨rfl,?_⟩
  simp [choose,Sem.run,Question.forced]
 ·right
  have hne:L.isEmpty=false:=by simp [Array.isEmpty,h0]
  have hne':(if L.isEmpty=true then #[none] else #[]:Array (Option MapEntry))=#[]:=by rw [hne];rfl
  have hcs:∀ n:Nat,∃ e,n % (L.map some).size<L.size/\(L.map some)[n % (L.map some).size]? = some (some e)/\e∈L.toList:=fun n=>by
   have h1:n % (L.map some).size<L.size:=by rw [Array.size_map];exact Nat.mod_lt _ (by omega)
   exact ⟨L[n % (L.map some).size],h1,by rw [Array.getElem?_map,Array.getElem?_eq_getElem h1];rfl,by simp⟩
  simp only [hne',Array.empty_append]
  by_cases hf:(Question.mapNext (L.map some).size).forced=true
  ·have hsz:L.size=1:=by simp [Question.forced] at hf;omega
   have hL:∃ e,L[0]? = some e/\e∈L.toList:=⟨L[0]'(by omega),Array.getElem?_eq_getElem (by omega),by simp⟩
   obtain ⟨e,he,hm⟩:=hL
   refine ⟨e,hm,{ w with heap:=w.heap.setIfInBounds it (.mapIter (some b) clock (seen.push e.born) clock) },setMap_wr ..,by simp [hlt],?_⟩
   have hf':(Question.mapNext L.size).forced=true:=by rw [Array.size_map] at hf;exact hf
   simp [choose,Sem.run,hf',Array.getElem?_map,he,setObj,hi,Result.andThen]
  ·obtain ⟨e,_,he,hm⟩:=hcs (w.tape w.drawn (Question.mapNext (L.map some).size))
   refine ⟨e,hm,{ w with drawn:=w.drawn+1,heap:=w.heap.setIfInBounds it (.mapIter (some b) clock (seen.push e.born) clock) },?_,by simp [hlt],?_⟩
   ·have h:=setMap_wr w it (.mapIter (some b) clock (seen.push e.born) clock)
    exact ⟨h.os,h.tape,h.output,h.size,h.block⟩
   ·simp only [choose,Sem.run,hf,Question.cut,Sem.run_bind,Result.andThen,he,Bool.false_eq_true,if_false]
    have hd:w.drew.heap[it]? = some (.mapIter (some b) clock seen clock):=hi
    simp [setObj,Sem.run,hd]
    exact ⟨rfl,rfl,rfl⟩
namespace Eng
variable {C:Cx} {s:St} {w:World}
theorem nx {ops:Array Oper} {x:Operand} {d:Nat} {ty:TypeId} {pos:String} {af:Array Edge} {g:Option (Nat×Bool)} {rest:List Oper} {k:List Item} {l:Env} {c:CEnv} {it b:Nat} {es:Array MapEntry} {clock:Nat} {seen:Array Nat}
  (hb:w.heap[b]? = some (.map es clock)) (hi:w.heap[it]? = some (.mapIter (some b) clock seen clock)) (hst:MapKept.Stamped es clock)
  (h0:(leftOf es seen).size=0->Wk C (.reg none ops rest k ((d,.tuple #[.bool false])::l) c) w)
  (h1:∀ e w',e∈(leftOf es seen).toList->Wr w it w'->w'.heap[it]? = some (.mapIter (some b) clock (seen.push e.born) clock)->Wk C (.reg none ops rest k ((d,.tuple #[.bool true,e.key,e.val])::l) c) w')
  (hs:adv C.tab C.n C.ks 400 s = .opn none ops ⟨some d,.next x false,ty,pos,af,g⟩ rest k l c []:=by rfl) (hx:evc l c [] x=some (.pointer (some ⟨it,0,none⟩)):=by rfl) (hf:fresh d l c []=true:=by rfl):Wk C s w:=by
 rcases next_run (P:=C.P) (ty:=ty) hb hi hst with ⟨q,hr⟩ | ⟨e,he,w',hw,hi',hr⟩
 ·exact op_val (md:=none) rfl (show True from trivial) (fun _ a hA=>by
   simp only [execOp,evc_ok hA.k hA.kc.c (p:=[]) trivial hx]
   exact (run_bind_ok hr).trans rfl) (h0 q) hs rfl hf
 ·exact op_val (md:=none) rfl (show True from trivial) (fun _ a hA=>by
   simp only [execOp,evc_ok hA.k hA.kc.c (p:=[]) trivial hx]
   exact (run_bind_ok hr).trans rfl) (h1 e w' he hw hi') hs rfl hf
theorem sl3 {md:Option Md} {ops:Array Oper} {T:TypeId} {x:Operand} {lo hi:Option Operand} {mx:Operand} {d:Nat} {ty:TypeId} {pos:String} {af:Array Edge} {g:Option (Nat×Bool)} {rest:List Oper} {k:List Item} {l:Env} {c:CEnv} {e esz by' sz:Nat} {ag:Bool} {zr:List Value}
  {a:Option Addr} {len cap:Nat} (nl nh nm:Nat) {vlo:Option Value} {kh km:IntKind} (h:Wk C (.reg md ops rest k ((d,.slice (if nm=nl then a else a.map (·.add (nl*esz))) (nh-nl) (nm-nl))::l) c) w)
  (hs:adv C.tab C.n C.ks 400 s = .opn md ops ⟨some d,.slice T x lo hi (some mx),ty,pos,af,g⟩ rest k l c []:=by rfl) (ht:C.tab.at T=some ⟨.slice e esz by',sz,ag,zr⟩:=by rfl) (hx:evc l c [] x=some (.slice a len cap):=by rfl)
  (hlo:evo l c [] lo=some vlo:=by rfl) (hhi:evo l c [] hi=some (some (.int kh (nh:Int))):=by rfl) (hmx:evc l c [] mx=some (.int km (nm:Int)):=by rfl) (h1:bnd 0 vlo nl:=by first | rfl | exact ⟨_,rfl⟩) (h3:nl<=nh:=by omega) (h4:nh<=nm:=by omega) (h5:nm<=cap:=by omega) (hf:fresh d l c []=true:=by rfl):Wk C s w :=
 rd (p:=[]) (fun hT _ hA hp w' _=>by
  obtain ⟨dd,xx,zz,hT'⟩:=tiOk_und (tab_at hT ht)
  obtain ⟨rfl,hel⟩:=hT'.sl _ _ _ rfl
  obtain ⟨y,z,hy,hys,_⟩:=elemOk_of hel
  have elo:=evo_ok hA.k hA.kc.c hp hlo
  have ehi:=evo_ok hA.k hA.kc.c hp hhi
  simp only [execOp,evc_ok hA.k hA.kc.c hp hx]
  refine (run_bind_ok (P:=C.P) (x:=_) (w':=w') ?_).trans rfl
  simp only [Instr.sliceAt]
  rw [run_bind_ok (und_run hT'.und w')]
  simp only [Instr.slice]
  rw [run_bind_ok (und_run hT'.und w')]
  simp only [Option.map_some,elo,ehi,evc_ok hA.k hA.kc.c hp hmx]
  have hb:(Instr.sliceBounds true len cap vlo (some (.int kh (nh:Int))) (some (.int km (nm:Int)))).run C.P w' = .ok (nl,nh,nm) w':=by
   unfold Instr.sliceBounds
   refine (run_bind_ok (bound_run h5)).trans ?_
   refine (run_bind_ok (bound_run h4)).trans ?_
   cases vlo with
   | none=>have:nl=0:=h1;subst this;rfl
   | some v=>obtain ⟨kk,rfl⟩:=h1;exact (run_bind_ok (bound_run h3)).trans rfl
  rw [run_bind_ok hb]
  simp only
  rw [run_bind_ok (size_run hy w'),hys]
  rfl) h hs rfl hf (okR_no rfl)
def advN (tab:Tab) (n:Nat) (ks:List Nat) (len:Nat):Nat->St->St
 | 0,s=>s
 | m+1,s=>match s with
  | .code k l=>match Nat.beq k.length len with
   | true => .code k l
   | false=>match adv1 tab n ks (.code k l) with
    | some s'=>advN tab n ks len m s'
    | none => .code k l
  | s=>match adv1 tab n ks s with
   | some s'=>advN tab n ks len m s'
   | none=>s
theorem advN_ok {len:Nat}:∀ (m:Nat) {s:St},Wk C (advN C.tab C.n C.ks len m s) w->Wk C s w
 | 0,_,h=>h
 | m+1,s,h=>by
  have key:∀ s:St,Wk C (match adv1 C.tab C.n C.ks s with | some s'=>advN C.tab C.n C.ks len m s' | none=>s) w->Wk C s w:=fun s h=>by
   cases hs:adv1 C.tab C.n C.ks s with
   | none=>rw [hs] at h;exact h
   | some s'=>rw [hs] at h;exact adv1_ok hs (advN_ok m h)
  cases s with
  | code k l =>
   simp only [advN] at h
   cases hb:Nat.beq k.length len with
   | true=>rw [hb] at h;exact h
   | false=>rw [hb] at h;exact key _ h
  | reg md ops rest k l c=>exact key _ h
  | opn md ops o rest k l c p=>exact key _ h
theorem jn {c:Operand} {x y:Code} {t:Bool} {k:List Item} {l:Env} (sel:List Nat) (keep:Env) (Mid:List Value->World->Prop)
  (h1:t=true->(∀ {s':St} {l'':Env} {vals:List Value} {w'':World},Mid vals w''->(hs':advN C.tab C.n C.ks k.length 400 s' = .code k l'':=by rfl)->(hsub:Sub keep l'':=by repeat (first | exact True.intro | (refine ⟨rfl,?_⟩)))->(hv:lookAll l'' sel=some vals:=by rfl)->Wk C s' w'')->Wk C (.code (.code x::k) l) w)
  (h2:t=false->(∀ {s':St} {l'':Env} {vals:List Value} {w'':World},Mid vals w''->(hs':advN C.tab C.n C.ks k.length 400 s' = .code k l'':=by rfl)->(hsub:Sub keep l'':=by repeat (first | exact True.intro | (refine ⟨rfl,?_⟩)))->(hv:lookAll l'' sel=some vals:=by rfl)->Wk C s' w'')->Wk C (.code (.code y::k) l) w)
  (h3:∀ vals w'',Mid vals w''->Wk C (.code k (pair sel vals keep)) w'')
  (hs:adv C.tab C.n C.ks 400 s = .code (.code (.cond c x y)::k) l:=by rfl) (hc:evq l c=some (.bool t):=by rfl):Wk C s w:=by
 have go:∀ {s':St} {l'':Env} {vals:List Value} {w'':World},Mid vals w''->advN C.tab C.n C.ks k.length 400 s' = .code k l''->Sub keep l''->lookAll l'' sel=some vals->Wk C s' w'':=fun hm hs' hsub hv =>
  advN_ok (len:=k.length) 400 (by rw [hs'];exact wk_forget (look_pair hsub hv) (h3 _ _ hm))
 exact br (fun h=>h1 h (fun hm hs' hsub hv=>go hm hs' hsub hv)) (fun h=>h2 h (fun hm hs' hsub hv=>go hm hs' hsub hv)) hs hc
theorem cut {c0:Item} {k:List Item} {l:Env} (sel:List Nat) (keep:Env) (Mid:List Value->World->Prop)
  (h1:(∀ {s':St} {l'':Env} {vals:List Value} {w'':World},Mid vals w''->(hs':advN C.tab C.n C.ks k.length 400 s' = .code k l'':=by rfl)->(hsub:Sub keep l'':=by repeat (first | exact True.intro | (refine ⟨rfl,?_⟩)))->(hv:lookAll l'' sel=some vals:=by rfl)->Wk C s' w'')->Wk C (.code (c0::k) l) w)
  (h3:∀ vals w'',Mid vals w''->Wk C (.code k (pair sel vals keep)) w'')
  (hs:adv C.tab C.n C.ks 400 s = .code (c0::k) l:=by rfl):Wk C s w :=
 by_adv hs (h1 fun hm hs' hsub hv=>advN_ok (len:=k.length) 400 (by rw [hs'];exact wk_forget (look_pair hsub hv) (h3 _ _ hm)))
end Eng
end Go.Proofs.YtdjkoljonlcemaaGreat

/- The engine, tenth part: a region whose first operations, in any order, only make new blocks. -/
namespace Go.Proofs.YtdjkoljonlcemaaGreat.Eng
open Go Go.RowKit
def fpV:Value->Option Nat
 | .pointer (some a)=>some a.block
 | .slice (some a) _ _=>some a.block
 | _=>none
structure Pr where
 rd:List Nat
 nw:Bool
 sp:(Nat->Value)->World->Prop
structure PrOk (p:Pr) (d:Nat):Prop where
 mono:∀ {g w w'},Bl w w'->p.sp g w->p.sp g w'
 loc:∀ {g g' w},(∀ j∈p.rd,g j=g' j)->p.sp g w->p.sp g' w
 lt:∀ {g w b},p.nw=true->p.sp g w->fpV (g d)=some b->b<w.heap.size
def valsOf (a:Act):Nat->Value:=fun d=>a.tmps.getD d undef
def Pr.cst (d:Nat) (v:Value):Pr:=⟨[d],false,fun g _=>g d=v⟩
theorem Pr.cst_ok (d:Nat) (v:Value):PrOk (Pr.cst d v) d:=⟨fun _ h=>h,fun h k=>(h d (List.mem_singleton.2 rfl)).symm.trans k,fun h=>by cases h⟩
def Pr.box (d:Nat) (f:Nat->Value) (t:TypeId) (cs:List Value):Pr:=⟨[d],true,fun g w=>∃ b,g d=f b/\Box w b t cs⟩
theorem Pr.box_ok (d:Nat) (f:Nat->Value) (t:TypeId) (cs:List Value) (hf:∀ b,fpV (f b)=some b):PrOk (Pr.box d f t cs) d :=
 ⟨fun h ⟨b,e,k⟩=>⟨b,e,Bl.box h k⟩,fun h ⟨b,e,k⟩=>⟨b,(h d (List.mem_singleton.2 rfl)).symm.trans e,k⟩,fun _ ⟨b,e,k⟩ hb=>by
  rw [e,hf] at hb;cases hb;exact k.lt⟩
def Pr.fn (d:Nat) (rs:List Nat) (f:List Value->Value):Pr:=⟨d::rs,false,fun g _=>g d=f (rs.map g)⟩
theorem Pr.fn_ok (d:Nat) (rs:List Nat) (f:List Value->Value):PrOk (Pr.fn d rs f) d :=
 ⟨fun _ h=>h,fun {g g' w} h k=>by
  have e:rs.map g=rs.map g':=List.map_congr_left fun j hj=>h j (List.mem_cons_of_mem _ hj)
  show g' d=f (rs.map g')
  rw [<-e,<-h d (List.mem_cons_self ..)];exact k,fun h=>by cases h⟩
def nthD (ops:List Oper) (i:Nat):Option Nat:=match ops[i]? with
 | some o=>o.dst
 | none=>none
def memN (d:Nat):List Nat->Bool
 | []=>false
 | j::r=>Nat.beq j d||memN d r
theorem memN_iff {d:Nat}:∀ {l:List Nat},memN d l=true↔d∈l
 | []=>by simp [memN]
 | j::r=>by
  simp only [memN,Bool.or_eq_true,List.mem_cons,memN_iff (l:=r)]
  constructor
  ·rintro (h | h)
   ·exact .inl (Nat.eq_of_beq_eq_true h).symm
   ·exact .inr h
  ·rintro (h | h)
   ·exact .inl (by rw [h];exact Nat.beq_refl _)
   ·exact .inr h
def dstIs (ops:Array Oper) (j r:Nat):Bool:=match ops.toList[j]? with
 | some oj=>(match oj.dst with | some dj=>Nat.beq dj r | none=>false)
 | none=>false
theorem dstIs_of {ops:Array Oper} {j r:Nat} (h:dstIs ops j r=true):∃ o,ops[j]? = some o/\o.dst=some r:=by
 unfold dstIs at h
 split at h
 ·rename_i o ho
  split at h
  ·rename_i d hd
   exact ⟨o,by rw [<-Array.getElem?_toList];exact ho,by rw [hd,Nat.eq_of_beq_eq_true h]⟩
  ·cases h
 ·cases h
def parOp (n:Nat) (l:Env) (ops:Array Oper) (i:Nat) (o:Oper) (p:Pr):Bool:=match o.dst with
 | none=>false
 | some d=>Nat.blt d n&&isNone (look l d)&&o.guard.isNone&&(match o.op with | .select .. => false | _=>true) &&
  (o.after.all fun e => !Region.binds .any e||Nat.blt e.on i) &&
  (p.rd.all fun r=>Nat.beq r d||(o.after.any fun e=>Region.binds .any e&&dstIs ops e.on r))
def parB (n:Nat) (l:Env) (ops:Array Oper):Nat->List Pr->List Oper->Bool
 | _,[],_=>true
 | i,p::ps,o::os=>parOp n l ops i o p&&parB n l ops (i+1) ps os
 | _,_,_=>false
def waitB (m:Nat) (os:List Oper):Bool:=os.all fun o=>(List.range m).all fun j=>o.after.any fun e=>Region.binds .any e&&Nat.beq e.on j
def distB:List Nat->Bool
 | []=>true
 | d::r => !memN d r&&distB r
def dsts:List Oper->List Nat
 | []=>[]
 | o::os=>match o.dst with
  | some d=>d::dsts os
  | none=>dsts os
def penv:List Oper->(Nat->Value)->Env->Env
 | [],_,l=>l
 | o::os,g,l=>match o.dst with
  | some d=>(d,g d)::penv os g l
  | none=>penv os g l
theorem penv_knows {a:Act} {l:Env} (hk:Knows l a):∀ os:List Oper,Knows (penv os (valsOf a) l) a
 | []=>hk
 | o::os=>by
  simp only [penv]
  cases o.dst with
  | none=>exact penv_knows hk os
  | some d =>
   intro j v hj
   simp only [look] at hj
   cases hb:Nat.beq d j with
   | true=>simp only [hb,cond_true,Option.some.injEq] at hj;have:=Nat.eq_of_beq_eq_true hb;subst this;exact hj
   | false=>simp only [hb,cond_false] at hj;exact penv_knows hk os j v hj
theorem parB_at {n:Nat} {l:Env} {ops:Array Oper}:∀ {ps:List Pr} {os:List Oper} {i:Nat},parB n l ops i ps os=true->∀ {j:Nat} {p:Pr},ps[j]? = some p->∃ o,os[j]? = some o/\parOp n l ops (i+j) o p=true
 | [],_,_,_,j,p,hp=>by simp at hp
 | p::ps,[],_,h,_,_,_=>by simp [parB] at h
 | p::ps,o::os,i,h,0,q,hq=>by
  simp only [parB,Bool.and_eq_true] at h
  simp at hq;subst hq;exact ⟨o,rfl,h.1⟩
 | p::ps,o::os,i,h,j+1,q,hq=>by
  simp only [parB,Bool.and_eq_true] at h
  obtain ⟨o',h1,h2⟩:=parB_at h.2 (j:=j) (by simpa using hq)
  exact ⟨o',by simpa using h1,by rw [show i+(j+1)=i+1+j by omega];exact h2⟩
theorem dsts_ne:∀ {os:List Oper},distB (dsts os)=true->∀ {i j:Nat} {oi oj:Oper} {d:Nat},os[i]? = some oi->os[j]? = some oj->oi.dst=some d->oj.dst=some d->i=j
 | [],_,i,_,_,_,_,h,_,_,_=>by simp at h
 | o::os,h,i,j,oi,oj,d,hi,hj,di,dj=>by
  have mem:∀ {k:Nat} {ok:Oper},os[k]? = some ok->ok.dst=some d->d∈dsts os:=fun {k ok} hk dk=>by
   have:=List.mem_of_getElem? hk
   clear hk h hi hj
   induction os with
   | nil=>cases this
   | cons x os ih =>
    cases this with
    | head=>simp [dsts,dk]
    | tail _ hm =>
     simp only [dsts]
     split
     ·exact List.mem_cons_of_mem _ (ih hm)
     ·exact ih hm
  have h':distB (dsts os)=true:=by
   simp only [dsts] at h
   split at h
   ·simp only [distB,Bool.and_eq_true] at h;exact h.2
   ·exact h
  cases i with
  | zero =>
   simp at hi;subst hi
   cases j with
   | zero=>rfl
   | succ j =>
    exfalso
    simp only [dsts,di,distB,Bool.and_eq_true,Bool.not_eq_true'] at h
    have:=memN_iff.2 (mem (k:=j) (by simpa using hj) dj)
    rw [this] at h;exact absurd h.1 (by simp)
  | succ i =>
   cases j with
   | zero =>
    exfalso
    simp at hj;subst hj
    simp only [dsts,dj,distB,Bool.and_eq_true,Bool.not_eq_true'] at h
    have:=memN_iff.2 (mem (k:=i) (by simpa using hi) di)
    rw [this] at h;exact absurd h.1 (by simp)
   | succ j=>rw [dsts_ne h' (i:=i) (j:=j) (by simpa using hi) (by simpa using hj) di dj]
def StepOk (C:Cx) (l:Env) (w0:World) (o:Oper) (p:Pr) (deps:(Nat->Value)->World->Prop):Prop :=
 ∀ (a:Act) (w:World),Bl w0 w->Knows l a->deps (valsOf a) w->∃ v w',(execOp a.eval o).run C.P w = .ok (.value v) w'/\(∀ d,o.dst=some d->∀ g,(∀ j,j≠d->g j=valsOf a j)->g d=v->p.sp g w')/\Bl w w'/\(p.nw=true->∀ b,fpV v=some b->w.heap.size<=b)
def depsOf (prs:List Pr) (o:Oper) (g:Nat->Value) (w:World):Prop:=∀ e∈o.after,Region.binds .any e=true->∀ p,prs[e.on]? = some p->p.sp g w
theorem getD_ones (m k j:Nat):((List.replicate m true++List.replicate k false).toArray.getD j true)=decide (j<m∨m+k<=j):=by
 rw [Array.getD_eq_getD_getElem?,List.getElem?_toArray]
 by_cases h:j<m
 ·rw [List.getElem?_append_left (by simpa using h)];simp [h]
 ·rw [List.getElem?_append_right (by simpa using h),List.getElem?_replicate]
  simp only [List.length_replicate]
  by_cases h2:j-m<k
  ·rw [if_pos h2];simp;omega
  ·rw [if_neg h2];simp;omega
section
variable {C:Cx} {ops:Array Oper} {prs:List Pr} {l:Env} {w0:World} {k:List Item} {S:Nat->Prop}
structure PInv (C:Cx) (ops:Array Oper) (prs:List Pr) (l:Env) (w0:World) (listed:Array Bool) (a:Act) (w:World):Prop where
 ok:OkA C a l []
 bl:Bl w0 w
 sz:listed.size=ops.size
 hi:∀ j,prs.length<=j->j<ops.size->listed.getD j true=false
 sp:∀ j p,prs[j]? = some p->listed.getD j true=true->p.sp (valsOf a) w
 dep:∀ j o e,j<prs.length->ops[j]? = some o->listed.getD j true=true->e∈o.after->Region.binds .any e=true->listed.getD e.on true=true
 ge:∀ (i:Nat) (p:Pr) (o:Oper) (d b:Nat),prs[i]? = some p->ops[i]? = some o->o.dst=some d->listed.getD i true=true->p.nw=true->fpV (valsOf a d)=some b->w0.heap.size<=b
 dist:∀ (i j:Nat) (pi pj:Pr) (oi oj:Oper) (di dj bi bj:Nat),i≠j->prs[i]? = some pi->prs[j]? = some pj->ops[i]? = some oi->ops[j]? = some oj->oi.dst=some di->oj.dst=some dj->listed.getD i true=true->listed.getD j true=true->pi.nw=true->pj.nw=true->fpV (valsOf a di)=some bi->fpV (valsOf a dj)=some bj->bi≠bj
theorem valsOf_put {a:Act} {d:Nat} {v:Value} (hd:d<a.tmps.size) (j:Nat):valsOf (a.put (some d) v) j=if j=d then v else valsOf a j:=get_put hd
def unl (m:Nat) (listed:Array Bool):Nat:=((List.range m).filter fun j => !listed.getD j true).length
theorem unl_set {m i:Nat} {listed:Array Bool} (hi:i<m) (h:listed.getD i true=false):unl m (listed.setIfInBounds i true)+1=unl m listed:=by
 unfold unl
 have hil:i<listed.size:=by
  rcases Nat.lt_or_ge i listed.size with h' | h'
  ·exact h'
  ·rw [Array.getD_eq_getD_getElem?,Array.getElem?_eq_none h'] at h;cases h
 have key:∀ L:List Nat,L.Nodup->i∈L->(L.filter fun j => !(listed.setIfInBounds i true).getD j true).length+1=(L.filter fun j => !listed.getD j true).length:=by
  intro L
  induction L with
  | nil=>intro _ h;cases h
  | cons x L ih =>
   intro hn hm
   rw [List.nodup_cons] at hn
   by_cases hx:x=i
   ·subst hx
    have e1:(!(listed.setIfInBounds x true).getD x true)=false:=by
     rw [Array.getD_eq_getD_getElem?,Array.getElem?_setIfInBounds_self_of_lt hil];rfl
    have e2:(!listed.getD x true)=true:=by rw [h];rfl
    rw [List.filter_cons,if_neg (by rw [e1];simp),List.filter_cons,if_pos e2,List.length_cons]
    congr 1
    congr 1
    apply List.filter_congr
    intro y hy
    have hne:x≠y:=fun e=>hn.1 (e▸hy)
    rw [getD_set_ne true hne]
   ·have hm':i∈L:=by
     cases hm with
     | head=>exact absurd rfl hx
     | tail _ h=>exact h
    have e1:(listed.setIfInBounds i true).getD x true=listed.getD x true:=getD_set_ne true (Ne.symm hx)
    have:=ih hn.2 hm'
    rw [List.filter_cons,List.filter_cons,e1]
    split
    ·simp only [List.length_cons];omega
    ·exact this
 exact key _ List.nodup_range (List.mem_range.2 hi)
theorem unl_zero {m:Nat} {listed:Array Bool} (h:unl m listed=0) {j:Nat} (hj:j<m):listed.getD j true=true:=by
 unfold unl at h
 have:=List.eq_nil_of_length_eq_zero h
 by_cases hc:listed.getD j true=true
 ·exact hc
 ·exfalso
  have hm:j∈((List.range m).filter fun j => !listed.getD j true):=List.mem_filter.2 ⟨List.mem_range.2 hj,by simpa using hc⟩
  rw [this] at hm;cases hm
theorem par_run (hlen:prs.length<=ops.size) (hB:parB C.n l ops 0 prs (ops.toList.take prs.length)=true) (hd:distB (dsts (ops.toList.take prs.length))=true) (hwt:waitB prs.length (ops.toList.drop prs.length)=true)
  (hok:∀ (i:Nat) (o:Oper) (p:Pr) (d:Nat),ops[i]? = some o->prs[i]? = some p->o.dst=some d->PrOk p d) (hstep:∀ (i:Nat) (o:Oper) (p:Pr),ops[i]? = some o->prs[i]? = some p->StepOk C l w0 o p (depsOf prs o))
  (fuel0:Nat) {Q:Exit->Act->World->Prop}
  (hend:∀ a w,PInv C ops prs l w0 (List.replicate prs.length true++List.replicate (ops.size-prs.length) false).toArray a w->wpM C.P .any ops Q S (ops.size-0) fuel0 (List.replicate prs.length true++List.replicate (ops.size-prs.length) false).toArray a w) :
  ∀ (u:Nat) (listed:Array Bool) (a:Act) (w:World),unl prs.length listed=u->PInv C ops prs l w0 listed a w->wpM C.P .any ops Q S (ops.size-0) (fuel0+u) listed a w:=by
 have opOf:∀ {i:Nat} {p:Pr},prs[i]? = some p->∃ o,ops[i]? = some o/\parOp C.n l ops i o p=true:=fun {i p} hp=>by
  obtain ⟨o,h1,h2⟩:=parB_at hB hp
  rw [Nat.zero_add] at h2
  have hi:=(List.getElem?_eq_some_iff.1 hp).1
  rw [List.getElem?_take,if_pos hi,Array.getElem?_toList] at h1
  exact ⟨o,h1,h2⟩
 intro u
 induction u with
 | zero =>
  intro listed a w hu hI
  have e:listed=(List.replicate prs.length true++List.replicate (ops.size-prs.length) false).toArray:=by
   apply Array.ext
   ·rw [hI.sz];simp;omega
   ·intro j h1 h2
    have e1:listed[j]=listed.getD j true:=by simp [Array.getD,h1]
    have e2:(List.replicate prs.length true++List.replicate (ops.size-prs.length) false).toArray[j]=(List.replicate prs.length true++List.replicate (ops.size-prs.length) false).toArray.getD j true:=by unfold Array.getD;rw [dif_pos h2];rfl
    rw [e1,e2,getD_ones]
    by_cases hj:j<prs.length
    ·rw [unl_zero hu hj,decide_eq_true (.inl hj)]
    ·rw [hI.hi j (by omega) (by rw [<-hI.sz];exact h1),decide_eq_false]
     rw [hI.sz] at h1;omega
  rw [e] at hI ⊢
  exact hend a w hI
 | succ u ih =>
  intro listed a w hu hI
  have hun:∃ i,i<prs.length/\listed.getD i true=false/\∀ j,j<i->listed.getD j true=true:=by
   have hex:∃ i,i<prs.length/\listed.getD i true=false:=by
    unfold unl at hu
    obtain ⟨i,hi⟩:=List.exists_mem_of_ne_nil (l:=(List.range prs.length).filter fun j => !listed.getD j true) (by intro h0;rw [h0] at hu;cases hu)
    rw [List.mem_filter,List.mem_range] at hi
    exact ⟨i,hi.1,by simpa using hi.2⟩
   obtain ⟨i,h1,h2⟩:=hex
   induction i using Nat.strongRecOn with
   | _ i ihi =>
    by_cases hall:∀ j,j<i->listed.getD j true=true
    ·exact ⟨i,h1,h2,hall⟩
    ·have ⟨j,hj⟩:=Classical.not_forall.1 hall
     have ⟨hj1,hj2⟩:=Classical.not_imp.1 hj
     exact ihi j hj1 (by omega) (by simpa using hj2)
  refine ⟨fun h0 => ?_,fun i hi => ?_⟩
  ·exfalso
   obtain ⟨i,h1,h2,h3⟩:=hun
   obtain ⟨p,hp⟩:=some_of_lt h1
   obtain ⟨o,ho,hpo⟩:=opOf hp
   have:i∈Region.ready .any ops listed:=by
    rw [mem_ready]
    refine ⟨h2,o,ho,fun e he hb => ?_⟩
    unfold parOp at hpo
    cases hdst:o.dst with
    | none=>rw [hdst] at hpo;cases hpo
    | some d =>
     rw [hdst] at hpo
     simp only [Bool.and_eq_true] at hpo
     have:=Array.all_eq_true_iff_forall_mem.1 hpo.1.2 e he
     rw [hb] at this
     have hlt:e.on<i:=blt_lt (by simpa using this)
     have:=h3 e.on hlt
     have hsz:e.on<listed.size:=by rw [hI.sz];omega
     simpa [Array.getD,hsz] using this
   rw [h0] at this;cases this
  ·obtain ⟨hil,o,ho,hall⟩:=mem_ready.1 hi
   have hisz:i<ops.size:=(Array.getElem?_eq_some_iff.1 ho).1
   have him:i<prs.length:=by
    rcases Nat.lt_or_ge i prs.length with h | h
    ·exact h
    ·exfalso
     obtain ⟨i1,h1,h2,_⟩:=hun
     have hm:o∈ops.toList.drop prs.length:=by
      rw [List.mem_iff_getElem?]
      exact ⟨i-prs.length,by rw [List.getElem?_drop,show prs.length+(i-prs.length)=i by omega,Array.getElem?_toList];exact ho⟩
     have:=List.all_eq_true.1 (List.all_eq_true.1 hwt o hm) i1 (List.mem_range.2 h1)
     obtain ⟨e,he,hb⟩:=Array.any_eq_true'.1 this
     simp only [Bool.and_eq_true] at hb
     have e1:=hall e he hb.1
     rw [Nat.eq_of_beq_eq_true hb.2] at e1
     have hsz:i1<listed.size:=by rw [hI.sz];omega
     simp [Array.getD,hsz] at e1 h2
     rw [h2] at e1;cases e1
   obtain ⟨p,hp⟩:=some_of_lt him
   obtain ⟨o',ho',hpo⟩:=opOf hp
   rw [ho] at ho'
   obtain rfl:=Option.some.inj ho'
   unfold parOp at hpo
   cases hdst:o.dst with
   | none=>rw [hdst] at hpo;cases hpo
   | some d =>
    rw [hdst] at hpo
    simp only [Bool.and_eq_true] at hpo
    obtain ⟨⟨⟨⟨⟨g1,g2⟩,g3⟩,g4⟩,g5⟩,g6⟩:=hpo
    have hdn:d<a.tmps.size:=by rw [hI.ok.size];exact blt_lt g1
    have hdeps:depsOf prs o (valsOf a) w:=fun e he hb q hq=>by
     refine hI.sp e.on q hq ?_
     have:=hall e he hb
     have hsz:e.on<listed.size:=by
      rcases Nat.lt_or_ge e.on listed.size with h | h
      ·exact h
      ·rw [Array.getD_eq_getD_getElem?,Array.getElem?_eq_none h] at this;cases this
     simpa [Array.getD,hsz] using this
    obtain ⟨v,w',hr,hsp,hbl,hfp⟩:=hstep i o p ho hp a w hI.bl hI.ok.k hdeps
    have hwanted:Region.wanted o (yielded ops a.tmps)=true:=by
     unfold Region.wanted
     cases hg:o.guard with
     | none=>rfl
     | some x=>rw [hg] at g3;cases g3
    unfold wpOp
    simp only [ho,hwanted,if_true]
    left
    unfold Oper.wp
    rw [hr]
    show (_->Kb S w w')/\wpM C.P .any ops Q S (ops.size-0) (fuel0+u) (listed.setIfInBounds i true) (a.put o.dst v) w'
    rw [hdst]
    refine ⟨fun _=>hbl.kb S,ih _ _ _ ?_ ?_⟩
    ·have:=unl_set him hil;omega
    have hne:∀ j,j≠i->(listed.setIfInBounds i true).getD j true=listed.getD j true:=fun j hj=>getD_set_ne true (Ne.symm hj)
    have hpv:∀ j,j≠d->valsOf (a.put (some d) v) j=valsOf a j:=fun j hj=>by rw [valsOf_put hdn,if_neg hj]
    have hpd:valsOf (a.put (some d) v) d=v:=by rw [valsOf_put hdn,if_pos rfl]
    have hdne:∀ {j oj dj},j≠i->j<prs.length->ops[j]? = some oj->oj.dst=some dj->dj≠d:=fun {j oj dj} hj hjm hoj hdj e=>by
     subst e
     refine hj (dsts_ne hd (i:=j) (j:=i) ?_ ?_ hdj hdst)
     ·rw [List.getElem?_take,if_pos hjm,Array.getElem?_toList];exact hoj
     ·rw [List.getElem?_take,if_pos him,Array.getElem?_toList];exact ho
    have hspj:∀ j q,j≠i->prs[j]? = some q->listed.getD j true=true->q.sp (valsOf (a.put (some d) v)) w':=fun j q hj hq hl=>by
     have hjm:=(List.getElem?_eq_some_iff.1 hq).1
     obtain ⟨oj,hoj,hpj⟩:=opOf hq
     unfold parOp at hpj
     cases hdj:oj.dst with
     | none=>rw [hdj] at hpj;cases hpj
     | some dj =>
      have hq':=hok j oj q dj hoj hq hdj
      refine hq'.mono hbl (hq'.loc (fun r hr => ?_) (hI.sp j q hq hl))
      rw [hdj] at hpj
      simp only [Bool.and_eq_true] at hpj
      have hr':=List.all_eq_true.1 hpj.2 r hr
      rw [Bool.or_eq_true] at hr'
      refine (hpv r ?_).symm
      rcases hr' with hr' | hr'
      ·rw [Nat.eq_of_beq_eq_true hr'];exact hdne hj hjm hoj hdj
      ·obtain ⟨e,he,hb⟩:=Array.any_eq_true'.1 hr'
       rw [Bool.and_eq_true] at hb
       have hlt:e.on<j:=by
        have:=Array.all_eq_true_iff_forall_mem.1 hpj.1.2 e he
        rw [hb.1] at this
        exact blt_lt (by simpa using this)
       intro hrd
       subst hrd
       obtain ⟨oe,hoe,hde⟩:=dstIs_of hb.2
       have hei:e.on≠i:=fun hei=>by
        have:=hI.dep j oj e hjm hoj hl he hb.1
        rw [hei,hil] at this;cases this
       exact hdne hei (by omega) hoe hde rfl
    have hspi:p.sp (valsOf (a.put (some d) v)) w':=hsp d hdst _ hpv hpd
    have hIok:=hI.ok
    refine ⟨⟨by simp [Act.put,hIok.size],by simpa [Act.put] using hIok.defers,fun j x hx => ?_,knows_nil _⟩,Below.trans hI.bl (hbl.mono hI.bl.size),by simp [hI.sz],fun j h1 h2 => ?_,fun j q hq hl => ?_,fun j oj e hjm hoj hl he hb => ?_,fun j q oj dj b hq hoj hdj hl hm hb => ?_,fun i1 j1 pi pj oi oj di dj bi bj hij hpi hpj hoi hoj hdi hdj hli hlj hmi hmj hbi hbj => ?_⟩
    ·have hjd:j≠d:=fun e=>by
      subst e
      rw [hx] at g2;cases g2
     have:=hI.ok.k j x hx
     exact (hpv j hjd).trans this
    ·rw [hne j (by omega)];exact hI.hi j h1 h2
    ·by_cases hj:j=i
     ·subst hj;rw [hp] at hq;obtain rfl:=Option.some.inj hq;exact hspi
     ·rw [hne j hj] at hl;exact hspj j q hj hq hl
    ·have hlist:listed.getD e.on true=true:=by
      by_cases hj:j=i
      ·subst hj
       rw [ho] at hoj;obtain rfl:=Option.some.inj hoj
       have:=hall e he hb
       have hsz:e.on<listed.size:=by
        rcases Nat.lt_or_ge e.on listed.size with h | h
        ·exact h
        ·rw [Array.getD_eq_getD_getElem?,Array.getElem?_eq_none h] at this;cases this
       simpa [Array.getD,hsz] using this
      ·rw [hne j hj] at hl;exact hI.dep j oj e hjm hoj hl he hb
     by_cases he2:e.on=i
     ·rw [he2,hil] at hlist;cases hlist
     ·rw [hne _ he2];exact hlist
    ·by_cases hj:j=i
     ·subst hj
      rw [ho] at hoj;obtain rfl:=Option.some.inj hoj
      rw [hp] at hq;obtain rfl:=Option.some.inj hq
      rw [hdst] at hdj;obtain rfl:=Option.some.inj hdj
      rw [hpd] at hb
      exact Nat.le_trans hI.bl.size (hfp hm b hb)
     ·rw [hne j hj] at hl
      rw [hpv dj (hdne hj (List.getElem?_eq_some_iff.1 hq).1 hoj hdj)] at hb
      exact hI.ge j q oj dj b hq hoj hdj hl hm hb
    ·have old:∀ {j q oj dj b},j≠i->prs[j]? = some q->ops[j]? = some oj->oj.dst=some dj->listed.getD j true=true->q.nw=true->fpV (valsOf a dj)=some b->b<w.heap.size:=fun {j q oj dj b} hj hq hoj hdj hl hm hb=>(hok j oj q dj hoj hq hdj).lt hm (hI.sp j q hq hl) hb
     by_cases h1:i1=i
     ·subst h1
      have h2:j1≠i1:=Ne.symm hij
      rw [ho] at hoi;obtain rfl:=Option.some.inj hoi
      rw [hp] at hpi;obtain rfl:=Option.some.inj hpi
      rw [hdst] at hdi;obtain rfl:=Option.some.inj hdi
      rw [hpd] at hbi
      rw [hpv dj (hdne h2 (List.getElem?_eq_some_iff.1 hpj).1 hoj hdj)] at hbj
      rw [hne j1 h2] at hlj
      have:=hfp hmi bi hbi
      have:=old h2 hpj hoj hdj hlj hmj hbj
      omega
     ·rw [hne i1 h1] at hli
      rw [hpv di (hdne h1 (List.getElem?_eq_some_iff.1 hpi).1 hoi hdi)] at hbi
      by_cases h2:j1=i
      ·subst h2
       rw [ho] at hoj;obtain rfl:=Option.some.inj hoj
       rw [hp] at hpj;obtain rfl:=Option.some.inj hpj
       rw [hdst] at hdj;obtain rfl:=Option.some.inj hdj
       rw [hpd] at hbj
       have:=hfp hmj bj hbj
       have:=old h1 hpi hoi hdi hli hmi hbi
       omega
      ·rw [hne j1 h2] at hlj
       rw [hpv dj (hdne h2 (List.getElem?_eq_some_iff.1 hpj).1 hoj hdj)] at hbj
       exact hI.dist i1 j1 pi pj oi oj di dj bi bj hij hpi hpj hoi hoj hdi hdj hli hlj hmi hmj hbi hbj
def StepsOk (C:Cx) (l:Env) (w0:World) (prs:List Pr):List Oper->List Pr->Prop
 | o::os,p::ps=>StepOk C l w0 o p (depsOf prs o)/\StepsOk C l w0 prs os ps
 | _,_=>True
def PrsOk:List Oper->List Pr->Prop
 | o::os,p::ps=>(∀ d,o.dst=some d->PrOk p d)/\PrsOk os ps
 | _,_=>True
theorem stepsOk_at {C:Cx} {l:Env} {w0:World} {prs:List Pr}:∀ {os:List Oper} {ps:List Pr},StepsOk C l w0 prs os ps->∀ {i:Nat} {o:Oper} {p:Pr},os[i]? = some o->ps[i]? = some p->StepOk C l w0 o p (depsOf prs o)
 | o::os,p::ps,h,0,_,_,ho,hp=>by simp at ho hp;subst ho;subst hp;exact h.1
 | o::os,p::ps,h,i+1,_,_,ho,hp=>stepsOk_at h.2 (i:=i) (by simpa using ho) (by simpa using hp)
 | [],_,_,i,_,_,ho,_=>by simp at ho
 | _::_,[],_,i,_,_,_,hp=>by simp at hp
theorem prsOk_at:∀ {os:List Oper} {ps:List Pr},PrsOk os ps->∀ {i:Nat} {o:Oper} {p:Pr} {d:Nat},os[i]? = some o->ps[i]? = some p->o.dst=some d->PrOk p d
 | o::os,p::ps,h,0,_,_,d,ho,hp,hd=>by simp at ho hp;subst ho;subst hp;exact h.1 d hd
 | o::os,p::ps,h,i+1,_,_,d,ho,hp,hd=>prsOk_at h.2 (i:=i) (by simpa using ho) (by simpa using hp) hd
 | [],_,_,i,_,_,_,ho,_,_=>by simp at ho
 | _::_,[],_,i,_,_,_,_,hp,_=>by simp at hp
def distP:List Oper->List Pr->(Nat->Value)->Prop:=fun os ps g=>∀ (i j:Nat) (pi pj:Pr) (oi oj:Oper) (di dj bi bj:Nat),i≠j->ps[i]? = some pi->ps[j]? = some pj->os[i]? = some oi->os[j]? = some oj->oi.dst=some di->oj.dst=some dj->pi.nw=true->pj.nw=true->fpV (g di)=some bi->fpV (g dj)=some bj->bi≠bj
theorem dpar (prs:List Pr) (S:Nat->Prop) (ord:List Nat) {s:St} {w:World} {i:Nat} {ops:Array Oper} {k:List Item} {l:Env}
  (hs:adv C.tab C.n C.ks 400 s = .code (.code (.region i ops true)::k) l)
  (hok:PrsOk ops.toList prs) (hstep:tabOk C.P C.tab=true->∀ w0,Dr w w0->StepsOk C l w0 prs ops.toList prs)
  (h:∀ w0 w' g,Dr w w0->Bl w0 w'->(∀ (i:Nat) (p:Pr),prs[i]? = some p->p.sp g w')->(∀ (i:Nat) (p:Pr) (o:Oper) (d b:Nat),prs[i]? = some p->ops.toList[i]? = some o->o.dst=some d->p.nw=true->fpV (g d)=some b->w0.heap.size<=b)->distP ops.toList prs g ->
   ∃ l',Sub l' (penv (ops.toList.take prs.length) g l)/\Wk C (.reg (some (.h S 0)) ops (pickO ops.toList ord) k l' []) w')
  (hlen:Nat.ble prs.length ops.size=true:=by kernel_rfl) (hB:parB C.n l ops 0 prs (ops.toList.take prs.length)=true:=by kernel_rfl) (hd:distB (dsts (ops.toList.take prs.length))=true:=by kernel_rfl) (hwt:waitB prs.length (ops.toList.drop prs.length)=true:=by kernel_rfl)
  (hsel:Region.noSelect ops=true:=by kernel_rfl) (hn:Nat.beq (prs.length+ord.length) ops.size=true:=by kernel_rfl) (hH:heldB ops (ops.size-0) ord (List.replicate prs.length true++List.replicate (ops.size-prs.length) false).toArray=true:=by kernel_rfl):Wk C s w:=by
 refine by_adv hs ⟨fun ht hfn a hA=>runs_wp (wp_region_any (tab_mixed ht) ?_)⟩
 have hlen':=Nat.le_of_ble_eq_true hlen
 have hn':=Nat.eq_of_beq_eq_true hn
 have toL:∀ {j:Nat} {o:Oper},ops[j]? = some o->ops.toList[j]? = some o:=fun hj=>by rw [Array.getElem?_toList];exact hj
 refine wpAny_of_M (S:=S) (m:=ops.size-0) _ _ _ _ ?_
 have hun:unl prs.length (Array.replicate ops.size false)=prs.length:=by
  unfold unl
  rw [List.filter_eq_self.2,List.length_range]
  intro j hj
  have:=List.mem_range.1 hj
  simp [Array.getD,show j<ops.size by omega]
 have:=par_run (C:=C) (ops:=ops) (prs:=prs) (l:=l) (w0:=w.drew) (S:=S) hlen' hB hd hwt (fun i o p d ho hp hd=>prsOk_at hok (toL ho) hp hd) (fun i o p ho hp=>stepsOk_at (hstep ht _ ⟨rfl⟩) (toL ho) hp) (ord.length+(ops.size-(ops.size-0))) (Q:=nq C k) (fun a w' hI=>heldS_ok (Nat.sub_le ..) hsel (fun c a w hq=>by cases hq.1) ord _ a w' hH ?_) prs.length (Array.replicate ops.size false) a w.drew hun ?_
 ·rw [show ord.length+(ops.size-(ops.size-0))+prs.length=ops.size by omega] at this;exact this
 ·have ones:∀ j,j<prs.length->(List.replicate prs.length true++List.replicate (ops.size-prs.length) false).toArray.getD j true=true:=fun j hj=>by rw [getD_ones,decide_eq_true (.inl hj)]
  obtain ⟨l',hsub,hw⟩:=h w.drew w' (valsOf a) ⟨rfl⟩ hI.bl (fun i p hp=>hI.sp i p hp (ones i (List.getElem?_eq_some_iff.1 hp).1)) (fun i p o d b hp ho hd hm hb=>hI.ge i p o d b hp (by rw [<-Array.getElem?_toList];exact ho) hd (ones i (List.getElem?_eq_some_iff.1 hp).1) hm hb) (fun i j pi pj oi oj di dj bi bj hij hpi hpj hoi hoj hdi hdj hmi hmj hbi hbj =>
   hI.dist i j pi pj oi oj di dj bi bj hij hpi hpj (by rw [<-Array.getElem?_toList];exact hoi) (by rw [<-Array.getElem?_toList];exact hoj) hdi hdj (ones i (List.getElem?_eq_some_iff.1 hpi).1) (ones j (List.getElem?_eq_some_iff.1 hpj).1) hmi hmj hbi hbj)
  exact hw.run ht hfn a ⟨hI.ok.size,hI.ok.defers,fun j v hj=>penv_knows hI.ok.k _ j v (sub_look hsub hj),knows_nil a⟩
 ·have nof:∀ j,(Array.replicate ops.size false).getD j true=true->ops.size<=j:=fun j hj=>by
   rcases Nat.lt_or_ge j ops.size with h | h
   ·simp [Array.getD,h] at hj
   ·exact h
  refine ⟨hA,Bl.refl _,by simp,fun j _ h2=>by simp [Array.getD,h2],fun j p hp hl => ?_,fun j o e hj ho hl _ _ => ?_,fun i p _ _ _ hp _ _ hl _ _ => ?_,fun i j pi pj oi oj di dj bi bj _ hpi _ _ _ _ _ hl _ _ _ _ _ => ?_⟩
  ·have:=nof j hl;have:=(List.getElem?_eq_some_iff.1 hp).1;omega
  ·have:=nof j hl;omega
  ·have:=nof i hl;have:=(List.getElem?_eq_some_iff.1 hp).1;omega
  ·have:=nof i hl;have:=(List.getElem?_eq_some_iff.1 hpi).1;omega
theorem so_move {C:Cx} {l:Env} {w0:World} {d:Nat} {x:Operand} {ty:TypeId} {pos:String} {af:Array Edge} {g:Option (Nat×Bool)} {v:Value} {D:(Nat->Value)->World->Prop} (hx:evq l x=some v):StepOk C l w0 ⟨some d,.move x,ty,pos,af,g⟩ (Pr.cst d v) D :=
 fun a w _ hk _=>⟨v,w,by simp only [execOp,evq_ok hk hx];rfl,fun d' hd g _ hg=>by cases hd;exact hg,Bl.refl _,fun h=>by cases h⟩
theorem so_mk {C:Cx} (hT:tabOk C.P C.tab=true) {l:Env} {w0:World} {d:Nat} {T:TypeId} {x y:Operand} {ty:TypeId} {pos:String} {af:Array Edge} {g:Option (Nat×Bool)} {D:(Nat->Value)->World->Prop} {e esz by' sz m n:Nat} {ag:Bool} {zr:List Value} {tk:TK} {ag':Bool} {zr':List Value}
  (hx:∀ a w,Knows l a->D (valsOf a) w->a.eval x=I m) (hy:∀ a w,Knows l a->D (valsOf a) w->a.eval y=I n) (ht:C.tab.at T=some ⟨.slice e esz by',sz,ag,zr⟩:=by rfl) (he:C.tab.at e=some ⟨tk,esz,ag',zr'⟩:=by rfl) (hmn:m<=n:=by omega) (hn:n<=8388608:=by omega) (hb:Nat.ble by' 4096=true:=by rfl) :
  StepOk C l w0 ⟨some d,.makeSlice T x y,ty,pos,af,g⟩ (Pr.box d (fun b => .slice (some ⟨b,0,none⟩) m n) e (rep n zr')) D :=
 fun a w _ hk hD=>by
  refine ⟨_,_,exec_mk rfl (tab_at hT ht) (tab_at hT he) (hx a w hk hD) (hy a w hk hD) hmn hn hb,fun d' hd g _ hg => ?_,New.bl ⟨rfl,rfl⟩,fun _ b hb => ?_⟩
  ·cases hd;exact ⟨_,hg,New.box ⟨rfl,rfl⟩⟩
  ·simp only [fpV,Option.some.injEq] at hb;omega
theorem so_al {C:Cx} (hT:tabOk C.P C.tab=true) {l:Env} {w0:World} {d:Nat} {T:TypeId} {ty:TypeId} {pos:String} {af:Array Edge} {g:Option (Nat×Bool)} {D:(Nat->Value)->World->Prop} {tk:TK} {sz:Nat} {ag:Bool} {zr:List Value}
  (ht:C.tab.at T=some ⟨tk,sz,ag,zr⟩:=by rfl):StepOk C l w0 ⟨some d,.alloc T,ty,pos,af,g⟩ (Pr.box d (fun b => .pointer (some ⟨b,0,none⟩)) T zr) D :=
 fun a w _ hk hD=>by
  obtain ⟨z,hz,hc⟩:=zero_run (tab_at hT ht) w
  refine ⟨.pointer (some ⟨w.heap.size,0,none⟩),w.alloc (.cells zr.toArray T),?_,fun d' hd g _ hg => ?_,New.bl ⟨rfl,rfl⟩,fun _ b hb => ?_⟩
  ·simp only [execOp]
   refine (run_bind_ok (P:=C.P) (x := .pointer (some ⟨w.heap.size,0,none⟩)) (w':=w.alloc (.cells zr.toArray T)) ?_).trans rfl
   unfold Instr.alloc
   rw [run_bind_ok hz]
   simp only [newVar,newRow,hc];rfl
  ·cases hd;exact ⟨_,hg,New.box ⟨rfl,rfl⟩⟩
  ·simp only [fpV,Option.some.injEq] at hb;omega
end
end Go.Proofs.YtdjkoljonlcemaaGreat.Eng

/- The engine, eleventh part: fields of struct values. -/
namespace Go.Proofs.YtdjkoljonlcemaaGreat.Eng
open Go Go.RowKit
def fieldOne (P:Program) (T i o:Nat):Bool:=match P.underlying T with
 | some (.struct fs)=>match fs[i]? with
  | some f=>Nat.beq f.offset o&&(match P.underlying f.type with
   | some d => !isAggD d
   | none=>false)
  | none=>false
 | _=>false
theorem isAgg_run {P:Program} {t:TypeId} {d:TypeDesc} (h:P.underlying t=some d) (w:World):(isAgg t).run P w = .ok (isAggD d) w:=by
 unfold isAgg
 rw [run_bind_ok (und_run h w)]
 cases d <;> rfl
section
variable {C:Cx} {s:St} {w:World}
theorem exec_fld {P:Program} {ρ:Operand->Value} {w:World} {o:Oper} {T i off:Nat} {x:Operand} {cs:List Value} {v:Value} (ho:o.op = .field T x i) (hF:fieldOne P T i off=true) (hx:ρ x = .agg cs.toArray) (hv:cs[off]? = some v) :
  (execOp ρ o).run P w = .ok (.value v) w:=by
 unfold fieldOne at hF
 split at hF
 ·rename_i fs hu
  split at hF
  ·rename_i f hf
   rw [Bool.and_eq_true] at hF
   split at hF
   ·rename_i d hd
    unfold execOp
    simp only [ho,hx]
    refine (run_bind_ok (P:=P) (x:=v) (w':=w) ?_).trans rfl
    unfold Instr.field
    rw [run_bind_ok (und_run hu w)]
    simp only [hf]
    rw [run_bind_ok (show (asAgg (.agg cs.toArray)).run P w = .ok cs.toArray w from rfl)]
    unfold part
    have ha:isAggD d=false:=by simpa using hF.2
    rw [run_bind_ok (isAgg_run hd w),ha,if_neg (by simp),Nat.eq_of_beq_eq_true hF.1]
    simp only [List.getElem?_toArray,hv]
    rfl
   ·cases hF.2
  ·cases hF
 ·cases hF
theorem fd {md:Option Md} {ops:Array Oper} {T i:Nat} {x:Operand} {d:Nat} {ty:TypeId} {pos:String} {af:Array Edge} {g:Option (Nat×Bool)} {rest:List Oper} {k:List Item} {l:Env} {c:CEnv} {cs:List Value} {v:Value} (off:Nat)
  (h:Wk C (.reg md ops rest k ((d,v)::l) c) w)
  (hs:adv C.tab C.n C.ks 400 s = .opn md ops ⟨some d,.field T x i,ty,pos,af,g⟩ rest k l c []:=by rfl) (hF:fieldOne C.P T i off=true:=by kernel_rfl) (hx:evc l c [] x=some (.agg cs.toArray):=by rfl) (hv:cs[off]? = some v:=by rfl) (hf:fresh d l c []=true:=by rfl):Wk C s w :=
 rd (p:=[]) (fun _ _ hA hp _ _=>exec_fld rfl hF (evc_ok hA.k hA.kc.c hp hx) hv) h hs rfl hf (okR_no rfl)
end
end Go.Proofs.YtdjkoljonlcemaaGreat.Eng

/- Walks: the program's matching of brackets, and its Check of code. -/
namespace Go.Proofs.YtdjkoljonlcemaaGreat
open Eng Go.RowKit
def Has (w:World) (hs:List (Nat×TypeId×List Value)):Prop:=∀ (i b:Nat) (t:TypeId) (cs:List Value),hs[i]? = some (b,t,cs)->Box w b t cs
theorem Has.bl {w w':World} {hs:List (Nat×TypeId×List Value)} (h:Has w hs) (k:Bl w w'):Has w' hs:=fun i b t cs hi=>Bl.box k (h i b t cs hi)
theorem Has.wr {w w':World} {hs:List (Nat×TypeId×List Value)} (h:Has w hs) (nd:(hs.map (·.1)).Nodup) (i:Nat) {b:Nat} {t:TypeId} {cs cs':List Value} (hi:hs[i]? = some (b,t,cs)) (hW:Wr w b w') (hb:Box w' b t cs'):Has w' (hs.set i (b,t,cs')):=by
 intro j b' t' c' hj
 by_cases hij:i=j
 ·subst hij
  have hl:i<hs.length:=(List.getElem?_eq_some_iff.1 hi).1
  rw [List.getElem?_set_self hl] at hj
  simp only [Option.some.injEq,Prod.mk.injEq] at hj
  obtain ⟨rfl,rfl,rfl⟩:=hj;exact hb
 ·rw [List.getElem?_set_ne hij] at hj
  refine hW.box (h j b' t' c' hj) fun e=>hij ?_
  subst e
  have h1:(hs.map (·.1))[i]? = some b':=by rw [List.getElem?_map,hi];rfl
  have h2:(hs.map (·.1))[j]? = some b':=by rw [List.getElem?_map,hj];rfl
  obtain ⟨l1,e1⟩:=List.getElem?_eq_some_iff.1 h1
  obtain ⟨l2,e2⟩:=List.getElem?_eq_some_iff.1 h2
  have hp:=List.pairwise_iff_getElem.1 nd
  rcases Nat.lt_trichotomy i j with h3 | h3 | h3
  ·exact absurd (e1.trans e2.symm) (hp i j l1 l2 h3)
  ·exact h3
  ·exact absurd (e2.trans e1.symm) (hp j i l2 l1 h3)
theorem Has.ap {w w':World} {hs:List (Nat×TypeId×List Value)} (h:Has w hs) {a:Option Addr} (k:Ap w a w') (ha:∀ (i b:Nat) (t:TypeId) (cs:List Value),hs[i]? = some (b,t,cs)->a≠some ⟨b,0,none⟩):Has w' hs:=fun i b t cs hi=>k.box (h i b t cs hi) (ha i b t cs hi)
theorem Has.lt {w:World} {hs:List (Nat×TypeId×List Value)} (h:Has w hs) {i b:Nat} {t:TypeId} {cs:List Value} (hi:hs[i]? = some (b,t,cs)):b<w.heap.size:=(h i b t cs hi).lt
abbrev encNat:Nat->List Value:=fun i=>[I (i:Int)]
theorem owp_cell {w:World} {base e g cap:Nat} {l:List Nat} (hO:OwP 1 encNat w base e (some ⟨g,0,none⟩) cap l) {j x:Nat} (hx:l[j]? = some x):w.cell? ⟨g,j,none⟩=some (I (x:Int)):=by
 have:=flat_get (sz:=1) (enc:=encNat) (fun _=>rfl) hx 0 (by decide)
 have h2:=hO.at rfl (j*1+0) (I x) (by rw [this];rfl)
 simpa using h2
theorem Eng.Ow.cut {w:World} {base e esz n cap:Nat} {a:Option Addr} {xs:List Value} (h:Ow w base e esz a n cap xs) {m:Nat} (hm:m<=n):Ow w base e esz a m cap (xs.take (m*esz)):=by
 obtain ⟨h1,h2⟩:=h.own
 have hl:(xs.take (m*esz)).length=m*esz:=by rw [List.length_take,h1];exact Nat.min_eq_left (Nat.mul_le_mul_right _ hm)
 refine ⟨⟨hl,?_⟩⟩
 rcases h2 with ⟨h2,h3⟩ | ⟨g,cap',cur,h2,h3,h4,h5,h6,h7,h8⟩
 ·simp only [Value.slice.injEq] at h2
  obtain ⟨rfl,rfl,rfl⟩:=h2
  have:m=0:=by omega
  subst this
  exact .inl ⟨rfl,by simp⟩
 ·simp only [Value.slice.injEq] at h2
  obtain ⟨rfl,-,rfl⟩:=h2
  exact .inr ⟨g,cap,cur,rfl,h3,h4,by omega,h6,h7,by rw [<-h8,List.take_take,Nat.min_eq_left (Nat.mul_le_mul_right _ hm)]⟩
theorem owp_pop {w:World} {base e cap:Nat} {a:Option Addr} {l:List Nat} {x:Nat} (h:OwP 1 encNat w base e a cap (l++[x])):OwP 1 encNat w base e a cap l:=by
 have:=Eng.Ow.cut h (m:=l.length) (by simp)
 have e1:((l++[x]).flatMap encNat).take (l.length*1)=l.flatMap encNat:=by
  rw [List.flatMap_append,List.take_append_of_le_length (by rw [flat_length (sz:=1) (fun _=>rfl)];exact Nat.le_refl _),List.take_of_length_le (by rw [flat_length (sz:=1) (fun _=>rfl)];exact Nat.le_refl _)]
 rw [e1] at this;exact this
theorem rep_ints (n:Nat):rep n [I 0]=(List.replicate n (0:Int)).map I:=by
 induction n with
 | zero=>rfl
 | succ n ih=>rw [rep,ih,List.replicate_succ'];simp
theorem runB_app:∀ (c c':List Int) (s:List (Int×Bool)) (d:Nat),runB (c++c') s d=(match runB c s d with
 | some (s',d')=>runB c' s' d'
 | none=>none)
 | [],c',s,d=>rfl
 | op::c,c',s,d=>by
  simp only [List.cons_append,runB]
  cases stepB s d op with
  | none=>rfl
  | some sd=>exact runB_app c c' sd.1 sd.2
theorem runB_step {c:List Int} {k:Nat} {op:Int} (hk:c[k]? = some op) {s:List (Int×Bool)} {d:Nat} (h:runB (c.take k) [] 0=some (s,d)):runB (c.take (k+1)) [] 0=stepB s d op:=by
 rw [take_succ_some hk,runB_app,h]
 simp only [runB]
 cases stepB s d op with
 | none=>rfl
 | some sd=>rfl
theorem okB_fail {c:List Int} {k:Nat} (h:runB (c.take k) [] 0=none):okB c=false:=by
 have:runB c [] 0=none:=by
  rw [<-List.take_append_drop k c,runB_app,h]
 unfold okB;rw [this]
def stk (c:List Int) (E:List Int) (idx:List Nat):List (Int×Bool):=idx.reverse.map fun o=>(c.getD o 0,decide (0<=E.getD o (-1)))
theorem stk_push (c E:List Int) (idx:List Nat) (o:Nat):stk c E (idx++[o])=(c.getD o 0,decide (0<=E.getD o (-1)))::stk c E idx:=by simp [stk]
theorem stk_set {c E:List Int} {idx:List Nat} {k:Nat} {v:Int} (h:k ∉ idx):stk c (E.set k v) idx=stk c E idx:=by
 unfold stk
 apply List.map_congr_left
 intro o ho
 have:k≠o:=fun e=>h (by rw [e];exact List.mem_reverse.1 ho)
 rw [List.getD_eq_getElem?_getD (l:=E.set k v),List.getElem?_set_ne this,<-List.getD_eq_getElem?_getD]
theorem stk_length (c E:List Int) (idx:List Nat):(stk c E idx).length=idx.length:=by simp [stk]
theorem set_getD {E:List Int} {k:Nat} {v:Int} (h:k<E.length):(E.set k v).getD k (-1)=v:=by rw [List.getD_eq_getElem?_getD,List.getElem?_set_self h];rfl
theorem stepB_open {op:Int} {s:List (Int×Bool)} {d:Nat} (h:opensB op=true):stepB s d op=some ((op,false)::s,max d (s.length+1)):=by simp [stepB,h]
theorem stepB_plain {op:Int} {s:List (Int×Bool)} {d:Nat} (h1:opensB op=false) (h2:op≠34) (h3:op≠35):stepB s d op=some (s,d):=by simp [stepB,h1,h2,h3]
theorem stepB_else {o:Int} {e:Bool} {s:List (Int×Bool)} {d:Nat}:stepB ((o,e)::s) d 34=if e=false/\(o=29∨o=33) then some ((o,true)::s,d) else none:=by
 cases e
 ·by_cases h:o=29∨o=33 <;> simp [stepB,opensB,h]
 ·simp [stepB,opensB]
theorem stepB_end {o:Int} {e:Bool} {s:List (Int×Bool)} {d:Nat}:stepB ((o,e)::s) d 35=if o=33/\e=false then none else some (s,d):=by simp [stepB,opensB]
theorem stepB_top {op:Int} {d:Nat} (h:op=34∨op=35):stepB [] d op=none:=by rcases h with rfl | rfl <;> simp [stepB,opensB]
end Go.Proofs.YtdjkoljonlcemaaGreat
namespace Go.Proofs.YtdjkoljonlcemaaGreat
open Eng Go.RowKit
abbrev slv (b n:Nat):Value := .slice (some ⟨b,0,none⟩) n n
def shRows (b1 b3 b5 b7 b4 b2 n:Nat) (cO cN cD:List Value) (E:List Int) (D:Nat):List (Nat×TypeId×List Value) :=
 [(b1,3,cO),(b3,3,E.map I),(b5,3,cN),(b7,3,cD),(b4,200,[slv b1 n,slv b3 n,slv b5 n,slv b7 n,I D,.bool true]),(b2,200,[.slice none 0 0,.slice none 0 0,.slice none 0 0,.slice none 0 0,I 0,.bool false])]
structure ShI (c:List Int) (n b1 b3 b5 b7 b4 b2 B:Nat) (w0:World) (k:Nat) (a:Option Addr) (cap:Nat) (idx:List Nat) (cO cN cD:List Value) (E:List Int) (D:Nat) (w:World):Prop where
 own:OwP 1 encNat w B 3 a cap idx
 has:Has w (shRows b1 b3 b5 b7 b4 b2 n cO cN cD E D)
 lO:cO.length=n/\∀ v∈cO,∃ z:Int,v=I z
 lN:cN.length=n/\∀ v∈cN,∃ z:Int,v=I z
 lD:cD.length=n
 lE:E.length=n
 lt:∀ o∈idx,o<k
 nd:idx.Nodup
 len:idx.length<=k
 run:runB (c.take k) [] 0=some (stk c E idx,D)
 db:D<=k
 bl:Bl w0 w
 sz:B<=w.heap.size
theorem ints_set {cO:List Value} {k:Nat} {n:Int} (h:∀ v∈cO,∃ z:Int,v=I z):∀ v∈cO.set k (I n),∃ z:Int,v=I z:=fun v hv=>by
 rcases List.mem_or_eq_of_mem_set hv with q | q
 ·exact h v q
 ·exact ⟨n,q⟩
def ShpR (n b1 b3 b5:Nat) (w:World):Prop:=∃ (cO cN:List Value) (E:List Int),Box w b1 3 cO/\cO.length=n/\(∀ v∈cO,∃ z:Int,v=I z)/\Box w b3 3 (E.map I)/\E.length=n/\Box w b5 3 cN/\cN.length=n/\∀ v∈cN,∃ z:Int,v=I z
def ShpQ (l:List Ins) (v:Value) (w0 w:World):Prop:=∃ (b1 b3 b5 b7:Nat) (D:Int),v = .agg #[slv b1 l.length,slv b3 l.length,slv b5 l.length,slv b7 l.length,I D,.bool (okB (l.map (·.op)))]/\(okB (l.map (·.op))=true->ShpR l.length b1 b3 b5 w/\w0.heap.size<=b1/\w0.heap.size<=b3/\w0.heap.size<=b5)
theorem ShpQ.no {l:List Ins} {b1 b3 b5 b7:Nat} {D:Int} {w0 w:World} (h:okB (l.map (·.op))=false):ShpQ l (.agg [slv b1 l.length,slv b3 l.length,slv b5 l.length,slv b7 l.length,I D,.bool false].toArray) w0 w :=
 ⟨b1,b3,b5,b7,D,by rw [h],fun q=>by rw [h] at q;cases q⟩
theorem cut_addr {a:Option Addr} {n cap esz base:Nat} {xs:List Value} {w:World} {e:Nat} (h:(a=none/\n=0/\cap=0/\xs=[])∨∃ g cur,a=some ⟨g,0,none⟩/\base<=g/\w.heap[g]? = some (.cells cur e (0,0))/\n<=cap/\cur.size=cap*esz/\cur.toList.take (n*esz)=xs):a.map (·.add (0*1))=a:=by
 rcases h with ⟨rfl,_⟩ | ⟨g,_,rfl,_⟩ <;> rfl
theorem v_Opens (op:Int) (w:World):Ret Tryz.prog 53 #[I op] w fun v w'=>v = .bool (opensB op)/\w'=w:=by
 refine entr (vs:=[I op]) [0,2] tabok Tryz.func53 (by kernel_rfl) ?_
 refine rt1 ⟨vb ?_,rfl⟩
 unfold opensB
 rw [Bool.eq_iff_iff]
 simp only [Bool.or_eq_true,Bool.and_eq_true,decide_eq_true_eq]
 omega
set_option maxHeartbeats 1000000 in
theorem u_shapeR (l:List Ins) (a0:Option Addr) (cap0:Nat) (S:Nat->Prop) (w:World) (hS:Sl eIns S w a0 l):Ret Tryz.prog 133 #[.slice a0 l.length cap0] w fun v w'=>ShpQ l v w w'/\Bl w w':=by
 have hbig:=hS.big
 refine entr (vs:=[.slice a0 l.length cap0]) [0,2,3,4,5,6,7,8,9,21,22,23,24,48,59,73,84,115,125,146] tabok Tryz.func133 (by kernel_rfl) ?_
 refine al fun b2 w1 h1 => ?_
 refine dpar [Pr.cst 12 (I l.length),Pr.box 13 (fun b=>slv b l.length) 3 (rep l.length [I 0]),Pr.cst 14 (I l.length),Pr.box 15 (fun b=>slv b l.length) 3 (rep l.length [I 0]),Pr.cst 16 (I l.length),Pr.box 17 (fun b=>slv b l.length) 3 (rep l.length [I 0]),Pr.cst 18 (I l.length),Pr.box 19 (fun b=>slv b l.length) 3 (rep l.length [I 0]),
  Pr.fn 20 [13,15,17,19] (fun vs => .agg (vs++[I 0,.bool true]).toArray),Pr.box 4 (fun b => .pointer (some ⟨b,0,none⟩)) 200 [.slice none 0 0,.slice none 0 0,.slice none 0 0,.slice none 0 0,I 0,.bool false]] (fun _=>False) [10] rfl ?_ ?_ ?_
 ·refine ⟨?_,?_,?_,?_,?_,?_,?_,?_,?_,?_,trivial⟩ <;> intro d hd <;> cases hd <;> first | exact Pr.cst_ok _ _ | exact Pr.box_ok _ _ _ _ (fun _=>rfl) | exact Pr.fn_ok _ _ _
 ·intro hT w2 h2
  refine ⟨so_move rfl,so_mk hT (fun a w _ hD=>hD ⟨0,.data⟩ (by simp) rfl _ rfl) (fun a w _ hD=>hD ⟨0,.data⟩ (by simp) rfl _ rfl),so_move rfl,so_mk hT (fun a w _ hD=>hD ⟨2,.data⟩ (by simp) rfl _ rfl) (fun a w _ hD=>hD ⟨2,.data⟩ (by simp) rfl _ rfl),
   so_move rfl,so_mk hT (fun a w _ hD=>hD ⟨4,.data⟩ (by simp) rfl _ rfl) (fun a w _ hD=>hD ⟨4,.data⟩ (by simp) rfl _ rfl),so_move rfl,so_mk hT (fun a w _ hD=>hD ⟨6,.data⟩ (by simp) rfl _ rfl) (fun a w _ hD=>hD ⟨6,.data⟩ (by simp) rfl _ rfl),?_,so_al hT,trivial⟩
  intro a w' _ _ hD
  obtain ⟨c1,e1,_⟩:=hD ⟨1,.data⟩ (by simp) rfl _ rfl
  obtain ⟨c3,e3,_⟩:=hD ⟨3,.data⟩ (by simp) rfl _ rfl
  obtain ⟨c5,e5,_⟩:=hD ⟨5,.data⟩ (by simp) rfl _ rfl
  obtain ⟨c7,e7,_⟩:=hD ⟨7,.data⟩ (by simp) rfl _ rfl
  refine ⟨.agg #[slv c1 l.length,slv c3 l.length,slv c5 l.length,slv c7 l.length,I 0,.bool true],w',exec_build (pv:=[(0,slv c1 l.length),(1,slv c3 l.length),(2,slv c5 l.length),(3,slv c7 l.length),(4,I 0),(5,.bool true)]) rfl (tab_at hT rfl) ?_ rfl,fun d hd g hg hgd => ?_,Bl.refl _,fun h=>by cases h⟩
  ·show [(0,valsOf a 13),(1,valsOf a 15),(2,valsOf a 17),(3,valsOf a 19),(4,I 0),(5,.bool true)]=_
   rw [e1,e3,e5,e7]
  ·cases hd
   show g 20 = .agg ([g 13,g 15,g 17,g 19]++[I 0,.bool true]).toArray
   rw [hgd,hg 13 (by decide),hg 15 (by decide),hg 17 (by decide),hg 19 (by decide),e1,e3,e5,e7];rfl
 intro w2 w3 g h2 hB3 hsp hge hdist
 obtain ⟨b1,e13,x1⟩:=hsp 1 _ rfl
 obtain ⟨b3,e15,x3⟩:=hsp 3 _ rfl
 obtain ⟨b5,e17,x5⟩:=hsp 5 _ rfl
 obtain ⟨b7,e19,x7⟩:=hsp 7 _ rfl
 obtain ⟨b4,e4,x4⟩:=hsp 9 _ rfl
 have e20:g 20 = .agg #[slv b1 l.length,slv b3 l.length,slv b5 l.length,slv b7 l.length,I 0,.bool true]:=by
  have:g 20 = .agg ([g 13,g 15,g 17,g 19]++[I 0,.bool true]).toArray:=hsp 8 _ rfl
  rw [this,e13,e15,e17,e19];rfl
 have f1:fpV (g 13)=some b1:=by rw [e13];rfl
 have f3:fpV (g 15)=some b3:=by rw [e15];rfl
 have f5:fpV (g 17)=some b5:=by rw [e17];rfl
 have f7:fpV (g 19)=some b7:=by rw [e19];rfl
 have f4:fpV (g 4)=some b4:=by rw [e4];rfl
 have d13:=hdist 1 3 _ _ _ _ 13 15 b1 b3 (by decide) rfl rfl rfl rfl rfl rfl rfl rfl f1 f3
 have d15:=hdist 1 5 _ _ _ _ 13 17 b1 b5 (by decide) rfl rfl rfl rfl rfl rfl rfl rfl f1 f5
 have d17:=hdist 1 7 _ _ _ _ 13 19 b1 b7 (by decide) rfl rfl rfl rfl rfl rfl rfl rfl f1 f7
 have d14:=hdist 1 9 _ _ _ _ 13 4 b1 b4 (by decide) rfl rfl rfl rfl rfl rfl rfl rfl f1 f4
 have d35:=hdist 3 5 _ _ _ _ 15 17 b3 b5 (by decide) rfl rfl rfl rfl rfl rfl rfl rfl f3 f5
 have d37:=hdist 3 7 _ _ _ _ 15 19 b3 b7 (by decide) rfl rfl rfl rfl rfl rfl rfl rfl f3 f7
 have d34:=hdist 3 9 _ _ _ _ 15 4 b3 b4 (by decide) rfl rfl rfl rfl rfl rfl rfl rfl f3 f4
 have d57:=hdist 5 7 _ _ _ _ 17 19 b5 b7 (by decide) rfl rfl rfl rfl rfl rfl rfl rfl f5 f7
 have d54:=hdist 5 9 _ _ _ _ 17 4 b5 b4 (by decide) rfl rfl rfl rfl rfl rfl rfl rfl f5 f4
 have d74:=hdist 7 9 _ _ _ _ 19 4 b7 b4 (by decide) rfl rfl rfl rfl rfl rfl rfl rfl f7 f4
 have g1:=hge 1 _ _ 13 b1 rfl rfl rfl rfl f1
 have g3:=hge 3 _ _ 15 b3 rfl rfl rfl rfl f3
 have g5:=hge 5 _ _ 17 b5 rfl rfl rfl rfl f5
 have g7:=hge 7 _ _ 19 b7 rfl rfl rfl rfl f7
 have g4:=hge 9 _ _ 4 b4 rfl rfl rfl rfl f4
 have l2:b2<w2.heap.size:=(h2.box h1.box).lt
 refine ⟨[(4,.pointer (some ⟨b4,0,none⟩)),(20,.agg #[slv b1 l.length,slv b3 l.length,slv b5 l.length,slv b7 l.length,I 0,.bool true]),(0,.slice a0 l.length cap0),(2,.pointer (some ⟨b2,0,none⟩)),(3,I l.length)],⟨congrArg some e4,congrArg some e20,rfl,rfl,rfl,trivial⟩,?_⟩
 refine sta x4 (fun w4 h4 y4 => ?_) (hm:=wrS (fun h=>h))
 have hB2:Bl w w2:=h1.bl.trans h2.bl
 have hB4:Bl w w4:=Below.trans (hB2.trans hB3) (h4.below (Nat.le_trans hB2.size g4))
 rw [rep_ints] at x1 x3 x5 x7
 have m1:b1<w4.heap.size:=by rw [h4.size];exact x1.lt
 have m3:b3<w4.heap.size:=by rw [h4.size];exact x3.lt
 have m5:b5<w4.heap.size:=by rw [h4.size];exact x5.lt
 have m7:b7<w4.heap.size:=by rw [h4.size];exact x7.lt
 have m4:b4<w4.heap.size:=y4.lt
 have m2:b2<w4.heap.size:=by have:=hB3.size;rw [h4.size];omega
 have u1:=Nat.le_trans hB2.size g1
 have u3:=Nat.le_trans hB2.size g3
 have u5:=Nat.le_trans hB2.size g5
 have u7:=Nat.le_trans hB2.size g7
 have u4:=Nat.le_trans hB2.size g4
 have u2:w.heap.size<=b2:=by have:=h1.blk;omega
 have nd:[b1,b3,b5,b7,b4,b2].Nodup:=by simp only [List.nodup_cons,List.mem_cons,List.mem_nil_iff,or_false,not_or];refine ⟨⟨d13,d15,d17,d14,by omega⟩,⟨d35,d37,d34,by omega⟩,⟨d57,d54,by omega⟩,⟨d74,by omega⟩,by omega,by simp⟩
 refine lpk l.length 23 [5] [(0,.slice a0 l.length cap0),(2,.pointer (some ⟨b2,0,none⟩)),(3,I l.length),(4,.pointer (some ⟨b4,0,none⟩)),(21,.slice a0 l.length cap0),(22,I l.length)]
  (fun k vals w'=>∃ a cap idx cO cN cD E D,vals=[.slice a idx.length cap]/\ShI (l.map (·.op)) l.length b1 b3 b5 b7 b4 b2 w4.heap.size w k a cap idx cO cN cD E D w') ?_ ?_
 ·refine ⟨none,0,[],(List.replicate l.length (0:Int)).map I,(List.replicate l.length (0:Int)).map I,(List.replicate l.length (0:Int)).map I,List.replicate l.length 0,0,rfl,Ow.nil _ _ _ _,?_,?_,?_,?_,?_,by simp,by simp,Nat.le_refl _,rfl,Nat.le_refl _,hB4,Nat.le_refl _⟩
  rotate_left
  ·exact ⟨by simp,fun v hv=>by obtain ⟨z,_,rfl⟩:=List.mem_map.1 hv;exact ⟨z,rfl⟩⟩
  ·exact ⟨by simp,fun v hv=>by obtain ⟨z,_,rfl⟩:=List.mem_map.1 hv;exact ⟨z,rfl⟩⟩
  ·simp
  ·simp
  intro i b t cs hi
  rcases i with _ | _ | _ | _ | _ | _ | i
  ·cases hi;exact h4.box x1 d14
  ·cases hi;exact h4.box x3 d34
  ·cases hi;exact h4.box x5 d54
  ·cases hi;exact h4.box x7 d74
  ·cases hi;exact y4
  ·cases hi;exact h4.box (Bl.box hB3 (h2.box h1.box)) (by omega)
  ·simp [shRows] at hi
 rintro k vals w5 hk ⟨a,cap,idx,cO,cN,cD,E,D,rfl,hI⟩ ih
 have ilen:=hI.len
 by_cases hlt:k<l.length
 ·refine brT ?_
  obtain ⟨x,bx,ox,_,hx,rfl,hSb,hAt,rfl⟩:=at_some (hS.bl hI.bl) hlt
  refine ix ?_
  refine lda hAt ?_
  refine al fun b7' w6 h6 => ?_
  refine sta h6.box (fun w7 h7 y7 => ?_)
  have hB7:Bl w5 w7:=Eng.New.wr h6 h7
  refine dh (· = b4) [0,1,2,3,4,5,6,7,8,9,10,11,12,13,14,15,16,17,18,19,20,21] fun w8 h8 => ?_
  have H8:=(hI.has.bl hB7).bl h8.bl
  have O8:=(hI.own.bl hB7).bl h8.bl
  refine ld ((H8 4 _ _ _ rfl).cell rfl) ?_ (hm:=rfl)
  refine ld ((H8 4 _ _ _ rfl).cell rfl) ?_ (hm:=rfl)
  refine ld ((H8 4 _ _ _ rfl).cell rfl) ?_ (hm:=rfl)
  refine ld ((H8 4 _ _ _ rfl).cell rfl) ?_ (hm:=rfl)
  have lO:=hI.lO.1
  have iO:=hI.lO.2
  have lN:=hI.lN.1
  have iN:=hI.lN.2
  have lD:=hI.lD
  have lE:=hI.lE
  refine ix ?_
  refine stx (H8 0 _ _ _ rfl) (fun w9 h9 y9 => ?_) (hm:=wrS d14)
  have H9:=H8.wr nd 0 rfl h9 y9
  refine ix ?_
  refine stx (H9 1 _ _ _ rfl) (fun w10 h10 y10 => ?_) (ho:=by rw [List.length_map];omega) (hm:=wrS d34)
  have H10:=H9.wr nd 1 rfl h10 y10
  refine ix ?_
  refine stx (H10 2 _ _ _ rfl) (fun w11 h11 y11 => ?_) (hm:=wrS d54)
  have H11:=H10.wr nd 2 rfl h11 y11
  refine ix ?_
  refine stx (H11 3 _ _ _ rfl) (fun w12 h12 y12 => ?_) (hm:=wrS d74)
  have H12:=H11.wr nd 3 rfl h12 y12
  rw [Nat.zero_add,Nat.mul_one] at H12
  have eE:(E.map I).set k (I (-1))=(E.set k (-1)).map I:=by rw [List.map_set]
  rw [eE] at H12
  have O12:=((((O8.wr h9 (fun g hg=>by have:=(O8.lt hg).1;omega)).wr h10 (fun g hg=>by have:=(O8.lt hg).1;omega)).wr h11 (fun g hg=>by have:=(O8.lt hg).1;omega)).wr h12 (fun g hg=>by have:=(O8.lt hg).1;omega))
  have hB12:Bl w w12:=Below.trans (Below.trans (Below.trans (Below.trans ((hI.bl.trans hB7).trans h8.bl) (h9.below u1)) (h10.below u3)) (h11.below u5)) (h12.below u7)
  have s12:w4.heap.size<=w12.heap.size:=by have:=hI.sz;have:=hB7.size;have:=h8.bl.size;rw [h12.size,h11.size,h10.size,h9.size];omega
  have v7:w4.heap.size<=b7':=by have:=hI.sz;have:=h6.blk;omega
  have y12:Box w12 b7' _ _:=h12.box (h11.box (h10.box (h9.box (h8.box y7) (by omega)) (by omega)) (by omega)) (by omega)
  have kn:k ∉ idx:=fun h=>Nat.lt_irrefl _ (hI.lt k h)
  have hop:(l.map (·.op))[k]? = some x.op:=by rw [List.getElem?_map,hx];rfl
  have hopD:(l.map (·.op)).getD k 0=x.op:=by rw [List.getD_eq_getElem?_getD,hop];rfl
  have hrun:runB ((l.map (·.op)).take k) [] 0=some (stk (l.map (·.op)) (E.set k (-1)) idx,D):=by rw [stk_set kn];exact hI.run
  have hst:=runB_step hop hrun
  have lE1:(E.set k (-1)).length=l.length:=by rw [List.length_set];exact lE
  have gE1:(E.set k (-1)).getD k (-1) = -1:=set_getD (by omega)
  have hdb:=hI.db
  refine br (fun h0 => ?_) (fun h0 => ?_)
  ·have h0:=of_decide_eq_true h0
   obtain ⟨o,ho⟩:=some_of_lt (l:=idx) (k:=idx.length-1) (by omega)
   rcases O12.shape with ⟨_,h00,_⟩ | ⟨g,cur,rfl,hg,_⟩
   ·omega
   refine dh (fun i=>i=b4∨i=g) [0,1,2,3,4,5,6,7,8,9,10] fun w13 h13 => ?_
   have H13:=H12.bl h13.bl
   have O13:=O12.bl h13.bl
   have hw1:IntKind.i64.wrap ((idx.length:Int)-1)=((idx.length-1:Nat):Int):=by rw [wrap_fit (by omega) (by omega)];omega
   refine ld ((H13 4 _ _ _ rfl).cell rfl) ?_ (hm:=(Or.inl rfl:b4=b4∨b4=g))
   refine ix (hij:=hw1) ?_
   refine ld (b:=g) (o:=0+(idx.length-1)*1) (v:=I o) (by simpa using owp_cell O13 ho) ?_ (hm:=(Or.inr rfl:g=b4∨g=g))
   refine ix ?_
   refine stx (H13 0 _ _ _ rfl) (fun w14 h14 y14 => ?_) (ho:=by simp;omega) (hm:=wrS (by rintro (e | e) <;> omega))
   have H14:=H13.wr nd 0 rfl h14 y14
   rw [Nat.zero_add,Nat.mul_one] at H14
   have O14:=O13.wr h14 (fun g hg=>by have:=(O13.lt hg).1;omega)
   have B14:Bl w w14:=Below.trans (hB12.trans h13.bl) (h14.below u1)
   have s14:w4.heap.size<=w14.heap.size:=by have:=h13.bl.size;rw [h14.size];omega
   have Y14:=h14.box (h13.box y12) (by omega)
   have lO14:((cO.set k (I (-1))).set k (I o)).length=l.length/\∀ v∈(cO.set k (I (-1))).set k (I o),∃ z:Int,v=I z:=⟨by simp [lO],ints_set (ints_set iO)⟩
   have cO14:∀ o',idx[idx.length-1]? = some o'->((cO.set k (I (-1))).set k (I o))[k]? = some (I o'):=fun o' h'=>by rw [ho] at h';obtain rfl:=Option.some.inj h';rw [List.getElem?_set_self (by simp;omega)]
   refine ld (Y14.cell rfl) ?_
   refine cl (v_Opens x.op _) ?_
   rintro _ _ ⟨rfl,rfl⟩
   refine br (fun h1 => ?_) (fun h1 => ?_)
   ·
    refine bs fun b15 w15 h15 => ?_
    have H15:=H14.bl h15.bl
    have O15:=O14.bl h15.bl
    refine apl (l1:=[k]) O15 (.inr ⟨b15,0,rfl,h15.box.at⟩) (by have:=h15.bl.size;omega) (fun a' cap' w16 O16 hA _ => ?_)
    have H16:Has w16 _:=H15.ap hA (fun i b t cs hi e=>by
     have:=(O15.lt e).1
     have:b∈[b1,b3,b5,b7,b4,b2]:=(List.mem_map (f:=fun e:Nat×TypeId×List Value=>e.1)).2 ⟨(b,t,cs),List.mem_of_getElem? hi,rfl⟩
     simp only [List.mem_cons,List.mem_nil_iff,or_false] at this
     omega)
    have B16:Bl w w16:=Below.trans (B14.trans h15.bl) (hA.below (by have:=(B14.trans h15.bl).size;omega) (fun g hg=>by have:=(O15.lt hg).1;omega))
    refine ld ((H16 4 _ _ _ rfl).cell rfl) ?_
    refine mx ?_
    rw [max_nat]
    refine st (H16 4 _ _ _ rfl) (fun w17 h17 y17 => ?_)
    have H17:=H16.wr nd 4 rfl h17 y17
    have O17:=O16.wr h17 (fun g hg=>by have:=(O16.lt hg).1;omega)
    refine ih hlt ⟨a',cap',idx++[k],_,_,_,E.set k (-1),max D (idx++[k]).length,rfl,O17,H17,lO14,⟨by simp [lN],by first | exact ints_set (ints_set iN) | exact ints_set iN | exact iN⟩,by simp [lD],lE1,fun o ho => ?_,?_,by simp;omega,?_,?_,Below.trans B16 (h17.below u4),?_⟩
    ·rcases List.mem_append.1 ho with h | h
     ·have:=hI.lt o h;omega
     ·simp at h;omega
    ·rw [List.nodup_append]
     exact ⟨hI.nd,by simp,fun a ha b hb e=>by simp at hb;subst hb;subst e;exact kn ha⟩
    ·rw [hst,stepB_open h1,stk_push,hopD,gE1,stk_length,List.length_append];rfl
    ·simp;omega
    ·have:=hA.size;have:=h15.bl.size;rw [h17.size];omega
   refine ld (Y14.cell rfl) ?_
   refine ldg (fun _=>Y14.cell rfl) ?_
   refine br (t:=decide (x.op=34)||decide (x.op=35)) (fun h2 => ?_) (fun h2 => ?_)
   ·have h34:x.op=34∨x.op=35:=by simpa using h2
    refine br (fun h3 => ?_) (fun h3 => ?_)
    ·have h3:=of_decide_eq_true h3
     obtain rfl:idx=[]:=List.eq_nil_of_length_eq_zero (by omega)
     refine st (H14 4 _ _ _ rfl) (fun w15 h15 y15 => ?_)
     have H15:=H14.wr nd 4 rfl h15 y15
     refine lda (H15 4 _ _ _ rfl).at ?_
     refine sta (H15 5 _ _ _ rfl) (fun w16 h16 y16 => ?_)
     exact rtc y16.at ⟨.no (okB_fail (k:=k+1) (by rw [hst];exact stepB_top h34)),Below.trans (Below.trans B14 (h15.below u4)) (h16.below u2)⟩
    have h3:=of_decide_eq_false h3
    obtain ⟨idx0,o2,rfl⟩:∃ idx0 o2,idx=idx0++[o2]:=by
     rcases List.eq_nil_or_concat idx with h | ⟨i0,o2,h⟩
     ·rw [h] at h3;simp at h3
     ·exact ⟨i0,o2,by rw [h,List.concat_eq_append]⟩
    have e1:(idx0++[o2]).length=idx0.length+1:=by simp
    have hw2:IntKind.i64.wrap (((idx0++[o2]).length:Int)-1)=(idx0.length:Nat):=by rw [wrap_fit (by omega) (by omega)];omega
    have ok:o2<k:=hI.lt o2 (by simp)
    have on:o2<l.length:=by omega
    have ond:o2 ∉ idx0:=fun h=>by
     have:=(List.nodup_append.1 hI.nd).2.2 o2 h o2 (by simp)
     exact this rfl
    refine ld ((H14 4 _ _ _ rfl).cell rfl) ?_
    refine ix ?_
    refine stx (H14 3 _ _ _ rfl) (fun w15 h15 y15 => ?_) (ho:=by simp;omega)
    have H15:=H14.wr nd 3 rfl h15 y15
    have O15:=O14.wr h15 (fun g hg=>by have:=(O14.lt hg).1;omega)
    have B15:Bl w w15:=Below.trans B14 (h15.below u7)
    have Y15:=h15.box Y14 (by omega)
    refine ld ((H15 4 _ _ _ rfl).cell rfl) ?_
    refine ix ?_
    refine ld (b:=b1) (o:=0+k*1) (v:=I o2) ?_ ?_
    ·rw [Nat.zero_add,Nat.mul_one];exact (H15 0 _ _ _ rfl).cell (cO14 o2 (by simp))
    obtain ⟨y,b',o',_,hy,ey,_,hAty,rfl⟩:=at_some (hS.bl B15) (i:=o2) (by omega)
    simp only [Option.some.injEq,Addr.mk.injEq,and_true] at ey
    obtain ⟨rfl,rfl⟩:=ey
    have hyD:(l.map (·.op)).getD o2 0=y.op:=by rw [List.getD_eq_getElem?_getD,List.getElem?_map,hy];rfl
    obtain ⟨e,he⟩:=some_of_lt (l:=E.set k (-1)) (k:=o2) (by omega)
    have hEo:((E.set k (-1)).map I)[o2]? = some (I e):=by rw [List.getElem?_map,he];rfl
    have heD:(E.set k (-1)).getD o2 (-1)=e:=by rw [List.getD_eq_getElem?_getD,he];rfl
    have hst2:runB ((l.map (·.op)).take (k+1)) [] 0=stepB ((y.op,decide (0<=e))::stk (l.map (·.op)) (E.set k (-1)) idx0) D x.op:=by rw [hst,stk_push,hyD,heD]
    have fail:stepB ((y.op,decide (0<=e))::stk (l.map (·.op)) (E.set k (-1)) idx0) D x.op=none->okB (l.map (·.op))=false:=fun h=>okB_fail (k:=k+1) (by rw [hst2];exact h)
    refine ix ?_
    refine ld (hAty 0 _ rfl) ?_
    refine ixg (fun _=>on) ?_
    refine ldg (fun _=>hAty 0 _ rfl) ?_
    refine ld (Y15.cell rfl) ?_
    refine br (fun h4 => ?_) (fun h4 => ?_)
    ·have h4:=of_decide_eq_true h4
     refine ldg (fun _=>(H15 4 _ _ _ rfl).cell rfl) ?_
     refine ixg (fun _=>on) ?_
     refine ldg (b:=b3) (o:=0+o2*1) (v:=I e) (fun _ => ?_) ?_
     ·rw [Nat.zero_add,Nat.mul_one];exact (H15 1 _ _ _ rfl).cell hEo
     refine br (t:=(!(decide (y.op=29)||decide (y.op=33)))||decide (0<=e)) (fun h5 => ?_) (fun h5 => ?_)
     ·refine st (H15 4 _ _ _ rfl) (fun w16 h16 y16 => ?_)
      have H16:=H15.wr nd 4 rfl h16 y16
      refine lda (H16 4 _ _ _ rfl).at ?_
      refine sta (H16 5 _ _ _ rfl) (fun w17 h17 y17 => ?_)
      refine rtc y17.at ⟨.no (fail ?_),Below.trans (Below.trans B15 (h16.below u4)) (h17.below u2)⟩
      rw [h4,stepB_else,if_neg]
      rintro ⟨h6,h7⟩
      simp only [Bool.or_eq_true,Bool.not_eq_true',Bool.or_eq_false_iff,decide_eq_true_eq,decide_eq_false_iff_not] at h5 h6
      omega
     ·simp only [Bool.or_eq_false_iff,Bool.not_eq_false',Bool.or_eq_true,decide_eq_true_eq,decide_eq_false_iff_not] at h5
      refine ld ((H15 4 _ _ _ rfl).cell rfl) ?_
      refine ix ?_
      refine stx (H15 1 _ _ _ rfl) (fun w16 h16 y16 => ?_) (ho:=by simp;omega)
      have H16:=H15.wr nd 1 rfl h16 y16
      have O16:=O15.wr h16 (fun g hg=>by have:=(O15.lt hg).1;omega)
      have eE2:((E.set k (-1)).map I).set (0+o2*1) (I k)=((E.set k (-1)).set o2 k).map I:=by rw [Nat.zero_add,Nat.mul_one,List.map_set (l:=E.set k (-1))]
      rw [eE2] at H16
      refine ih hlt ⟨_,_,idx0++[o2],_,_,_,(E.set k (-1)).set o2 k,D,rfl,O16,H16,lO14,⟨by simp [lN],by first | exact ints_set (ints_set iN) | exact ints_set iN | exact iN⟩,by simp [lD],by simp [lE],fun o ho => ?_,hI.nd,by omega,?_,by omega,Below.trans B15 (h16.below u3),?_⟩
      ·have:=hI.lt o ho;omega
      ·rw [hst2,h4,stepB_else,if_pos ⟨decide_eq_false h5.2,h5.1⟩,stk_push,stk_set ond,hyD,set_getD (by rw [List.length_set];omega),decide_eq_true (by omega)]
      ·rw [h16.size,h15.size];exact s14
    ·have h4:=of_decide_eq_false h4
     have h35:x.op=35:=by omega
     refine ix ?_
     refine ld (hAty 0 _ rfl) ?_
     refine ldg (fun _=>(H15 4 _ _ _ rfl).cell rfl) ?_
     refine ixg (fun _=>on) ?_
     refine ldg (b:=b3) (o:=0+o2*1) (v:=I e) (fun _ => ?_) ?_
     ·rw [Nat.zero_add,Nat.mul_one];exact (H15 1 _ _ _ rfl).cell hEo
     refine br (t:=decide (y.op=33)&&decide (e<0)) (fun h5 => ?_) (fun h5 => ?_)
     ·simp only [Bool.and_eq_true,decide_eq_true_eq] at h5
      refine st (H15 4 _ _ _ rfl) (fun w16 h16 y16 => ?_)
      have H16:=H15.wr nd 4 rfl h16 y16
      refine lda (H16 4 _ _ _ rfl).at ?_
      refine sta (H16 5 _ _ _ rfl) (fun w17 h17 y17 => ?_)
      refine rtc y17.at ⟨.no (fail ?_),Below.trans (Below.trans B15 (h16.below u4)) (h17.below u2)⟩
      rw [h35,stepB_end,if_pos ⟨h5.1,decide_eq_false (by omega)⟩]
     ·simp only [Bool.and_eq_false_iff,decide_eq_false_iff_not] at h5
      refine ld ((H15 4 _ _ _ rfl).cell rfl) ?_
      refine ix ?_
      refine stx (H15 2 _ _ _ rfl) (fun w16 h16 y16 => ?_) (ho:=by simp;omega)
      have H16:=H15.wr nd 2 rfl h16 y16
      have O16:=O15.wr h16 (fun g hg=>by have:=(O15.lt hg).1;omega)
      have hcap:(idx0++[o2]).length<=cap:=by
       rcases O16.shape with ⟨_,h00,_⟩ | ⟨_,_,_,_,_,hc,_⟩
       ·omega
       ·exact hc
      refine sl 0 idx0.length ?_ (h2:=by exact ⟨.i64,vi hw2⟩)
      refine ih hlt ⟨_,cap,idx0,_,_,_,E.set k (-1),D,lst1 ?_,owp_pop O16,H16,lO14,⟨by simp [lN],by first | exact ints_set (ints_set iN) | exact ints_set iN | exact iN⟩,by simp [lD],lE1,fun o ho => ?_,(List.nodup_append.1 hI.nd).1,by omega,?_,by omega,Below.trans B15 (h16.below u5),?_⟩
      ·rw [if_neg (by omega),cut_addr O16.shape];rfl
      ·have:=hI.lt o (List.mem_append_left _ ho);omega
      ·rw [hst2,h35,stepB_end,if_neg (fun ⟨h6,h7⟩=>by have:=of_decide_eq_false h7;omega)]
      ·rw [h16.size,h15.size];exact s14
   ·simp only [Bool.or_eq_false_iff,decide_eq_false_iff_not] at h2
    refine ih hlt ⟨_,_,idx,_,_,_,E.set k (-1),D,rfl,O14,H14,lO14,⟨by simp [lN],by first | exact ints_set (ints_set iN) | exact ints_set iN | exact iN⟩,by simp [lD],lE1,fun o ho => ?_,hI.nd,by omega,?_,by omega,B14,s14⟩
    ·have:=hI.lt o ho;omega
    ·rw [hst,stepB_plain h1 h2.1 h2.2]
  ·have h0:=of_decide_eq_false h0
   have H14:=H12
   have O14:=O12
   have B14:=hB12
   have s14:=s12
   have Y14:=y12
   have lO14:(cO.set k (I (-1))).length=l.length/\∀ v∈cO.set k (I (-1)),∃ z:Int,v=I z:=⟨by simp [lO],ints_set iO⟩
   have cO14:∀ o,idx[idx.length-1]? = some o->(cO.set k (I (-1)))[k]? = some (I o):=fun o' ho'=>by have:=(List.getElem?_eq_some_iff.1 ho').1;omega
   refine ld (Y14.cell rfl) ?_
   refine cl (v_Opens x.op _) ?_
   rintro _ _ ⟨rfl,rfl⟩
   refine br (fun h1 => ?_) (fun h1 => ?_)
   ·
    refine bs fun b15 w15 h15 => ?_
    have H15:=H14.bl h15.bl
    have O15:=O14.bl h15.bl
    refine apl (l1:=[k]) O15 (.inr ⟨b15,0,rfl,h15.box.at⟩) (by have:=h15.bl.size;omega) (fun a' cap' w16 O16 hA _ => ?_)
    have H16:Has w16 _:=H15.ap hA (fun i b t cs hi e=>by
     have:=(O15.lt e).1
     have:b∈[b1,b3,b5,b7,b4,b2]:=(List.mem_map (f:=fun e:Nat×TypeId×List Value=>e.1)).2 ⟨(b,t,cs),List.mem_of_getElem? hi,rfl⟩
     simp only [List.mem_cons,List.mem_nil_iff,or_false] at this
     omega)
    have B16:Bl w w16:=Below.trans (B14.trans h15.bl) (hA.below (by have:=(B14.trans h15.bl).size;omega) (fun g hg=>by have:=(O15.lt hg).1;omega))
    refine ld ((H16 4 _ _ _ rfl).cell rfl) ?_
    refine mx ?_
    rw [max_nat]
    refine st (H16 4 _ _ _ rfl) (fun w17 h17 y17 => ?_)
    have H17:=H16.wr nd 4 rfl h17 y17
    have O17:=O16.wr h17 (fun g hg=>by have:=(O16.lt hg).1;omega)
    refine ih hlt ⟨a',cap',idx++[k],_,_,_,E.set k (-1),max D (idx++[k]).length,rfl,O17,H17,lO14,⟨by simp [lN],by first | exact ints_set (ints_set iN) | exact ints_set iN | exact iN⟩,by simp [lD],lE1,fun o ho => ?_,?_,by simp;omega,?_,?_,Below.trans B16 (h17.below u4),?_⟩
    ·rcases List.mem_append.1 ho with h | h
     ·have:=hI.lt o h;omega
     ·simp at h;omega
    ·rw [List.nodup_append]
     exact ⟨hI.nd,by simp,fun a ha b hb e=>by simp at hb;subst hb;subst e;exact kn ha⟩
    ·rw [hst,stepB_open h1,stk_push,hopD,gE1,stk_length,List.length_append];rfl
    ·simp;omega
    ·have:=hA.size;have:=h15.bl.size;rw [h17.size];omega
   refine ld (Y14.cell rfl) ?_
   refine ldg (fun _=>Y14.cell rfl) ?_
   refine br (t:=decide (x.op=34)||decide (x.op=35)) (fun h2 => ?_) (fun h2 => ?_)
   ·have h34:x.op=34∨x.op=35:=by simpa using h2
    refine br (fun h3 => ?_) (fun h3 => ?_)
    ·have h3:=of_decide_eq_true h3
     obtain rfl:idx=[]:=List.eq_nil_of_length_eq_zero (by omega)
     refine st (H14 4 _ _ _ rfl) (fun w15 h15 y15 => ?_)
     have H15:=H14.wr nd 4 rfl h15 y15
     refine lda (H15 4 _ _ _ rfl).at ?_
     refine sta (H15 5 _ _ _ rfl) (fun w16 h16 y16 => ?_)
     exact rtc y16.at ⟨.no (okB_fail (k:=k+1) (by rw [hst];exact stepB_top h34)),Below.trans (Below.trans B14 (h15.below u4)) (h16.below u2)⟩
    have h3:=of_decide_eq_false h3
    obtain ⟨idx0,o2,rfl⟩:∃ idx0 o2,idx=idx0++[o2]:=by
     rcases List.eq_nil_or_concat idx with h | ⟨i0,o2,h⟩
     ·rw [h] at h3;simp at h3
     ·exact ⟨i0,o2,by rw [h,List.concat_eq_append]⟩
    have e1:(idx0++[o2]).length=idx0.length+1:=by simp
    have hw2:IntKind.i64.wrap (((idx0++[o2]).length:Int)-1)=(idx0.length:Nat):=by rw [wrap_fit (by omega) (by omega)];omega
    have ok:o2<k:=hI.lt o2 (by simp)
    have on:o2<l.length:=by omega
    have ond:o2 ∉ idx0:=fun h=>by
     have:=(List.nodup_append.1 hI.nd).2.2 o2 h o2 (by simp)
     exact this rfl
    refine ld ((H14 4 _ _ _ rfl).cell rfl) ?_
    refine ix ?_
    refine stx (H14 3 _ _ _ rfl) (fun w15 h15 y15 => ?_) (ho:=by simp;omega)
    have H15:=H14.wr nd 3 rfl h15 y15
    have O15:=O14.wr h15 (fun g hg=>by have:=(O14.lt hg).1;omega)
    have B15:Bl w w15:=Below.trans B14 (h15.below u7)
    have Y15:=h15.box Y14 (by omega)
    refine ld ((H15 4 _ _ _ rfl).cell rfl) ?_
    refine ix ?_
    refine ld (b:=b1) (o:=0+k*1) (v:=I o2) ?_ ?_
    ·rw [Nat.zero_add,Nat.mul_one];exact (H15 0 _ _ _ rfl).cell (cO14 o2 (by simp))
    obtain ⟨y,b',o',_,hy,ey,_,hAty,rfl⟩:=at_some (hS.bl B15) (i:=o2) (by omega)
    simp only [Option.some.injEq,Addr.mk.injEq,and_true] at ey
    obtain ⟨rfl,rfl⟩:=ey
    have hyD:(l.map (·.op)).getD o2 0=y.op:=by rw [List.getD_eq_getElem?_getD,List.getElem?_map,hy];rfl
    obtain ⟨e,he⟩:=some_of_lt (l:=E.set k (-1)) (k:=o2) (by omega)
    have hEo:((E.set k (-1)).map I)[o2]? = some (I e):=by rw [List.getElem?_map,he];rfl
    have heD:(E.set k (-1)).getD o2 (-1)=e:=by rw [List.getD_eq_getElem?_getD,he];rfl
    have hst2:runB ((l.map (·.op)).take (k+1)) [] 0=stepB ((y.op,decide (0<=e))::stk (l.map (·.op)) (E.set k (-1)) idx0) D x.op:=by rw [hst,stk_push,hyD,heD]
    have fail:stepB ((y.op,decide (0<=e))::stk (l.map (·.op)) (E.set k (-1)) idx0) D x.op=none->okB (l.map (·.op))=false:=fun h=>okB_fail (k:=k+1) (by rw [hst2];exact h)
    refine ix ?_
    refine ld (hAty 0 _ rfl) ?_
    refine ixg (fun _=>on) ?_
    refine ldg (fun _=>hAty 0 _ rfl) ?_
    refine ld (Y15.cell rfl) ?_
    refine br (fun h4 => ?_) (fun h4 => ?_)
    ·have h4:=of_decide_eq_true h4
     refine ldg (fun _=>(H15 4 _ _ _ rfl).cell rfl) ?_
     refine ixg (fun _=>on) ?_
     refine ldg (b:=b3) (o:=0+o2*1) (v:=I e) (fun _ => ?_) ?_
     ·rw [Nat.zero_add,Nat.mul_one];exact (H15 1 _ _ _ rfl).cell hEo
     refine br (t:=(!(decide (y.op=29)||decide (y.op=33)))||decide (0<=e)) (fun h5 => ?_) (fun h5 => ?_)
     ·refine st (H15 4 _ _ _ rfl) (fun w16 h16 y16 => ?_)
      have H16:=H15.wr nd 4 rfl h16 y16
      refine lda (H16 4 _ _ _ rfl).at ?_
      refine sta (H16 5 _ _ _ rfl) (fun w17 h17 y17 => ?_)
      refine rtc y17.at ⟨.no (fail ?_),Below.trans (Below.trans B15 (h16.below u4)) (h17.below u2)⟩
      rw [h4,stepB_else,if_neg]
      rintro ⟨h6,h7⟩
      simp only [Bool.or_eq_true,Bool.not_eq_true',Bool.or_eq_false_iff,decide_eq_true_eq,decide_eq_false_iff_not] at h5 h6
      omega
     ·simp only [Bool.or_eq_false_iff,Bool.not_eq_false',Bool.or_eq_true,decide_eq_true_eq,decide_eq_false_iff_not] at h5
      refine ld ((H15 4 _ _ _ rfl).cell rfl) ?_
      refine ix ?_
      refine stx (H15 1 _ _ _ rfl) (fun w16 h16 y16 => ?_) (ho:=by simp;omega)
      have H16:=H15.wr nd 1 rfl h16 y16
      have O16:=O15.wr h16 (fun g hg=>by have:=(O15.lt hg).1;omega)
      have eE2:((E.set k (-1)).map I).set (0+o2*1) (I k)=((E.set k (-1)).set o2 k).map I:=by rw [Nat.zero_add,Nat.mul_one,List.map_set (l:=E.set k (-1))]
      rw [eE2] at H16
      refine ih hlt ⟨_,_,idx0++[o2],_,_,_,(E.set k (-1)).set o2 k,D,rfl,O16,H16,lO14,⟨by simp [lN],by first | exact ints_set (ints_set iN) | exact ints_set iN | exact iN⟩,by simp [lD],by simp [lE],fun o ho => ?_,hI.nd,by omega,?_,by omega,Below.trans B15 (h16.below u3),?_⟩
      ·have:=hI.lt o ho;omega
      ·rw [hst2,h4,stepB_else,if_pos ⟨decide_eq_false h5.2,h5.1⟩,stk_push,stk_set ond,hyD,set_getD (by rw [List.length_set];omega),decide_eq_true (by omega)]
      ·rw [h16.size,h15.size];exact s14
    ·have h4:=of_decide_eq_false h4
     have h35:x.op=35:=by omega
     refine ix ?_
     refine ld (hAty 0 _ rfl) ?_
     refine ldg (fun _=>(H15 4 _ _ _ rfl).cell rfl) ?_
     refine ixg (fun _=>on) ?_
     refine ldg (b:=b3) (o:=0+o2*1) (v:=I e) (fun _ => ?_) ?_
     ·rw [Nat.zero_add,Nat.mul_one];exact (H15 1 _ _ _ rfl).cell hEo
     refine br (t:=decide (y.op=33)&&decide (e<0)) (fun h5 => ?_) (fun h5 => ?_)
     ·simp only [Bool.and_eq_true,decide_eq_true_eq] at h5
      refine st (H15 4 _ _ _ rfl) (fun w16 h16 y16 => ?_)
      have H16:=H15.wr nd 4 rfl h16 y16
      refine lda (H16 4 _ _ _ rfl).at ?_
      refine sta (H16 5 _ _ _ rfl) (fun w17 h17 y17 => ?_)
      refine rtc y17.at ⟨.no (fail ?_),Below.trans (Below.trans B15 (h16.below u4)) (h17.below u2)⟩
      rw [h35,stepB_end,if_pos ⟨h5.1,decide_eq_false (by omega)⟩]
     ·simp only [Bool.and_eq_false_iff,decide_eq_false_iff_not] at h5
      refine ld ((H15 4 _ _ _ rfl).cell rfl) ?_
      refine ix ?_
      refine stx (H15 2 _ _ _ rfl) (fun w16 h16 y16 => ?_) (ho:=by simp;omega)
      have H16:=H15.wr nd 2 rfl h16 y16
      have O16:=O15.wr h16 (fun g hg=>by have:=(O15.lt hg).1;omega)
      have hcap:(idx0++[o2]).length<=cap:=by
       rcases O16.shape with ⟨_,h00,_⟩ | ⟨_,_,_,_,_,hc,_⟩
       ·omega
       ·exact hc
      refine sl 0 idx0.length ?_ (h2:=by exact ⟨.i64,vi hw2⟩)
      refine ih hlt ⟨_,cap,idx0,_,_,_,E.set k (-1),D,lst1 ?_,owp_pop O16,H16,lO14,⟨by simp [lN],by first | exact ints_set (ints_set iN) | exact ints_set iN | exact iN⟩,by simp [lD],lE1,fun o ho => ?_,(List.nodup_append.1 hI.nd).1,by omega,?_,by omega,Below.trans B15 (h16.below u5),?_⟩
      ·rw [if_neg (by omega),cut_addr O16.shape];rfl
      ·have:=hI.lt o (List.mem_append_left _ ho);omega
      ·rw [hst2,h35,stepB_end,if_neg (fun ⟨h6,h7⟩=>by have:=of_decide_eq_false h7;omega)]
      ·rw [h16.size,h15.size];exact s14
   ·simp only [Bool.or_eq_false_iff,decide_eq_false_iff_not] at h2
    refine ih hlt ⟨_,_,idx,_,_,_,E.set k (-1),D,rfl,O14,H14,lO14,⟨by simp [lN],by first | exact ints_set (ints_set iN) | exact ints_set iN | exact iN⟩,by simp [lD],lE1,fun o ho => ?_,hI.nd,by omega,?_,by omega,B14,s14⟩
    ·have:=hI.lt o ho;omega
    ·rw [hst,stepB_plain h1 h2.1 h2.2]
 refine brF ?_
 obtain rfl:k=l.length:=by omega
 have H:=hI.has
 have hrun:=hI.run
 rw [List.take_of_length_le (by simp)] at hrun
 refine ldg (fun _=>(H 4 _ _ _ rfl).cell rfl) ?_
 refine st (H 4 _ _ _ rfl) (fun w6 h6 y6 => ?_)
 have H6:=H.wr nd 4 rfl h6 y6
 refine lda (H6 4 _ _ _ rfl).at ?_
 refine sta (H6 5 _ _ _ rfl) (fun w7 h7 y7 => ?_)
 have H7:=H6.wr nd 5 rfl h7 y7
 refine rtc y7.at ⟨⟨b1,b3,b5,b7,D,?_,fun _=>⟨⟨cO,cN,E,H7 0 _ _ _ rfl,hI.lO.1,hI.lO.2,H7 1 _ _ _ rfl,hI.lE,H7 2 _ _ _ rfl,hI.lN.1,hI.lN.2⟩,u1,u3,u5⟩⟩,Below.trans (Below.trans hI.bl (h6.below u4)) (h7.below u2)⟩
 have:okB (l.map (·.op))=(decide ((idx.length:Int)=0)&&decide ((D:Int)<=6)):=by
  unfold okB
  rw [hrun]
  cases idx with
  | nil =>
   show decide (D<=6)=(true&&decide ((D:Int)<=6))
   rw [Bool.true_and]
   by_cases h:D<=6
   ·rw [decide_eq_true h,decide_eq_true (by omega)]
   ·rw [decide_eq_false h,decide_eq_false (by omega)]
  | cons i0 idx =>
   have:((i0::idx).length:Int)≠0:=by simp;omega
   rw [decide_eq_false this]
   have h2:stk (l.map (·.op)) E (i0::idx)≠[]:=by simp [stk]
   cases hs:stk (l.map (·.op)) E (i0::idx) with
   | nil=>exact absurd hs h2
   | cons=>rfl
 rw [this]
theorem u_shapeOf (l:List Ins) (a0:Option Addr) (cap0:Nat) (S:Nat->Prop) (w:World) (hS:Sl eIns S w a0 l):Ret Tryz.prog 133 #[.slice a0 l.length cap0] w fun v w'=>(∃ c0 c1 c2 c3 c4,v = .agg #[c0,c1,c2,c3,c4,.bool (okB (l.map (·.op)))])/\Bl w w' :=
 (u_shapeR l a0 cap0 S w hS).mono fun v w' ⟨⟨b1,b3,b5,b7,D,e,_⟩,hB⟩=>⟨⟨_,_,_,_,_,e⟩,hB⟩
theorem u_codeCheck (l:List Ins) (a:Option Addr) (cap:Nat) (p:Bool) (S:Nat->Prop) (w:World) (hS:Sl eIns S w a l):Ret Tryz.prog 132 #[.slice a l.length cap,.bool p] w fun v w'=>v=I (codeE l p)/\Bl w w':=by
 have hbig:=hS.big
 refine entr (vs:=[.slice a l.length cap,.bool p]) [0,1,3,4,5,9,13] tabok Tryz.func132 (by kernel_rfl) ?_
 refine bx (cs:=[.bool p]) fun b w1 h1 => ?_
 refine br (fun h => ?_) (fun h => ?_)
 ·have h:=of_decide_eq_true h
  exact rt1 ⟨vi (by unfold codeE;rw [if_pos (by omega)]),h1.bl⟩
 have h120:=of_decide_eq_false h
 have hS1:=hS.bl h1.bl
 refine cl (ContainsFunc_ins l _ cap 195 [.pointer (some ⟨b,0,none⟩)] (fun i => !validI i p) S w1 hS1 (fun x cs hx w2 hB2 hr => ?_)) ?_
 ·obtain rfl:cs=[I x.op,I x.a,I x.b]:=hr
  refine entr (vs:=[.agg #[I x.op,I x.a,I x.b],.pointer (some ⟨b,0,none⟩)]) [0,1,2,3] tabok Tryz.func195 (by kernel_rfl) ?_
  refine bx (cs:=[I x.op,I x.a,I x.b]) fun b3 w3 h3 => ?_
  refine lda h3.box.at ?_
  refine ld ((Bl.box h3.bl (Bl.box hB2 h1.box)).cell rfl) ?_
  refine cl (w_Valid x p _) ?_
  rintro _ w4 ⟨rfl,hB4⟩
  exact rt1 ⟨rfl,h3.bl.trans hB4⟩
 rintro _ w2 ⟨rfl,hB2⟩
 refine br (t:=l.any fun i => !validI i p) (fun h => ?_) (fun h => ?_)
 ·refine rt1 ⟨vi ?_,h1.bl.trans hB2⟩
  unfold codeE
  obtain ⟨x,hx,hv⟩:=List.any_eq_true.1 h
  rw [if_neg (by omega),if_neg (fun ha=>by have:=List.all_eq_true.1 ha x hx;rw [this] at hv;cases hv)]
 have hall:(l.all fun i=>validI i p)=true:=List.all_eq_true.2 fun x hx=>by have:=List.any_eq_false.1 h x hx;simpa using this
 have hc:codeE l p=if okB (l.map (·.op))=true then 0 else 7:=by unfold codeE;rw [if_neg (by omega),if_pos hall]
 refine cl (u_shapeOf l _ cap S _ (hS1.bl hB2)) ?_
 rintro _ w3 ⟨⟨c0,c1,c2,c3,c4,rfl⟩,hB3⟩
 refine fd 5 ?_
 refine br (t := !okB (l.map (·.op))) (fun h => ?_) (fun h => ?_)
 ·refine rt1 ⟨vi ?_,(h1.bl.trans hB2).trans hB3⟩
  rw [hc,if_neg (by simpa using h)]
 ·refine rt1 ⟨vi ?_,(h1.bl.trans hB2).trans hB3⟩
  rw [hc,if_pos (by simpa using h)]
end Go.Proofs.YtdjkoljonlcemaaGreat

/- Walks: a list of texts that has one twice, by sorting. -/
namespace Go.Proofs.YtdjkoljonlcemaaGreat
open Eng Go.RowKit Go.Sort
abbrev toL (s:ByteArray):List UInt8:=s.data.toList
end Go.Proofs.YtdjkoljonlcemaaGreat

/- Walks: the linker's readers: supers, layouts, what a method calls. -/
namespace Go.Proofs.YtdjkoljonlcemaaGreat
open Eng Go.RowKit
structure ClsI (us:List Unt) (D:Dcl) (p:ByteArray) (n k:Nat) (u:Unt) (c:Cls):Prop where
 g:getM D.classes p=some (n,k)
 hu:us[n]? = some u
 hc:u.classes[k]? = some c
theorem ClsI.of {us:List Unt} {D:Dcl} {p:ByteArray} {n k:Nat} {u:Unt} {c:Cls} (h:ClsI us D p n k u c):clsOf us D p=some (u,c):=by
 unfold clsOf clsAt
 rw [h.g]
 simp [h.hu,h.hc]
theorem ClsI.own {us:List Unt} {D:Dcl} {p:ByteArray} {n k:Nat} {u:Unt} {c:Cls} (h:ClsI us D p n k u c):ownL us D p=c.fields.map fun f=>nm u f.name:=by
 unfold ownL;rw [h.of]
def Deep (us:List Unt) (D:Dcl):Nat->ByteArray->Prop
 | 0,_=>False
 | m+1,p=>(∃ n k u c,ClsI us D p n k u c)/\(supL us D p=nost∨Deep us D m (supL us D p))
variable {w:World} {b:Nat} {us:List Unt} {D:Dcl}
end Go.Proofs.YtdjkoljonlcemaaGreat

/- Walks: the linker's readers: what a method calls; signatures. -/
namespace Go.Proofs.YtdjkoljonlcemaaGreat
open Eng Go.RowKit
structure MthI (us:List Unt) (d:Option (Nat×Nat)) (n k:Nat) (u:Unt) (m:Mth):Prop where
 g:d=some (n,k)
 hu:us[n]? = some u
 hm:u.methods[k]? = some m
theorem MthI.of {us:List Unt} {d:Option (Nat×Nat)} {n k:Nat} {u:Unt} {m:Mth} (h:MthI us d n k u m):d.bind (mthAt us)=some (u,m):=by
 unfold mthAt
 rw [h.g]
 simp [h.hu,h.hm]
variable {w:World} {b:Nat} {us:List Unt} {D:Dcl}
end Go.Proofs.YtdjkoljonlcemaaGreat

/- Walks: all types of a method; a type as a text; signatures. -/
namespace Go.Proofs.YtdjkoljonlcemaaGreat
open Eng Go.RowKit
end Go.Proofs.YtdjkoljonlcemaaGreat

/- Walks: a type as a text; signatures; methods of one name that differ. -/
namespace Go.Proofs.YtdjkoljonlcemaaGreat
open Eng Go.RowKit
variable {w:World} {b:Nat} {us:List Unt} {D:Dcl}
theorem nm_mem {u:Unt} {i:Int} (h:inP u i):nm u i∈u.pool:=by
 obtain ⟨k,rfl,hk⟩:=inP_at h
 exact List.mem_of_getElem? hk
theorem Lnk.sz (hL:Lnk w b us D) {n:Nat} {u:Unt} (hu:us[n]? = some u):u.name.size<=1048576/\∀ i,inP u i->(nm u i).size<=1048576:=by
 obtain ⟨a,c,_,hS⟩:=hL.us
 obtain ⟨b1,o1,cs1,_,_,_,ua,rfl,hU⟩:=hS.el n u hu
 exact ⟨hU.nm,fun i hi=>hU.ps _ (nm_mem hi)⟩
end Go.Proofs.YtdjkoljonlcemaaGreat

/- Walks: methods of one name that differ. -/
namespace Go.Proofs.YtdjkoljonlcemaaGreat
open Eng Go.RowKit
variable {w:World} {b:Nat} {us:List Unt} {D:Dcl}
end Go.Proofs.YtdjkoljonlcemaaGreat

/- Walks: texts in order; a list without one of its texts; the first text of a kind. -/
namespace Go.Proofs.YtdjkoljonlcemaaGreat
open Eng Go.RowKit Go.Sort
end Go.Proofs.YtdjkoljonlcemaaGreat

/- Walks: names put in an order in which what each needs stands ahead of it. -/
namespace Go.Proofs.YtdjkoljonlcemaaGreat
open Eng Go.RowKit
end Go.Proofs.YtdjkoljonlcemaaGreat

/- Walks: the keys of a map, in some order and in order. -/
namespace Go.Proofs.YtdjkoljonlcemaaGreat
open Eng Go.RowKit Go.Sort Go.Maps
open Go.WideShapes (sorted_perm)
end Go.Proofs.YtdjkoljonlcemaaGreat

/- What placing gives: each name once, behind what it needs. -/
namespace Go.Proofs.YtdjkoljonlcemaaGreat
open Go.RowKit
variable {us:List Unt}
end Go.Proofs.YtdjkoljonlcemaaGreat

/- Rows of the call's own whose elements point to rows. No program stands here. -/
namespace Go.Proofs.YtdjkoljonlcemaaGreat
open Eng Go.RowKit
theorem flatten_get {sz:Nat}:∀ {xs:List (List Value)} (_:∀ c∈xs,c.length=sz) {i:Nat} {c:List Value},xs[i]? = some c->∀ j,j<sz->xs.flatten[i*sz+j]? = c[j]?
 | [],_,i,c,hx,_,_=>by simp at hx
 | y::l,h,0,c,hx,j,hj=>by
  simp at hx;subst hx
  rw [List.flatten_cons,Nat.zero_mul,Nat.zero_add,List.getElem?_append_left (by rw [h _ (List.mem_cons_self ..)];exact hj)]
 | y::l,h,i+1,c,hx,j,hj=>by
  have hy:=h y (List.mem_cons_self ..)
  have:=flatten_get (xs:=l) (fun c hc=>h c (List.mem_cons_of_mem _ hc)) (i:=i) (by simpa using hx) j hj
  rw [List.flatten_cons,List.getElem?_append_right (by rw [hy,Nat.succ_mul];omega),hy,<-this]
  congr 1;rw [Nat.succ_mul];omega
theorem flatten_len {sz:Nat}:∀ {xs:List (List Value)} (_:∀ c∈xs,c.length=sz),xs.flatten.length=xs.length*sz
 | [],_=>by simp
 | y::l,h=>by
  have hy:=h y (List.mem_cons_self ..)
  have:=flatten_len (xs:=l) fun c hc=>h c (List.mem_cons_of_mem _ hc)
  simp only [List.flatten_cons,List.length_append,List.length_cons,hy,this,Nat.succ_mul];omega
structure OwC {α:Type} (E:El α) (R:Nat->Prop) (w:World) (base e:Nat) (a:Option Addr) (cap:Nat) (l:List α):Prop where
 row:∃ xs:List (List Value),xs.length=l.length/\(∀ c∈xs,c.length=E.sz)/\Ow w base e E.sz a l.length cap xs.flatten /\
  ∀ (i:Nat) (cs:List Value) (x:α),xs[i]? = some cs->l[i]? = some x->E.rel (fun b=>R b/\a≠some ⟨b,0,none⟩/\b<w.heap.size) w cs x
theorem OwC.nil {α:Type} (E:El α) (R:Nat->Prop) (w:World) (base e:Nat):OwC E R w base e none 0 ([]:List α) :=
 ⟨[],rfl,(fun _ h=>by simp at h),Ow.nil ..,(fun i cs x h=>by simp at h)⟩
theorem OwC.bl {α:Type} {E:El α} {R:Nat->Prop} {w w':World} {base e cap:Nat} {a:Option Addr} {l:List α} (h:OwC E R w base e a cap l) (k:Bl w w'):OwC E R w' base e a cap l:=by
 obtain ⟨xs,h1,h2,h3,h4⟩:=h.row
 exact ⟨xs,h1,h2,h3.bl k,fun i cs x hi hl=>E.sub (fun b hb=>⟨hb.1,hb.2.1,Nat.lt_of_lt_of_le hb.2.2 k.size⟩) (E.kp (k.kp _) (h4 i cs x hi hl))⟩
theorem OwC.wr {α:Type} {E:El α} {R:Nat->Prop} {w w':World} {base e cap:Nat} {a:Option Addr} {l:List α} (h:OwC E R w base e a cap l) {b:Nat} (k:Wr w b w') (hb:b<base) (hR:∀ i,R i->i≠b):OwC E R w' base e a cap l:=by
 obtain ⟨xs,h1,h2,h3,h4⟩:=h.row
 exact ⟨xs,h1,h2,h3.wr k fun g hg=>by have:=(h3.lt hg).1;omega,fun i cs x hi hl=>E.sub (fun b hb=>⟨hb.1,hb.2.1,by rw [k.size];exact hb.2.2⟩) (E.kp (k.kp fun i hi=>hR i hi.1) (h4 i cs x hi hl))⟩
theorem OwC.ow {α:Type} {E:El α} {R:Nat->Prop} {w:World} {base e cap:Nat} {a:Option Addr} {l:List α} (h:OwC E R w base e a cap l):∃ xs,Ow w base e E.sz a l.length cap xs:=by
 obtain ⟨xs,h1,h2,h3,h4⟩:=h.row
 exact ⟨_,h3⟩
theorem OwC.lt {α:Type} {E:El α} {R:Nat->Prop} {w:World} {base e cap:Nat} {a:Option Addr} {l:List α} (h:OwC E R w base e a cap l) {g:Nat} (hg:a=some ⟨g,0,none⟩):base<=g/\g<w.heap.size:=by
 obtain ⟨xs,h3⟩:=h.ow
 exact h3.lt hg
theorem OwC.push {α:Type} {E:El α} {R:Nat->Prop} {w w':World} {base e cap':Nat} {a a':Option Addr} {l:List α} {x:α} {cs:List Value} {xs:List (List Value)} (h1:xs.length=l.length) (h2:∀ c∈xs,c.length=E.sz)
  (h4:∀ (i:Nat) (cs:List Value) (x:α),xs[i]? = some cs->l[i]? = some x->E.rel (fun b=>R b/\a≠some ⟨b,0,none⟩/\b<w.heap.size) w cs x)
  (hO:Ow w' base e E.sz a' (l.length+1) cap' (xs.flatten++cs)) (hA:Ap w a w') (hf:∀ g,a'=some ⟨g,0,none⟩->a=some ⟨g,0,none⟩∨w.heap.size<=g)
  (hr:E.rel (fun b=>R b/\a≠some ⟨b,0,none⟩/\b<w.heap.size) w cs x):OwC E R w' base e a' cap' (l++[x]):=by
 have hsub:∀ b,(R b/\a≠some ⟨b,0,none⟩/\b<w.heap.size)->(R b/\a'≠some ⟨b,0,none⟩/\b<w'.heap.size):=fun b ⟨q1,q2,q3⟩=>by
  refine ⟨q1,fun e => ?_,Nat.lt_of_lt_of_le q3 hA.size⟩
  rcases hf b e with h | h
  ·exact q2 h
  ·omega
 have hkp:Kp (fun b=>R b/\a≠some ⟨b,0,none⟩/\b<w.heap.size) w w':=hA.kp.sub fun i hi=>hi.2.1
 refine ⟨xs++[cs],by simp [h1],fun c hc => ?_,by rw [List.length_append,List.flatten_append];simpa using hO,fun i c y hi hl => ?_⟩
 ·rcases List.mem_append.1 hc with hc | hc
  ·exact h2 c hc
  ·rw [List.mem_singleton.1 hc];exact E.len hr
 ·rcases Nat.lt_or_ge i l.length with hlt | hge
  ·rw [List.getElem?_append_left (by omega)] at hi
   rw [List.getElem?_append_left hlt] at hl
   exact E.sub hsub (E.kp hkp (h4 i c y hi hl))
  ·rw [List.getElem?_append_right (by omega),h1] at hi
   rw [List.getElem?_append_right hge] at hl
   rcases Nat.eq_zero_or_pos (i-l.length) with h0 | h0
   ·rw [h0] at hi hl
    simp at hi hl
    subst hi hl
    exact E.sub hsub (E.kp hkp hr)
   ·rw [List.getElem?_eq_none (by simp;omega)] at hi
    cases hi
end Go.Proofs.YtdjkoljonlcemaaGreat

/- Modules, and the module that link makes, as functions. No program stands here. -/
namespace Go.Proofs.YtdjkoljonlcemaaGreat
open Go.RowKit Eng
theorem Eng.Ow.capn {w:World} {base e esz n cap:Nat} {a:Option Addr} {xs:List Value} (h:Ow w base e esz a n cap xs):n<=cap/\(a=none->cap=0):=by
 rcases h.shape with ⟨rfl,rfl,rfl,_⟩ | ⟨g,cur,rfl,_,_,h,_⟩
 ·exact ⟨Nat.le_refl _,fun _=>rfl⟩
 ·exact ⟨h,fun e=>by cases e⟩
structure MC where
 name:ByteArray
 super:Int
 fields:List Ty
 table:List Int
deriving DecidableEq
structure MM where
 name:ByteArray
 cls:Int
 params:List Ty
 locals:List Ty
 result:Ty
 code:List Ins
deriving DecidableEq
structure Mod where
 classes:List MC
 statics:List Ty
 methods:List MM
 sels:Int
abbrev mccells (c:MC) (a1:Option Addr) (c1:Nat) (a2:Option Addr) (c2:Nat):List Value:=[.string c.name,I c.super,.slice a1 c.fields.length c1,.slice a2 c.table.length c2]
abbrev mmcells (m:MM) (a1:Option Addr) (c1:Nat) (a2:Option Addr) (c2:Nat) (a3:Option Addr) (c3:Nat):List Value :=
 [.string m.name,I m.cls,.slice a1 m.params.length c1,.slice a2 m.locals.length c2,I m.result.kind,I m.result.cls,.slice a3 m.code.length c3]
def eMC:El MC :=
 {sz:=4,rel:=fun S w cs c=>∃ a1 c1 a2 c2,cs=mccells c a1 c1 a2 c2/\Sl eTy S w a1 c.fields/\Sl eInt S w a2 c.table/\c.name.size<=1048576/\c.fields.length<=c1
  len:=fun ⟨_,_,_,_,e,_⟩=>by rw [e];rfl
  kp:=fun k ⟨a1,c1,a2,c2,e,h1,h2,h3⟩=>⟨a1,c1,a2,c2,e,h1.kp k,h2.kp k,h3⟩
  sub:=fun k ⟨a1,c1,a2,c2,e,h1,h2,h3⟩=>⟨a1,c1,a2,c2,e,h1.sub k,h2.sub k,h3⟩ }
def eMM:El MM :=
 {sz:=7
  rel:=fun S w cs m=>∃ a1 c1 a2 c2 a3 c3,cs=mmcells m a1 c1 a2 c2 a3 c3/\Sl eTy S w a1 m.params/\Sl eTy S w a2 m.locals/\Sl eIns S w a3 m.code/\m.name.size<=1048576
  len:=fun ⟨_,_,_,_,_,_,e,_⟩=>by rw [e];rfl
  kp:=fun k ⟨a1,c1,a2,c2,a3,c3,e,h1,h2,h3,h4⟩=>⟨a1,c1,a2,c2,a3,c3,e,h1.kp k,h2.kp k,h3.kp k,h4⟩
  sub:=fun k ⟨a1,c1,a2,c2,a3,c3,e,h1,h2,h3,h4⟩=>⟨a1,c1,a2,c2,a3,c3,e,h1.sub k,h2.sub k,h3.sub k,h4⟩ }
structure MA where
 a1:Option Addr
 c1:Nat
 a2:Option Addr
 c2:Nat
 a3:Option Addr
 c3:Nat
def modcells (m:Mod) (a:MA):List Value:=[.slice a.a1 m.classes.length a.c1,.slice a.a2 m.statics.length a.c2,.slice a.a3 m.methods.length a.c3,I m.sels]
structure MdR (S:Nat->Prop) (w:World) (m:Mod) (a:MA):Prop where
 cls:Sl eMC S w a.a1 m.classes
 sta:Sl eTy S w a.a2 m.statics
 mth:Sl eMM S w a.a3 m.methods
theorem MdR.kp {S:Nat->Prop} {w w':World} {m:Mod} {a:MA} (h:MdR S w m a) (k:Kp S w w'):MdR S w' m a:=⟨h.cls.kp k,h.sta.kp k,h.mth.kp k⟩
theorem MdR.bl {S:Nat->Prop} {w w':World} {m:Mod} {a:MA} (h:MdR S w m a) (k:Bl w w'):MdR S w' m a:=h.kp (k.kp S)
theorem MdR.sub {S S':Nat->Prop} {w:World} {m:Mod} {a:MA} (h:MdR S w m a) (k:∀ i,S i->S' i):MdR S' w m a:=⟨h.cls.sub k,h.sta.sub k,h.mth.sub k⟩
def layA (us:List Unt) (oc:List ByteArray) (q:ByteArray):List ByteArray:=if hasB oc q=true then lay us q else []
structure Ords where
 oc:List ByteArray
 os:List ByteArray
 om:List ByteArray
 oz:List ByteArray
def ordsL (us:List Unt):Ords:=⟨(ordC us).getD [],sortL (keysM (decl us).statics),(ordM us).getD [],sortL (keysM (decl us).named)⟩
end Go.Proofs.YtdjkoljonlcemaaGreat

/- Rows whose elements point to rows: parts of them, and a row put behind another. No program stands here. -/
namespace Go.Proofs.YtdjkoljonlcemaaGreat
open Eng Go.RowKit
theorem Sl.take {α:Type} {E:El α} {S:Nat->Prop} {w:World} {a:Option Addr} {l:List α} (h:Sl E S w a l) (k:Nat):Sl E S w a (l.take k) :=
 ⟨Nat.le_trans (List.length_take_le' ..) h.big,fun i x hx=>by
  rw [List.getElem?_take] at hx
  split at hx
  ·exact h.el i x hx
  ·cases hx⟩
theorem Sl.drop {α:Type} {E:El α} {S:Nat->Prop} {w:World} {a:Option Addr} {l:List α} (h:Sl E S w a l) (k:Nat):Sl E S w (a.map (·.add (k*E.sz))) (l.drop k) :=
 ⟨by have:=h.big;rw [List.length_drop];omega,fun i x hx=>by
  rw [List.getElem?_drop] at hx
  obtain ⟨b,o,cs,rfl,hs,hat,hr⟩:=h.el (k+i) x hx
  refine ⟨b,o+k*E.sz,cs,by simp [Addr.add],hs,?_,hr⟩
  rw [Nat.add_mul] at hat
  rw [Nat.add_assoc];exact hat⟩
theorem cells_of {α:Type} {E:El α} (hsz:0<E.sz) {S:Nat->Prop} {w:World} {b:Nat}:∀ {l:List α} {o:Nat},(∀ (i:Nat) x,l[i]? = some x->∃ cs,At w b (o+i*E.sz) cs/\E.rel S w cs x) ->
  ∃ xs:List (List Value),xs.length=l.length/\(∀ c∈xs,c.length=E.sz)/\At w b o xs.flatten/\∀ (i:Nat) (cs:List Value) (x:α),xs[i]? = some cs->l[i]? = some x->E.rel S w cs x
 | [],o,_=>⟨[],rfl,(fun _ h=>(by cases h)),(fun j v hj=>(by simp at hj)),(fun i cs x h=>(by simp at h))⟩
 | x::l,o,h=>by
  obtain ⟨cs,hat,hr⟩:=h 0 x rfl
  rw [Nat.zero_mul,Nat.add_zero] at hat
  have hlen:=E.len hr
  obtain ⟨xs,h1,h2,h3,h4⟩:=cells_of hsz (l:=l) (o:=o+E.sz) fun i y hy=>by
   obtain ⟨cs',g1,g2⟩:=h (i+1) y (by simpa using hy)
   exact ⟨cs',by rw [Nat.succ_mul,Nat.add_comm (i*E.sz),<-Nat.add_assoc] at g1;exact g1,g2⟩
  refine ⟨cs::xs,by simp [h1],fun c hc => ?_,fun j v hj => ?_,fun i c y hc hy => ?_⟩
  ·rcases List.mem_cons.1 hc with rfl | hc
   ·exact hlen
   ·exact h2 c hc
  ·rw [List.flatten_cons] at hj
   rcases Nat.lt_or_ge j cs.length with q | q
   ·rw [List.getElem?_append_left q] at hj;exact hat j v hj
   ·rw [List.getElem?_append_right q] at hj
    have:=h3 _ v hj
    rw [show o+E.sz+(j-cs.length)=o+j by omega] at this
    exact this
  ·cases i with
   | zero=>simp at hc hy;subst hc hy;exact hr
   | succ i=>exact h4 i c y (by simpa using hc) (by simpa using hy)
theorem src_rel {α:Type} {E:El α} (hsz:0<E.sz) {S:Nat->Prop} {w:World} {a:Option Addr} {l:List α} (h:Sl E S w a l) :
  ∃ xs:List (List Value),xs.length=l.length/\(∀ c∈xs,c.length=E.sz)/\Eng.Src w a l.length xs.flatten/\∀ (i:Nat) (cs:List Value) (x:α),xs[i]? = some cs->l[i]? = some x->E.rel S w cs x:=by
 cases hl:l with
 | nil=>exact ⟨[],rfl,(fun _ h=>(by cases h)),.inl ⟨rfl,rfl⟩,(fun i cs x h=>(by simp at h))⟩
 | cons x l' =>
  rw [<-hl]
  obtain ⟨b,o,cs,rfl,_,hat,hr⟩:=h.el 0 x (by rw [hl];rfl)
  obtain ⟨xs,h1,h2,h3,h4⟩:=cells_of hsz (S:=S) (w:=w) (b:=b) (o:=o) (l:=l) fun i y hy=>by
   obtain ⟨b',o',cs',e,_,g1,g2⟩:=h.el i y hy
   simp only [Option.some.injEq,Addr.mk.injEq,and_true] at e
   obtain ⟨rfl,rfl⟩:=e
   exact ⟨cs',g1,g2⟩
  exact ⟨xs,h1,h2,.inr ⟨b,o,rfl,h3⟩,h4⟩
theorem OwC.app {α:Type} {E:El α} {R:Nat->Prop} {w w':World} {base e cap':Nat} {a a':Option Addr} {l l1:List α} {xs ys:List (List Value)} (h1:xs.length=l.length) (h2:∀ c∈xs,c.length=E.sz)
  (h4:∀ (i:Nat) (cs:List Value) (x:α),xs[i]? = some cs->l[i]? = some x->E.rel (fun b=>R b/\a≠some ⟨b,0,none⟩/\b<w.heap.size) w cs x)
  (g1:ys.length=l1.length) (g2:∀ c∈ys,c.length=E.sz)
  (g4:∀ (i:Nat) (cs:List Value) (x:α),ys[i]? = some cs->l1[i]? = some x->E.rel (fun b=>R b/\a≠some ⟨b,0,none⟩/\b<w.heap.size) w cs x)
  (hO:Ow w' base e E.sz a' (l.length+l1.length) cap' (xs.flatten++ys.flatten)) (hA:Ap w a w') (hf:∀ g,a'=some ⟨g,0,none⟩->a=some ⟨g,0,none⟩∨w.heap.size<=g):OwC E R w' base e a' cap' (l++l1):=by
 have hsub:∀ b,(R b/\a≠some ⟨b,0,none⟩/\b<w.heap.size)->(R b/\a'≠some ⟨b,0,none⟩/\b<w'.heap.size):=fun b ⟨q1,q2,q3⟩=>by
  refine ⟨q1,fun e => ?_,Nat.lt_of_lt_of_le q3 hA.size⟩
  rcases hf b e with h | h
  ·exact q2 h
  ·omega
 have hkp:Kp (fun b=>R b/\a≠some ⟨b,0,none⟩/\b<w.heap.size) w w':=hA.kp.sub fun i hi=>hi.2.1
 refine ⟨xs++ys,by simp [h1,g1],fun c hc => ?_,by rw [List.length_append,List.flatten_append];exact hO,fun i c y hi hl => ?_⟩
 ·rcases List.mem_append.1 hc with hc | hc
  ·exact h2 c hc
  ·exact g2 c hc
 ·rcases Nat.lt_or_ge i l.length with hlt | hge
  ·rw [List.getElem?_append_left (by omega)] at hi
   rw [List.getElem?_append_left hlt] at hl
   exact E.sub hsub (E.kp hkp (h4 i c y hi hl))
  ·rw [List.getElem?_append_right (by omega),h1] at hi
   rw [List.getElem?_append_right hge] at hl
   exact E.sub hsub (E.kp hkp (g4 _ c y hi hl))
theorem Eng.apc {C:Cx} {s:St} {w:World} {md:Option Md} {ops:Array Oper} {T T':TypeId} {x y:Operand} {d:Nat} {ty:TypeId} {pos:String} {af:Array Edge} {g:Option (Nat×Bool)} {rest:List Oper} {k:List Item} {l:Env} {c:CEnv} {e esz by' sz:Nat} {ag:Bool} {zr:List Value}
  {α:Type} {E:El α} {R:Nat->Prop} {base:Nat} {a:Option Addr} {cap:Nat} {l0:List α} {ay:Option Addr} {cy:Nat} {l1:List α} (hO:OwC E R w base e a cap l0) (hsrc:Sl E (fun b=>R b/\b<base) w ay l1) (hbase:base<=w.heap.size) (hE:E.sz=esz) (hone:∀ {S w cs x},E.rel S w cs x->cs.all Value.oneCell'=true)
  (h:∀ a' cap' w',OwC E R w' base e a' cap' (l0++l1)->Ap w a w'->(∀ g,a'=some ⟨g,0,none⟩->a=some ⟨g,0,none⟩∨w.heap.size<=g)->Wk C (.reg md ops rest k ((d,.slice a' (l0++l1).length cap')::l) c) w')
  (hs:adv C.tab C.n C.ks 400 s = .opn md ops ⟨some d,.call ⟨.builtin .append,#[x,y],#[T,T']⟩,ty,pos,af,g⟩ rest k l c []:=by rfl) (ht:C.tab.at T=some ⟨.slice e esz by',sz,ag,zr⟩:=by rfl)
  (hx:evc l c [] x=some (.slice a l0.length cap):=by rfl) (hy:evc l c [] y=some (.slice ay l1.length cy):=by rfl) (hTT:T'=T:=by rfl) (hsz:Nat.blt 0 esz=true:=by rfl)
  (hb:(l0.length+l1.length)*by'<=140737488355328:=by first | omega | (simp only [List.length_nil,List.length_append,List.length_cons,List.length_map];omega)) (hn:l0.length+l1.length<=1152921504606846976:=by first | omega | (simp only [List.length_nil,List.length_append,List.length_cons,List.length_map];omega)) (hf:fresh d l c []=true:=by rfl) (hm:∀ w',Ap w a w'->mdW md w w':=by intros;exact True.intro) (hnt:notT md=true:=by rfl):Wk C s w:=by
 subst hE
 obtain ⟨xs,h1,h2,h3,h4⟩:=hO.row
 obtain ⟨ys,g1,g2,g3,g4⟩:=src_rel (by simpa using hsz) hsrc
 have hlt:∀ g,a=some ⟨g,0,none⟩->base<=g:=fun g hg=>(h3.lt hg).1
 refine ap h3 g3 hbase (fun a' cap' w' hO' hA hfr => ?_) hs ht hx hy hTT hsz (by rw [flatten_len g2,g1]) ?_ hb hn hf hm hnt
 ·have:=h a' cap' w' (OwC.app h1 h2 h4 g1 g2 (fun i cs x hi hl=>E.sub (fun b hb=>⟨hb.1,fun e=>by have:=hlt b e;omega,by omega⟩) (g4 i cs x hi hl)) hO' hA hfr) hA hfr
  rw [List.length_append] at this;exact this
 ·rw [List.all_eq_true]
  intro v hv
  obtain ⟨c,hc,hv⟩:=List.mem_flatten.1 hv
  obtain ⟨i,hi⟩:=List.mem_iff_getElem?.1 hc
  obtain ⟨x,hx⟩:=some_of_lt (l:=l1) (k:=i) (by have:=(List.getElem?_eq_some_iff.1 hi).1;omega)
  exact List.all_eq_true.1 (hone (g4 i c x hi hx)) v hv
end Go.Proofs.YtdjkoljonlcemaaGreat

/- What the claims of seats without cards share: worlds in which nothing that was there has turned; the bound; what an argument of the laws holds: a module, numbers. -/
namespace Go.Proofs.YtdjkoljonlcemaaGreat
open Eng Go.ChangeShapes Go.WideShapes Go.ChangeAt Go.RowKit
theorem own:ownKnob Tryz.prog.godebug=none:=by kernel_rfl
theorem kept_of_bl {W W':World} (h:Bl W W') (may:MemPlace->Prop):W.keptBut W' may:=by
 refine ⟨h.os,h.output,fun i hi => ?_⟩
 rw [h.block i hi]
 cases hw:W.heap[i]? with
 | none=>trivial
 | some o=>cases o <;> first | exact ⟨rfl,rfl,rfl,fun _ _=>rfl⟩ | exact .inr ⟨rfl,rfl⟩ | rfl | trivial
theorem frozen_bl {W W':World} (h:Bl W W') {b off:Nat} (hb:b<W.heap.size):W'.frozen? ⟨b,off,none⟩=W.frozen? ⟨b,off,none⟩:=by simp only [World.frozen?,h.block b hb]
section
variable {H:Type} {enc:TypeId×Value->H} {P:Program}
theorem post_of_bl {f:Func} {s:ChangeSpec} {apart fresh handsOn again:Bool} {W W':World} {args:Array Value} {v:Value} {ds gs:List (DataW H)} {before pa pv:List MemPlace}
  (hW:DataW.Whole enc P f.params.toList s.vars apart W args.toList ds gs before)
  (hres:∀ (b:Nat) (sp:Nat->Bool) (hd:Bool),DataW.TrodAll enc P W' b sp hd f.resultTypes.toList (v.resultList f.resultTypes.size) (s.fn H (ds++gs)).results [])
  (hargs:∀ sp:Nat->Bool,(∀ p∈before,sp p.block=true)->DataW.TrodAll enc P W' 0 sp true f.params.toList args.toList (s.fn H (ds++gs)).args pa)
  (hvars:∀ sp:Nat->Bool,(∀ p∈before,sp p.block=true)->DataW.TrodVars enc P W' sp s.vars (s.fn H (ds++gs)).vars pv)
  (hps:before=pa++pv) (hB:Bl W W')
  (hok:∀ (j:Nat) (t:TypeId) (r:Value),f.resultTypes[j]? = some t->(v.resultList f.resultTypes.size)[j]? = some r->Value.okWide P W' .any 0 t r) :
  s.post enc P f apart fresh handsOn again W args v W':=by
 have hlt:=hW.lt
 have hold:∀ p∈before,(fun b=>decide (b<W.heap.size)) p.block=true:=fun p hp=>by simpa using hlt p hp
 refine ⟨ds,gs,before,[],pa,pv,hW,hres _ _ _,hargs _ hold,hvars _ hold,World.keptBut_mono (fun p hp=>⟨hp,?_⟩) (kept_of_bl hB (· ∈ before)),fun _ => ?_⟩
 ·rw [hps,List.mem_append] at hp
  exact Or.inr hp
 ·obtain ⟨_,_,_,_,_,hz,hn⟩:=hW
  refine ⟨hok,_,_,([]++pa)++pv,⟨[]++pa,pv,trodAll_append (hargs _ (fun _ _=>rfl)) (hres _ _ _),hvars _ (fun _ _=>rfl),rfl,?_,?_⟩,?_⟩
  ·intro b off hp
   have hp':MemPlace.cell b off∈before:=by rw [hps];simpa using hp
   rw [frozen_bl hB (b:=b) (show b<W.heap.size from hlt _ hp')]
   exact hz b off hp'
  ·intro ha
   have:=hn ha
   rw [hps] at this
   simpa using this
  ·intro p hp _
   rw [hps]
   simpa using hp
theorem calls_of_ret {f:FuncId} {args:Array Value} {w:World} {Q:Value->World->Prop} (h:Ret P f args w Q):Calls P f args w fun e w'=>∃ v,e = .returned v/\Q v w':=h.run.mono fun e w' r=>by
 cases e with
 | returned v=>exact ⟨v,rfl,r⟩
 | panicked ch=>exact r.elim
 | outgrown=>exact r.elim
end
theorem small_le {H:Type} {ds:List (DataW H)} (h:Rows.uptoSmall H ds=true):Rows.uptoBulkAll ds<=1048576:=of_decide_eq_true h
theorem bulk_one {H:Type} (d:DataW H):1<=Rows.uptoBulk d:=by
 cases d with
 | lit l=>cases l <;> simp [Rows.uptoBulk]
 | nil=>simp [Rows.uptoBulk]
 | ptr d=>simp [Rows.uptoBulk]
 | slice elems spare=>simp [Rows.uptoBulk]
 | agg parts=>simp [Rows.uptoBulk]
 | iface t d=>simp [Rows.uptoBulk]
 | map entries=>simp [Rows.uptoBulk]
 | held h=>simp [Rows.uptoBulk]
theorem bulk_part {H:Type} {d:DataW H} {l:List (DataW H)} (h:d∈l):Rows.uptoBulk d<=Rows.uptoBulkAll l:=by
 induction l with
 | nil=>cases h
 | cons x r ih =>
  simp only [Rows.uptoBulkAll]
  cases List.mem_cons.1 h with
  | inl e=>subst e;omega
  | inr e=>have:=ih e;omega
theorem bulk_len {H:Type} (l:List (DataW H)):l.length<=Rows.uptoBulkAll l:=by
 induction l with
 | nil=>simp [Rows.uptoBulkAll]
 | cons x r ih=>have:=bulk_one x;simp only [Rows.uptoBulkAll,List.length_cons];omega
theorem list_of {α:Type} {p:Nat->α->Prop}:∀ {n:Nat},(∀ i,i<n->∃ x,p i x)->∃ l:List α,l.length=n/\∀ i x,l[i]? = some x->p i x
 | 0,_=>⟨[],rfl,fun i x h=>by simp at h⟩
 | n+1,hel=>by
  obtain ⟨l,e1,e2⟩:=list_of (n:=n) fun i hi=>hel i (by omega)
  obtain ⟨x,h1⟩:=hel n (by omega)
  refine ⟨l++[x],by simp [e1],fun i y hy => ?_⟩
  rcases Nat.lt_or_ge i l.length with q | q
  ·rw [List.getElem?_append_left q] at hy
   exact e2 i y hy
  ·rw [List.getElem?_append_right q] at hy
   rcases Nat.eq_zero_or_pos (i-l.length) with h0 | h0
   ·rw [h0] at hy
    simp at hy
    subst hy
    obtain rfl:i=n:=by omega
    exact h1
   ·rw [List.getElem?_eq_none (by simp;omega)] at hy
    cases hy
section
variable {H:Type} {enc:TypeId×Value->H} {P:Program} {w:World} {base:Nat} {sp:Nat->Bool} {hd:Bool}
def Reads (enc:TypeId×Value->H) (P:Program) (w:World) (base:Nat) (sp:Nat->Bool) (hd:Bool) (t:TypeId) (R:List Value->Prop):Prop :=
 ∀ (n:Nat) (cs:List Value) (y:DataW H×List MemPlace),DataW.trod enc P w base sp hd n t cs=some y->Rows.uptoBulk y.1<=1048576->R cs
theorem reads_int {t:TypeId} (ht:P.underlying t=some (.int .i64)):Reads enc P w base sp hd t fun cs=>∃ n,cs=[I n]:=fun n cs y h _=>by
 obtain ⟨n,rfl,_⟩:=DataW.trod_int ht h
 exact ⟨n,rfl⟩
theorem reads_str {t:TypeId} (ht:P.underlying t=some .string):Reads enc P w base sp hd t fun cs=>∃ s:ByteArray,cs=[.string s]/\s.size<=1048576:=fun n cs y h hb=>by
 obtain ⟨s,rfl,rfl,_⟩:=DataW.trod_string ht h
 refine ⟨s,rfl,?_⟩
 simp only [Rows.uptoBulk] at hb
 have:=ba_len s
 omega
theorem reads_fields {t:TypeId} {L:List (TypeId×Nat)} (ht:P.underlying t=some (.struct (P.fieldsOf t))) (hm:((P.fieldsOf t).toList.map fun f=>(f.type,f.offset))=L) {n:Nat} {cs:List Value} {y:DataW H×List MemPlace}
  (h:DataW.trod enc P w base sp hd n t cs=some y) (hb:Rows.uptoBulk y.1<=1048576):cs.length=P.cellsOf t/\∀ q∈L,∀ R:List Value->Prop,Reads enc P w base sp hd q.1 R->R ((cs.drop q.2).take (P.cellsOf q.1)):=by
 obtain ⟨xs,m,rfl,rfl,h1,h2,h3⟩:=DataW.trod_struct ht h
 refine ⟨h1,fun q hq R hR => ?_⟩
 rw [<-hm] at hq
 obtain ⟨f,hf,rfl⟩:=List.mem_map.1 hq
 obtain ⟨i,hi⟩:=List.mem_iff_getElem?.1 hf
 rw [Array.getElem?_toList] at hi
 have h4:=h3 i f hi
 have hlt:i<xs.length:=by
  rw [h2]
  rcases Nat.lt_or_ge i (P.fieldsOf t).size with h5 | h5
  ·exact h5
  ·rw [Array.getElem?_eq_none h5] at hi;cases hi
 rw [List.getElem?_eq_getElem hlt] at h4
 refine hR m _ _ h4 ?_
 have:xs[i].1∈xs.map (·.1):=List.mem_map_of_mem (List.getElem_mem hlt)
 have:=bulk_part this
 simp only [Rows.uptoBulk] at hb
 omega
theorem reads_sliceC {α:Type} {E:El α} {t e:TypeId} (ht:P.underlying t=some (.slice e)) (hc:P.cellsOf e=E.sz) (hpos:0<E.sz) (hE:Reads enc P w base sp hd e fun cs=>∃ x,E.rel T w cs x) :
  Reads enc P w base sp hd t fun cs=>∃ (a:Option Addr) (l:List α) (cap:Nat),cs=[.slice a l.length cap]/\Sl E T w a l/\l.length<=cap:=fun n cs y h hb=>by
 rcases Deep.open_slice ht h with ⟨rfl,rfl⟩ | ⟨a,len,cap,m,k,D,Pl,rfl,_,hl,_,hm,rfl,hx⟩
 ·exact ⟨none,[],0,rfl,Sl.nil ..,Nat.le_refl _⟩
 ·have hle:len<=m:=by rw [hm];split <;> omega
  simp only [Rows.uptoBulk] at hb
  have hlen:len<=1048576:=by
   have:=bulk_len ((List.range len).map D)
   rw [List.length_map,List.length_range] at this
   omega
  obtain ⟨l,hl2,hl3⟩:=list_of (n:=len) (p:=fun i (x:α)=>∃ cs',w.cells? base (a.add (i*E.sz)) E.sz=some cs'/\E.rel T w cs' x) fun i hi=>by
   obtain ⟨cs',h1,h2⟩:=hx i (by omega)
   rw [hc] at h1
   obtain ⟨x,hr⟩:=hE k cs' _ h2 (by
    have:D i∈(List.range len).map D:=List.mem_map_of_mem (List.mem_range.2 hi)
    have:=bulk_part this
    show Rows.uptoBulk (D i)<=1048576
    omega)
   exact ⟨x,cs',h1,hr⟩
  obtain ⟨b,o,s⟩:=a
  refine ⟨some ⟨b,o,s⟩,l,cap,by rw [hl2],⟨by omega,fun i x hx => ?_⟩,by omega⟩
  obtain ⟨cs',h1,h2⟩:=hl3 i x hx
  obtain ⟨_,h3,h4⟩:=World.cells?_some h1
  have hs:s=none:=by
   obtain ⟨x0,e0⟩:=some_of_lt (l:=l) (k:=0) (by have:=(List.getElem?_eq_some_iff.1 hx).1;omega)
   obtain ⟨cs0,g1,_⟩:=hl3 0 x0 e0
   obtain ⟨_,g3,g4⟩:=World.cells?_some g1
   have h5:=g4 0 hpos
   rw [List.getElem?_eq_getElem (by omega)] at h5
   have:=World.cell?_spot h5
   simpa [Addr.add] using this
  subst hs
  refine ⟨b,o,cs',rfl,trivial,fun j v hj => ?_,h2⟩
  have hj':j<E.sz:=by rw [<-h3];exact (List.getElem?_eq_some_iff.1 hj).1
  have:=h4 j hj'
  rw [hj] at this
  rw [<-this,Deep.add_add]
  congr 1
  simp only [Addr.add]
  split <;> simp <;> omega
theorem reads_slice {α:Type} {E:El α} {t e:TypeId} (ht:P.underlying t=some (.slice e)) (hc:P.cellsOf e=E.sz) (hpos:0<E.sz) (hE:Reads enc P w base sp hd e fun cs=>∃ x,E.rel T w cs x) :
  Reads enc P w base sp hd t fun cs=>∃ (a:Option Addr) (l:List α) (cap:Nat),cs=[.slice a l.length cap]/\Sl E T w a l:=fun n cs y h hb=>by
 obtain ⟨a,l,cap,h1,h2,_⟩:=reads_sliceC ht hc hpos hE n cs y h hb
 exact ⟨a,l,cap,h1,h2⟩
end
section
variable {H:Type} {enc:TypeId×Value->H} {w:World} {base:Nat} {sp:Nat->Bool} {hd:Bool}
set_option maxRecDepth 100000 in
theorem rd_ins:Reads enc Tryz.prog w base sp hd 53 fun cs=>∃ x,eIns.rel T w cs x:=fun n cs y h hb=>by
 obtain ⟨h1,h2⟩:=reads_fields (L:=[(3,0),(3,1),(3,2)]) (by kernel_rfl) (by kernel_rfl) h hb
 rw [show Tryz.prog.cellsOf 53=3 by kernel_rfl] at h1
 match cs,h1 with
 | [c0,c1,c2],_ =>
  obtain ⟨a,ea⟩:=h2 (3,0) (by simp) _ (reads_int (by kernel_rfl))
  obtain ⟨b,eb⟩:=h2 (3,1) (by simp) _ (reads_int (by kernel_rfl))
  obtain ⟨c,ec⟩:=h2 (3,2) (by simp) _ (reads_int (by kernel_rfl))
  simp only [show Tryz.prog.cellsOf 3=1 by kernel_rfl,List.drop,List.take,List.cons.injEq,and_true] at ea eb ec
  subst ea eb ec
  exact ⟨⟨a,b,c⟩,rfl⟩
theorem rd_str:Reads enc Tryz.prog w base sp hd 9 fun cs=>∃ x:ByteArray,(cs=encStr x/\x.size<=1048576):=fun n cs y h hb=>by
 obtain ⟨s,rfl,hs⟩:=reads_str (by kernel_rfl) n cs y h hb
 exact ⟨s,rfl,hs⟩
set_option maxRecDepth 100000 in
theorem rd_type:Reads enc Tryz.prog w base sp hd 42 fun cs=>∃ x,eTy.rel T w cs x:=fun n cs y h hb=>by
 obtain ⟨h1,h2⟩:=reads_fields (L:=[(3,0),(3,1)]) (by kernel_rfl) (by kernel_rfl) h hb
 rw [show Tryz.prog.cellsOf 42=2 by kernel_rfl] at h1
 match cs,h1 with
 | [c0,c1],_ =>
  obtain ⟨a,ea⟩:=h2 (3,0) (by simp) _ (reads_int (by kernel_rfl))
  obtain ⟨b,eb⟩:=h2 (3,1) (by simp) _ (reads_int (by kernel_rfl))
  simp only [show Tryz.prog.cellsOf 3=1 by kernel_rfl,List.drop,List.take,List.cons.injEq,and_true] at ea eb
  subst ea eb
  exact ⟨⟨a,b⟩,rfl⟩
theorem rd_int:Reads enc Tryz.prog w base sp hd 3 fun cs=>∃ x,eInt.rel T w cs x:=fun n cs y h hb=>by
 obtain ⟨x,e⟩:=reads_int (by kernel_rfl) n cs y h hb
 exact ⟨x,e⟩
set_option maxRecDepth 100000 in
theorem rd_mc:Reads enc Tryz.prog w base sp hd 137 fun cs=>∃ x,eMC.rel T w cs x:=fun n cs y h hb=>by
 obtain ⟨h1,h2⟩:=reads_fields (L:=[(9,0),(3,1),(23,2),(27,3)]) (by kernel_rfl) (by kernel_rfl) h hb
 rw [show Tryz.prog.cellsOf 137=4 by kernel_rfl] at h1
 match cs,h1 with
 | [c0,c1,c2,c3],_ =>
  obtain ⟨s,es,hs⟩:=h2 (9,0) (by simp) _ rd_str
  obtain ⟨b,eb⟩:=h2 (3,1) (by simp) _ (reads_int (by kernel_rfl))
  obtain ⟨a1,l1,k1,e1,s1,n1⟩:=h2 (23,2) (by simp) _ (reads_sliceC (by kernel_rfl) (by kernel_rfl) (by decide) rd_type)
  obtain ⟨a2,l2,k2,e2,s2⟩:=h2 (27,3) (by simp) _ (reads_slice (by kernel_rfl) (by kernel_rfl) (by decide) rd_int)
  simp only [show Tryz.prog.cellsOf 3=1 by kernel_rfl,show Tryz.prog.cellsOf 9=1 by kernel_rfl,show Tryz.prog.cellsOf 23=1 by kernel_rfl,show Tryz.prog.cellsOf 27=1 by kernel_rfl,List.drop,List.take,List.cons.injEq,and_true] at es eb e1 e2
  subst es eb e1 e2
  exact ⟨⟨s,b,l1,l2⟩,a1,k1,a2,k2,rfl,s1,s2,hs,n1⟩
set_option maxRecDepth 100000 in
theorem rd_mm:Reads enc Tryz.prog w base sp hd 45 fun cs=>∃ x,eMM.rel T w cs x:=fun n cs y h hb=>by
 obtain ⟨h1,h2⟩:=reads_fields (L:=[(9,0),(3,1),(23,2),(23,3),(42,4),(43,6)]) (by kernel_rfl) (by kernel_rfl) h hb
 rw [show Tryz.prog.cellsOf 45=7 by kernel_rfl] at h1
 match cs,h1 with
 | [c0,c1,c2,c3,c4,c5,c6],_ =>
  obtain ⟨s,es,hs⟩:=h2 (9,0) (by simp) _ rd_str
  obtain ⟨b,eb⟩:=h2 (3,1) (by simp) _ (reads_int (by kernel_rfl))
  obtain ⟨a1,l1,k1,e1,s1⟩:=h2 (23,2) (by simp) _ (reads_slice (by kernel_rfl) (by kernel_rfl) (by decide) rd_type)
  obtain ⟨a2,l2,k2,e2,s2⟩:=h2 (23,3) (by simp) _ (reads_slice (by kernel_rfl) (by kernel_rfl) (by decide) rd_type)
  obtain ⟨t,et⟩:=h2 (42,4) (by simp) _ rd_type
  obtain ⟨a3,l3,k3,e3,s3⟩:=h2 (43,6) (by simp) _ (reads_slice (by kernel_rfl) (by kernel_rfl) (by decide) rd_ins)
  simp only [show Tryz.prog.cellsOf 3=1 by kernel_rfl,show Tryz.prog.cellsOf 9=1 by kernel_rfl,show Tryz.prog.cellsOf 42=2 by kernel_rfl,show Tryz.prog.cellsOf 23=1 by kernel_rfl,show Tryz.prog.cellsOf 43=1 by kernel_rfl,List.drop,List.take,List.cons.injEq,and_true] at es eb e1 e2 e3 et
  subst es eb e1 e2 e3
  simp only [eTy,plainEl,encTy,List.cons.injEq,and_true] at et
  obtain ⟨rfl,rfl⟩:=et
  exact ⟨⟨s,b,l1,l2,t,l3⟩,a1,k1,a2,k2,a3,k3,rfl,s1,s2,s3,hs⟩
set_option maxRecDepth 100000 in
theorem rd_mod:Reads enc Tryz.prog w base sp hd 26 fun cs=>∃ (m:Mod) (a:MA),cs=modcells m a/\MdR T w m a:=fun n cs y h hb=>by
 obtain ⟨h1,h2⟩:=reads_fields (L:=[(22,0),(23,1),(24,2),(3,3)]) (by kernel_rfl) (by kernel_rfl) h hb
 rw [show Tryz.prog.cellsOf 26=4 by kernel_rfl] at h1
 match cs,h1 with
 | [c0,c1,c2,c3],_ =>
  obtain ⟨a1,l1,k1,e1,s1⟩:=h2 (22,0) (by simp) _ (reads_slice (by kernel_rfl) (by kernel_rfl) (by decide) rd_mc)
  obtain ⟨a2,l2,k2,e2,s2⟩:=h2 (23,1) (by simp) _ (reads_slice (by kernel_rfl) (by kernel_rfl) (by decide) rd_type)
  obtain ⟨a3,l3,k3,e3,s3⟩:=h2 (24,2) (by simp) _ (reads_slice (by kernel_rfl) (by kernel_rfl) (by decide) rd_mm)
  obtain ⟨b,eb⟩:=h2 (3,3) (by simp) _ (reads_int (by kernel_rfl))
  simp only [show Tryz.prog.cellsOf 3=1 by kernel_rfl,show Tryz.prog.cellsOf 22=1 by kernel_rfl,show Tryz.prog.cellsOf 23=1 by kernel_rfl,show Tryz.prog.cellsOf 24=1 by kernel_rfl,List.drop,List.take,List.cons.injEq,and_true] at e1 e2 e3 eb
  subst e1 e2 e3 eb
  exact ⟨⟨l1,l2,l3,b⟩,⟨a1,k1,a2,k2,a3,k3⟩,rfl,⟨s1,s2,s3⟩⟩
set_option maxRecDepth 100000 in
theorem open_mod {r:Reach} {b0:Nat} {v:Value} {d:DataW H} {p:List MemPlace} (hval:Value.okWide Tryz.prog w r b0 26 v) (h:DataW.Trod enc Tryz.prog w base sp hd 26 v d p) (hb:Rows.uptoBulk d<=1048576) :
  ∃ (m:Mod) (a:MA),v = .agg (modcells m a).toArray/\MdR T w m a:=by
 obtain ⟨cs,rfl,_⟩:=okWide_struct (show Tryz.prog.underlying 26=some (.struct (Tryz.prog.fieldsOf 26)) by kernel_rfl) hval
 obtain ⟨n,h⟩:=h
 obtain ⟨m,a,e,hm⟩:=rd_mod n _ _ h hb
 refine ⟨m,a,?_,hm⟩
 rw [<-e]
 simp [Value.cells]
set_option maxRecDepth 100000 in
theorem open_ints {r:Reach} {b0:Nat} {v:Value} {d:DataW H} {p:List MemPlace} (hval:Value.okWide Tryz.prog w r b0 27 v) (h:DataW.Trod enc Tryz.prog w base sp hd 27 v d p) (hb:Rows.uptoBulk d<=1048576) :
  ∃ (a:Option Addr) (l:List Int) (cap:Nat),v = .slice a l.length cap/\Sl eInt T w a l/\l.length<=cap:=by
 obtain ⟨a0,len,cap0,rfl⟩:=okWide_slice Tryz.underlying27 hval
 obtain ⟨n,h⟩:=h
 obtain ⟨a,l,cap,e,hS,hc⟩:=reads_sliceC (E:=eInt) (t:=27) (e:=3) (by kernel_rfl) (by kernel_rfl) (by decide) rd_int n _ _ h hb
 simp only [Value.cells,List.cons.injEq,and_true] at e
 exact ⟨a,l,cap,e,hS,hc⟩
end
theorem prog_kids:Kids Tryz.prog (· < Tryz.prog.types.size):=kids_rows (by kernel_rfl) (by kernel_rfl)
theorem prog_full:∀ t e,t<Tryz.prog.types.size->Tryz.prog.underlying t=some (.slice e)->0<Tryz.prog.cellsOf e:=slices_full_of Tryz.prog (by kernel_rfl)
theorem same_bl {W W':World} (h:Bl W W') {p:MemPlace} (hp:p.block<W.heap.size):W.sameAt W' p:=by
 cases p with
 | cell b o=>exact World.cell?_of_block (w:=W) (h.block b hp)
 | map b=>exact h.block b hp
theorem all_bl {H:Type} {enc:TypeId×Value->H} {P:Program} {W W':World} {base:Nat} {sp:Nat->Bool} {hd:Bool} (h:Bl W W'):∀ {ts:List TypeId} {vs:List Value} {ds:List (DataW H)} {ps:List MemPlace},(∀ p∈ps,p.block<W.heap.size) ->
  DataW.TrodAll enc P W base sp hd ts vs ds ps->DataW.TrodAll enc P W' base sp hd ts vs ds ps
 | [],[],[],_,_,h1=>h1
 | _::_,_::_,_::_,_,hp,⟨p,q,⟨n,h1⟩,h2,e⟩ =>
  ⟨p,q,⟨n,DataW.trod_carry n _ _ _ h1 fun x hx=>same_bl h (hp x (by rw [e];exact List.mem_append_left _ hx))⟩,all_bl h (fun x hx=>hp x (by rw [e];exact List.mem_append_right _ hx)) h2,e⟩
set_option maxRecDepth 100000 in
theorem post_law {H:Type} {enc:TypeId×Value->H} {f:Func} {s:ChangeSpec} {W W':World} {args:Array Value} {ds gs:List (DataW H)} {before:List MemPlace} (hW:DataW.Whole enc Tryz.prog f.params.toList s.vars false W args.toList ds gs before)
  (hv:s.vars=[]) (hs:∀ gs',gs'=[]->(s.fn H (ds++gs')).results=[.lit (.bool true)]/\(s.fn H (ds++gs')).args=ds/\(s.fn H (ds++gs')).vars=[]) (hpar:∀ t∈f.params.toList,t<Tryz.prog.types.size) (hr:f.resultTypes=#[4]) (hB:Bl W W') :
  s.post enc Tryz.prog f false true false false W args (.bool true) W':=by
 have hW0:=hW
 have hlt:=hW.lt
 obtain ⟨p,q,hA,hV,rfl,_⟩:=hW
 rw [hv] at hV
 obtain ⟨rfl,rfl⟩:=trodVars_none hV
 obtain ⟨h1,h2,h3⟩:=hs [] rfl
 have hA':=all_bl hB (fun x hx=>hlt x (List.mem_append_left _ hx)) hA
 refine post_of_bl (pa:=p) (pv:=[]) hW0 (fun _ _ _ => ?_) (fun sp hsp => ?_) (fun _ _ => ?_) rfl hB (ok_one hr rfl (okWide_bool_mk Tryz.underlying4 _))
 ·rw [h1,hr]
  exact trodAll_cons_mk (shut_bool Tryz.underlying4 _) trodAll_mk0
 ·rw [h2]
  exact DataW.TrodAll.respare prog_kids prog_full hpar hA' (fun x hx=>hsp x (List.mem_append_left _ hx))
 ·rw [h3,hv];rfl
end Go.Proofs.YtdjkoljonlcemaaGreat

/- Regions that draw their order, once more: a read that the row's end waits for through other steps. No program stands here. -/
namespace Go.Proofs.YtdjkoljonlcemaaGreat
open Go Go.RowKit
namespace Eng
section
variable {P:Program} {ops:Array Oper} {Q:Exit->Act->World->Prop} {S:Nat->Prop}
def closeD (ops:Array Oper) (listed:Array Bool) (i:Nat):Nat->List Bool
 | 0=>[]
 | j+1=>let D:=closeD ops listed i j
  D++[Nat.beq j i||(!(listed.getD j true)&&match ops[j]? with
   | some oj=>oj.after.any fun e=>Region.binds .any e&&D.getD e.on false
   | none=>false)]
def okD (ops:Array Oper) (m i:Nat) (listed:Array Bool) (D:List Bool):Bool:=D.getD i false&&(List.range ops.size).all fun j=>match D.getD j false with
 | true => !(listed.getD j true)&&(Nat.beq j i||match ops[j]? with
  | some oj=>oj.after.any fun e=>Region.binds .any e&&(D.getD e.on false&&Nat.blt e.on ops.size)
  | none=>false)
 | false=>Nat.blt j m||listed.getD j true
theorem wpM_first2 {m i:Nat} {oi:Oper} {v:Value} (hi:ops[i]? = some oi) (hsel:∀ (j:Nat) (o:Oper) cs b,ops[j]? = some o->o.op ≠ .select cs b)
  (hQ:∀ c a w,Q (.panic c) (a.put oi.dst v) w->Q (.panic c) a w) (D:Nat->Bool) (hD:∀ j oj,ops[j]? = some oj->D j=true->j≠i->∃ e∈oj.after,Region.binds .any e=true/\D e.on=true/\e.on<ops.size) :
  ∀ (fuel:Nat) (listed:Array Bool) (a:Act) (w:World),listed.size=ops.size->(∀ j,j<ops.size->D j=true->listed.getD j true=false) ->
   (∀ j oj,ops[j]? = some oj->j≠i->listed.getD j true=false->(∀ e∈oj.after,Region.binds .any e=true->e.on≠i)->oi.apart ops oj=true)->(∀ j oj,ops[j]? = some oj->listed.getD j true=false->D j=false->j<m) ->
   i∈Region.ready .any ops listed->YieldsIf P ops (fun w'=>Kb S w w') oi v a ->
   wpM P .any ops Q S m fuel (listed.setIfInBounds i true) (a.put oi.dst v) w->wpM P .any ops Q S m (fuel+1) listed a w:=by
 intro fuel
 induction fuel with
 | zero =>
  intro listed a w _ _ _ _ hr hy H
  refine ⟨fun h=>(by rw [h] at hr;cases hr),fun j hj => ?_⟩
  by_cases hji:j=i
  ·subst hji;exact hy.wpOp hi (Kb.refl S w) ⟨fun _=>Kb.refl S w,H⟩
  ·have:=ready_mono hj hji
   rw [H.1] at this
   cases this
 | succ fuel ih =>
  intro listed a w hsz hun hfree hlow hr hy H
  refine ⟨fun h=>(by rw [h] at hr;cases hr),fun j hj => ?_⟩
  by_cases hji:j=i
  ·subst hji;exact hy.wpOp hi (Kb.refl S w) ⟨fun _=>Kb.refl S w,H⟩
  ·have h1:=H.2 j (ready_mono hj hji)
   obtain ⟨hjun,oj,hoj,hall⟩:=mem_ready.1 hj
   have hlistd:∀ e∈oj.after,Region.binds .any e=true->e.on<ops.size->listed.getD e.on true=true:=fun e he hb hlt=>by
    have h1:=hall e he hb
    have hl:e.on<listed.size:=by omega
    simp [hl] at h1 ⊢;exact h1
   have hnot:∀ e∈oj.after,Region.binds .any e=true->e.on≠i:=fun e he hb heq=>by
    have h1:=hlistd e he hb (by rw [heq];exact (Array.getElem?_eq_some_iff.1 hi).1)
    have h0:=(mem_ready.1 hr).1
    rw [heq] at h1
    rcases Nat.lt_or_ge i listed.size with h' | h'
    ·simp [h'] at h0 h1;rw [h0] at h1;cases h1
    ·have:=(Array.getElem?_eq_some_iff.1 hi).1;omega
   have hDj:D j=false:=by
    cases hd:D j with
    | false=>rfl
    | true =>
     obtain ⟨e,he,hb,hde,hlt⟩:=hD j oj hoj hd hji
     have h1:=hlistd e he hb hlt
     rw [hun e.on hlt hde] at h1;cases h1
   have hjun':listed.getD j true=false:=hjun
   have hjm:=hlow j oj hoj hjun' hDj
   have h2:=wpOp_putIf hoj (hfree j oj hoj hji hjun' hnot) (fun cs b=>hsel i oi cs b hi) (fun cs b=>hsel j oj cs b hoj) hQ hy h1
   have keep:∀ k,(listed.setIfInBounds j true).getD k true=false->listed.getD k true=false:=fun k hk=>by
    by_cases hjk:j=k
    ·subst hjk;exact hjun'
    ·rw [getD_set_ne true hjk] at hk;exact hk
   refine wpOp_mono (fun a' w' h3=>⟨h3.2.1,ih (listed.setIfInBounds j true) a' w' (by simpa using hsz) (fun k hk hd => ?_) (fun k ok hk hki hun' hno=>hfree k ok hk hki (keep k hun') hno) (fun k ok hk hu hd=>hlow k ok hk (keep k hu) hd) (ready_mono hr (Ne.symm hji)) (YieldsIf.weak h3.1 fun w'' k=>Kb.trans (h3.2.1 hjm) k) ?_⟩) h2
   ·have hjk:j≠k:=fun q=>by subst q;rw [hDj] at hd;cases hd
    rw [getD_set_ne true hjk];exact hun k hk hd
   ·rw [Array.setIfInBounds_comm _ _ hji]
    exact h3.2.2
def heldB2 (ops:Array Oper) (m:Nat):List Nat->Array Bool->Bool
 | [],listed=>tailB ops (ops.size-m) m listed
 | i::r,listed=>match ops[i]? with
  | none=>false
  | some o=>match effB o.op with
   | true=>decide (Region.ready .any ops listed=[i])&&heldB2 ops m r (listed.setIfInBounds i true)
   | false=>(Region.ready .any ops listed).contains i&&Region.free .any ops listed i&&okD ops m i listed (closeD ops listed i ops.size)&&heldB2 ops m r (listed.setIfInBounds i true)
theorem okD_spec {m i:Nat} {listed:Array Bool} {D:List Bool} (h:okD ops m i listed D=true) :
  (∀ j oj,ops[j]? = some oj->D.getD j false=true->j≠i->∃ e∈oj.after,Region.binds .any e=true/\D.getD e.on false=true/\e.on<ops.size)/\(∀ j,j<ops.size->D.getD j false=true->listed.getD j true=false) /\
  (∀ j oj,ops[j]? = some oj->listed.getD j true=false->D.getD j false=false->j<m):=by
 simp only [okD,Bool.and_eq_true,List.all_eq_true,List.mem_range] at h
 refine ⟨fun j oj hj hd hne => ?_,fun j hj hd => ?_,fun j oj hj hu hd => ?_⟩
 ·have:=h.2 j (Array.getElem?_eq_some_iff.1 hj).1
  simp only [hd,hj,Bool.and_eq_true,Bool.or_eq_true] at this
  rcases this.2 with q | q
  ·exact absurd (Nat.eq_of_beq_eq_true q) hne
  ·obtain ⟨e,he,hb⟩:=Array.any_eq_true'.1 q
   simp only [Bool.and_eq_true] at hb
   exact ⟨e,he,hb.1,hb.2.1,by have:=hb.2.2;rwa [Nat.blt_eq] at this⟩
 ·have:=h.2 j hj
  simp only [hd,Bool.and_eq_true,Bool.not_eq_true'] at this
  exact this.1
 ·have:=h.2 j (Array.getElem?_eq_some_iff.1 hj).1
  simp only [hd,hu,Bool.or_false] at this
  rwa [Nat.blt_eq] at this
theorem heldS2_ok {m:Nat} (hmn:m<=ops.size) (hsel:Region.noSelect ops=true) (hQ:∀ c a w,¬Q (.panic c) a w):∀ (ord:List Nat) (listed:Array Bool) (a:Act) (w:World),listed.size=ops.size->heldB2 ops m ord listed=true->heldS P ops Q S (wpList P ops Q (ops.toList.drop m)) (pickO ops.toList ord) a w->wpM P .any ops Q S m (ord.length+(ops.size-m)) listed a w
 | [],listed,a,w,_,hB,h=>by
  rw [List.length_nil,Nat.zero_add]
  exact tail_ok _ m listed a w (Nat.le_refl _) (by omega) hB h
 | i::r,listed,a,w,hsz,hB,h=>by
  rw [show (i::r).length+(ops.size-m)=(r.length+(ops.size-m))+1 by rw [List.length_cons];omega]
  have hsz':(listed.setIfInBounds i true).size=ops.size:=by simpa using hsz
  simp only [heldB2] at hB
  cases ho:ops[i]? with
  | none=>rw [ho] at hB;cases hB
  | some o =>
   have ho2:ops.toList[i]? = some o:=by rw [Array.getElem?_toList];exact ho
   rw [ho] at hB
   simp only [pickO,ho2] at h
   cases he:effB o.op with
   | true =>
    simp only [he,Bool.and_eq_true,decide_eq_true_eq] at hB
    show (Region.ready .any ops listed=[]->Q .normal a w)/\∀ j∈Region.ready .any ops listed,wpOp P ops Q j (fun a' w'=>(j<m->Kb S w w')/\wpM P .any ops Q S m (r.length+(ops.size-m)) (listed.setIfInBounds j true) a' w') a w
    refine ⟨fun h0=>absurd (hB.1▸h0) (by simp),fun j hj => ?_⟩
    rw [hB.1] at hj
    have:j=i:=by simpa using hj
    subst this
    simp only [heldS,he] at h
    unfold wpOp
    simp only [ho]
    split
    ·rename_i hw
     rw [if_pos hw] at h
     exact .inl (Oper.wp_mono (fun a' w' h'=>⟨fun _=>h'.1,heldS2_ok hmn hsel hQ r _ a' w' hsz' hB.2 h'.2⟩) h)
    ·rename_i hw
     rw [if_neg hw] at h
     exact ⟨fun _=>Kb.refl S w,heldS2_ok hmn hsel hQ r _ _ w hsz' hB.2 h⟩
   | false =>
    simp only [he,Bool.and_eq_true] at hB
    simp only [heldS,he] at h
    obtain ⟨⟨⟨hr,hf⟩,hl⟩,hB'⟩:=hB
    obtain ⟨d1,d2,d3⟩:=okD_spec hl
    have hfr:∀ j oj,ops[j]? = some oj->j≠i->listed.getD j true=false->(∀ e∈oj.after,Region.binds .any e=true->e.on≠i)->o.apart ops oj=true:=fun j oj hj hne hun hno=>Region.free_spec ho hf j oj hj hne hun hno
    have hsl:=Region.noSelect_spec hsel
    by_cases hw:Region.wanted o (yielded ops a.tmps)=true
    ·rw [if_pos hw] at h
     obtain ⟨v,hv,h2⟩:=h
     exact wpM_first2 ho hsl (fun c a w hq=>(hQ c _ w hq).elim) _ d1 _ listed a w hsz d2 hfr d3 (by simpa using hr) (.inl ⟨hw,fun w' q=>hv w' (.inr q)⟩) (heldS2_ok hmn hsel hQ r _ _ w hsz' hB' h2)
    ·rw [if_neg hw] at h
     exact wpM_first2 ho hsl (fun c a w hq=>(hQ c _ w hq).elim) _ d1 _ listed a w hsz d2 hfr d3 (by simpa using hr) (.inr ⟨by simpa using hw,rfl⟩) (heldS2_ok hmn hsel hQ r _ _ w hsz' hB' h)
theorem wp_region_order2 {id:Nat} {a:Act} {w:World} (t:Nat) (ord:List Nat) (hm:P.follows .mixedOrders=true) (hsel:Region.noSelect ops=true) (hQ:∀ c a w,¬Q (.panic c) a w) (hn:Nat.beq (ord.length+t) ops.size=true)
  (hB:heldB2 ops (ops.size-t) ord (Array.replicate ops.size false)=true) (h:heldS P ops Q S (wpList P ops Q (ops.toList.drop (ops.size-t))) (pickO ops.toList ord) a { w with drawn:=w.drawn+1 }):(Code.region id ops true).wp P Q a w:=by
 refine wp_region_any hm ?_
 have hn':=Nat.eq_of_beq_eq_true hn
 have h1:=heldS2_ok (Nat.sub_le ..) hsel hQ ord (Array.replicate ops.size false) a _ (by simp) hB h
 rw [show ord.length+(ops.size-(ops.size-t))=ops.size by omega] at h1
 exact wpAny_of_M (S:=S) _ _ _ _ h1
end
section
variable {C:Cx} {s:St} {w:World}
theorem dhx (t:Nat) (S:Nat->Prop) (ord:List Nat) {i:Nat} {ops:Array Oper} {k:List Item} {l:Env} (h:∀ w',Dr w w'->Wk C (.reg (some (.h S t)) ops (pickO ops.toList ord) k l []) w')
  (hs:adv C.tab C.n C.ks 400 s = .code (.code (.region i ops true)::k) l:=by rfl) (hsel:Region.noSelect ops=true:=by kernel_rfl) (hn:Nat.beq (ord.length+t) ops.size=true:=by kernel_rfl) (hB:heldB2 ops (ops.size-t) ord (Array.replicate ops.size false)=true:=by kernel_rfl):Wk C s w:=by
 refine by_adv hs ⟨fun ht hfn a hA=>runs_wp (wp_region_order2 (S:=S) t ord (tab_mixed ht) hsel (fun c a w hq=>by cases hq.1) hn hB ?_)⟩
 exact (h _ ⟨rfl⟩).run ht hfn a hA
end
end Eng
end Go.Proofs.YtdjkoljonlcemaaGreat

/- Two steps of the engine: s[lo:hi:max]; append to a slice that is full. No program stands here. -/
namespace Go.Proofs.YtdjkoljonlcemaaGreat.Eng
open Go Go.RowKit
section
variable {C:Cx} {s:St} {w:World}
theorem append_full {P:Program} {w:World} {T e esz by' sz:Nat} {ag:Bool} {zr:List Value} (ht:tiOk P T ⟨.slice e esz by',sz,ag,zr⟩=true) (hsz:0<esz) {a:Option Addr} {n:Nat} {xs:List Value} (hx:Src w a n xs) (hlx:xs.length=n*esz)
  {ay:Option Addr} {m cy:Nat} {news:List Value} (hy:Src w ay m news) (hl:news.length=m*esz) (h1:news.all Value.oneCell'=true) (hb:(n+m)*by'<=140737488355328) (hn:n+m<=1152921504606846976) (ty:TypeId) :
  ∃ a' cap' w',(Builtin.append_ #[T,T] ty #[.slice a n n,.slice ay m cy]).run P w = .ok (.slice a' (n+m) cap') w'/\n+m<=cap'/\Src w' a' (n+m) (xs++news)/\Bl w w'/\∀ g o,a'=some ⟨g,o,none⟩->(m=0/\a=some ⟨g,o,none⟩)∨w.heap.size<=g:=by
 obtain ⟨d,x,z,hT⟩:=tiOk_und ht
 obtain ⟨rfl,hel⟩:=hT.sl _ _ _ rfl
 obtain ⟨y,zz,hyi,hys,hyb,hyz,hzc⟩:=elemOk_of hel
 rcases hy with ⟨rfl,rfl⟩ | ⟨b,o,rfl,hat⟩
 ·refine ⟨a,n,w,?_,Nat.le_refl _,by simpa using hx,Bl.refl _,fun g o hg => .inl ⟨rfl,hg⟩⟩
  cases a with
  | none =>
   rcases hx with ⟨rfl,rfl⟩ | ⟨b,o,e,_⟩
   ·cases ay <;> simp [Builtin.append_,run_underlying hT.und,sizeOf,typeInfo,hyi,Builtin.lenOf,Builtin.firstCells,loadCells,loadCellsFrom]
   ·cases e
  | some a=>cases ay <;> simp [Builtin.append_,run_underlying hT.und,sizeOf,typeInfo,hyi,Builtin.lenOf,Builtin.firstCells,storeCells,loadCells,loadCellsFrom]
 ·have hnews:∀ j u,news[j]? = some u->w.cell? ((⟨b,o,none⟩:Addr).add j)=some u:=fun j u hu=>by rw [add_none];exact hat j u hu
  cases a with
  | none =>
   rcases hx with ⟨rfl,rfl⟩ | ⟨b,o,e,_⟩
   ·obtain ⟨a',cap',w',hr,hO,hA,hf⟩:=append_run ht hsz (Ow.nil w w.heap.size e esz) (.inr ⟨b,o,rfl,hat⟩) hl h1 hb hn (Nat.le_refl _) ty (cy:=cy)
    refine ⟨a',cap',w',hr,?_,?_,hA.below (Nat.le_refl _) (fun g h=>by cases h),fun g o hg => ?_⟩
    ·exact hO.capn.1
    ·rcases hO.shape with ⟨h0,h1,h2,h3⟩ | ⟨g,_,rfl,_⟩
     ·exact .inl ⟨by omega,by rw [h3]⟩
     ·exact .inr ⟨g,0,rfl,hO.at rfl⟩
    ·rcases hO.shape with ⟨h0,h1,h2,h3⟩ | ⟨g',_,rfl,hb',_⟩
     ·rw [h0] at hg;cases hg
     ·simp only [Option.some.injEq,Addr.mk.injEq,and_true] at hg
      exact .inr (hg.1▸hb')
   ·cases e
  | some a =>
   rcases Nat.eq_zero_or_pos m with rfl | hm
   ·have:news=[]:=List.eq_nil_of_length_eq_zero (by rw [hl,Nat.zero_mul])
    subst this
    refine ⟨some a,n,w,?_,Nat.le_refl _,by simpa using hx,Bl.refl _,fun g o hg => .inl ⟨rfl,hg⟩⟩
    simp [Builtin.append_,run_underlying hT.und,sizeOf,typeInfo,hyi,Builtin.lenOf,Builtin.firstCells,storeCells,loadCells,loadCellsFrom]
   ·have holds:∀ j v,xs[j]? = some v->w.cell? (a.add j)=some v:=by
     rcases hx with ⟨rfl,rfl⟩ | ⟨b',o',e,h⟩
     ·intro j v hj;simp at hj
     ·simp only [Option.some.injEq] at e;subst e
      intro j v hj;rw [add_none];exact h j v hj
    have hr2:=run_append_grow (P:=P) w T ty _ y zz hT.und hyi hyz a n n xs (by rw [hys];exact hlx) holds ⟨b,o,none⟩ m cy news (by rw [hys];exact hl) hnews (by omega) (by omega) (growslice_fits (by omega) (by rw [hyb];exact hb))
    have hlen:(xs++news).length=(n+m)*y.size:=by rw [List.length_append,hlx,hl,hys,Nat.add_mul]
    have hge:=grownCap_ge w (n+m) n e
    have hcm:grownCap w (n+m) n e<=maxLen:=grownCap_le_maxLen w (n+m) n e (by unfold maxLen;omega)
    have hown:(w.drew.alloc (.cells (xs.toArray++news.toArray++Builtin.zeroCells zz.cells (grownCap w (n+m) n e-(n+m))) e)).ownsRow w.heap.size e y.size
      (.slice (some ⟨w.heap.size,0,none⟩) (n+m) (grownCap w (n+m) n e)) (n+m) (xs++news):=by
     refine ⟨hlen,.inr ⟨w.heap.size,_,_,rfl,Nat.le_refl _,World.alloc_heap_new w.drew _,hge,hcm,?_,?_⟩⟩
     ·simp only [Array.size_append,List.size_toArray,size_zeroCells,hzc,hlx,hl,hys,<-Nat.add_mul]
      congr 1
      omega
     ·simp only [Array.toList_append,List.append_assoc]
      rw [<-List.append_assoc,<-hlen]
      exact List.take_left
    refine ⟨_,_,_,hr2,hge,.inr ⟨_,_,rfl,(Ow.mk hown).at rfl⟩,((Below.refl _ w).drew).alloc (Nat.le_refl _) _,fun g o hg => ?_⟩
    simp only [Option.some.injEq,Addr.mk.injEq,and_true] at hg
    exact .inr (by rw [<-hg.1];exact Nat.le_refl _)
theorem apf {md:Option Md} {ops:Array Oper} {T T':TypeId} {x y:Operand} {d:Nat} {ty:TypeId} {pos:String} {af:Array Edge} {g:Option (Nat×Bool)} {rest:List Oper} {k:List Item} {l:Env} {c:CEnv} {e esz by' sz:Nat} {ag:Bool} {zr:List Value}
  {a:Option Addr} {n:Nat} {xs:List Value} {ay:Option Addr} {m cy:Nat} {news:List Value} (hx0:Src w a n xs) (hlx:xs.length=n*esz) (hsrc:Src w ay m news)
  (h:∀ a' cap' w',n+m<=cap'->Src w' a' (n+m) (xs++news)->Bl w w'->(∀ g o,a'=some ⟨g,o,none⟩->(m=0/\a=some ⟨g,o,none⟩)∨w.heap.size<=g)->Wk C (.reg md ops rest k ((d,.slice a' (n+m) cap')::l) c) w')
  (hs:adv C.tab C.n C.ks 400 s = .opn md ops ⟨some d,.call ⟨.builtin .append,#[x,y],#[T,T']⟩,ty,pos,af,g⟩ rest k l c []:=by rfl) (ht:C.tab.at T=some ⟨.slice e esz by',sz,ag,zr⟩:=by rfl)
  (hx:evc l c [] x=some (.slice a n n):=by rfl) (hy:evc l c [] y=some (.slice ay m cy):=by rfl) (hTT:T'=T:=by rfl) (hsz:Nat.blt 0 esz=true:=by rfl) (hl:news.length=m*esz:=by first | rfl | (simp;done) | omega) (h1:news.all Value.oneCell'=true:=by first | rfl | (simp;done))
  (hb:(n+m)*by'<=140737488355328:=by omega) (hn:n+m<=1152921504606846976:=by omega) (hf:fresh d l c []=true:=by rfl) (hm:∀ w',Bl w w'->mdW md w w':=by intros;exact True.intro) (hnt:notT md=true:=by rfl):Wk C s w:=by
 subst hTT
 refine by_adv hs ⟨fun hT hfn => ?_⟩
 obtain ⟨a',cap',w',hr,hc,hS,hbl,hfr⟩:=append_full (tab_at hT ht) (blt_lt hsz) hx0 hlx hsrc hl h1 hb hn ty (cy:=cy)
 refine (op_val0 (okW_of rfl hnt) (hm _ hbl) (fun _ a hA => ?_) (h a' cap' w' hc hS hbl hfr) rfl hf).run hT hfn
 simp only [execOp,resolve,List.map_toArray,List.map_cons,List.map_nil,evc_ok hA.k hA.kc.c (p:=[]) trivial hx,evc_ok hA.k hA.kc.c (p:=[]) trivial hy]
 show (Sem.bind (Sem.pure _) _).run C.P w=_
 simp only [Sem.bind,invoke,builtin]
 exact (run_bind_ok hr).trans rfl
end
end Go.Proofs.YtdjkoljonlcemaaGreat.Eng
namespace Go.Proofs.YtdjkoljonlcemaaGreat
open Eng Go.RowKit
theorem src_sl {α:Type} {sz:Nat} {enc:α->List Value} {h:∀ x,(enc x).length=sz} {S:Nat->Prop} {w:World} {a:Option Addr} {l:List α} (hS:Eng.Src w a l.length (l.flatMap enc)) (hb:l.length<=4194304) (ha:∀ g o,a=some ⟨g,o,none⟩->S g):Sl (plainEl sz enc h) S w a l:=by
 refine ⟨hb,fun i x hx => ?_⟩
 have hlt:=(List.getElem?_eq_some_iff.1 hx).1
 rcases hS with ⟨h0,_⟩ | ⟨b,o,rfl,hat⟩
 ·omega
 ·refine ⟨b,o,enc x,rfl,ha b o rfl,fun j v hj => ?_,rfl⟩
  have hj':=(List.getElem?_eq_some_iff.1 hj).1
  rw [h] at hj'
  have:=hat (i*sz+j) v (by rw [flat_get h hx j hj'];exact hj)
  rw [plain_sz,Nat.add_assoc];exact this
theorem sl_take {α:Type} {E:El α} {S:Nat->Prop} {w:World} {a:Option Addr} {l:List α} (h:Sl E S w a l) (n:Nat):Sl E S w a (l.take n) :=
 ⟨Nat.le_trans (by rw [List.length_take];omega) h.big,fun i x hx=>by
  rw [List.getElem?_take] at hx
  split at hx
  ·exact h.el i x hx
  ·cases hx⟩
theorem sl_drop {α:Type} {E:El α} {S:Nat->Prop} {w:World} {b o n:Nat} {l:List α} (h:Sl E S w (some ⟨b,o,none⟩) l):Sl E S w (some ⟨b,o+n*E.sz,none⟩) (l.drop n) :=
 ⟨Nat.le_trans (by rw [List.length_drop];omega) h.big,fun i x hx=>by
  rw [List.getElem?_drop] at hx
  obtain ⟨b',o',cs,e,hs,hat,hr⟩:=h.el _ x hx
  simp only [Option.some.injEq,Addr.mk.injEq,and_true] at e
  obtain ⟨rfl,rfl⟩:=e
  exact ⟨b,_,cs,rfl,hs,by rw [Nat.add_assoc,<-Nat.add_mul];exact hat,hr⟩⟩
theorem sl_from {α:Type} {E:El α} {S:Nat->Prop} {w:World} {a:Option Addr} {l:List α} {cap:Nat} (h:Sl E S w a l) (hc:l.length<=cap) (n:Nat):Sl E S w (if cap=n then a else a.map (·.add (n*E.sz))) (l.drop n):=by
 by_cases hn:n<l.length
 ·rw [if_neg (by omega)]
  obtain ⟨x,b,o,cs,hx,rfl,_⟩:=at_some h hn
  rw [Option.map_some,add_none]
  exact sl_drop h (n:=n)
 ·rw [List.drop_of_length_le (by omega)];exact Sl.nil ..
end Go.Proofs.YtdjkoljonlcemaaGreat

/- What a module is that link's Check takes; what is above a class; targets and calls. No program stands here. -/
namespace Go.Proofs.YtdjkoljonlcemaaGreat
open Eng Go.RowKit
def ityp (m:Mod) (t:Ty) (least:Int):Bool :=
 if t.kind=2∨t.kind=4 then decide (0<=t.cls)&&decide (t.cls<m.classes.length)
 else if t.kind=0∨t.kind=1∨t.kind=3 then decide (least<=t.kind)&&decide (t.cls=0) else false
def supM (m:Mod) (a:Int):Int:=((m.classes[a.toNat]?).map fun c=>c.super).getD (-1)
def chn (m:Mod):Nat->Int->List Int
 | 0,_=>[]
 | n+1,a=>if a<0 then [] else a::chn m n (supM m a)
def upM (m:Mod) (a:Int):List Int:=chn m (a.toNat+1) a
def Desc (m:Mod) (k:Nat):Prop:=k<=m.classes.length/\∀ (i:Nat) x,i<k->m.classes[i]? = some x -> -1<=x.super/\x.super<i
variable {m:Mod} {k:Nat}
theorem supM_at {i:Nat} {x:MC} (h:m.classes[i]? = some x):supM m (i:Int)=x.super:=by unfold supM;rw [Int.toNat_natCast,h];rfl
theorem sup_lt (h:Desc m k) {a:Int} (h0:0<=a) (ha:a<k) : -1<=supM m a/\supM m a<a:=by
 obtain ⟨i,rfl⟩:=Int.eq_ofNat_of_zero_le h0
 obtain ⟨x,hx⟩:=some_of_lt (l:=m.classes) (k:=i) (by have:=h.1;omega)
 rw [supM_at hx]
 exact h.2 i x (by omega) hx
theorem chn_neg {n:Nat} {a:Int} (h:a<0):chn m n a=[]:=by
 cases n with
 | zero=>rfl
 | succ n=>simp only [chn,if_pos h]
theorem chn_fuel (h:Desc m k):∀ (n n':Nat) (a:Int),a<k->a<n->a<n'->chn m n a=chn m n' a
 | 0,n',a,_,h1,_=>by rw [chn_neg (by omega),chn_neg (by omega)]
 | n+1,0,a,_,_,h2=>by rw [chn_neg (by omega),chn_neg (by omega)]
 | n+1,n'+1,a,ha,h1,h2=>by
  simp only [chn]
  split
  ·rfl
  ·obtain ⟨_,q2⟩:=sup_lt h (a:=a) (by omega) ha
   rw [chn_fuel h n n' (supM m a) (by omega) (by omega) (by omega)]
theorem upM_neg {a:Int} (h:a<0):upM m a=[]:=chn_neg h
theorem upM_step (h:Desc m k) {a:Int} (h0:0<=a) (ha:a<k):upM m a=a::upM m (supM m a):=by
 obtain ⟨q1,q2⟩:=sup_lt h h0 ha
 unfold upM
 rw [show chn m (a.toNat+1) a=a::chn m a.toNat (supM m a) from by simp only [chn,if_neg (show ¬a<0 by omega)]]
 congr 1
 exact chn_fuel h _ _ _ (by omega) (by omega) (by omega)
theorem upM_le (h:Desc m k):∀ (n:Nat) {a b:Int},a<n->a<k->b∈upM m a->0<=b/\b<=a
 | 0,a,b,h1,_,hb=>by rw [upM_neg (by omega)] at hb;cases hb
 | n+1,a,b,h1,ha,hb=>by
  rcases Classical.em (a<0) with h0 | h0
  ·rw [upM_neg h0] at hb;cases hb
  ·rw [upM_step h (by omega) ha] at hb
   obtain ⟨q1,q2⟩:=sup_lt h (a:=a) (by omega) ha
   rcases List.mem_cons.1 hb with rfl | hb
   ·omega
   ·have:=upM_le h n (a:=supM m a) (by omega) (by omega) hb
    omega
theorem upM_mem_le (h:Desc m k) {a b:Int} (ha:a<k) (hb:b∈upM m a):0<=b/\b<=a:=upM_le h k ha ha hb
theorem upM_self {a:Int} (h0:0<=a):a∈upM m a:=by
 unfold upM
 simp only [chn,if_neg (show ¬a<0 by omega)]
 exact List.mem_cons_self ..
def AscI (l:List Int):Prop:=l.Pairwise (· < ·)
theorem asc_eq:∀ {a b:List Int},AscI a->AscI b->(∀ x,x∈a↔x∈b)->a=b
 | [],[],_,_,_=>rfl
 | [],y::b,_,_,h=>by have:=(h y).2 (List.mem_cons_self ..);cases this
 | x::a,[],_,_,h=>by have:=(h x).1 (List.mem_cons_self ..);cases this
 | x::a,y::b,ha,hb,h=>by
  obtain ⟨a1,a2⟩:=List.pairwise_cons.1 ha
  obtain ⟨b1,b2⟩:=List.pairwise_cons.1 hb
  have e:x=y:=by
   rcases List.mem_cons.1 ((h x).1 (List.mem_cons_self ..)) with q | q
   ·exact q
   ·rcases List.mem_cons.1 ((h y).2 (List.mem_cons_self ..)) with p | p
    ·exact p.symm
    ·have:=b1 x q;have:=a1 y p;omega
  subst e
  rw [asc_eq a2 b2 fun z => ?_]
  constructor
  ·intro hz
   rcases List.mem_cons.1 ((h z).1 (List.mem_cons_of_mem _ hz)) with q | q
   ·subst q;exact absurd (a1 z hz) (by omega)
   ·exact q
  ·intro hz
   rcases List.mem_cons.1 ((h z).2 (List.mem_cons_of_mem _ hz)) with q | q
   ·subst q;exact absurd (b1 z hz) (by omega)
   ·exact q
def insI (x:Int):List Int->List Int
 | []=>[x]
 | y::l=>if x<y then x::y::l else if x=y then y::l else y::insI x l
theorem mem_insI {x z:Int}:∀ {l:List Int},z∈insI x l↔z=x∨z∈l
 | []=>by simp [insI]
 | y::l=>by
  unfold insI
  split
  ·simp
  ·split
   ·rename_i h;subst h;simp
   ·simp only [List.mem_cons,mem_insI (l:=l)]
    exact or_left_comm
theorem asc_insI {x:Int}:∀ {l:List Int},AscI l->AscI (insI x l)
 | [],_=>by simp [insI,AscI]
 | y::l,h=>by
  obtain ⟨h1,h2⟩:=List.pairwise_cons.1 h
  unfold insI
  split
  ·rename_i q
   refine List.pairwise_cons.2 ⟨fun z hz => ?_,h⟩
   rcases List.mem_cons.1 hz with rfl | hz
   ·exact q
   ·have:=h1 z hz;omega
  ·split
   ·exact h
   ·refine List.pairwise_cons.2 ⟨fun z hz => ?_,asc_insI h2⟩
    rcases mem_insI.1 hz with rfl | hz
    ·omega
    ·exact h1 z hz
def srtI (l:List Int):List Int:=l.foldr insI []
theorem srtI_asc:∀ (l:List Int),AscI (srtI l)
 | []=>List.Pairwise.nil
 | _::l=>asc_insI (srtI_asc l)
theorem mem_srtI {z:Int}:∀ {l:List Int},z∈srtI l↔z∈l
 | []=>Iff.rfl
 | x::l=>by
  show z∈insI x (srtI l)↔_
  rw [mem_insI,mem_srtI (l:=l),List.mem_cons]
theorem srtI_of {a l:List Int} (ha:AscI a) (h:∀ x,x∈a↔x∈l):a=srtI l:=asc_eq ha (srtI_asc l) fun x=>by rw [h,mem_srtI]
def rawT (m:Mod) (s:Nat):List Int:=(m.classes.map fun c=>c.table.getD s (-1)).filter fun n=>decide (0<=n)
def trgM (m:Mod) (s:Nat):List Int:=srtI (rawT m s)
def calO (m:Mod) (i:Ins):List Int:=if i.op=25 then [i.a] else if i.op=26 then trgM m i.a.toNat else []
def calM (m:Mod) (k:Nat):List Int:=srtI ((((m.methods[k]?).map fun x=>x.code).getD []).flatMap (calO m))
structure EntP (m:Mod) (k:Nat) (x:MC) (s:Nat) (n:Int):Prop where
 lo : -1<=n
 hi:n<m.methods.length
 own:0<=n->∃ y z,m.methods[n.toNat]? = some y/\y.cls∈upM m k/\m.classes[y.cls.toNat]? = some z/\z.table[s]? = some n
 up:n<0->0<=x.super->∀ y q,m.classes[x.super.toNat]? = some y->y.table[s]? = some q->q<0
structure ClsP (m:Mod) (k:Nat) (x:MC):Prop where
 s1 : -1<=x.super
 s2:x.super<k
 fl:x.fields.length<=7
 ft:∀ t∈x.fields,ityp m t 1=true
 tl:(x.table.length:Int)=m.sels
 tb:∀ s n,x.table[s]? = some n->EntP m k x s n
 up:0<=x.super->∀ y,m.classes[x.super.toNat]? = some y->y.fields.length<=x.fields.length/\x.fields.take y.fields.length=y.fields
def mcl (m:Mod) (n:Int):Int:=((m.methods[n.toNat]?).map fun x=>x.cls).getD 0
def oprB (m:Mod) (k:Nat) (i:Ins):Bool :=
 if i.op=12 then decide (i.a=3)||decide (i.b<m.classes.length)
 else if i.op=14∨i.op=24 then decide (i.a<m.classes.length)
 else if i.op=16 then decide (i.b<m.classes.length)
 else if i.op=22∨i.op=23 then decide (i.a<m.statics.length)
 else if i.op=25 then decide (i.a<k)&&decide (mcl m i.a = -1)
 else if i.op=26 then decide (i.a<m.sels)&&(trgM m i.a.toNat).all fun t=>decide (t<k)
 else true
structure MthP (m:Mod) (k:Nat) (x:MM):Prop where
 c1 : -1<=x.cls
 c2:x.cls<m.classes.length
 pl:x.params.length<=4
 ll:(x.params.length:Int)+x.locals.length+(if 0<=x.cls then 1 else 0)<=10
 pt:∀ t∈x.params,ityp m t 1=true
 lt:∀ t∈x.locals,ityp m t 1=true
 rt:ityp m x.result 0=true
 cd:codeE x.code false=0
 op:∀ i∈x.code,oprB m k i=true
def AlkP (m:Mod) (s:Nat):Prop:=∀ t∈trgM m s,∀ u∈trgM m s,∀ x y,m.methods[t.toNat]? = some x->m.methods[u.toNat]? = some y->x.params=y.params/\x.result=y.result
structure ModP (m:Mod):Prop where
 cl:m.classes.length<=10
 sl:m.statics.length<=10
 ml:m.methods.length<=16
 z0:0<=m.sels
 z1:m.sels<=16
 cls:∀ k x,m.classes[k]? = some x->ClsP m k x
 sta:∀ t∈m.statics,ityp m t 1=true
 mth:∀ k x,m.methods[k]? = some x->MthP m k x
 alk:∀ s:Nat,s<m.sels->AlkP m s
open Classical in
noncomputable def mchkE (m:Mod):Int:=if ModP m then 0 else 1
theorem desc_of {k:Nat} (hk:k<=m.classes.length) (h:∀ i x,i<k->m.classes[i]? = some x->ClsP m i x):Desc m k:=⟨hk,fun i x hi hx=>⟨(h i x hi hx).s1,(h i x hi hx).s2⟩⟩
theorem ModP.desc (h:ModP m):Desc m m.classes.length:=desc_of (Nat.le_refl _) fun i x _ hx=>h.cls i x hx
theorem rawT_le (m:Mod) (s:Nat):(rawT m s).length<=m.classes.length:=by
 unfold rawT
 refine Nat.le_trans (List.length_filter_le _ _) ?_
 rw [List.length_map];exact Nat.le_refl _
theorem mem_rawT {s:Nat} {t:Int}:t∈rawT m s↔0<=t/\∃ c∈m.classes,c.table.getD s (-1)=t:=by
 unfold rawT
 rw [List.mem_filter,List.mem_map,decide_eq_true_eq,and_comm]
theorem mem_trg {s:Nat} {t:Int}:t∈trgM m s↔0<=t/\∃ c∈m.classes,c.table.getD s (-1)=t:=by unfold trgM;rw [mem_srtI,mem_rawT]
theorem insI_len (x:Int):∀ (l:List Int),(insI x l).length<=l.length+1
 | []=>Nat.le_refl _
 | y::l=>by
  unfold insI
  split
  ·simp
  ·split
   ·simp
   ·have:=insI_len x l;simp only [List.length_cons];omega
theorem srtI_len:∀ (l:List Int),(srtI l).length<=l.length
 | []=>Nat.le_refl _
 | x::l=>by
  have:=srtI_len l
  have:=insI_len x (srtI l)
  show (insI x (srtI l)).length<=_
  simp only [List.length_cons];omega
theorem trg_len (s:Nat):(trgM m s).length<=m.classes.length:=Nat.le_trans (srtI_len _) (rawT_le m s)
theorem ModP.trg (h:ModP m) {s:Nat} {t:Int} (ht:t∈trgM m s):0<=t/\t<m.methods.length:=by
 obtain ⟨h0,c,hc,e⟩:=mem_trg.1 ht
 obtain ⟨k,hk⟩:=List.mem_iff_getElem?.1 hc
 cases hs:c.table[s]? with
 | none=>rw [List.getD_eq_getElem?_getD,hs] at e;simp at e;omega
 | some n =>
  rw [List.getD_eq_getElem?_getD,hs] at e
  simp only [Option.getD_some] at e
  subst e
  exact ⟨h0,((h.cls k c hk).tb s n hs).hi⟩
end Go.Proofs.YtdjkoljonlcemaaGreat

/- Walks: slices.Sort and slices.Compact at numbers. -/
namespace Go.Proofs.YtdjkoljonlcemaaGreat
open Eng Go.RowKit Go.Sort
theorem compactI_at {zs:List Int} {x:Int}:x∈Lib.compact zs↔∃ j,j<zs.length/\Lib.keeps zs.toArray j=true/\zs.getD j 0=x:=by
 unfold Lib.compact Lib.compactUpTo
 simp only [List.mem_map,List.mem_filter,List.mem_range]
 constructor
 ·rintro ⟨j,⟨h1,h2⟩,h3⟩
  exact ⟨j,h1,h2,by simpa [h1] using h3⟩
 ·rintro ⟨j,h1,h2,h3⟩
  exact ⟨j,⟨h1,h2⟩,by simpa [h1] using h3⟩
theorem keepsI_iff {zs:List Int} {j:Nat} (h:j<zs.length):Lib.keeps zs.toArray j=true↔j=0∨zs.getD (j-1) 0≠zs.getD j 0:=by
 unfold Lib.keeps
 rw [decide_eq_true_eq]
 constructor
 ·rintro (h0 | h1)
  ·exact .inl h0
  ·refine .inr fun e => ?_
   simp [h,show j-1<zs.length by omega] at h1 e
   exact h1 e.symm
 ·rintro (h0 | h1)
  ·exact .inl h0
  ·refine .inr ?_
   simp [h,show j-1<zs.length by omega] at h1 ⊢
   exact fun e=>h1 e.symm
theorem compactI_mem {zs:List Int} {x:Int}:x∈Lib.compact zs↔x∈zs:=by
 rw [compactI_at]
 constructor
 ·rintro ⟨j,h1,_,rfl⟩
  simp [h1]
 ·intro hx
  obtain ⟨i,hi,rfl⟩:=List.getElem_of_mem hx
  have key:∀ n,n<zs.length->∃ j,j<zs.length/\Lib.keeps zs.toArray j=true/\zs.getD j 0=zs.getD n 0:=by
   intro n
   induction n with
   | zero=>intro h;exact ⟨0,h,(keepsI_iff h).2 (.inl rfl),rfl⟩
   | succ n ih =>
    intro h
    by_cases e:zs.getD n 0=zs.getD (n+1) 0
    ·obtain ⟨j,h1,h2,h3⟩:=ih (by omega)
     exact ⟨j,h1,h2,h3.trans e⟩
    ·exact ⟨n+1,h,(keepsI_iff h).2 (.inr (by simpa using e)),rfl⟩
  obtain ⟨j,h1,h2,h3⟩:=key i hi
  exact ⟨j,h1,h2,by rw [h3];simp [hi]⟩
theorem compactI_lt {zs:List Int} (hs:zs.Pairwise (· <= ·)):AscI (Lib.compact zs):=by
 have hp:∀ i j,i<=j->j<zs.length->zs.getD i 0<=zs.getD j 0:=fun i j hij hj=>by
  rcases Nat.eq_or_lt_of_le hij with rfl | h
  ·exact Int.le_refl _
  ·have:=List.pairwise_iff_getElem.1 hs i j (by omega) hj h
   simpa [hj,show i<zs.length by omega] using this
 unfold AscI Lib.compact Lib.compactUpTo
 rw [List.pairwise_map]
 have hr:((List.range zs.toArray.size).filter (Lib.keeps zs.toArray)).Pairwise (· < ·):=List.pairwise_lt_range.filter _
 refine List.Pairwise.imp_of_mem (fun {i j} hi hj hij => ?_) hr
 simp only [List.mem_filter,List.mem_range] at hi hj
 have h1:=hp i (j-1) (by omega) (by omega)
 have h2:=hp (j-1) j (by omega) hj.1
 have h3:zs.getD (j-1) 0≠zs.getD j 0:=by
  rcases (keepsI_iff hj.1).1 hj.2 with q | q
  ·omega
  ·exact q
 have h5:zs.getD i 0<zs.getD j 0:=by omega
 simpa [hi.1,hj.1] using h5
def sortI (l:List Int):List Int:=l.mergeSort fun x y=>decide (x<=y)
theorem sortI_le (l:List Int):(sortI l).Pairwise (· <= ·):=by
 have:=List.pairwise_mergeSort (le:=fun x y:Int=>decide (x<=y)) (fun a b c h1 h2=>by simp at *;omega) (fun a b=>by simp;omega) l
 exact this.imp fun h=>of_decide_eq_true h
theorem compactI_srt (l:List Int):Lib.compact (sortI l)=srtI l:=srtI_of (compactI_lt (sortI_le l)) fun x=>by rw [compactI_mem];exact List.mem_mergeSort
theorem encI_map (l:List Int):l.flatMap encInt=l.map (Value.int .i64):=by
 induction l with
 | nil=>rfl
 | cons x l ih=>rw [List.flatMap_cons,ih];rfl
theorem ap_grownI {w w':World} {g:Nat} (h:w.grownBy w' (some g)):Ap w (some ⟨g,0,none⟩) w':=by
 obtain ⟨q1,q2,q3,q4,q5⟩:=h
 first
  | exact ⟨q1,q2,q3,q4,fun k hk hne=>q5 k hk fun e=>hne (by cases e;rfl)⟩
  | exact ⟨q1,q3,q2,q4,fun k hk hne=>q5 k hk fun e=>hne (by cases e;rfl)⟩
theorem c_SortI (l:List Int) (base:Nat) (a:Option Addr) (cap:Nat) (w:World) (hO:OwP 1 encInt w base 3 a cap l) (hl:l.length<=4194304) :
  Ret Tryz.prog 215 #[.slice a l.length cap] w fun _ w'=>OwP 1 encInt w' base 3 a cap (sortI l)/\Ap w a w':=by
 have hsl:(sortI l).length=l.length:=by unfold sortI;rw [List.length_mergeSort]
 refine ⟨by kernel_rfl,?_⟩
 unfold OwP at hO ⊢
 rw [encI_map] at hO ⊢
 obtain ⟨_,h2⟩:=hO.own
 rcases h2 with ⟨h3,h4⟩ | ⟨g,cap',cur,h2,hg,hgb,r1,r2,r3,r4⟩
 ·simp only [Value.slice.injEq] at h3
  obtain ⟨rfl,h0,rfl⟩:=h3
  have:l=[]:=List.eq_nil_of_length_eq_zero h0
  subst this
  refine (Tryz.slices_Sort_int_none none 0 w).mono ?_
  rintro e w' ⟨rfl,rfl⟩
  have e0:sortI ([]:List Int)=[]:=by simp [sortI]
  rw [e0]
  exact ⟨Ow.nil ..,⟨rfl,rfl,rfl,Nat.le_refl _,fun _ _ _=>rfl⟩⟩
 ·simp only [Value.slice.injEq] at h2
  obtain ⟨rfl,_,rfl⟩:=h2
  have hH:Holds (Value.int .i64) w g 0 l.toArray:=holds_of_blockI hgb (by simpa using r4)
  refine (Tryz.slices_Sort_int g 0 cap l w hH (Array.getElem?_eq_some_iff.1 hgb).1 (by omega)).mono ?_
  rintro e w' ⟨rfl,n,os,rfl⟩
  refine ⟨⟨?_⟩,ap_grownI (grownBy_sortedI _)⟩
  have:=ownsRow_sortedI (ss:=l) (ts:=sortI l) (os:=os) (n:=n) hsl hg hgb r1 r2 r3
  rw [hsl]
  exact this
theorem c_CompactI (zs:List Int) (base:Nat) (a:Option Addr) (cap:Nat) (w:World) (hO:OwP 1 encInt w base 3 a cap zs) (hl:zs.length<=4194304) :
  Ret Tryz.prog 216 #[.slice a zs.length cap] w fun v w'=>v = .slice a (Lib.compact zs).length cap/\OwP 1 encInt w' base 3 a cap (Lib.compact zs)/\Ap w a w':=by
 have hle:=Lib.compact_length_le zs
 refine ⟨by kernel_rfl,?_⟩
 unfold OwP at hO ⊢
 rw [encI_map] at hO ⊢
 obtain ⟨_,h2⟩:=hO.own
 rcases h2 with ⟨h3,h4⟩ | ⟨g,cap',cur,h2,hg,hgb,r1,r2,r3,r4⟩
 ·simp only [Value.slice.injEq] at h3
  obtain ⟨rfl,h0,rfl⟩:=h3
  have:zs=[]:=List.eq_nil_of_length_eq_zero h0
  subst this
  refine (Tryz.slices_Compact_int_empty none 0 w).mono ?_
  rintro e w' ⟨rfl,rfl⟩
  exact ⟨rfl,Ow.nil ..,⟨rfl,rfl,rfl,Nat.le_refl _,fun _ _ _=>rfl⟩⟩
 ·simp only [Value.slice.injEq] at h2
  obtain ⟨rfl,_,rfl⟩:=h2
  have hH:Holds (Value.int .i64) w g 0 zs.toArray:=holds_of_blockI hgb (by simpa using r4)
  refine (Tryz.slices_Compact_int g 0 cap zs w hH (by omega) r1).mono ?_
  rintro e w' ⟨rfl,q,hw⟩
  rw [<-Go.Sort.grow_empty (putRow _ _ _ _ _)] at hw
  have e1:(Lib.compact zs++List.replicate (zs.length-(Lib.compact zs).length) 0).length=zs.length:=by rw [List.length_append,List.length_replicate];omega
  have hrow:=ownsRow_sortedI (ss:=zs) (ts:=Lib.compact zs++List.replicate (zs.length-(Lib.compact zs).length) 0) (os:=#[]) (n:=q) e1 hg hgb r1 r2 r3
  rw [<-hw] at hrow
  have hO2:Ow w' base 3 1 (some ⟨g,0,none⟩) zs.length cap ((Lib.compact zs++List.replicate (zs.length-(Lib.compact zs).length) 0).map (Value.int .i64)):=⟨hrow⟩
  have hO3:=hO2.cut hle
  refine ⟨rfl,?_,?_⟩
  ·have e2:((Lib.compact zs++List.replicate (zs.length-(Lib.compact zs).length) 0).map (Value.int .i64)).take ((Lib.compact zs).length*1)=(Lib.compact zs).map (Value.int .i64):=by
    rw [Nat.mul_one,List.map_append,List.take_left' (by simp)]
   rw [e2] at hO3;exact hO3
  ·rw [hw];exact ap_grownI (grownBy_sortedI _)
end Go.Proofs.YtdjkoljonlcemaaGreat
