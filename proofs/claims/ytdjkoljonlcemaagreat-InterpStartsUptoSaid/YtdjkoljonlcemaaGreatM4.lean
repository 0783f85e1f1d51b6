import Derived.Test.YtdjkoljonlcemaaGreatM3
import Derived.Test.YtdjkoljonlcemaaGreatM2
import Derived.RangeFuncNested
import Derived.RangeFuncBound
import Derived.RangeFuncCalls
import Derived.RangeFuncLeaves
import Derived.Shelf.Abstract
import Derived.Shelf.RegionOpen
import Derived.WalkKit
import Derived.OwnWalkIn
import Derived.TacticsInMore
import Derived.LoopNIn
import Derived.LoopIn
/- Walks: Chain, in the program and in the document. -/
namespace Go.Proofs.YtdjkoljonlcemaaGreat
open Eng Go.RowKit
structure Chg (bs:Nat->Prop) (w w':World):Prop where
 os:w'.os=w.os
 tape:w'.tape=w.tape
 output:w'.output=w.output
 size:w.heap.size<=w'.heap.size
 block:∀ k,k<w.heap.size->¬bs k->w'.heap[k]? = w.heap[k]?
theorem Chg.refl (bs:Nat->Prop) (w:World):Chg bs w w:=⟨rfl,rfl,rfl,Nat.le_refl _,fun _ _ _=>rfl⟩
theorem Chg.trans {bs:Nat->Prop} {w w1 w2:World} (h:Chg bs w w1) (k:Chg bs w1 w2):Chg bs w w2 :=
 ⟨k.os.trans h.os,k.tape.trans h.tape,k.output.trans h.output,Nat.le_trans h.size k.size,fun i hi hn=>(k.block i (Nat.lt_of_lt_of_le hi h.size) hn).trans (h.block i hi hn)⟩
theorem Bl.chg {w w':World} (h:Bl w w') (bs:Nat->Prop):Chg bs w w':=⟨h.os,h.tape,h.output,h.size,fun k hk _=>h.block k hk⟩
theorem Eng.Wr.chg {w w':World} {b:Nat} (h:Wr w b w') {bs:Nat->Prop} (hb:bs b):Chg bs w w' :=
 ⟨h.os,h.tape,h.output,by rw [h.size];exact Nat.le_refl _,fun k _ hn=>h.block k fun e=>hn (e▸hb)⟩
theorem Eng.Ap.chg {w w':World} {a:Option Addr} (h:Ap w a w') {bs:Nat->Prop} (hb:∀ g,a=some ⟨g,0,none⟩->g<w.heap.size->bs g):Chg bs w w' :=
 ⟨h.os,h.tape,h.output,h.size,fun k hk hn=>h.block k hk fun e=>hn (hb k e hk)⟩
theorem Chg.below {bs:Nat->Prop} {w w':World} (h:Chg bs w w') {B:Nat} (hB:B<=w.heap.size) (hb:∀ b,bs b->B<=b):Below B w w' :=
 ⟨h.os,h.tape,h.output,h.size,fun k hk=>h.block k (by omega) fun q=>by have:=hb k q;omega⟩
theorem Chg.box {bs:Nat->Prop} {w w':World} (h:Chg bs w w') {b:Nat} {t:TypeId} {cs:List Value} (hb:Box w b t cs) (hn:¬bs b):Box w' b t cs:=by unfold Box;rw [h.block b hb.lt hn];exact hb
theorem Chg.kp {bs:Nat->Prop} {w w':World} (h:Chg bs w w'):Kp (fun b=>¬bs b) w w':=fun b o v s x=>by rw [World.cell?_of_block (w:=w) (h.block b (cell_lt x) s)];exact x
theorem Chg.sub {bs bs':Nat->Prop} {w w':World} (h:Chg bs w w') (k:∀ b,bs b->bs' b):Chg bs' w w':=⟨h.os,h.tape,h.output,h.size,fun i hi hn=>h.block i hi fun q=>hn (k i q)⟩
end Go.Proofs.YtdjkoljonlcemaaGreat

/- Walks: the verifier's state as it lies; its small functions. -/
namespace Go.Proofs.YtdjkoljonlcemaaGreat
open Eng Go.RowKit
abbrev brc (x:Brv) (a1:Option Addr) (c1:Nat) (a2:Option Addr) (c2:Nat):List Value:=[I x.op,.slice a1 x.beg.length c1,.slice a2 x.fst.length c2,.bool x.mid]
def eBr:El Brv :=
 {sz:=4,rel:=fun S w cs x=>∃ a1 c1 a2 c2,cs=brc x a1 c1 a2 c2/\Sl eTy S w a1 x.beg/\Sl eTy S w a2 x.fst/\x.beg.length<=c1/\x.fst.length<=c2
  len:=fun ⟨_,_,_,_,e,_⟩=>by rw [e];rfl
  kp:=fun k ⟨a1,c1,a2,c2,e,h1,h2,h3⟩=>⟨a1,c1,a2,c2,e,h1.kp k,h2.kp k,h3⟩
  sub:=fun k ⟨a1,c1,a2,c2,e,h1,h2,h3⟩=>⟨a1,c1,a2,c2,e,h1.sub k,h2.sub k,h3⟩ }
structure CX where
 b:Nat
 m:Mod
 a:MA
 la:Option Addr
 lc:Nat
 loc:List Ty
 oa:Option Addr
 oc:Nat
 ops:List Brv
 sa:Option Addr
 sc:Nat
 st:List Ty
 G:Nat->Prop
abbrev ckc (X:CX) (e:Int):List Value:=[.slice X.a.a1 X.m.classes.length X.a.c1,.slice X.a.a2 X.m.statics.length X.a.c2,.slice X.a.a3 X.m.methods.length X.a.c3,I X.m.sels,.slice X.la X.loc.length X.lc,.slice X.sa X.st.length X.sc,.slice X.oa X.ops.length X.oc,I e]
abbrev CX.S (X:CX):Nat->Prop:=fun i=>i≠X.b/\X.oa≠some ⟨i,0,none⟩/\X.G i
abbrev CX.at (X:CX):Nat->Prop:=fun i=>i=X.b
structure CkR (w:World) (X:CX) (e:Int):Prop where
 box:Box w X.b 195 (ckc X e)
 lo:MdR (· < X.b) w X.m X.a
 ll:Sl eTy (· < X.b) w X.la X.loc
 st:Sl eTy X.S w X.sa X.st
 op:OwC eBr (fun i=>i≠X.b/\X.G i) w (X.b+1) 254 X.oa X.oc X.ops
 cap:X.st.length<=X.sc
 gn:∀ i,w.heap.size<=i->X.G i
 gb:∀ i,i<X.b->X.G i
theorem CkR.low {w:World} {X:CX} {e:Int} (h:CkR w X e) {i:Nat} (hi:i<X.b):X.S i:=⟨Nat.ne_of_lt hi,fun z=>by have:=h.op.lt z;omega,h.gb _ hi⟩
theorem CkR.mod {w:World} {X:CX} {e:Int} (h:CkR w X e):MdR X.S w X.m X.a:=h.lo.sub fun _ hi=>h.low hi
theorem CkR.loc {w:World} {X:CX} {e:Int} (h:CkR w X e):Sl eTy X.S w X.la X.loc:=h.ll.sub fun _ hi=>h.low hi
theorem CkR.bl {w w':World} {X:CX} {e:Int} (h:CkR w X e) (k:Bl w w'):CkR w' X e:=⟨Bl.box k h.box,h.lo.bl k,h.ll.bl k,h.st.bl k,h.op.bl k,h.cap,fun i hi=>h.gn i (Nat.le_trans k.size hi),h.gb⟩
theorem CkR.wr {w w':World} {X:CX} {e e':Int} (h:CkR w X e) (k:Wr w X.b w') (hb:Box w' X.b 195 (ckc X e')):CkR w' X e' :=
 have kk:Kp X.S w w':=k.kp fun _ hi=>hi.1
 have kl:Kp (· < X.b) w w':=k.kp fun _ hi=>Nat.ne_of_lt hi
 ⟨hb,h.lo.kp kl,h.ll.kp kl,h.st.kp kk,h.op.wr k (Nat.lt_succ_self _) fun _ hi=>hi.1,h.cap,fun i hi=>h.gn i (by rw [<-k.size];exact hi),h.gb⟩
theorem OwC.chg {α:Type} {E:El α} {R:Nat->Prop} {w w':World} {base e cap:Nat} {a:Option Addr} {l:List α} {bs:Nat->Prop} (h:OwC E R w base e a cap l) (k:Chg bs w w') (hb:∀ g,a=some ⟨g,0,none⟩->¬bs g) (hR:∀ i,R i->¬bs i):OwC E R w' base e a cap l:=by
 obtain ⟨xs,h1,h2,h3,h4⟩:=h.row
 exact ⟨xs,h1,h2,h3.same fun g hg=>k.block g (h3.lt hg).2 (hb g hg),fun i cs x hi hl=>E.sub (fun b hb=>⟨hb.1,hb.2.1,Nat.lt_of_lt_of_le hb.2.2 k.size⟩) (E.kp (k.kp.sub fun i hi=>hR i hi.1) (h4 i cs x hi hl))⟩
theorem Chg.wrn {bs:Nat->Prop} {w w1 w2:World} {b:Nat} (h:Chg bs w w1) (k:Wr w1 b w2) (hb:w.heap.size<=b):Chg bs w w2 :=
 ⟨k.os.trans h.os,k.tape.trans h.tape,k.output.trans h.output,by rw [k.size];exact h.size,fun i hi hn=>(k.block i (by omega)).trans (h.block i hi hn)⟩
theorem CkR.chg {w w':World} {X:CX} {e e':Int} (h:CkR w X e) (k:Chg X.at w w') (hb:Box w' X.b 195 (ckc X e')):CkR w' X e' :=
 have kk:Kp X.S w w':=k.kp.sub fun _ hi=>hi.1
 have kl:Kp (· < X.b) w w':=k.kp.sub fun _ hi=>Nat.ne_of_lt hi
 ⟨hb,h.lo.kp kl,h.ll.kp kl,h.st.kp kk,h.op.chg k (fun g hg q=>by have:=(h.op.lt hg).1;simp only [CX.at] at q;omega) fun _ hi=>hi.1,h.cap,fun i hi=>h.gn i (Nat.le_trans k.size hi),h.gb⟩
theorem CkR.wrn {w w1 w2:World} {X:CX} {e e':Int} {b:Nat} (h:CkR w X e) (h1:CkR w1 X e') (k:Chg X.at w w1) (q:Wr w1 b w2) (hb:w.heap.size<=b):CkR w2 X e'/\Chg X.at w w2 :=
 ⟨h.chg (k.wrn q hb) (q.box h1.box (by have:=h.box.lt;omega)),k.wrn q hb⟩
theorem CkR.modAt {w:World} {X:CX} {e:Int} (h:CkR w X e):At w X.b 0 (modcells X.m X.a):=fun j v hj=>by
 have hlt:j<4:=(List.getElem?_eq_some_iff.1 hj).1
 refine h.box.at j v ?_
 rw [<-hj]
 match j,hlt with
 | 0,_=>rfl
 | 1,_=>rfl
 | 2,_=>rfl
 | 3,_=>rfl
abbrev ptr (b:Nat):Value := .pointer (some ⟨b,0,none⟩)
variable {w:World} {X:CX} {e:Int}
theorem v_fail (c:Int) (h:CkR w X e):Ret Tryz.prog 179 #[ptr X.b,I c] w fun _ w'=>CkR w' X (if e=0 then c else e)/\Chg X.at w w':=by
 refine entr (vs:=[ptr X.b,I c]) [0,1,8] tabok Tryz.func179 (by kernel_rfl) ?_
 refine ld (h.box.cell rfl) ?_
 by_cases h0:e=0
 ·refine brT ?_ (hp:=h0)
  refine st h.box (fun w1 k1 x1 => ?_)
  refine en ⟨?_,k1.chg rfl⟩
  rw [if_pos h0]
  exact h.wr k1 x1
 ·refine brF ?_ (hp:=h0)
  refine en ⟨?_,Chg.refl _ _⟩
  rw [if_neg h0];exact h
def wnt (e:Int) (t:Bool):Int:=if t=true then e else if e=0 then 11 else e
theorem v_want (t:Bool) (h:CkR w X e):Ret Tryz.prog 116 #[ptr X.b,.bool t] w fun _ w'=>CkR w' X (wnt e t)/\Chg X.at w w':=by
 refine entr (vs:=[ptr X.b,.bool t]) [0,1,5] tabok Tryz.func116 (by kernel_rfl) ?_
 cases t with
 | true =>
  refine brf ?_
  exact en ⟨h,Chg.refl _ _⟩
 | false =>
  refine brt ?_
  refine cl (v_fail 11 h) ?_
  rintro _ w1 ⟨h1,k1⟩
  exact en ⟨h1,k1⟩
theorem v_number (w:World):Ret Tryz.prog 117 #[] w fun v w'=>v = .agg #[I 1,I 0]/\Bl w w':=by
 refine entr (vs:=[]) [0] tabok Tryz.func117 (by kernel_rfl) ?_
 refine al fun b w1 h1 => ?_
 refine bd ?_
 refine sta h1.box fun w2 h2 x2 => ?_
 exact rtc x2.at ⟨rfl,h1.wr h2⟩
theorem v_numbers (w:World):Ret Tryz.prog 183 #[] w fun v w'=>v = .agg #[I 3,I 0]/\Bl w w':=by
 refine entr (vs:=[]) [0] tabok Tryz.func183 (by kernel_rfl) ?_
 refine al fun b w1 h1 => ?_
 refine bd ?_
 refine sta h1.box fun w2 h2 x2 => ?_
 exact rtc x2.at ⟨rfl,h1.wr h2⟩
theorem v_object (c:Int) (w:World):Ret Tryz.prog 182 #[I c] w fun v w'=>v = .agg #[I 2,I c]/\Bl w w':=by
 refine entr (vs:=[I c]) [0,2] tabok Tryz.func182 (by kernel_rfl) ?_
 refine al fun b w1 h1 => ?_
 refine bd ?_
 refine sta h1.box fun w2 h2 x2 => ?_
 exact rtc x2.at ⟨rfl,h1.wr h2⟩
def resL (t:Ty):List Ty:=if t.kind=0 then [] else [t]
theorem v_results (t:Ty) (w:World):Ret Tryz.prog 83 #[.agg (encTy t).toArray] w fun v w'=>∃ a,v = .slice a (resL t).length (resL t).length/\Sl eTy (fun i=>w.heap.size<=i) w' a (resL t)/\Bl w w':=by
 refine entr (vs:=[.agg (encTy t).toArray]) [0,1,2,5] tabok Tryz.func83 (by kernel_rfl) ?_
 refine bx (cs:=encTy t) fun b w1 h1 => ?_
 refine ld (h1.box.cell rfl) ?_
 by_cases h0:t.kind=0
 ·refine brT ?_ (hp:=h0)
  have:resL t=[]:=if_pos h0
  rw [this]
  exact rt1 ⟨none,rfl,Sl.nil ..,h1.bl⟩
 ·refine brF ?_ (hp:=h0)
  have:resL t=[t]:=if_neg h0
  rw [this]
  refine lda h1.box.at ?_
  refine bs (cs:=encTy t) fun b2 w2 h2 => ?_
  exact rt1 ⟨_,rfl,owp_sl (l:=[t]) (enc:=encTy) (sz:=2) (Ow.made (n:=1) h2 rfl (by omega)) (by simp) (fun g hg=>by
   simp only [Option.some.injEq,Addr.mk.injEq,and_true] at hg
   rw [<-hg,h2.blk];exact h1.bl.size),h1.bl.trans h2.bl⟩
def clsA (m:Mod) (t:Ty):Prop:=t.kind=2->0<=t.cls/\t.cls<m.classes.length
theorem tyA_clsA {m:Mod} {t:Ty} (h:tyA m t):clsA m t:=fun hk=>tyA_cls h (.inl hk)
theorem blw_mem {m:Mod} (P:ModP m) {x y:Int} (hx:0<=x/\x<m.classes.length) (hy:0<=y/\y<m.classes.length):blwB m x y=decide (y∈upM m x):=by
 have h0:mchkE m=0/\∀ i∈[x,y],0<=i/\i<(m.classes.length:Int):=by
  refine ⟨chkE_yes P,fun i hi => ?_⟩
  rcases List.mem_cons.1 hi with rfl | hi
  ·exact hx
  ·rw [List.mem_singleton.1 hi];exact hy
 unfold blwB askE
 rw [if_pos h0,decide_eq_true rfl,Bool.true_and]
theorem v_fits (m:Mod) (a:MA) (t u:Ty) (w:World) (P:ModP m) (hM:MdR T w m a) (ht:clsA m t) (hu:clsA m u):Ret Tryz.prog 84 #[.agg (modcells m a).toArray,.agg (encTy t).toArray,.agg (encTy u).toArray] w fun v w'=>v = .bool (fitB m t u)/\Bl w w':=by
 refine entr (vs:=[.agg (modcells m a).toArray,.agg (encTy t).toArray,.agg (encTy u).toArray]) [0,1,2,3,4,5,6,7,16] tabok Tryz.func84 (by kernel_rfl) ?_
 refine bx (cs:=modcells m a) fun b1 w1 k1 => ?_
 refine bx (cs:=encTy t) fun b2 w2 k2 => ?_
 refine bx (cs:=encTy u) fun b3 w3 k3 => ?_
 have B3:=(k1.bl.trans k2.bl).trans k3.bl
 have x1:=Bl.box (k2.bl.trans k3.bl) k1.box
 have x2:=Bl.box k3.bl k2.box
 refine ld (x2.cell rfl) ?_
 refine ldg (fun _=>k3.box.cell rfl) ?_
 by_cases hk:t.kind=2/\u.kind=2
 ·refine brf ?_ (hp:=by simp [hk])
  refine lda x1.at ?_
  refine ld (x2.cell rfl) ?_
  refine ld (k3.box.cell rfl) ?_
  refine cl (k_Below m a t.cls u.cls w3 (hM.bl B3)) ?_
  rintro _ w4 ⟨rfl,B4⟩
  have e:fitB m t u=blwB m t.cls u.cls:=by unfold fitB;rw [if_pos hk,blw_mem P (ht hk.1) (hu hk.2)]
  rw [e]
  exact rt1 ⟨rfl,B3.trans B4⟩
 ·refine brt ?_ (hp:=by simp;omega)
  refine lda x2.at ?_
  refine lda k3.box.at ?_
  refine eqA (fun w=>eq_ty t u) ?_
  have e:fitB m t u=decide (t=u):=by unfold fitB;rw [if_neg hk]
  rw [e]
  exact rt1 ⟨rfl,B3⟩
theorem CkR.T {w:World} {X:CX} {e:Int} (h:CkR w X e):MdR T w X.m X.a:=h.mod.sub fun _ _=>trivial
theorem v_local (n:Int) (h0:0<=n) (h:CkR w X e):Ret Tryz.prog 119 #[ptr X.b,I n] w fun v w'=>v = .agg (encTy ((X.loc[n.toNat]?).getD noT)).toArray/\CkR w' X (wnt e (X.loc[n.toNat]?).isSome)/\Chg X.at w w':=by
 obtain ⟨n,rfl⟩:=Int.eq_ofNat_of_zero_le h0
 have hbig:=h.loc.big
 refine entr (vs:=[ptr X.b,I (n:Int)]) [0,1,4,11] tabok Tryz.func119 (by kernel_rfl) ?_
 refine al fun b1 w1 k1 => ?_
 have h1:=h.bl k1.bl
 refine ld (h1.box.cell rfl) ?_
 rw [Int.toNat_natCast]
 by_cases hlt:n<X.loc.length
 ·refine brF ?_
  obtain ⟨t,b,o,cs,hx,e1,hS,hA,rfl⟩:=at_some h1.loc hlt
  refine ld (h1.box.cell rfl) ?_
  rw [e1]
  refine ix ?_
  refine lda hA ?_
  refine sta k1.box fun w2 k2 x2 => ?_
  rw [hx]
  exact rtc x2.at ⟨rfl,h.bl (k1.wr k2),(k1.wr k2).chg _⟩
 ·refine brT ?_
  refine cl (v_fail 11 h1) ?_
  rintro _ w2 ⟨h2,k2⟩
  refine bd ?_
  have hb:b1≠X.b:=fun q=>by have:=h.box.lt;have:=k1.blk;omega
  refine sta (k2.box k1.box hb) fun w3 k3 x3 => ?_
  rw [List.getElem?_eq_none (by omega)]
  exact rtc x3.at ⟨rfl,h.wrn h2 ((k1.bl.chg _).trans k2) k3 (by rw [k1.blk];exact Nat.le_refl _)⟩
end Go.Proofs.YtdjkoljonlcemaaGreat

/- Walks: the verifier's field, element, fit; equal; the stack's count. -/
namespace Go.Proofs.YtdjkoljonlcemaaGreat
open Eng Go.RowKit
variable {w:World} {X:CX} {e:Int}
def fldO (m:Mod) (t:Ty) (n:Int):Option Ty:=if t.kind=2 then (fldA m t.cls)[n.toNat]? else none
theorem v_element (t:Ty) (h:CkR w X e):Ret Tryz.prog 188 #[ptr X.b,.agg (encTy t).toArray] w fun v w'=>v = .agg (encTy (if arrT t then elmV t else noT)).toArray/\CkR w' X (wnt e (decide (arrT t)))/\Chg X.at w w':=by
 refine entr (vs:=[ptr X.b,.agg (encTy t).toArray]) [0,1,3,4,6,7,10] tabok Tryz.func188 (by kernel_rfl) ?_
 refine bx (cs:=encTy t) fun b1 w1 k1 => ?_
 refine al fun b2 w2 k2 => ?_
 have B2:=k1.bl.trans k2.bl
 have x1:=Bl.box k2.bl k1.box
 have h2:=h.bl B2
 have z1:=k1.blk
 have z2:=k2.blk
 have z0:=k1.bl.size
 refine ld (x1.cell rfl) ?_
 by_cases q3:t.kind=3
 ·refine brT ?_ (hp:=q3)
  refine cl (v_number w2) ?_
  rintro _ w3 ⟨rfl,B3⟩
  refine sta (Bl.box B3 k2.box) fun w4 k4 x4 => ?_
  have e1:(if arrT t then elmV t else noT)=intT:=by rw [if_pos (show arrT t from Or.inl q3)];unfold elmV;rw [if_neg (by omega)]
  have e2:decide (arrT t)=true:=decide_eq_true (show arrT t from Or.inl q3)
  rw [e1,e2]
  have B23:=B2.trans B3
  exact rtc x4.at ⟨rfl,h.wrn (h.bl B23) (B23.chg _) k4 (by omega)⟩
 refine brF ?_ (hp:=q3)
 by_cases q4:t.kind=4
 ·refine brT ?_ (hp:=q4)
  refine ld (x1.cell rfl) ?_
  refine cl (v_object t.cls w2) ?_
  rintro _ w3 ⟨rfl,B3⟩
  refine sta (Bl.box B3 k2.box) fun w4 k4 x4 => ?_
  have e1:(if arrT t then elmV t else noT)=⟨2,t.cls⟩:=by rw [if_pos (show arrT t from Or.inr q4)];unfold elmV;rw [if_pos q4]
  have e2:decide (arrT t)=true:=decide_eq_true (show arrT t from Or.inr q4)
  rw [e1,e2]
  have B23:=B2.trans B3
  exact rtc x4.at ⟨rfl,h.wrn (h.bl B23) (B23.chg _) k4 (by omega)⟩
 refine brF ?_ (hp:=q4)
 have q:¬arrT t:=fun a=>a.elim q3 q4
 refine cl (v_fail 11 h2) ?_
 rintro _ w3 ⟨h3,c3⟩
 refine bd ?_
 have c03:=(B2.chg _).trans c3
 refine sta (c3.box k2.box (fun a=>by have:=h.box.lt;simp only [CX.at] at a;omega)) fun w4 k4 x4 => ?_
 rw [if_neg q,decide_eq_false q]
 exact rtc x4.at ⟨rfl,h.wrn h3 c03 k4 (by omega)⟩
theorem v_field (t:Ty) (n:Int) (h0:0<=n) (hc:clsA X.m t) (h:CkR w X e):Ret Tryz.prog 185 #[ptr X.b,.agg (encTy t).toArray,I n] w fun v w'=>v = .agg (encTy ((fldO X.m t n).getD noT)).toArray/\CkR w' X (wnt e (fldO X.m t n).isSome)/\Chg X.at w w':=by
 obtain ⟨n,rfl⟩:=Int.eq_ofNat_of_zero_le h0
 refine entr (vs:=[ptr X.b,.agg (encTy t).toArray,I (n:Int)]) [0,1,2,4,6,24] tabok Tryz.func185 (by kernel_rfl) ?_
 refine bx (cs:=encTy t) fun b1 w1 k1 => ?_
 refine al fun b2 w2 k2 => ?_
 have B2:=k1.bl.trans k2.bl
 have x1:=Bl.box k2.bl k1.box
 have h2:=h.bl B2
 have z1:=k1.blk
 have z2:=k2.blk
 have z0:=k1.bl.size
 refine dh T (List.range 18) fun w3 k3 => ?_
 have B3:=B2.trans k3.bl
 have h3:=h.bl B3
 have x13:=k3.box x1
 have x23:=k3.box k2.box
 refine ld (x13.cell rfl) ?_ (hm:=trivial)
 by_cases q:t.kind=2
 ·obtain ⟨c0,c1⟩:=hc q
  obtain ⟨k,hk⟩:=Int.eq_ofNat_of_zero_le c0
  have hcb:=h3.mod.cls.big
  obtain ⟨x,b,o,cs,hx,e1,hS,hA,a3,c3,a4,c4,rfl,hF,hTb,_,_⟩:=at_some h3.mod.cls (i:=k) (by omega)
  have ef:fldO X.m t n=x.fields[n]? := by unfold fldO;rw [if_pos q,hk,fldA_at hx,Int.toNat_natCast]
  have hfb:=hF.big
  refine spt (.bool false) ?_ (hb:=by first | (simp [q];done) | (simp;omega))
  refine ld (h3.box.cell rfl) ?_ (hm:=trivial)
  refine spt (.bool false) ?_
  refine ld (x13.cell rfl) ?_ (hm:=trivial)
  refine spt (.bool false) ?_
  rw [hk,e1]
  refine ix ?_
  refine spt (.bool false) ?_
  refine ld (hA 2 _ rfl) ?_ (hm:=trivial)
  by_cases hlt:n<x.fields.length
  ·refine brf ?_ (hp:=by first | (simp [q];done) | (simp [q];omega))
   obtain ⟨y,b',o',cs',hy,e1',hS',hA',rfl⟩:=at_some hF hlt
   refine dt 1 fun w4 k4 => ?_
   have h4:=h3.bl k4.bl
   refine ld (h4.box.cell rfl) ?_
   refine ld ((k4.box x13).cell rfl) ?_
   rw [hk,e1]
   refine ix ?_
   refine ld (hA.bl k4.bl 2 _ rfl) ?_
   rw [e1']
   refine ix ?_
   refine lda (hA'.bl k4.bl) ?_
   refine sta (k4.box x23) fun w5 k5 x5 => ?_
   rw [ef,hy]
   have B4:=B3.trans k4.bl
   exact rtc x5.at ⟨rfl,h.wrn h4 (B4.chg _) k5 (by omega)⟩
  ·refine brt ?_ (hp:=by first | (simp [q];done) | (simp [q];omega))
   refine cl (v_fail 11 h3) ?_
   rintro _ w4 ⟨h4,c4'⟩
   refine bd ?_
   have c04:=(B3.chg _).trans c4'
   refine sta (c4'.box x23 (fun a=>by have:=h.box.lt;simp only [CX.at] at a;omega)) fun w5 k5 x5 => ?_
   rw [ef,List.getElem?_eq_none (by omega)]
   exact rtc x5.at ⟨rfl,h.wrn h4 c04 k5 (by omega)⟩
 ·have ef:fldO X.m t n=none:=if_neg q
  refine spn (.slice none 0 0) ?_ (hb:=by first | (simp [q];done) | (simp;omega))
  refine spn (I 0) ?_ (hb:=by first | (simp [q];done) | (simp;omega))
  refine spn (ptr 0) ?_ (hb:=by first | (simp [q];done) | (simp;omega))
  refine spn (.slice none 0 0) ?_ (hb:=by first | (simp [q];done) | (simp;omega))
  refine brt ?_ (hp:=by first | (simp [q];done) | (simp [q];omega))
  refine cl (v_fail 11 h3) ?_
  rintro _ w4 ⟨h4,c4'⟩
  refine bd ?_
  have c04:=(B3.chg _).trans c4'
  refine sta (c4'.box x23 (fun a=>by have:=h.box.lt;simp only [CX.at] at a;omega)) fun w5 k5 x5 => ?_
  rw [ef]
  exact rtc x5.at ⟨rfl,h.wrn h4 c04 k5 (by omega)⟩
theorem v_fit (t u:Ty) (P:ModP X.m) (ht:clsA X.m t) (hu:e=0->clsA X.m u) (h:CkR w X e):Ret Tryz.prog 125 #[ptr X.b,.agg (encTy t).toArray,.agg (encTy u).toArray] w fun _ w'=>CkR w' X (wnt e (fitB X.m t u))/\Chg X.at w w':=by
 refine entr (vs:=[ptr X.b,.agg (encTy t).toArray,.agg (encTy u).toArray]) [0,1,2,4,5] tabok Tryz.func125 (by kernel_rfl) ?_
 refine bx (cs:=encTy t) fun b1 w1 k1 => ?_
 refine bx (cs:=encTy u) fun b2 w2 k2 => ?_
 have B2:=k1.bl.trans k2.bl
 have x1:=Bl.box k2.bl k1.box
 refine dhx 1 T (List.range 15) fun w3 k3 => ?_
 have B3:=B2.trans k3.bl
 have h3:=h.bl B3
 refine ld (h3.box.cell rfl) ?_ (hm:=trivial)
 by_cases h0:e=0
 ·refine spt (.bool false) ?_ (hb:=by first | (simp [h0];done) | (simp;omega))
  refine lda h3.modAt ?_ (hm:=trivial)
  refine spt (.bool false) ?_
  refine lda (k3.box x1).at ?_ (hm:=trivial)
  refine spt (.bool false) ?_
  refine lda (k3.box k2.box).at ?_ (hm:=trivial)
  refine spt (.bool false) ?_
  refine cl (v_fits X.m X.a t u w3 P h3.T ht (hu h0)) ?_
  rintro _ w4 ⟨rfl,B4⟩
  refine cl (v_want (fitB X.m t u) (h3.bl B4)) ?_
  rintro _ w5 ⟨h5,c5⟩
  exact en ⟨h5,((B3.trans B4).chg _).trans c5⟩
 ·refine spn (.agg #[]) ?_ (hb:=by first | (simp [h0];done) | (simp;omega))
  refine spn (.agg #[]) ?_ (hb:=by first | (simp [h0];done) | (simp;omega))
  refine spn (.agg #[]) ?_ (hb:=by first | (simp [h0];done) | (simp;omega))
  refine spn (.bool false) ?_ (hb:=by first | (simp [h0];done) | (simp;omega))
  have e1:wnt e (fitB X.m t u)=wnt e (decide (e=0)&&false):=by unfold wnt;rw [if_neg h0];simp
  refine cl (v_want (decide (e=0)&&false) h3) ?_
  rintro _ w4 ⟨h4,c4⟩
  rw [e1]
  exact en ⟨h4,(B3.chg _).trans c4⟩
end Go.Proofs.YtdjkoljonlcemaaGreat

/- Walk: how many must be left on the stack (a range over slices.Backward). -/
namespace Go.Proofs.YtdjkoljonlcemaaGreat
open Go.RowKit Go.Shelf
attribute [local go_sem] Oper.semAt_some
structure Bq where
 op:Int
 a1:Option Addr
 n1:Nat
 c1:Nat
 a2:Option Addr
 n2:Nat
 c2:Nat
 mid:Bool
def Bq.enc (x:Bq):List Value:=[.int .i64 x.op,.slice x.a1 x.n1 x.c1,.slice x.a2 x.n2 x.c2,.bool x.mid]
def upto {α:Type} (f:Nat->α) (k:Nat):List α:=(List.range k).map f
theorem upto_succ {α:Type} (f:Nat->α) (k:Nat):upto f (k+1)=upto f k++[f k]:=by simp [upto,List.range_succ]
theorem upto_length {α:Type} (f:Nat->α) (k:Nat):(upto f k).length=k:=by simp [upto]
abbrev bwF (len:Nat) (bq:Nat->Bq) (j:Nat):Int×Bq:=((len:Int)-1-j,bq (len-1-j))
set_option maxRecDepth 100000 in
set_option maxHeartbeats 4000000 in
theorem bw1_in (F:Fence) (n:Nat) (h8:F.fn 242) (hro:F.round=none) (hn:1<=n) (l Bs n₀ b off len cap:Nat) (bq:Nat->Bq) (hreach:len<=9223372036854775807) (hb:b<n₀) (hBs:Bs<n₀) (J Jx:List (Int×Bq)->World->Prop)
  (hY:∀ pre x W,J pre W->pre.length<len->YieldAt F (n-1) Tryz.prog l #[.int .i64 x.1,.agg x.2.enc.toArray] W fun e W' =>
   (e = .returned (.bool true)/\J (pre++[x]) W'/\Below n₀ W W')∨(e = .returned (.bool false)/\Jx (pre++[x]) W'))
  (W:World) (hBc:W.cell? ⟨Bs,0,none⟩=some (.slice (some ⟨b,off,none⟩) len cap)) (hc:∀ j,j<len->∀ i v,(bq j).enc[i]? = some v->W.cell? ⟨b,off+j*4+i,none⟩=some v) (h0:J [] W) :
  CallsIn F n Tryz.prog 242 #[.func (.yield l) #[] #[],.pointer (some ⟨Bs,0,none⟩)] W fun e W'=>(∃ v,e = .returned v) /\
   ((∃ ys,ys=upto (bwF len bq) len/\J ys W')∨(∃ pre,(∃ k,k<=len/\pre=upto (bwF len bq) k)/\Jx pre W')):=by
 refine callsIn_of_wp Tryz.func242 rfl h8 ?_ hro
 simp only [Tryz.ntmps242,List.size_toArray,List.length_cons,List.length_nil,Nat.reduceAdd,Nat.reduceSub,Array.replicate_succ,Array.replicate_zero,List.push_toArray,List.append_toArray,List.nil_append,List.cons_append]
 gi_wp2
 gi_loopw [3] (fun i wr=>∃ k:Nat,k<=len/\i = .int .i64 ((len:Int)-1-k)/\J (upto (bwF len bq) k) wr/\Below n₀ W wr)
  (fun i _=>(intOf i+1).toNat)
 case atStart=>exact ⟨0,Nat.zero_le _,by simp,h0,Below.refl _ _⟩
 case round =>
  obtain ⟨k,hk,rfl,hJs,hnx⟩:=hrel
  have hBx:wr.cell? ⟨Bs,0,none⟩=some (.slice (some ⟨b,off,none⟩) len cap):=(hnx.cell (p:=⟨Bs,0,none⟩) hBs).trans hBc
  by_cases hlt:k<len
  ·have hcx:∀ i v,(bq (len-1-k)).enc[i]? = some v->wr.cell? ⟨b,off+(len-1-k)*4+i,none⟩=some v:=fun i v hi=>(hnx.cell (p:=⟨b,off+(len-1-k)*4+i,none⟩) hb).trans (hc _ (by omega) i v hi)
   obtain ⟨fn,tmps,assign,body,hy,hR⟩:=hY _ (bwF len bq k) wr hJs (by rw [upto_length];exact hlt)
   dsimp only [bwF] at hy
   have hki:(len:Int)-1-k=((len-1-k:Nat):Int):=by omega
   rw [hki] at hy ⊢
   have c0:wr.cell? ⟨b,off+(len-1-k)*4,none⟩=some (.int .i64 (bq (len-1-k)).op):=hcx 0 _ rfl
   have c1:wr.cell? ⟨b,off+(len-1-k)*4+1,none⟩=some (.slice (bq (len-1-k)).a1 (bq (len-1-k)).n1 (bq (len-1-k)).c1):=hcx 1 _ rfl
   have c2:wr.cell? ⟨b,off+(len-1-k)*4+2,none⟩=some (.slice (bq (len-1-k)).a2 (bq (len-1-k)).n2 (bq (len-1-k)).c2):=hcx 2 _ rfl
   have c3:wr.cell? ⟨b,off+(len-1-k)*4+3,none⟩=some (.bool (bq (len-1-k)).mid):=hcx 3 _ rfl
   simp only [Bq.enc] at hy
   gi_wp2
   refine hR.mono ?_
   rintro e W3 (⟨rfl,hJ3,hk3⟩ | ⟨rfl,hJx3⟩)
   ·gi_wp2
    go_roundw
    case rel=>exact ⟨k+1,by omega,by simp <;> omega,by rw [upto_succ];exact hJ3,hnx.trans hk3⟩
    case measure=>simp [intOf] <;> omega
   ·gi_wp2
    refine bodyPost_ret (results_none rfl _ _ _) rfl ?_
    exact ⟨⟨_,rfl⟩,.inr ⟨_,⟨k+1,by omega,(upto_succ _ _).symm⟩,hJx3⟩⟩
  ·obtain rfl:k=len:=by omega
   gi_wp2
   go_end0
   exact ⟨⟨_,rfl⟩,.inl ⟨_,rfl,hJs⟩⟩
set_option maxRecDepth 100000 in
set_option maxHeartbeats 2000000 in
theorem bw1_nil_in (F:Fence) (n:Nat) (h8:F.fn 242) (hro:F.round=none) (l Bs:Nat) (J:List (Int×Bq)->World->Prop) (W:World) (hBs:W.cell? ⟨Bs,0,none⟩=some (.slice none 0 0)) (h0:J [] W) :
  CallsIn F n Tryz.prog 242 #[.func (.yield l) #[] #[],.pointer (some ⟨Bs,0,none⟩)] W fun e W'=>(∃ v,e = .returned v)/\J [] W':=by
 refine callsIn_of_wp Tryz.func242 rfl h8 ?_ hro
 simp only [Tryz.ntmps242,List.size_toArray,List.length_cons,List.length_nil,Nat.reduceAdd,Nat.reduceSub,Array.replicate_succ,Array.replicate_zero,List.push_toArray,List.append_toArray,List.nil_append,List.cons_append]
 gi_wp2
 gi_loopw [3] (fun i wr=>i = .int .i64 (-1)/\J [] wr) (fun _ _=>0)
 case atStart=>exact ⟨rfl,h0⟩
 case round =>
  obtain ⟨rfl,hJs⟩:=hrel
  gi_wp2
  go_end0
  exact ⟨⟨_,rfl⟩,hJs⟩
theorem bw_in (F:Fence) (n:Nat) (h6:F.fn 217) (hro:F.round=none) (a:Option Addr) (len cap:Nat) (w:World) :
  CallsIn F n Tryz.prog 217 #[.slice a len cap] w fun e w'=>e = .returned (.func (.func 242) #[] #[.pointer (some ⟨w.heap.size,0,none⟩)])/\w'=w.alloc (.cells #[.slice a len cap] 193):=by
 refine callsIn_of_wp Tryz.func217 rfl h6 ?_ hro
 simp only [Tryz.ntmps217,List.size_toArray,List.length_cons,List.length_nil,Nat.reduceAdd,Nat.reduceSub,Array.replicate_succ,Array.replicate_zero,List.push_toArray,List.append_toArray,List.nil_append,List.cons_append]
 gi_wp2
 go_ret
 exact ⟨rfl,rfl⟩
def BqAt (n₀:Nat) (W:World) (sv:Value) (len:Nat) (bq:Nat->Bq):Prop :=
 (sv = .slice none 0 0/\len=0)∨∃ b off cap,sv = .slice (some ⟨b,off,none⟩) len cap/\b<n₀/\∀ j,j<len->∀ i v,(bq j).enc[i]? = some v->W.cell? ⟨b,off+j*4+i,none⟩=some v
theorem BqAt.below {n₀:Nat} {A B:World} (h:Below n₀ A B) {sv:Value} {len:Nat} {bq:Nat->Bq}:BqAt n₀ A sv len bq->BqAt n₀ B sv len bq
 | .inl e => .inl e
 | .inr ⟨b,off,cap,e,hb,hc⟩ => .inr ⟨b,off,cap,e,hb,fun j hj i v hi=>(h.cell (p:=⟨b,off+j*4+i,none⟩) hb).trans (hc j hj i v hi)⟩
theorem bw_stops (F:Fence) (n:Nat) (h8:F.fn 242) (hro:F.round=none) (hn:1<=n) (Bs n₀:Nat) (sv:Value) (len:Nat) (bq:Nat->Bq) (hreach:len<=9223372036854775807) (w:World) (hBs:Bs<n₀) (hn₀:n₀<=w.heap.size)
  (hc:w.cell? ⟨Bs,0,none⟩=some sv) (hI:BqAt n₀ w sv len bq) :
  SeqStopsK F n Tryz.prog 242 #[.pointer (some ⟨Bs,0,none⟩)] (fun x:Int×Bq=>#[Value.int .i64 x.1,.agg x.2.enc.toArray]) (Below n₀) (fun ys=>ys=upto (bwF len bq) len)
   (fun pre=>∃ k,k<=len/\pre=upto (bwF len bq) k) len w:=fun l J Jx W hW _ _ hY h0=>by
 have hc':=(hW.cell (p:=⟨Bs,0,none⟩) (by show Bs<_;omega)).trans hc
 rcases hI.below (hW.mono hn₀) with ⟨rfl,rfl⟩ | ⟨b,off,cap,rfl,hb,hcs⟩
 ·exact (bw1_nil_in F n h8 hro l Bs J W hc' h0).mono fun e W' ⟨he,hj⟩=>⟨he,.inl ⟨_,rfl,hj⟩⟩
 ·exact bw1_in F n h8 hro hn l Bs n₀ b off len cap bq hreach hb hBs J Jx hY W hc' hcs h0
end Go.Proofs.YtdjkoljonlcemaaGreat

/- Walk: how many must be left on the stack (a range over slices.Backward). -/
namespace Go.Proofs.YtdjkoljonlcemaaGreat
open Go.RowKit Go.Shelf
attribute [local go_sem] Oper.semAt_some
abbrev tryq (x:Bq):Prop:=x.op=33/\x.mid=false
def BoxA (W:World) (B:Nat) (t:TypeId) (cs:List Value):Prop:=W.heap[B]? = some (.cells cs.toArray t (0,0))
theorem BoxA.own {β:Type} (B:Nat) (t:TypeId) (f:β->List Value):Own (fun s W=>BoxA W B t (f s)):=fun s X Y row hs hg hrow =>
 (hg.block B (Array.getElem?_eq_some_iff.1 hs).1 (fun e'=>by obtain ⟨o,ho,hc⟩:=hrow B e'.symm;rw [show X.heap[B]? = _ from hs] at ho;cases ho;cases hc)).trans hs
theorem BoxA.cell {W:World} {B:Nat} {t:TypeId} {cs:List Value} (h:BoxA W B t cs) {i:Nat} {v:Value} (hv:cs[i]? = some v):W.cell? ⟨B,i,none⟩=some v:=by
 simp [World.cell?,show W.heap[B]? = _ from h,hv]
set_option maxRecDepth 100000 in
set_option maxHeartbeats 4000000 in
theorem floor_in (F:Fence) (n:Nat) (h3:F.fn 181) (h4:F.fn 217) (h5:F.fn 242) (hro:F.round=none) (hn:6<=n) (b:Nat) (a:Option Addr) (len cap:Nat) (bq:Nat->Bq) (hreach:len<=9223372036854775807) (w:World) (hb:b<w.heap.size)
  (hc:w.cell? ⟨b,6,none⟩=some (.slice a len cap)) (hI:BqAt w.heap.size w (.slice a len cap) len bq) :
  CallsIn F n Tryz.prog 181 #[.pointer (some ⟨b,0,none⟩)] w fun e W' =>
   ((e = .returned (.int .i64 0)/\∀ j,j<len->¬tryq (bq j))∨(∃ k,k<len/\e = .returned (.int .i64 (bq k).n1)/\tryq (bq k)/\∀ j,k<j->j<len->¬tryq (bq j)))/\Below w.heap.size w W':=by
 have h1:1<=n:=by omega
 have hc1:(w.alloc (.cells #[.int .i64 0] 3)).cell? ⟨b,6,none⟩=some (.slice a len cap):=(((Below.refl w.heap.size w).alloc (Nat.le_refl _) _).cell (p:=⟨b,6,none⟩) hb).trans hc
 refine callsIn_of_wp_marks Tryz.func181 rfl h3 ?_ hro
 simp only [Tryz.ntmps181,List.size_toArray,List.length_cons,List.length_nil,Nat.reduceAdd,Nat.reduceSub,Array.replicate_succ,Array.replicate_zero,List.push_toArray,List.append_toArray,List.nil_append,List.cons_append]
 gi_wp2_with (gi_at_call 217;refine (bw_in F (n-1) h4 hro _ _ _ _).mono ?_;rintro e w' ⟨rfl,rfl⟩)
 have bR:=(Boxed.new w 3 (.int .i64 0)).alloc (.cells #[.slice a len cap] 193)
 have bN:=Boxed.new (w.alloc (.cells #[.int .i64 0] 3)) 193 (.slice a len cap)
 rw [World.size_alloc] at bN
 have hB0:Below w.heap.size w ((w.alloc (.cells #[.int .i64 0] 3)).alloc (.cells #[.slice a len cap] 193)):=((Below.refl _ w).alloc (Nat.le_refl _) _).alloc (by simp) _
 have hsz:((w.alloc (.cells #[.int .i64 0] 3)).alloc (.cells #[.slice a len cap] 193)).heap.size=w.heap.size+2:=by simp
 obtain ⟨W0,hW0⟩:∃ W0,(w.alloc (.cells #[.int .i64 0] 3)).alloc (.cells #[.slice a len cap] 193)=W0:=⟨_,rfl⟩
 rw [hW0] at bR bN hB0 hsz ⊢
 clear hW0
 have hI0:BqAt (w.heap.size+2) W0 (.slice a len cap) len bq:=by
  rcases hI.below hB0 with e | ⟨b',o',c',e,hb',hcs⟩
  ·exact .inl e
  ·exact .inr ⟨b',o',c',e,by omega,hcs⟩
 refine wpIn_rangeFunc_ownH hro h1 (gf:=242) (lb:=#[.pointer (some ⟨w.heap.size+1,0,none⟩)]) rfl h5 (enters_of Tryz.func242 (by kernel_rfl) rfl)
  (bw_stops F (n-1) h5 hro (by omega) (w.heap.size+1) (w.heap.size+2) (.slice a len cap) len bq hreach W0 (by omega) (by omega) bN.cell hI0) belowK_t (belowK_b (by omega)) (Below.refl _ _) (fun _=>rfl)
  (fun pre W=>((∀ p∈pre,¬tryq p.2)/\Boxed W w.heap.size 3 (.int .i64 0))/\Below w.heap.size W0 W)
  (fun c pre W=>(c = .ret/\∃ ini last,pre=ini++[last]/\(∀ p∈ini,¬tryq p.2)/\tryq last.2/\Boxed W w.heap.size 3 (.int .i64 (last.2.n1:Nat)))/\Below w.heap.size W0 W)
  (OwnFrom.and (Own.from (fun s A B row hs hg hr=>⟨hs.1,boxed_own w.heap.size 3 (fun (_:Unit)=>Value.int .i64 0) () A B row hs.2 hg hr⟩) _) (ownFrom_below (by omega) (by omega)))
  (fun c=>OwnFrom.and (Own.from (fun s A B row hs hg hr=>by obtain ⟨hc,ini,last,e1,e2,e3,e4⟩:=hs;exact ⟨hc,ini,last,e1,e2,e3,boxed_own w.heap.size 3 (fun (_:Unit)=>Value.int .i64 (last.2.n1:Nat)) () A B row e4 hg hr⟩) _) (ownFrom_below (by omega) (by omega)))
  ⟨⟨by simp,bR⟩,Below.refl _ _⟩
  (fun x a' W=>∃ Bx,w.heap.size+1<Bx/\BoxA W Bx 254 x.2.enc/\a'={ tmps:=#[.pointer (some ⟨b,0,none⟩),undef,.pointer (some ⟨w.heap.size,0,none⟩),undef,.pointer (some ⟨Bx,0,none⟩),.pointer (some ⟨b,0,none⟩),.pointer (some ⟨b,0,none⟩),.pointer (some ⟨b,6,none⟩),.slice a len cap,.func (.func 242) #[] #[.pointer (some ⟨w.heap.size+1,0,none⟩)],.int .i64 x.1,.agg x.2.enc.toArray,undef,undef,undef,undef,undef,undef,undef,undef,undef,undef,undef],defers:=[] })
  (fun x a' _ X Y row hs hg hr=>by obtain ⟨Bx,h1,h2,h3⟩:=hs;exact ⟨Bx,h1,BoxA.own Bx 254 (fun (_:Unit)=>x.2.enc) () X Y row h2 hg (fun r e=>(hr r e).2),h3⟩)
  ?assign ?body ?done ?stop
 case assign =>
  rintro l pre x W K ⟨⟨hp,bR1⟩,hB1⟩ hK
  simp only [Bq.enc]
  gi_wp2
  exact hK _ _ ((KeepsOthers.alloc _ _).from _) ((Below.refl _ W).alloc (by have:=hB1.size;omega) _) ⟨⟨hp,bR1.alloc _⟩,hB1.alloc (by have:=hB1.size;omega) _⟩ ⟨W.heap.size,by have:=hB1.size;omega,World.alloc_heap_new W _,rfl⟩
 case body =>
  rintro l pre x a' W hl ⟨r,hr⟩ ⟨⟨hp,bR1⟩,hB1⟩ ⟨Bx,hBx,bX,rfl⟩ hlt
  have c0:W.cell? ⟨Bx,0,none⟩=some (.int .i64 x.2.op):=bX.cell rfl
  have c1:W.cell? ⟨Bx,1,none⟩=some (.slice x.2.a1 x.2.n1 x.2.c1):=bX.cell rfl
  have c3:W.cell? ⟨Bx,3,none⟩=some (.bool x.2.mid):=bX.cell rfl
  have fR:=bR1.frozen
  have cR:=bR1.cell
  gi_wp2
  ·have h33:x.2.op=33:=by assumption
   have hmid:x.2.mid=false:=by simp_all
   exact ⟨(KeepsOthers.setCell _ _ _).from _,⟨rfl,pre,x,rfl,hp,⟨h33,hmid⟩,bR1.set _⟩,hB1.setCell (p:=⟨w.heap.size,0,none⟩) (Nat.le_refl _) _⟩
  ·have hmid:x.2.mid=true:=by simp_all
   refine ⟨KeepsFrom.refl _ _,Below.refl _ _,⟨fun p hp'=>(List.mem_append.1 hp').elim (hp p) (fun e => ?_),bR1⟩,hB1⟩
   obtain rfl:=List.mem_singleton.1 e
   rintro ⟨_,h⟩
   rw [hmid] at h
   cases h
  ·refine ⟨KeepsFrom.refl _ _,Below.refl _ _,⟨fun p hp'=>(List.mem_append.1 hp').elim (hp p) (fun e => ?_),bR1⟩,hB1⟩
   obtain rfl:=List.mem_singleton.1 e
   rintro ⟨h,_⟩
   contradiction
 case done =>
  rintro D zs W hD rfl ⟨⟨hp,bR1⟩,hB1⟩ hK
  have cR:=bR1.cell
  have fR:=bR1.frozen
  gi_wp2
  have hK':=(KeepsOthers.setCell W ⟨w.heap.size,0,none⟩ (.int .i64 0)).same D _ hK rfl
  refine ⟨by simp,.inl ⟨_,_,rfl,run_takeDeferred hK',?_⟩⟩
  have hc5:=cell_kept (World.cell?_setCell_same' W ⟨w.heap.size,0,none⟩ (.int .i64 0) (by rw [cR];rfl)) (grownBy_putObj' _ D (.deferred none)) (fun r e=>by cases e;exact ⟨_,hK',rfl⟩)
  refine ⟨.int .i64 0,?_,.inl ⟨rfl,fun j hj => ?_⟩,((hB0.trans hB1).setCell (p:=⟨w.heap.size,0,none⟩) (Nat.le_refl _) _).trans (belowK_b (w:=w) (Nat.le_refl _) _ D _ _ (by have:=hB0.size;omega) hK' rfl rfl)⟩
  ·simp [results,Tryz.f181,go_sem,hc5]
  ·refine hp (bwF len bq (len-1-j)) ?_ |> fun z=>by simpa [bwF,show len-1-(len-1-j)=j by omega] using z
   simp only [upto,List.mem_map,List.mem_range]
   exact ⟨len-1-j,by omega,rfl⟩
 case stop =>
  rintro D c pre W hD ⟨k,hk,rfl⟩ ⟨⟨rfl,ini,last,e1,e2,e3,bR1⟩,hB1⟩ hK
  gi_wp2
  refine ⟨by simp,.inl ⟨_,_,rfl,run_takeDeferred hK,?_⟩⟩
  have hc5:=cell_kept bR1.cell (grownBy_putObj' _ D (.deferred none)) (fun r e=>by cases e;exact ⟨_,hK,rfl⟩)
  obtain ⟨k',rfl⟩:∃ k',k=k'+1:=by
   cases k with
   | zero=>simp [upto] at e1
   | succ k'=>exact ⟨k',rfl⟩
  rw [upto_succ] at e1
  obtain ⟨rfl,e5⟩:=List.append_inj' e1 rfl
  obtain rfl:bwF len bq k'=last:=by simpa using e5
  refine ⟨.int .i64 (bq (len-1-k')).n1,?_,.inr ⟨len-1-k',by omega,rfl,e3,fun j hj hj' => ?_⟩,(hB0.trans hB1).trans (belowK_b (w:=w) (Nat.le_refl _) W D _ _ (by have:=hB0.size;omega) hK rfl rfl)⟩
  ·simp [results,Tryz.f181,go_sem,hc5]
  ·refine e2 (bwF len bq (len-1-j)) ?_ |> fun z=>by simpa [bwF,show len-1-(len-1-j)=j by omega] using z
   simp only [upto,List.mem_map,List.mem_range]
   exact ⟨len-1-j,by omega,rfl⟩
theorem bseV_none:∀ {o:List Brv},(∀ (j:Nat) (x:Brv),o[j]? = some x->tryB x=false)->bseV o=0:=by
 intro o
 obtain ⟨r,rfl⟩:∃ r,o=List.reverse r:=⟨o.reverse,by simp⟩
 induction r with
 | nil=>intro _;rfl
 | cons b r ih =>
  rw [List.reverse_cons]
  generalize r.reverse=o at ih ⊢
  intro h
  rw [bseV_snoc,if_neg (by rw [h o.length b (by simp)];simp)]
  exact ih fun j x hx=>h j x (by rw [List.getElem?_append_left (List.getElem?_eq_some_iff.1 hx).1];exact hx)
theorem bseV_some:∀ {o:List Brv} {k:Nat} {b:Brv},o[k]? = some b->tryB b=true->(∀ (j:Nat) (x:Brv),k<j->o[j]? = some x->tryB x=false)->bseV o=b.beg.length:=by
 intro o
 obtain ⟨r,rfl⟩:∃ r,o=List.reverse r:=⟨o.reverse,by simp⟩
 induction r with
 | nil=>intro k b h;simp at h
 | cons c r ih =>
  rw [List.reverse_cons]
  generalize r.reverse=o at ih ⊢
  intro k b hk hb h
  have hlt:=(List.getElem?_eq_some_iff.1 hk).1
  rw [List.length_append,List.length_singleton] at hlt
  rw [bseV_snoc]
  by_cases q:k=o.length
  ·subst q
   obtain rfl:c=b:=by simpa using hk
   rw [if_pos hb]
  ·have hk':o[k]? = some b:=by rw [List.getElem?_append_left (by omega)] at hk;exact hk
   rw [if_neg (by rw [h o.length c (by omega) (by simp)];simp)]
   exact ih hk' hb fun j x hj hx=>h j x hj (by rw [List.getElem?_append_left (List.getElem?_eq_some_iff.1 hx).1];exact hx)
theorem Ow.capm {w:World} {base e esz:Nat} {a:Option Addr} {n cap:Nat} {xs:List Value} (h:Eng.Ow w base e esz a n cap xs):n<=9223372036854775807:=by
 obtain ⟨h1,h2⟩:=h.own
 rcases h2 with ⟨h2,h3⟩ | ⟨g,cap',cur,h2,h3,h4,h5,h6,h7,h8⟩
 ·rw [h3];omega
 ·have:maxLen=9223372036854775807:=rfl
  omega
theorem v_floor {w:World} {X:CX} {e:Int} (h:CkR w X e):Eng.Ret Tryz.prog 181 #[.pointer (some ⟨X.b,0,none⟩)] w fun v w'=>v = .int .i64 (bseV X.ops)/\Bl w w':=by
 obtain ⟨xs,hx1,hx2,hO,hel⟩:=h.op.row
 have key:∀ j:Nat,∃ q:Bq,∀ x,X.ops[j]? = some x->((∃ cs,xs[j]? = some cs/\cs=q.enc)/\(tryq q↔tryB x=true)/\q.n1=x.beg.length):=fun j=>by
  by_cases hj:j<X.ops.length
  ·obtain ⟨x,hx⟩:∃ x,X.ops[j]? = some x:=⟨_,List.getElem?_eq_getElem hj⟩
   obtain ⟨cs,hcs⟩:∃ cs,xs[j]? = some cs:=⟨_,List.getElem?_eq_getElem (by omega)⟩
   obtain ⟨a1,c1,a2,c2,e1,_⟩:=hel j cs x hcs hx
   refine ⟨⟨x.op,a1,x.beg.length,c1,a2,x.fst.length,c2,x.mid⟩,fun y hy => ?_⟩
   obtain rfl:x=y:=Option.some.inj (hx.symm.trans hy)
   refine ⟨⟨cs,hcs,e1⟩,?_,rfl⟩
   simp [tryq,tryB]
  ·exact ⟨⟨0,none,0,0,none,0,0,false⟩,fun x hx=>absurd (List.getElem?_eq_some_iff.1 hx).1 hj⟩
 obtain ⟨bq,hbq⟩:=Classical.axiomOfChoice key
 have hI:BqAt w.heap.size w (.slice X.oa X.ops.length X.oc) X.ops.length bq:=by
  rcases hO.shape with ⟨q1,q2,q3,_⟩ | ⟨g,cur,q1,q2,q3,_⟩
  ·exact .inl ⟨by rw [q1,q2,q3],q2⟩
  ·refine .inr ⟨g,0,X.oc,by rw [q1],(hO.lt q1).2,fun j hj i v hv => ?_⟩
   obtain ⟨x,hx⟩:∃ x,X.ops[j]? = some x:=⟨_,List.getElem?_eq_getElem hj⟩
   obtain ⟨⟨cs,hcs,e1⟩,_⟩:=hbq j x hx
   have hl:=hx2 cs (List.mem_of_getElem? hcs)
   rw [<-e1] at hv
   have hi:=(List.getElem?_eq_some_iff.1 hv).1
   have:=hO.at q1 (j*eBr.sz+i) v (by rw [flatten_get hx2 hcs i (by omega)];exact hv)
   rw [Nat.add_assoc];exact this
 refine ⟨by kernel_rfl,?_⟩
 refine (callsIn_wide.1 (floor_in Fence.wide 6 trivial trivial trivial rfl (Nat.le_refl _) X.b X.oa X.ops.length X.oc bq (Ow.capm hO) w h.box.lt (h.box.cell rfl) hI)).mono ?_
 rintro e' w' ⟨hr,hB⟩
 rcases hr with ⟨rfl,hn⟩ | ⟨k,hk,rfl,ht,hn⟩
 ·refine ⟨?_,hB⟩
  rw [bseV_none fun j x hx => ?_]
  ·rfl
  ·obtain ⟨_,h2,_⟩:=hbq j x hx
   exact Bool.eq_false_iff.2 fun z=>hn j (List.getElem?_eq_some_iff.1 hx).1 (h2.2 z)
 ·refine ⟨?_,hB⟩
  obtain ⟨x,hx⟩:∃ x,X.ops[k]? = some x:=⟨_,List.getElem?_eq_getElem hk⟩
  obtain ⟨_,h2,h3⟩:=hbq k x hx
  rw [bseV_some hx (h2.1 ht) fun j y hj hy => ?_,h3]
  obtain ⟨_,h2',_⟩:=hbq j y hy
  exact Bool.eq_false_iff.2 fun z=>hn j hj (List.getElem?_eq_some_iff.1 hy).1 (h2'.2 z)
end Go.Proofs.YtdjkoljonlcemaaGreat

/- Walks: counts, do, push. -/
namespace Go.Proofs.YtdjkoljonlcemaaGreat
open Eng Go.RowKit
variable {w:World} {X:CX} {e:Int}
def badX (X:CX) (n k:Nat):Prop:=X.st.length<n+bseV X.ops∨12<X.st.length-n+k
instance (X:CX) (n k:Nat):Decidable (badX X n k):=by unfold badX;infer_instance
def stkE (e:Int):Int:=if e=0 then 12 else e
theorem v_counts (n k:Nat) (hn:n<=1000) (hk:k<=1000) (h:CkR w X e):Ret Tryz.prog 123 #[ptr X.b,I n,I k] w fun v w'=>v = .bool (decide (¬badX X n k))/\CkR w' X (if badX X n k then stkE e else e)/\Chg X.at w w':=by
 have hsb:=h.st.big
 refine entr (vs:=[ptr X.b,I (n:Int),I (k:Int)]) [0,1,2,6,7,24] tabok Tryz.func123 (by kernel_rfl) ?_
 refine ld (h.box.cell rfl) ?_
 have ew:IntKind.i64.wrap ((X.st.length:Int)-n)=(X.st.length:Int)-n:=by rw [IntKind.wrap_i64];omega
 refine cl (v_floor h) ?_
 rintro _ w1 ⟨rfl,B1⟩
 have h1:=h.bl B1
 have ew2:IntKind.i64.wrap ((X.st.length:Int)-n+k)=(X.st.length:Int)-n+k:=by rw [IntKind.wrap_i64];omega
 have key:(decide (IntKind.i64.wrap ((X.st.length:Int)-n)<(bseV X.ops:Int))||decide (12<IntKind.i64.wrap (IntKind.i64.wrap ((X.st.length:Int)-n)+k)))=decide (badX X n k):=by
  rw [ew,ew2,<-Bool.decide_or]
  refine decide_eq_decide.2 ?_
  unfold badX
  omega
 by_cases hb:badX X n k
 ·refine brt ?_ (hp:=by rw [key];exact decide_eq_true hb)
  refine cl (v_fail 12 h1) ?_
  rintro _ w2 ⟨h2,c2⟩
  rw [if_pos hb,decide_eq_false (not_not_intro hb)]
  exact rt1 ⟨rfl,h2,(B1.chg _).trans c2⟩
 ·refine brf ?_ (hp:=by rw [key];exact decide_eq_false hb)
  rw [if_neg hb,decide_eq_true hb]
  exact rt1 ⟨rfl,h1,B1.chg _⟩
theorem sl_none {α:Type} {E:El α} {S:Nat->Prop} {w:World} {a:Option Addr} {l:List α} (h:Sl E S w a l) (ha:a.isNone=true):l=[]:=by
 cases l with
 | nil=>rfl
 | cons x l =>
  obtain ⟨b,o,cs,e,_⟩:=h.el 0 x rfl
  rw [e] at ha;cases ha
theorem bl_ap {w w' w'':World} {a:Option Addr} (h:Bl w w') (k:Ap w' a w'') (ha:∀ g,a=some ⟨g,0,none⟩->w.heap.size<=g):Bl w w'':=Below.trans h (k.below h.size ha)
theorem eql_nil {P:Program} {w:World} {t e:TypeId} {a:Option Addr} {n c:Nat} (h:P.underlying t=some (.slice e)):(binOp .eql t (.slice a n c) (.slice none 0 0)).run P w = .ok (.bool a.isNone) w:=by
 have h1:∀ d:Nat,(Op.equalIn (d+1) t (.slice a n c) (.slice none 0 0)).run P w = .ok a.isNone w:=fun d=>by
  cases a <;> simp [Op.equalIn,run_underlying h]
 have h2:(Op.equal t (.slice a n c) (.slice none 0 0)).run P w = .ok a.isNone w:=h1 9999
 simp [binOp,h2]
theorem Eng.bnil {C:Cx} {s:St} {w:World} {md:Option Md} {ops:Array Oper} {T T':TypeId} {x y:Operand} {d:Nat} {ty:TypeId} {pos:String} {af:Array Edge} {g:Option (Nat×Bool)} {rest:List Oper} {k:List Item} {l:Env} {c:CEnv} {a:Option Addr} {n cp:Nat} {e esz by' sz:Nat} {ag:Bool} {zr:List Value}
  (h:Wk C (.reg md ops rest k ((d,.bool a.isNone)::l) c) w)
  (hs:adv C.tab C.n C.ks 400 s = .opn md ops ⟨some d,.binOp .eql T x y T',ty,pos,af,g⟩ rest k l c []:=by rfl) (hx:evc l c [] x=some (.slice a n cp):=by rfl) (hy:evc l c [] y=some (.slice none 0 0):=by rfl) (ht:C.tab.at T=some ⟨.slice e esz by',sz,ag,zr⟩:=by rfl) (hf:fresh d l c []=true:=by rfl):Wk C s w :=
 rd (p:=[]) (fun hT _ hA hp w' _=>by
  obtain ⟨dd,x0,z0,hTT⟩:=tiOk_und (tab_at hT ht)
  obtain ⟨rfl,_⟩:=hTT.sl _ _ _ rfl
  simp only [execOp,evc_ok hA.k hA.kc.c hp hx,evc_ok hA.k hA.kc.c hp hy]
  exact run_bind_ok (run_bind_ok (show (eqGuard .eql T x y (.slice a n cp) (.slice none 0 0)).run C.P w' = .ok () w' from rfl) |>.trans (eql_nil hTT.und)) |>.trans rfl) h hs rfl hf (okR_no rfl)
theorem c_CloneT (l:List Ty) (a:Option Addr) (cap:Nat) (S:Nat->Prop) (w:World) (hS:Sl eTy S w a l) :
  Ret Tryz.prog 49 #[.slice a l.length cap] w fun v w'=>∃ a' cap',v = .slice a' l.length cap'/\OwP 2 encTy w' w.heap.size 42 a' cap' l/\Bl w w':=by
 have hbig:=hS.big
 refine entr (vs:=[.slice a l.length cap]) [0,2,4] tabok Tryz.func49 (by kernel_rfl) ?_
 refine bnil ?_
 refine br (t:=a.isNone) (fun h => ?_) (fun h => ?_)
 ·have hl:=sl_none hS h
  subst hl
  exact rt1 ⟨none,0,rfl,Ow.nil ..,Bl.refl _⟩
 refine bs (cs:=[]) fun b1 w1 h1 => ?_
 refine apl (enc:=encTy) (base:=w.heap.size) (l0:=[]) (l1:=l) (Ow.base (Ow.made (n:=0) h1 rfl (by omega)) (by rw [h1.blk];exact Nat.le_refl _)) (src_of (hS.bl h1.bl)) (by rw [h1.size];omega) (fun a' cap' w2 hO hA hf => ?_)
 exact rt1 ⟨a',cap',rfl,hO,bl_ap h1.bl hA fun g hg=>by
  simp only [Option.some.injEq,Addr.mk.injEq,and_true] at hg
  rw [<-hg,h1.blk];exact Nat.le_refl _⟩
theorem add_zero_a (a:Option Addr) (n e:Nat):(if n=0 then a else a.map (·.add (0*e)))=a:=by
 split
 ·rfl
 ·cases a with
  | none=>rfl
  | some x=>simp [Addr.add]
abbrev CX.ab (X:CX) (w:World):Nat->Prop:=fun i=>i=X.b∨w.heap.size<=i
theorem Chg.cut {X:CX} {w w1 w2:World} (h:Chg X.at w w1) (k:Chg (X.ab w) w1 w2):Chg X.at w w2 :=
 ⟨k.os.trans h.os,k.tape.trans h.tape,k.output.trans h.output,Nat.le_trans h.size k.size,fun i hi hn=>(k.block i (Nat.lt_of_lt_of_le hi h.size) fun q=>q.elim hn fun q=>by omega).trans (h.block i hi hn)⟩
theorem Chg.wide {X:CX} {w w1 w2:World} (h:Chg X.at w1 w2):Chg (X.ab w) w1 w2:=h.sub fun _ hb => .inl hb
def HowQ (X:CX) (w:World) (e:Int) (n k:Nat) (f:FuncId) (cap:List Value) (R:Int->List Ty->Prop):Prop :=
 ∀ (w1:World) (ta:Option Addr) (tc:Nat),CkR w1 X e->Chg X.at w w1->OwP 2 encTy w1 w.heap.size 42 ta tc (X.st.drop (X.st.length-n)) ->
  Ret Tryz.prog f (.slice ta (X.st.drop (X.st.length-n)).length tc::cap).toArray w1 fun v w2=>∃ e' ua uc out,v = .slice ua out.length uc/\out.length=k/\CkR w2 X e'/\Chg (X.ab w) w1 w2/\Sl eTy X.S w2 ua out/\R e' out
def CX.put (X:CX) (sa:Option Addr) (sc:Nat) (st:List Ty):CX:=⟨X.b,X.m,X.a,X.la,X.lc,X.loc,X.oa,X.oc,X.ops,sa,sc,st,X.G⟩
def DoQ (X:CX) (w:World) (e:Int) (n k:Nat) (R:Int->List Ty->Prop) (w':World):Prop :=
 ∃ e' sa sc st,CkR w' (X.put sa sc st) e'/\Chg X.at w w'/\(badX X n k->st=X.st/\e'=stkE e)/\(¬badX X n k->∃ out,R e' out/\st=X.st.take (X.st.length-n)++out)
set_option maxHeartbeats 1000000 in
theorem v_do (n k:Nat) (hn:n<=1000) (hk:k<=1000) (f:FuncId) (cap:List Value) (R:Int->List Ty->Prop) (hf:callable Tryz.prog f=true) (h:CkR w X e) (hH:¬badX X n k->HowQ X w e n k f cap R) :
  Ret Tryz.prog 114 #[ptr X.b,I n,I k,.func (.func f) #[] cap.toArray] w fun _ w'=>DoQ X w e n k R w':=by
 have hsb:=h.st.big
 refine entr (vs:=[ptr X.b,I (n:Int),I (k:Int),.func (.func f) #[] cap.toArray]) [0,1,2,3,8,9,14] tabok Tryz.func114 (by kernel_rfl) ?_
 refine cl (v_counts n k hn hk h) ?_
 rintro _ w1 ⟨rfl,h1,c1⟩
 by_cases hb:badX X n k
 ·refine brt ?_ (hp:=by simpa using hb)
  rw [if_pos hb] at h1
  exact rt (vs:=[]) ⟨_,X.sa,X.sc,X.st,h1,c1,fun _=>⟨rfl,rfl⟩,fun q=>absurd hb q⟩
 refine brf ?_ (hp:=by simpa using hb)
 rw [if_neg hb] at h1
 have hle:n<=X.st.length:=by unfold badX at hb;omega
 have hst:X.st.length-n+k<=12:=by unfold badX at hb;omega
 have el:IntKind.i64.wrap ((X.st.length:Int)-n)=((X.st.length-n:Nat):Int):=by rw [IntKind.wrap_i64];omega
 have hcap:=h.cap
 refine ld (h1.box.cell rfl) ?_
 refine ld (h1.box.cell rfl) ?_
 have hd:(X.st.drop (X.st.length-n)).length=X.st.length-(X.st.length-n):=List.length_drop ..
 refine sl (X.st.length-n) X.st.length ?_ (h1:=by exact ⟨_,congrArg _ el⟩)
 rw [<-hd]
 refine cl (c_CloneT (X.st.drop (X.st.length-n)) _ _ X.S w1 (sl_from h1.st hcap (X.st.length-n))) ?_
 rintro _ w2 ⟨ta,tc,rfl,hO,B12⟩
 have h2:=h1.bl B12
 refine cl (hH hb w2 ta tc h2 (c1.trans (B12.chg _)) (hO.base c1.size)) ?_
 rintro _ w3 ⟨e',ua,uc,out,rfl,hk',h3,c3,hu,hR⟩
 have hub:=hu.big
 refine ld (h3.box.cell rfl) ?_
 refine sl3 0 (X.st.length-n) (X.st.length-n) ?_ (hhi:=by exact congrArg (fun z=>some (some (Value.int .i64 z))) el) (hmx:=by exact congrArg (fun z=>some (Value.int .i64 z)) el)
 rw [add_zero_a,Nat.sub_zero]
 have hs0:Eng.Src w3 X.sa (X.st.length-n) ((X.st.take (X.st.length-n)).flatMap encTy):=by
  have:=src_of (sl_take h3.st (X.st.length-n))
  rwa [List.length_take,Nat.min_eq_left (Nat.sub_le ..)] at this
 have hl0:((X.st.take (X.st.length-n)).flatMap encTy).length=(X.st.length-n)*2:=by
  rw [flat_length (enc:=encTy) (sz:=2) (fun _=>rfl),List.length_take,Nat.min_eq_left (Nat.sub_le ..)]
 refine apf hs0 hl0 (src_of hu) (fun a' cap' w4 hc hS hbl hfr => ?_) (hl:=flat_length (enc:=encTy) (sz:=2) (fun _=>rfl) out) (h1:=by rw [List.all_flatMap,List.all_eq_true];exact fun x _=>rfl) (hb:=by omega)
 have h4:=h3.bl hbl
 refine st h4.box fun w5 k5 x5 => ?_
 have hlen:(X.st.take (X.st.length-n)++out).length=X.st.length-n+out.length:=by
  rw [List.length_append,List.length_take,Nat.min_eq_left (Nat.sub_le ..)]
 have hsl:Sl eTy X.S w4 a' (X.st.take (X.st.length-n)++out):=by
  rcases Nat.eq_zero_or_pos out.length with h0 | h0
  ·have e0:out=[]:=List.eq_nil_of_length_eq_zero h0
   subst e0
   rw [List.append_nil]
   cases a' with
   | none =>
    rcases hS with ⟨q,_⟩ | ⟨b,o,q,_⟩
    ·rw [show X.st.take (X.st.length-n)=[] from List.eq_nil_of_length_eq_zero (by rw [List.length_take];simp at q;omega)]
     exact Sl.nil ..
    ·cases q
   | some ad =>
    obtain ⟨g,o,r⟩:=ad
    cases r with
    | none =>
     rcases hfr g o rfl with ⟨_,q⟩ | q
     ·rw [<-q];exact sl_take h4.st _
     ·refine src_sl (by rw [List.length_take,Nat.min_eq_left (Nat.sub_le ..)];simpa using hS) (by rw [List.length_take];omega) (fun g' o' hg => ?_)
      simp only [Option.some.injEq,Addr.mk.injEq,and_true] at hg
      obtain ⟨rfl,rfl⟩:=hg
      have:=h3.box.lt
      exact ⟨by omega,fun z=>by have:=h3.op.lt z;omega,h3.gn _ (by omega)⟩
    | some r =>
     rcases hS with ⟨q,_⟩ | ⟨b,o,q,_⟩
     ·rw [show X.st.take (X.st.length-n)=[] from List.eq_nil_of_length_eq_zero (by rw [List.length_take];simp at q;omega)]
      exact Sl.nil ..
     ·cases q
  ·refine src_sl (by rw [hlen,List.flatMap_append];exact hS) (by rw [hlen];omega) (fun g o hg => ?_)
   rcases hfr g o hg with ⟨q,_⟩ | q
   ·omega
   ·have:=h3.box.lt
    exact ⟨by omega,fun z=>by have:=h3.op.lt z;omega,h3.gn _ (by omega)⟩
 have k45:Kp X.S w4 w5:=k5.kp fun _ hi=>hi.1
 have kl45:Kp (· < X.b) w4 w5:=k5.kp fun _ hi=>Nat.ne_of_lt hi
 refine en ⟨e',a',cap',X.st.take (X.st.length-n)++out,⟨?_,h4.lo.kp kl45,h4.ll.kp kl45,hsl.kp k45,h4.op.wr k5 (Nat.lt_succ_self _) fun _ hi=>hi.1,by show (X.st.take (X.st.length-n)++out).length<=cap';rw [hlen];exact hc,fun i hi=>h4.gn i (by rw [<-k5.size];exact hi),h4.gb⟩,(((c1.trans (B12.chg _)).cut c3).trans (hbl.chg _)).trans (k5.chg rfl),fun q=>absurd q hb,fun _=>⟨out,hR,rfl⟩⟩
 have ec:ckc (X.put a' cap' (X.st.take (X.st.length-n)++out)) e'=ckc ⟨X.b,X.m,X.a,X.la,X.lc,X.loc,X.oa,X.oc,X.ops,a',cap',X.st.take (X.st.length-n)++out,X.G⟩ e':=rfl
 rw [ec]
 simp only [ckc,hlen]
 exact x5
end Go.Proofs.YtdjkoljonlcemaaGreat

/- Walks: push; the closures of the verifier's steps, first part. -/
namespace Go.Proofs.YtdjkoljonlcemaaGreat
open Eng Go.RowKit
variable {w:World} {X:CX} {e:Int}
theorem Chg.kbX {X:CX} {w w':World} {t:Nat} (h:Chg X.at w w'):mdW (some (.h (fun i=>i≠X.b) t)) w w':=⟨fun i s hi=>h.block i hi s⟩
theorem Bl.kbX {X:CX} {w w':World} {t:Nat} (h:Bl w w'):mdW (some (.h (fun i=>i≠X.b) t)) w w':=(h.chg X.at).kbX
theorem DoQ.bl {n k:Nat} {R:Int->List Ty->Prop} {w w1 w':World} (B:Bl w w1) (h:DoQ X w1 e n k R w'):DoQ X w e n k R w':=by
 obtain ⟨e',sa,sc,st,h1,h2,h3⟩:=h
 exact ⟨e',sa,sc,st,h1,(B.chg _).trans h2,h3⟩
theorem one_ty {w w':World} {b:Nat} {t:Ty} {X:CX} (h:New w b 42 (encTy t) w') (hX:CkR w X e):Sl eTy X.S w' (some ⟨b,0,none⟩) [t] :=
 owp_sl (l:=[t]) (enc:=encTy) (sz:=2) (Ow.made (n:=1) h rfl (by omega)) (by simp) fun g hg=>by
  simp only [Option.some.injEq,Addr.mk.injEq,and_true] at hg
  have:=h.blk
  have:=hX.box.lt
  exact ⟨by omega,fun z=>by have:=hX.op.lt z;omega,hX.gn _ (by omega)⟩
theorem v_push (t:Ty) (h:CkR w X e):Ret Tryz.prog 122 #[ptr X.b,.agg (encTy t).toArray] w fun _ w'=>DoQ X w e 0 1 (fun e' out=>e'=e/\out=[t]) w':=by
 refine entr (vs:=[ptr X.b,.agg (encTy t).toArray]) [0,1,3] tabok Tryz.func122 (by kernel_rfl) ?_
 refine bx (cs:=encTy t) fun b1 w1 k1 => ?_
 have h1:=h.bl k1.bl
 have hb1:b1≠X.b:=by have:=h.box.lt;have:=k1.blk;omega
 refine cl (v_do 0 1 (by omega) (by omega) 180 [ptr b1] (fun e' out=>e'=e/\out=[t]) (by kernel_rfl) h1 (fun _ => ?_)) ?_
 ·intro w2 ta tc h2 c2 hO
  have x1:=c2.box k1.box hb1
  refine entr (vs:=[.slice ta (X.st.drop (X.st.length-0)).length tc,ptr b1]) [1,3] tabok Tryz.func180 (by kernel_rfl) ?_
  refine lda x1.at ?_
  refine bs (cs:=encTy t) fun b3 w3 k3 => ?_
  exact rt1 ⟨e,_,_,[t],rfl,rfl,h2.bl k3.bl,(k3.bl.chg X.at).wide,one_ty k3 h2,rfl,rfl⟩
 ·rintro _ w2 h2
  exact en (h2.bl k1.bl)
def RV (X:CX) (i:Ins) (n k:Nat):Int->List Ty->Prop:=fun e' out=>(∃ t,pshV X.m X.loc i (X.st.drop (X.st.length-n))=some t/\e'=0/\out=List.replicate k t)∨(pshV X.m X.loc i (X.st.drop (X.st.length-n))=none/\e'≠0)
structure HowC (X:CX) (w:World) (bc bi:Nat) (i:Ins):Prop where
 xc:Box w bc 192 [ptr X.b]
 xi:Box w bi 53 (encIns i)
 nc:bc≠X.b
 ni:bi≠X.b
 ty:∀ t∈X.st,tyA X.m t
 ip:InsP X.m X.loc i
theorem HowC.chg {w w':World} {bc bi:Nat} {i:Ins} (h:HowC X w bc bi i) (c:Chg X.at w w'):HowC X w' bc bi i:=⟨c.box h.xc h.nc,c.box h.xi h.ni,h.nc,h.ni,h.ty,h.ip⟩
theorem taken {n j:Nat} {w w1:World} {ta:Option Addr} {tc:Nat} (hX:CkR w X e) (hO:OwP 2 encTy w1 w.heap.size 42 ta tc (X.st.drop (X.st.length-n))) (hn:n<=X.st.length) (hj:j<n) :
  ∃ t b,(X.st.drop (X.st.length-n))[j]? = some t/\(X.st.drop (X.st.length-n)).getD j noT=t/\t∈X.st/\ta=some ⟨b,0,none⟩/\b≠X.b/\At w1 b (0+j*2) (encTy t):=by
 have hl:(X.st.drop (X.st.length-n)).length=n:=by rw [List.length_drop];omega
 have hbig:=hX.st.big
 have hS:=owp_sl (S:=fun i=>i≠X.b) hO (by rw [hl];omega) (fun g hg=>by have:=(hO.lt hg).1;have:=hX.box.lt;omega)
 obtain ⟨t,b,o,cs,hx,e1,hs,hA,rfl⟩:=at_some hS (i:=j) (by omega)
 have ho:o=0:=by
  rcases hO.shape with ⟨q,_⟩ | ⟨g,_,q,_⟩
  ·rw [q] at e1;cases e1
  ·rw [q] at e1;simp only [Option.some.injEq,Addr.mk.injEq,and_true] at e1;exact e1.2.symm
 subst ho
 exact ⟨t,b,hx,by rw [List.getD_eq_getElem?_getD,hx];rfl,List.mem_of_mem_drop (List.mem_of_getElem? hx),e1,hs,hA⟩
theorem h_none (i:Ins) (n:Nat) (hp:pshV X.m X.loc i (X.st.drop (X.st.length-n))=some noT):HowQ X w 0 n 0 121 [] (RV X i n 0):=by
 intro w1 ta tc h1 c1 hO
 refine entr (vs:=[.slice ta (X.st.drop (X.st.length-n)).length tc]) [2] tabok Tryz.func121 (by kernel_rfl) ?_
 exact rt1 ⟨0,none,0,[],rfl,rfl,h1,Chg.refl _ _,Sl.nil ..,.inl ⟨_,hp,rfl,rfl⟩⟩
end Go.Proofs.YtdjkoljonlcemaaGreat

/- Walks: the closures of the verifier's simple steps. -/
namespace Go.Proofs.YtdjkoljonlcemaaGreat
open Eng Go.RowKit
variable {w:World} {X:CX} {i:Ins} {bc bi:Nat}
theorem wnt0 (t:Bool):(wnt 0 t=0↔t=true):=by cases t <;> simp [wnt]
theorem wnt_0 {e:Int} {t:Bool} (h:wnt e t=0):t=true/\e=0:=by
 unfold wnt at h
 split at h
 ·rename_i q;exact ⟨q,h⟩
 ·split at h
  ·cases h
  ·rename_i q;exact absurd h q
theorem RV.yes {n k:Nat} {t:Ty} (h:pshV X.m X.loc i (X.st.drop (X.st.length-n))=some t):RV X i n k 0 (List.replicate k t) := .inl ⟨t,h,rfl,rfl⟩
theorem RV.no {n k:Nat} {e:Int} {l:List Ty} (h:pshV X.m X.loc i (X.st.drop (X.st.length-n))=none) (he:e≠0):RV X i n k e l := .inr ⟨h,he⟩
theorem RV.want {n k:Nat} {t:Ty} {b:Bool} (h:pshV X.m X.loc i (X.st.drop (X.st.length-n))=if b=true then some t else none):RV X i n k (wnt 0 b) (List.replicate k t):=by
 cases b with
 | true=>exact .yes (by simpa using h)
 | false=>exact .no (by simpa using h) (by simp [wnt])
theorem drop_len {n:Nat} (h:n<=X.st.length):(X.st.drop (X.st.length-n)).length=n:=by rw [List.length_drop];omega
set_option maxHeartbeats 1000000 in
theorem h_store (hX:CkR w X 0) (hC:HowC X w bc bi i) (ho:i.op=3) (hn:1<=X.st.length):HowQ X w 0 1 0 124 [ptr bc,ptr bi] (RV X i 1 0):=by
 intro w1 ta tc h1 c1 hO
 obtain ⟨xc,xi,nc,ni,ty,ip⟩:=hC.chg c1
 obtain ⟨t,b,_,hg,hm,rfl,hb,hA⟩:=taken (j:=0) hX hO hn (by omega)
 have hl:=drop_len hn
 have ea:=ip.a0 (by omega)
 refine entr (vs:=[.slice (some ⟨b,0,none⟩) (X.st.drop (X.st.length-1)).length tc,ptr bc,ptr bi]) [0,1,2,4] tabok Tryz.func124 (by kernel_rfl) ?_
 refine dh (fun i=>i≠X.b) (List.range 9) fun w2 k2 => ?_
 have h2:=h1.bl k2.bl
 refine ld ((k2.box xc).cell rfl) ?_ (hm:=by exact nc)
 refine ix (j:=0) ?_
 refine lda (hA.bl k2.bl) ?_ (hm:=by exact hb)
 refine ld ((k2.box xc).cell rfl) ?_ (hm:=by exact nc)
 refine ld ((k2.box xi).cell rfl) ?_ (hm:=by exact ni)
 refine cl (v_local i.a ea h2) ?_ (hm:=fun _ _ r=>r.2.2.kbX)
 rintro _ w3 ⟨rfl,h3,c3⟩
 refine cl (v_fit t _ ip.P (tyA_clsA (ty t hm)) (fun q => ?_) h3) ?_ (hm:=fun _ _ r=>r.2.kbX)
 ·obtain ⟨q,_⟩:=wnt_0 q
  obtain ⟨u,hu⟩:=Option.isSome_iff_exists.1 q
  rw [hu]
  exact tyA_clsA (ip.lt u (List.mem_of_getElem? hu))
 rintro _ w4 ⟨h4,c4⟩
 refine rt1 ⟨_,none,0,[],rfl,rfl,h4,((k2.bl.chg _).trans (c3.trans c4)).wide,Sl.nil ..,?_⟩
 have ep:pshV X.m X.loc i (X.st.drop (X.st.length-1))=(match X.loc[i.a.toNat]? with
  | some x=>if fitB X.m t x=true then some noT else none
  | none=>none):=by
  simp only [pshV,reqV,ho,hg];rfl
 cases hu:X.loc[i.a.toNat]? with
 | none =>
  rw [hu] at ep
  exact .no ep (by cases fitB X.m t noT <;> simp [wnt])
 | some u =>
  rw [hu] at ep
  exact .want (t:=noT) ep
theorem Chg.kpX {w w':World} {X:CX} (h:Chg X.at w w'):Kp X.S w w':=h.kp.sub fun _ hi=>hi.1
theorem take_1 {α:Type} {l:List α} {t:α} (h:l[0]? = some t):l.take 1=[t]:=by
 cases l with
 | nil=>simp at h
 | cons x l=>simp at h;simp [h]
theorem takenS {n:Nat} {w1:World} {ta:Option Addr} {tc:Nat} {e:Int} (hX:CkR w X e) (hO:OwP 2 encTy w1 w.heap.size 42 ta tc (X.st.drop (X.st.length-n))):Sl eTy X.S w1 ta (X.st.drop (X.st.length-n)) :=
 owp_sl hO (by have:=hX.st.big;rw [List.length_drop];omega) fun g hg=>by
  have:=(hO.lt hg).1
  have:=hX.box.lt
  exact ⟨by omega,fun z=>by have:=hX.op.lt z;omega,hX.gn _ (by omega)⟩
theorem drop_one {t:Ty} (hn:1<=X.st.length) (hx:(X.st.drop (X.st.length-1))[0]? = some t):X.st.drop (X.st.length-1)=[t]:=by
 have hl:=drop_len hn
 match h:X.st.drop (X.st.length-1),hl,hx with
 | [u],_,hx=>simp at hx;rw [hx]
theorem h_dup (hX:CkR w X 0) (ho:i.op=5) (hn:1<=X.st.length):HowQ X w 0 1 2 126 [] (RV X i 1 2):=by
 intro w1 ta tc h1 c1 hO
 obtain ⟨t,b,hx,hg,hm,rfl,hb,hA⟩:=taken (j:=0) hX hO hn (by omega)
 have hd:=drop_one hn hx
 have hlt:=(hO.lt rfl).2
 have hge:=(hO.lt rfl).1
 have z1:=c1.size
 have ep:pshV X.m X.loc i (X.st.drop (X.st.length-1))=some t:=by
  simp only [pshV,reqV,ho,hg];rfl
 have rv:=RV.yes (k:=2) ep
 rw [hd] at hO ⊢
 refine entr (vs:=[.slice (some ⟨b,0,none⟩) [t].length tc]) [0,2] tabok Tryz.func126 (by kernel_rfl) ?_
 refine ix (j:=0) ?_ (hb:=Nat.zero_lt_one)
 refine lda hA ?_
 refine bs (cs:=encTy t) fun b3 w3 k3 => ?_
 refine apl (enc:=encTy) (l1:=[t]) (hO.bl k3.bl) (.inr ⟨b3,0,rfl,k3.box.at⟩) (by have:=k3.bl.size;omega) (fun a' c' w4 O4 A4 _ => ?_)
 have h3:=h1.bl k3.bl
 have hbx:=h3.box.lt
 have c4:Chg (fun i=>i=b) w3 w4:=A4.chg fun g hg _=>by simp only [Option.some.injEq,Addr.mk.injEq,and_true] at hg;exact hg.symm
 have hX0:=hX.box.lt
 have hoa:∀ g,X.oa=some ⟨g,0,none⟩->g≠b:=fun g z=>by have:=(hX.op.lt z).2;omega
 have c14:Chg (X.ab w) w1 w4:=(k3.bl.chg _).trans (c4.sub fun i hi => .inr (by show _<=i;rw [hi];exact hge))
 refine rt1 ⟨0,a',c',[t]++[t],rfl,rfl,hX.chg (c1.cut c14) (c4.box h3.box (fun q=>by omega)),c14,owp_sl O4 (by simp) (fun g hg => ?_),rv⟩
 ·have:=(O4.lt hg).1
  exact ⟨by omega,fun z=>by have:=hX.op.lt z;omega,hX.gn _ (by omega)⟩
set_option maxHeartbeats 1000000 in
theorem h_arith (hX:CkR w X 0) (hC:HowC X w bc bi i) (ho:6<=i.op/\i.op<=11) (hn:2<=X.st.length):HowQ X w 0 2 1 127 [ptr bc] (RV X i 2 1):=by
 intro w1 ta tc h1 c1 hO
 obtain ⟨xc,xi,nc,ni,ty,ip⟩:=hC.chg c1
 have hS:=takenS hX hO
 have hcp:=hO.capn.1
 obtain ⟨t,b,hx,hg,hm,rfl,hb,hA⟩:=taken (j:=0) hX hO hn (by omega)
 obtain ⟨u,b',hx',hg',hm',eb,hb',hA'⟩:=taken (j:=1) hX hO hn (by omega)
 simp only [Option.some.injEq,Addr.mk.injEq,and_true] at eb
 subst eb
 have hl:=drop_len hn
 have ep:pshV X.m X.loc i (X.st.drop (X.st.length-2))=if t=intT/\u=intT then some intT else none:=by
  unfold pshV reqV
  rw [if_neg (by omega),if_neg (by omega),if_neg (by omega),if_neg (by omega),if_neg (by omega),if_pos ho,hg,hg']
 refine entr (vs:=[.slice (some ⟨b,0,none⟩) (X.st.drop (X.st.length-2)).length tc,ptr bc]) [0,1,3] tabok Tryz.func127 (by kernel_rfl) ?_
 refine dh (fun i=>i≠X.b) (List.range 14) fun w2 k2 => ?_
 have h2:=h1.bl k2.bl
 refine ld ((k2.box xc).cell rfl) ?_ (hm:=by exact nc)
 refine ix (j:=0) ?_
 refine lda (hA.bl k2.bl) ?_ (hm:=by exact hb)
 refine cl (v_number w2) ?_ (hm:=fun _ _ r=>r.2.kbX)
 rintro _ w3 ⟨rfl,B3⟩
 have B13:=k2.bl.trans B3
 have h3:=h2.bl B3
 refine eqA (b:=encTy intT) (fun w=>eq_ty t intT) ?_
 by_cases q1:t=intT
 ·refine spt (.bool false) ?_ (hb:=by simp [q1])
  refine ix (j:=1) ?_
  refine spt (.bool false) ?_
  refine lda (hA'.bl B13) ?_ (hm:=by exact hb)
  refine spt (.bool false) ?_
  refine cl (v_number w3) ?_ (hm:=fun _ _ r=>r.2.kbX)
  rintro _ w4 ⟨rfl,B4⟩
  refine spt (.bool false) ?_
  refine eqA (b:=encTy intT) (fun w=>eq_ty u intT) ?_
  refine cl (v_want (decide (u=intT)) (h3.bl B4)) ?_ (hm:=fun _ _ r=>r.2.kbX)
  rintro _ w5 ⟨h5,c5⟩
  refine sl 0 1 ?_
  rw [add_zero_a]
  refine rt1 ⟨_,some ⟨b,0,none⟩,tc-0,[t],rfl,rfl,h5,((B13.trans B4).chg X.at |>.trans c5).wide,?_,?_⟩
  ·have:=sl_take (hS.kp (((B13.trans B4).chg X.at).trans c5).kpX) 1
   rwa [take_1 hx] at this
  ·subst q1
   exact .want (t:=intT) (by rw [ep];simp)
 ·refine spn (ptr 0) ?_ (hb:=by simp [q1])
  refine spn (.agg #[]) ?_ (hb:=by simp [q1])
  refine spn (.agg #[]) ?_ (hb:=by simp [q1])
  refine spn (.bool false) ?_ (hb:=by simp [q1])
  refine cl (v_want (decide (t=intT)&&false) h3) ?_ (hm:=fun _ _ r=>r.2.kbX)
  rintro _ w5 ⟨h5,c5⟩
  refine sl 0 1 ?_
  rw [add_zero_a]
  refine rt1 ⟨_,some ⟨b,0,none⟩,tc-0,[t],rfl,rfl,h5,(B13.chg X.at |>.trans c5).wide,?_,?_⟩
  ·have:=sl_take (hS.kp ((B13.chg X.at).trans c5).kpX) 1
   rwa [take_1 hx] at this
  ·exact .no (by rw [ep,if_neg fun q=>q1 q.1]) (by simp [wnt])
theorem h_isnull (hX:CkR w X 0) (hC:HowC X w bc bi i) (ho:i.op=13) (hn:1<=X.st.length):HowQ X w 0 1 1 128 [ptr bc] (RV X i 1 1):=by
 intro w1 ta tc h1 c1 hO
 obtain ⟨xc,xi,nc,ni,ty,ip⟩:=hC.chg c1
 obtain ⟨t,b,hx,hg,hm,rfl,hb,hA⟩:=taken (j:=0) hX hO hn (by omega)
 have hl:=drop_len hn
 have ep:pshV X.m X.loc i (X.st.drop (X.st.length-1))=if t=intT then none else some intT:=by
  simp only [pshV,reqV,ho,hg];rfl
 refine entr (vs:=[.slice (some ⟨b,0,none⟩) (X.st.drop (X.st.length-1)).length tc,ptr bc]) [0,1,3] tabok Tryz.func128 (by kernel_rfl) ?_
 refine dh (fun i=>i≠X.b) (List.range 7) fun w2 k2 => ?_
 have h2:=h1.bl k2.bl
 refine ld ((k2.box xc).cell rfl) ?_ (hm:=by exact nc)
 refine ix (j:=0) ?_
 refine lda (hA.bl k2.bl) ?_ (hm:=by exact hb)
 refine cl (v_number w2) ?_ (hm:=fun _ _ r=>r.2.kbX)
 rintro _ w3 ⟨rfl,B3⟩
 refine neA (b:=encTy intT) (fun w=>eq_ty t intT) ?_
 refine cl (v_want (!decide (t=intT)) (h2.bl B3)) ?_ (hm:=fun _ _ r=>r.2.kbX)
 rintro _ w4 ⟨h4,c4⟩
 refine cl (v_number w4) ?_
 rintro _ w5 ⟨rfl,B5⟩
 refine bs (cs:=encTy intT) fun b6 w6 k6 => ?_
 refine rt1 ⟨_,some ⟨b6,0,none⟩,1,[intT],rfl,rfl,h4.bl (B5.trans k6.bl),((((k2.bl.trans B3).chg X.at).trans c4).trans ((B5.trans k6.bl).chg _)).wide,one_ty k6 (h4.bl B5),.want (t:=intT) ?_⟩
 rw [ep]
 by_cases q:t=intT <;> simp [q]
theorem h_emit (hX:CkR w X 0) (hC:HowC X w bc bi i) (ho:i.op=27) (hn:1<=X.st.length):HowQ X w 0 1 0 129 [ptr bc] (RV X i 1 0):=by
 intro w1 ta tc h1 c1 hO
 obtain ⟨xc,xi,nc,ni,ty,ip⟩:=hC.chg c1
 obtain ⟨t,b,hx,hg,hm,rfl,hb,hA⟩:=taken (j:=0) hX hO hn (by omega)
 have hl:=drop_len hn
 have ep:pshV X.m X.loc i (X.st.drop (X.st.length-1))=if t=intT then some noT else none:=by
  simp only [pshV,reqV,ho,hg];rfl
 refine entr (vs:=[.slice (some ⟨b,0,none⟩) (X.st.drop (X.st.length-1)).length tc,ptr bc]) [0,1,3] tabok Tryz.func129 (by kernel_rfl) ?_
 refine dh (fun i=>i≠X.b) (List.range 7) fun w2 k2 => ?_
 have h2:=h1.bl k2.bl
 refine ld ((k2.box xc).cell rfl) ?_ (hm:=by exact nc)
 refine ix (j:=0) ?_
 refine lda (hA.bl k2.bl) ?_ (hm:=by exact hb)
 refine cl (v_number w2) ?_ (hm:=fun _ _ r=>r.2.kbX)
 rintro _ w3 ⟨rfl,B3⟩
 refine eqA (b:=encTy intT) (fun w=>eq_ty t intT) ?_
 refine cl (v_want (decide (t=intT)) (h2.bl B3)) ?_ (hm:=fun _ _ r=>r.2.kbX)
 rintro _ w4 ⟨h4,c4⟩
 refine rt1 ⟨_,none,0,[],rfl,rfl,h4,(((k2.bl.trans B3).chg X.at).trans c4).wide,Sl.nil ..,.want (t:=noT) ?_⟩
 rw [ep];simp
theorem h_if (hX:CkR w X 0) (hC:HowC X w bc bi i) (ho:i.op=29) (hn:1<=X.st.length):HowQ X w 0 1 0 115 [ptr bc] (RV X i 1 0):=by
 intro w1 ta tc h1 c1 hO
 obtain ⟨xc,xi,nc,ni,ty,ip⟩:=hC.chg c1
 obtain ⟨t,b,hx,hg,hm,rfl,hb,hA⟩:=taken (j:=0) hX hO hn (by omega)
 have hl:=drop_len hn
 have ep:pshV X.m X.loc i (X.st.drop (X.st.length-1))=if t=intT then some noT else none:=by
  simp only [pshV,reqV,ho,hg];rfl
 refine entr (vs:=[.slice (some ⟨b,0,none⟩) (X.st.drop (X.st.length-1)).length tc,ptr bc]) [0,1,3] tabok Tryz.func115 (by kernel_rfl) ?_
 refine dh (fun i=>i≠X.b) (List.range 7) fun w2 k2 => ?_
 have h2:=h1.bl k2.bl
 refine ld ((k2.box xc).cell rfl) ?_ (hm:=by exact nc)
 refine ix (j:=0) ?_
 refine lda (hA.bl k2.bl) ?_ (hm:=by exact hb)
 refine cl (v_number w2) ?_ (hm:=fun _ _ r=>r.2.kbX)
 rintro _ w3 ⟨rfl,B3⟩
 refine eqA (b:=encTy intT) (fun w=>eq_ty t intT) ?_
 refine cl (v_want (decide (t=intT)) (h2.bl B3)) ?_ (hm:=fun _ _ r=>r.2.kbX)
 rintro _ w4 ⟨h4,c4⟩
 refine rt1 ⟨_,none,0,[],rfl,rfl,h4,(((k2.bl.trans B3).chg X.at).trans c4).wide,Sl.nil ..,.want (t:=noT) ?_⟩
 rw [ep];simp
set_option maxHeartbeats 1000000 in
theorem h_loop (hX:CkR w X 0) (hC:HowC X w bc bi i) (ho:i.op=30) (hn:1<=X.st.length):HowQ X w 0 1 0 118 [ptr bc,ptr bi] (RV X i 1 0):=by
 intro w1 ta tc h1 c1 hO
 obtain ⟨xc,xi,nc,ni,ty,ip⟩:=hC.chg c1
 obtain ⟨t,b,hx,hg,hm,rfl,hb,hA⟩:=taken (j:=0) hX hO hn (by omega)
 have hl:=drop_len hn
 have ep:pshV X.m X.loc i (X.st.drop (X.st.length-1))=if t=intT/\X.loc[i.b.toNat]? = some intT then some noT else none:=by
  simp only [pshV,reqV,ho,hg];rfl
 refine entr (vs:=[.slice (some ⟨b,0,none⟩) (X.st.drop (X.st.length-1)).length tc,ptr bc,ptr bi]) [0,1,2,4] tabok Tryz.func118 (by kernel_rfl) ?_
 refine dh (fun i=>i≠X.b) (List.range 15) fun w2 k2 => ?_
 have h2:=h1.bl k2.bl
 refine ld ((k2.box xc).cell rfl) ?_ (hm:=by exact nc)
 refine ix (j:=0) ?_
 refine lda (hA.bl k2.bl) ?_ (hm:=by exact hb)
 refine cl (v_number w2) ?_ (hm:=fun _ _ r=>r.2.kbX)
 rintro _ w3 ⟨rfl,B3⟩
 have B13:=k2.bl.trans B3
 have h3:=h2.bl B3
 refine eqA (b:=encTy intT) (fun w=>eq_ty t intT) ?_
 by_cases q1:t=intT
 ·refine spt (.bool false) ?_ (hb:=by simp [q1])
  refine ld ((Bl.box B13 xc).cell rfl) ?_ (hm:=by exact nc)
  refine spt (.bool false) ?_
  refine ld ((Bl.box B13 xi).cell rfl) ?_ (hm:=by exact ni)
  refine spt (.bool false) ?_
  refine cl (v_local i.b ip.b0 h3) ?_ (hm:=fun _ _ r=>r.2.2.kbX)
  rintro _ w4 ⟨rfl,h4,c4⟩
  refine spt (.bool false) ?_
  refine cl (v_number w4) ?_ (hm:=fun _ _ r=>r.2.kbX)
  rintro _ w5 ⟨rfl,B5⟩
  refine spt (.bool false) ?_
  refine eqA (b:=encTy intT) (fun w=>eq_ty _ intT) ?_
  refine cl (v_want (decide ((X.loc[i.b.toNat]?).getD noT=intT)) (h4.bl B5)) ?_ (hm:=fun _ _ r=>r.2.kbX)
  rintro _ w6 ⟨h6,c6⟩
  refine rt1 ⟨_,none,0,[],rfl,rfl,h6,(((B13.chg X.at).trans c4).trans ((B5.chg _).trans c6)).wide,Sl.nil ..,?_⟩
  cases hu:X.loc[i.b.toNat]? with
  | none=>exact .no (by rw [ep,hu];simp) (by simp [wnt])
  | some u =>
   refine .want (t:=noT) ?_
   rw [ep,hu];simp [q1]
 ·refine spn (ptr 0) ?_ (hb:=by simp [q1])
  refine spn (I 0) ?_ (hb:=by simp [q1])
  refine spn (.agg #[]) ?_ (hb:=by simp [q1])
  refine spn (.agg #[]) ?_ (hb:=by simp [q1])
  refine spn (.bool false) ?_ (hb:=by simp [q1])
  refine cl (v_want (decide (t=intT)&&false) h3) ?_ (hm:=fun _ _ r=>r.2.kbX)
  rintro _ w5 ⟨h5,c5⟩
  refine rt1 ⟨_,none,0,[],rfl,rfl,h5,((B13.chg X.at).trans c5).wide,Sl.nil ..,?_⟩
  exact .no (by rw [ep,if_neg fun q=>q1 q.1]) (by simp [wnt])
end Go.Proofs.YtdjkoljonlcemaaGreat

/- Walks: the closures of the verifier's steps on objects, arrays and statics. -/
namespace Go.Proofs.YtdjkoljonlcemaaGreat
open Eng Go.RowKit
variable {w:World} {X:CX} {i:Ins} {bc bi:Nat}
theorem RV.opt {n:Nat} {o:Option Ty} (h:pshV X.m X.loc i (X.st.drop (X.st.length-n))=o):RV X i n 1 (wnt 0 o.isSome) [o.getD noT]:=by
 cases o with
 | none=>exact .no h (by simp [wnt])
 | some t=>exact .yes h
theorem fldO_ty {m:Mod} (P:ModP m) {t:Ty} {n:Int} {u:Ty} (h:fldO m t n=some u):tyA m u:=by
 unfold fldO at h
 split at h
 ·exact fldA_ty P h
 ·cases h
theorem elm_cls {m:Mod} {t:Ty} (h:tyA m t):clsA m (elmV t):=by
 unfold elmV
 split
 ·rename_i q
  have:=tyA_cls h (.inr q)
  exact fun _=>this
 ·intro q;cases q
theorem h_get (hX:CkR w X 0) (hC:HowC X w bc bi i) (ho:i.op=17) (hn:1<=X.st.length):HowQ X w 0 1 1 184 [ptr bc,ptr bi] (RV X i 1 1):=by
 intro w1 ta tc h1 c1 hO
 obtain ⟨xc,xi,nc,ni,ty,ip⟩:=hC.chg c1
 obtain ⟨t,b,hx,hg,hm,rfl,hb,hA⟩:=taken (j:=0) hX hO hn (by omega)
 have hl:=drop_len hn
 have ep:pshV X.m X.loc i (X.st.drop (X.st.length-1))=fldO X.m t i.a:=by
  simp only [pshV,reqV,ho,hg];rfl
 refine entr (vs:=[.slice (some ⟨b,0,none⟩) (X.st.drop (X.st.length-1)).length tc,ptr bc,ptr bi]) [0,1,2,4] tabok Tryz.func184 (by kernel_rfl) ?_
 refine dh (fun i=>i≠X.b) (List.range 9) fun w2 k2 => ?_
 have h2:=h1.bl k2.bl
 refine ld ((k2.box xc).cell rfl) ?_ (hm:=by exact nc)
 refine ix (j:=0) ?_
 refine lda (hA.bl k2.bl) ?_ (hm:=by exact hb)
 refine ld ((k2.box xi).cell rfl) ?_ (hm:=by exact ni)
 refine cl (v_field t i.a (ip.a0 (by omega)) (tyA_clsA (ty t hm)) h2) ?_ (hm:=fun _ _ r=>r.2.2.kbX)
 rintro _ w3 ⟨rfl,h3,c3⟩
 refine bs (cs:=encTy ((fldO X.m t i.a).getD noT)) fun b6 w6 k6 => ?_
 exact rt1 ⟨_,some ⟨b6,0,none⟩,1,[(fldO X.m t i.a).getD noT],rfl,rfl,h3.bl k6.bl,(((k2.bl.chg X.at).trans c3).trans (k6.bl.chg _)).wide,one_ty k6 h3,.opt ep⟩
theorem h_put (hX:CkR w X 0) (hC:HowC X w bc bi i) (ho:i.op=18) (hn:2<=X.st.length):HowQ X w 0 2 0 186 [ptr bc,ptr bi] (RV X i 2 0):=by
 intro w1 ta tc h1 c1 hO
 obtain ⟨xc,xi,nc,ni,ty,ip⟩:=hC.chg c1
 obtain ⟨t,b,hx,hg,hm,rfl,hb,hA⟩:=taken (j:=0) hX hO hn (by omega)
 obtain ⟨u,b',hx',hg',hm',eb,hb',hA'⟩:=taken (j:=1) hX hO hn (by omega)
 simp only [Option.some.injEq,Addr.mk.injEq,and_true] at eb
 subst eb
 have hl:=drop_len hn
 have ep:pshV X.m X.loc i (X.st.drop (X.st.length-2))=(match fldO X.m t i.a with
  | some x=>if fitB X.m u x=true then some noT else none
  | none=>none):=by
  simp only [pshV,reqV,ho,hg,hg'];rfl
 refine entr (vs:=[.slice (some ⟨b,0,none⟩) (X.st.drop (X.st.length-2)).length tc,ptr bc,ptr bi]) [0,1,2,4] tabok Tryz.func186 (by kernel_rfl) ?_
 refine dh (fun i=>i≠X.b) (List.range 12) fun w2 k2 => ?_
 have h2:=h1.bl k2.bl
 refine ld ((k2.box xc).cell rfl) ?_ (hm:=by exact nc)
 refine ix (j:=1) ?_
 refine lda (hA'.bl k2.bl) ?_ (hm:=by exact hb)
 refine ld ((k2.box xc).cell rfl) ?_ (hm:=by exact nc)
 refine ix (j:=0) ?_
 refine lda (hA.bl k2.bl) ?_ (hm:=by exact hb)
 refine ld ((k2.box xi).cell rfl) ?_ (hm:=by exact ni)
 refine cl (v_field t i.a (ip.a0 (by omega)) (tyA_clsA (ty t hm)) h2) ?_ (hm:=fun _ _ r=>r.2.2.kbX)
 rintro _ w3 ⟨rfl,h3,c3⟩
 refine cl (v_fit u _ ip.P (tyA_clsA (ty u hm')) (fun q => ?_) h3) ?_ (hm:=fun _ _ r=>r.2.kbX)
 ·obtain ⟨q,_⟩:=wnt_0 q
  obtain ⟨v,hv⟩:=Option.isSome_iff_exists.1 q
  rw [hv]
  exact tyA_clsA (fldO_ty ip.P hv)
 rintro _ w4 ⟨h4,c4⟩
 refine rt1 ⟨_,none,0,[],rfl,rfl,h4,(((k2.bl.chg X.at).trans c3).trans c4).wide,Sl.nil ..,?_⟩
 cases hv:fldO X.m t i.a with
 | none =>
  rw [hv] at ep
  exact .no ep (by cases fitB X.m u noT <;> simp [wnt])
 | some v =>
  rw [hv] at ep
  exact .want (t:=noT) ep
set_option maxHeartbeats 1000000 in
theorem h_elem (hX:CkR w X 0) (hC:HowC X w bc bi i) (ho:i.op=19) (hn:2<=X.st.length):HowQ X w 0 2 1 187 [ptr bc] (RV X i 2 1):=by
 intro w1 ta tc h1 c1 hO
 obtain ⟨xc,xi,nc,ni,ty,ip⟩:=hC.chg c1
 obtain ⟨t,b,hx,hg,hm,rfl,hb,hA⟩:=taken (j:=0) hX hO hn (by omega)
 obtain ⟨u,b',hx',hg',hm',eb,hb',hA'⟩:=taken (j:=1) hX hO hn (by omega)
 simp only [Option.some.injEq,Addr.mk.injEq,and_true] at eb
 subst eb
 have hl:=drop_len hn
 have ep:pshV X.m X.loc i (X.st.drop (X.st.length-2))=if arrT t/\u=intT then some (elmV t) else none:=by
  simp only [pshV,reqV,ho,hg,hg'];rfl
 refine entr (vs:=[.slice (some ⟨b,0,none⟩) (X.st.drop (X.st.length-2)).length tc,ptr bc]) [0,1,3] tabok Tryz.func187 (by kernel_rfl) ?_
 refine dh (fun i=>i≠X.b) (List.range 7) fun w2 k2 => ?_
 have h2:=h1.bl k2.bl
 refine ld ((k2.box xc).cell rfl) ?_ (hm:=by exact nc)
 refine ix (j:=1) ?_
 refine lda (hA'.bl k2.bl) ?_ (hm:=by exact hb)
 refine cl (v_number w2) ?_ (hm:=fun _ _ r=>r.2.kbX)
 rintro _ w3 ⟨rfl,B3⟩
 refine eqA (b:=encTy intT) (fun w=>eq_ty u intT) ?_
 refine cl (v_want (decide (u=intT)) (h2.bl B3)) ?_ (hm:=fun _ _ r=>r.2.kbX)
 rintro _ w4 ⟨h4,c4⟩
 have c14:=((k2.bl.trans B3).chg X.at).trans c4
 refine dh (fun i=>i≠X.b) (List.range 7) fun w5 k5 => ?_
 have h5:=h4.bl k5.bl
 have hA5:=((hA.kp (c14.kp.sub fun _ q=>q) hb).bl k5.bl)
 refine ld ((k5.box (c14.box xc nc)).cell rfl) ?_ (hm:=by exact nc)
 refine ix (j:=0) ?_
 refine lda hA5 ?_ (hm:=by exact hb)
 refine cl (v_element t h5) ?_ (hm:=fun _ _ r=>r.2.2.kbX)
 rintro _ w6 ⟨rfl,h6,c6⟩
 refine bs (cs:=encTy (if arrT t then elmV t else noT)) fun b7 w7 k7 => ?_
 refine rt1 ⟨_,some ⟨b7,0,none⟩,1,[if arrT t then elmV t else noT],rfl,rfl,h6.bl k7.bl,((c14.trans ((k5.bl.chg _).trans c6)).trans (k7.bl.chg _)).wide,one_ty k7 h6,?_⟩
 by_cases q1:arrT t <;> by_cases q2:u=intT
 ·have:=RV.yes (X:=X) (k:=1) (ep.trans (if_pos ⟨q1,q2⟩))
  simpa [q1,q2,wnt] using this
 ·exact .no (ep.trans (if_neg fun q=>q2 q.2)) (by simp [q1,q2,wnt])
 ·exact .no (ep.trans (if_neg fun q=>q1 q.1)) (by simp [q1,q2,wnt])
 ·exact .no (ep.trans (if_neg fun q=>q1 q.1)) (by simp [q1,q2,wnt])
set_option maxHeartbeats 1000000 in
theorem h_setelem (hX:CkR w X 0) (hC:HowC X w bc bi i) (ho:i.op=20) (hn:3<=X.st.length):HowQ X w 0 3 0 189 [ptr bc] (RV X i 3 0):=by
 intro w1 ta tc h1 c1 hO
 obtain ⟨xc,xi,nc,ni,ty,ip⟩:=hC.chg c1
 obtain ⟨t,b,hx,hg,hm,rfl,hb,hA⟩:=taken (j:=0) hX hO hn (by omega)
 obtain ⟨u,b',hx',hg',hm',eb,hb',hA'⟩:=taken (j:=1) hX hO hn (by omega)
 simp only [Option.some.injEq,Addr.mk.injEq,and_true] at eb
 subst eb
 obtain ⟨v,b',hx2,hg2,hm2,eb,hb',hA2⟩:=taken (j:=2) hX hO hn (by omega)
 simp only [Option.some.injEq,Addr.mk.injEq,and_true] at eb
 subst eb
 have hl:=drop_len hn
 have ep:pshV X.m X.loc i (X.st.drop (X.st.length-3))=if arrT t/\u=intT/\fitB X.m v (elmV t)=true then some noT else none:=by
  simp only [pshV,reqV,ho,hg,hg',hg2];rfl
 refine entr (vs:=[.slice (some ⟨b,0,none⟩) (X.st.drop (X.st.length-3)).length tc,ptr bc]) [0,1,3] tabok Tryz.func189 (by kernel_rfl) ?_
 refine dh (fun i=>i≠X.b) (List.range 7) fun w2 k2 => ?_
 have h2:=h1.bl k2.bl
 refine ld ((k2.box xc).cell rfl) ?_ (hm:=by exact nc)
 refine ix (j:=1) ?_
 refine lda (hA'.bl k2.bl) ?_ (hm:=by exact hb)
 refine cl (v_number w2) ?_ (hm:=fun _ _ r=>r.2.kbX)
 rintro _ w3 ⟨rfl,B3⟩
 refine eqA (b:=encTy intT) (fun w=>eq_ty u intT) ?_
 refine cl (v_want (decide (u=intT)) (h2.bl B3)) ?_ (hm:=fun _ _ r=>r.2.kbX)
 rintro _ w4 ⟨h4,c4⟩
 have c14:=((k2.bl.trans B3).chg X.at).trans c4
 refine dh (fun i=>i≠X.b) (List.range 10) fun w5 k5 => ?_
 have h5:=h4.bl k5.bl
 have hA5:=((hA.kp (c14.kp.sub fun _ q=>q) hb).bl k5.bl)
 have hA6:=((hA2.kp (c14.kp.sub fun _ q=>q) hb).bl k5.bl)
 refine ld ((k5.box (c14.box xc nc)).cell rfl) ?_ (hm:=by exact nc)
 refine ix (j:=2) ?_
 refine lda hA6 ?_ (hm:=by exact hb)
 refine ld ((k5.box (c14.box xc nc)).cell rfl) ?_ (hm:=by exact nc)
 refine ix (j:=0) ?_
 refine lda hA5 ?_ (hm:=by exact hb)
 refine cl (v_element t h5) ?_ (hm:=fun _ _ r=>r.2.2.kbX)
 rintro _ w6 ⟨rfl,h6,c6⟩
 refine cl (v_fit v _ ip.P (tyA_clsA (ty v hm2)) (fun q => ?_) h6) ?_ (hm:=fun _ _ r=>r.2.kbX)
 ·obtain ⟨q,_⟩:=wnt_0 q
  rw [if_pos (of_decide_eq_true q)]
  exact elm_cls (ty t hm)
 rintro _ w7 ⟨h7,c7⟩
 refine rt1 ⟨_,none,0,[],rfl,rfl,h7,((c14.trans ((k5.bl.chg _).trans c6)).trans c7).wide,Sl.nil ..,?_⟩
 by_cases q1:arrT t <;> by_cases q2:u=intT
 ·rw [if_pos q1]
  have:=RV.want (X:=X) (i:=i) (n:=3) (k:=0) (t:=noT) (b:=fitB X.m v (elmV t)) (by rw [ep];simp [q1,q2])
  simpa [q1,q2,wnt] using this
 ·exact .no (ep.trans (if_neg fun q=>q2 q.2.1)) (by cases fitB X.m v (if arrT t then elmV t else noT) <;> simp [q1,q2,wnt])
 ·exact .no (ep.trans (if_neg fun q=>q1 q.1)) (by cases fitB X.m v (if arrT t then elmV t else noT) <;> simp [q1,q2,wnt])
 ·exact .no (ep.trans (if_neg fun q=>q1 q.1)) (by cases fitB X.m v (if arrT t then elmV t else noT) <;> simp [q1,q2,wnt])
theorem h_len (hX:CkR w X 0) (hC:HowC X w bc bi i) (ho:i.op=21) (hn:1<=X.st.length):HowQ X w 0 1 1 190 [ptr bc] (RV X i 1 1):=by
 intro w1 ta tc h1 c1 hO
 obtain ⟨xc,xi,nc,ni,ty,ip⟩:=hC.chg c1
 obtain ⟨t,b,hx,hg,hm,rfl,hb,hA⟩:=taken (j:=0) hX hO hn (by omega)
 have hl:=drop_len hn
 have ep:pshV X.m X.loc i (X.st.drop (X.st.length-1))=if arrT t then some intT else none:=by
  simp only [pshV,reqV,ho,hg];rfl
 refine entr (vs:=[.slice (some ⟨b,0,none⟩) (X.st.drop (X.st.length-1)).length tc,ptr bc]) [0,1,3] tabok Tryz.func190 (by kernel_rfl) ?_
 refine dh (fun i=>i≠X.b) (List.range 5) fun w2 k2 => ?_
 have h2:=h1.bl k2.bl
 refine ld ((k2.box xc).cell rfl) ?_ (hm:=by exact nc)
 refine ix (j:=0) ?_
 refine lda (hA.bl k2.bl) ?_ (hm:=by exact hb)
 refine cl (v_element t h2) ?_ (hm:=fun _ _ r=>r.2.2.kbX)
 rintro _ w3 ⟨rfl,h3,c3⟩
 refine cl (v_number w3) ?_
 rintro _ w5 ⟨rfl,B5⟩
 refine bs (cs:=encTy intT) fun b6 w6 k6 => ?_
 refine rt1 ⟨_,some ⟨b6,0,none⟩,1,[intT],rfl,rfl,h3.bl (B5.trans k6.bl),(((k2.bl.chg X.at).trans c3).trans ((B5.trans k6.bl).chg _)).wide,one_ty k6 (h3.bl B5),.want (t:=intT) ?_⟩
 rw [ep];simp
set_option maxHeartbeats 1000000 in
theorem h_setstatic (hX:CkR w X 0) (hC:HowC X w bc bi i) (ho:i.op=23) (hn:1<=X.st.length):HowQ X w 0 1 0 191 [ptr bc,ptr bi] (RV X i 1 0):=by
 intro w1 ta tc h1 c1 hO
 obtain ⟨xc,xi,nc,ni,ty,ip⟩:=hC.chg c1
 obtain ⟨t,b,hx,hg,hm,rfl,hb,hA⟩:=taken (j:=0) hX hO hn (by omega)
 have hl:=drop_len hn
 have ep:pshV X.m X.loc i (X.st.drop (X.st.length-1))=if fitB X.m t (staA X.m i.a)=true then some noT else none:=by
  simp only [pshV,reqV,ho,hg];rfl
 obtain ⟨u,hu,eu,tu⟩:=staA_ty ip.P (ip.a0 (by omega)) (ip.sta (by omega))
 have ea:=ip.a0 (by omega)
 have hlt:=ip.sta (by omega)
 obtain ⟨n,hn'⟩:=Int.eq_ofNat_of_zero_le ea
 refine entr (vs:=[.slice (some ⟨b,0,none⟩) (X.st.drop (X.st.length-1)).length tc,ptr bc,ptr bi]) [0,1,2,4] tabok Tryz.func191 (by kernel_rfl) ?_
 refine dhx 1 T (List.range 13) fun w2 k2 => ?_
 have h2:=h1.bl k2.bl
 have hsb:=h2.mod.sta.big
 obtain ⟨u',b',o',cs',hu',e1,hS',hA',rfl⟩:=at_some h2.mod.sta (i:=n) (by omega)
 have:u'=u:=by rw [hn',Int.toNat_natCast,hu'] at hu;exact Option.some.inj hu
 subst this
 refine ld ((k2.box xc).cell rfl) ?_ (hm:=trivial)
 refine ix (j:=0) ?_
 refine lda (hA.bl k2.bl) ?_ (hm:=trivial)
 refine ld ((k2.box xc).cell rfl) ?_ (hm:=trivial)
 refine ld (h2.box.cell rfl) ?_ (hm:=trivial)
 refine ld ((k2.box xi).cell rfl) ?_ (hm:=trivial)
 rw [e1,hn']
 refine ix (j:=n) ?_
 refine lda hA' ?_ (hm:=trivial)
 refine cl (v_fit t u' ip.P (tyA_clsA (ty t hm)) (fun _=>tyA_clsA tu) h2) ?_
 rintro _ w4 ⟨h4,c4⟩
 refine rt1 ⟨_,none,0,[],rfl,rfl,h4,((k2.bl.chg X.at).trans c4).wide,Sl.nil ..,.want (t:=noT) ?_⟩
 rw [ep,eu]
end Go.Proofs.YtdjkoljonlcemaaGreat

/- Walks: the closure of a cast; a call, in the verifier. -/
namespace Go.Proofs.YtdjkoljonlcemaaGreat
open Eng Go.RowKit
variable {w:World} {X:CX} {i:Ins} {bc bi:Nat}
set_option maxHeartbeats 2000000 in
theorem h_cast (hX:CkR w X 0) (hC:HowC X w bc bi i) (ho:i.op=24) (hn:1<=X.st.length):HowQ X w 0 1 1 192 [ptr bi,ptr bc] (RV X i 1 1):=by
 intro w1 ta tc h1 c1 hO
 obtain ⟨xc,xi,nc,ni,ty,ip⟩:=hC.chg c1
 obtain ⟨t,b,hx,hg,hm,rfl,hb,hA⟩:=taken (j:=0) hX hO hn (by omega)
 have hl:=drop_len hn
 have ep:pshV X.m X.loc i (X.st.drop (X.st.length-1))=if t.kind=2/\(i.a∈upM X.m t.cls∨t.cls∈upM X.m i.a) then some ⟨2,i.a⟩ else none:=by
  simp only [pshV,reqV,ho,hg];rfl
 have tt:clsA X.m ⟨2,i.a⟩:=fun _=>⟨ip.a0 (by omega),ip.cls (by omega)⟩
 have tc':=tyA_clsA (ty t hm)
 refine entr (vs:=[.slice (some ⟨b,0,none⟩) (X.st.drop (X.st.length-1)).length tc,ptr bi,ptr bc]) [0,1,2,4,5] tabok Tryz.func192 (by kernel_rfl) ?_
 refine ld (xi.cell rfl) ?_
 refine cl (v_object i.a w1) ?_
 rintro _ w2 ⟨rfl,B2⟩
 refine al fun b3 w3 k3 => ?_
 refine sta (cs':=encTy ⟨2,i.a⟩) k3.box fun w4 k4 x4 => ?_
 have B4:Bl w1 w4:=B2.trans (k3.wr k4)
 have n4:b3≠X.b:=by have:=k3.blk;have:=h1.box.lt;have:=B2.size;omega
 refine dhx 1 T (List.range 28) fun w5 k5 => ?_
 have B5:=B4.trans k5.bl
 have h5:=h1.bl B5
 have x5:=k5.box x4
 have xc5:=Bl.box B5 xc
 have hA5:=hA.bl B5
 refine ld (xc5.cell rfl) ?_ (hm:=trivial)
 refine ix (j:=0) ?_
 refine ld (hA5 0 _ rfl) ?_ (hm:=trivial)
 by_cases q:t.kind=2
 ·refine spt (.bool false) ?_ (hb:=by simp [q])
  refine ld (xc5.cell rfl) ?_ (hm:=trivial)
  refine spt (.bool false) ?_
  refine lda h5.modAt ?_ (hm:=trivial)
  refine spt (.bool false) ?_
  refine ix (j:=0) ?_
  refine spt (.bool false) ?_
  refine lda hA5 ?_ (hm:=trivial)
  refine spt (.bool false) ?_
  refine lda x5.at ?_ (hm:=trivial)
  refine spt (.bool false) ?_
  refine cl (v_fits X.m X.a t ⟨2,i.a⟩ w5 ip.P h5.T tc' tt) ?_
  rintro _ w6 ⟨rfl,B6⟩
  have e1:fitB X.m t ⟨2,i.a⟩=decide (i.a∈upM X.m t.cls):=by unfold fitB;rw [if_pos ⟨q,rfl⟩]
  have e2:fitB X.m ⟨2,i.a⟩ t=decide (t.cls∈upM X.m i.a):=by unfold fitB;rw [if_pos ⟨rfl,q⟩]
  by_cases q2:fitB X.m t ⟨2,i.a⟩=true
  ·rw [q2]
   refine spn2 (ptr 0) ?_
   refine spn2 (.agg #[]) ?_
   refine spn2 (.agg #[]) ?_
   refine spn2 (ptr 0) ?_
   refine spn2 (.agg #[]) ?_
   refine spn2 (.bool false) ?_
   refine cl (v_want true (h5.bl B6)) ?_
   rintro _ w7 ⟨h7,c7⟩
   have c57:=(B6.chg X.at).trans c7
   have x7:=c57.box x5 n4
   refine lda x7.at ?_
   refine bs (cs:=encTy ⟨2,i.a⟩) fun b8 w8 k8 => ?_
   refine rt1 ⟨_,some ⟨b8,0,none⟩,1,[⟨2,i.a⟩],rfl,rfl,h7.bl k8.bl,(((B5.chg X.at).trans c57).trans (k8.bl.chg _)).wide,one_ty k8 h7,.want (t:=⟨2,i.a⟩) ?_⟩
   rw [ep,if_pos ⟨q,.inl ((e1▸q2:decide (i.a∈upM X.m t.cls)=true) |> of_decide_eq_true)⟩];rfl
  ·rw [Bool.eq_false_iff.2 q2]
   have h6:=h5.bl B6
   have hA6:=hA5.bl B6
   refine spt2 (.bool false) ?_
   refine ld ((Bl.box B6 xc5).cell rfl) ?_ (hm:=trivial)
   refine spt (.bool false) ?_
   refine lda h6.modAt ?_ (hm:=trivial)
   refine spt (.bool false) ?_
   refine lda (Bl.box B6 x5).at ?_ (hm:=trivial)
   refine spt (.bool false) ?_
   refine ix (j:=0) ?_
   refine spt (.bool false) ?_
   refine lda hA6 ?_ (hm:=trivial)
   refine spt (.bool false) ?_
   refine cl (v_fits X.m X.a ⟨2,i.a⟩ t w6 ip.P h6.T tt tc') ?_
   rintro _ w7 ⟨rfl,B7⟩
   refine cl (v_want (fitB X.m ⟨2,i.a⟩ t) (h6.bl B7)) ?_
   rintro _ w9 ⟨h7,c7⟩
   have c57:=((B6.trans B7).chg X.at).trans c7
   have x7:=c57.box x5 n4
   refine lda x7.at ?_
   refine bs (cs:=encTy ⟨2,i.a⟩) fun b8 w8 k8 => ?_
   refine rt1 ⟨_,some ⟨b8,0,none⟩,1,[⟨2,i.a⟩],rfl,rfl,h7.bl k8.bl,(((B5.chg X.at).trans c57).trans (k8.bl.chg _)).wide,one_ty k8 h7,.want (t:=⟨2,i.a⟩) ?_⟩
   rw [ep,e2]
   have e3:¬i.a∈upM X.m t.cls:=fun z=>q2 (by rw [e1];exact decide_eq_true z)
   simp [q,e3]
 ·refine spn (ptr 0) ?_ (hb:=by simp [q])
  refine spn (.agg #[]) ?_ (hb:=by simp [q])
  refine spn (ptr 0) ?_ (hb:=by simp [q])
  refine spn (.agg #[]) ?_ (hb:=by simp [q])
  refine spn (.agg #[]) ?_ (hb:=by simp [q])
  refine spn (.bool false) ?_ (hb:=by simp [q])
  refine spn2 (ptr 0) ?_ (hn:=by simp [q])
  refine spn2 (.agg #[]) ?_ (hn:=by simp [q])
  refine spn2 (.agg #[]) ?_ (hn:=by simp [q])
  refine spn2 (ptr 0) ?_ (hn:=by simp [q])
  refine spn2 (.agg #[]) ?_ (hn:=by simp [q])
  refine spn2 (.bool false) ?_ (hn:=by simp [q])
  refine cl (v_want (decide (t.kind=2)&&(false||false)) h5) ?_
  rintro _ w9 ⟨h7,c57⟩
  have x7:=c57.box x5 n4
  refine lda x7.at ?_
  refine bs (cs:=encTy ⟨2,i.a⟩) fun b8 w8 k8 => ?_
  refine rt1 ⟨_,some ⟨b8,0,none⟩,1,[⟨2,i.a⟩],rfl,rfl,h7.bl k8.bl,(((B5.chg X.at).trans c57).trans (k8.bl.chg _)).wide,one_ty k8 h7,.want (t:=⟨2,i.a⟩) ?_⟩
  rw [ep];simp [q]
end Go.Proofs.YtdjkoljonlcemaaGreat

/- Walks: the closure of a call; call. -/
namespace Go.Proofs.YtdjkoljonlcemaaGreat
open Eng Go.RowKit
variable {w:World} {X:CX} {i:Ins} {bc bi:Nat}
theorem fitL_snoc {m:Mod} {x:Ty}:∀ {p l:List Ty},fitL m l (p++[x])=(fitL m l p&&match l[p.length]? with
  | some t=>fitB m t x
  | none=>false)
 | [],[]=>rfl
 | [],t::l=>by cases l <;> simp [fitL]
 | u::p,[]=>by simp [fitL]
 | u::p,t::l=>by
  have:=fitL_snoc (m:=m) (x:=x) (p:=p) (l:=l)
  simp only [List.cons_append,fitL,this,List.length_cons,List.getElem?_cons_succ,Bool.and_assoc]
theorem fitL_nil {m:Mod} (l:List Ty):fitL m l []=true:=by cases l <;> rfl
def rcvB (m:Mod) (s:Int) (t:Ty):Bool:=if s<0 then true else decide (t.kind=2)&&hasS m t.cls s
def cE (b:Bool):Int:=if b=true then 0 else 11
theorem cE_wnt (a b:Bool):wnt (cE a) b=cE (a&&b):=by cases a <;> cases b <;> rfl
structure CalC (X:CX) (w:World) (bs bc bm bo bu:Nat) (s:Int) (mo:Nat) (x:MM) (pb po:Nat) (a1:Option Addr) (c1:Nat) (a2:Option Addr) (c2:Nat) (a3:Option Addr) (c3:Nat) (ua:Option Addr) (uc:Nat):Prop where
 xs:Box w bs 3 [I s]
 xc:Box w bc 192 [ptr X.b]
 xm:Box w bm 72 [.pointer (some ⟨pb,po,none⟩)]
 xo:Box w bo 3 [I (mo:Nat)]
 xu:Box w bu 23 [.slice ua (resL x.result).length uc]
 ns:bs≠X.b
 nc:bc≠X.b
 nm:bm≠X.b
 no:bo≠X.b
 nu:bu≠X.b
 hu:Sl eTy X.S w ua (resL x.result)
 pn:pb≠X.b
 pa:At w pb po (mmcells x a1 c1 a2 c2 a3 c3)
 ps:Sl eTy X.S w a1 x.params
theorem CalC.chg {w w':World} {bs bc bm bo bu:Nat} {s:Int} {mo:Nat} {x:MM} {pb po:Nat} {a1:Option Addr} {c1:Nat} {a2:Option Addr} {c2:Nat} {a3:Option Addr} {c3:Nat} {ua:Option Addr} {uc:Nat} (h:CalC X w bs bc bm bo bu s mo x pb po a1 c1 a2 c2 a3 c3 ua uc) (c:Chg X.at w w'):CalC X w' bs bc bm bo bu s mo x pb po a1 c1 a2 c2 a3 c3 ua uc :=
 ⟨c.box h.xs h.ns,c.box h.xc h.nc,c.box h.xm h.nm,c.box h.xo h.no,c.box h.xu h.nu,h.ns,h.nc,h.nm,h.no,h.nu,h.hu.kp c.kpX,h.pn,h.pa.kp (c.kp.sub fun _ q=>q) h.pn,h.ps.kp c.kpX⟩
set_option maxHeartbeats 2000000 in
theorem h_call {bs bm bo bu:Nat} {s:Int} {mo:Nat} {x:MM} {pb po:Nat} {a1:Option Addr} {c1:Nat} {a2:Option Addr} {c2:Nat} {a3:Option Addr} {c3:Nat} {ua:Option Addr} {uc:Nat} (hX:CkR w X 0)
  (hC:CalC X w bs bc bm bo bu s mo x pb po a1 c1 a2 c2 a3 c3 ua uc) (P:ModP X.m) (ty:∀ t∈X.st,tyA X.m t) (pt:∀ t∈x.params,tyA X.m t) (hs:s<0/\mo=0∨(0<=s/\s<X.m.sels)/\mo=1) (hp:x.params.length<=4) (hn:mo+x.params.length<=X.st.length) :
  HowQ X w 0 (mo+x.params.length) (resL x.result).length 218 [ptr bs,ptr bc,ptr bm,ptr bo,ptr bu]
   (fun e' out=>out=resL x.result/\e'=cE (rcvB X.m s ((X.st.drop (X.st.length-(mo+x.params.length))).getD 0 noT)&&fitL X.m ((X.st.drop (X.st.length-(mo+x.params.length))).drop mo) x.params)):=by
 intro w1 ta tc h1 c1' hO
 have hC1:=hC.chg c1'
 have hl:=drop_len hn
 generalize hL:X.st.drop (X.st.length-(mo+x.params.length))=L at *
 refine entr (vs:=[.slice ta L.length tc,ptr bs,ptr bc,ptr bm,ptr bo,ptr bu]) [0,1,2,3,4,5,7,8,9,11,40,41,42,43] tabok Tryz.func218 (by kernel_rfl) ?_
 refine ld (hC1.xs.cell rfl) ?_
 refine jn [] [(0,.slice ta L.length tc),(2,ptr bc),(3,ptr bm),(4,ptr bo),(5,ptr bu)] (fun vals w'=>vals=[]/\CkR w' X (cE (rcvB X.m s (L.getD 0 noT)))/\Chg X.at w1 w') (fun h go => ?_) (fun h go => ?_) ?_
 ·have h0:0<=s:=by simpa using h
  obtain ⟨sn,rfl⟩:=Int.eq_ofNat_of_zero_le h0
  obtain ⟨⟨_,hsel⟩,rfl⟩:(0<=(sn:Int)/\(sn:Int)<X.m.sels)/\mo=1:=by omega
  obtain ⟨t,b,hx,hg,hm,rfl,hb,hA⟩:=taken (j:=0) hX (hL▸hO) hn (by omega)
  rw [hL] at hx hg
  have hr:rcvB X.m sn (L.getD 0 noT)=(decide (t.kind=2)&&hasS X.m t.cls sn):=by rw [hg];unfold rcvB;rw [if_neg (by omega)]
  refine dhx 1 T (List.range 24) fun w2 k2 => ?_
  have h2:=h1.bl k2.bl
  refine ld ((k2.box hC1.xc).cell rfl) ?_ (hm:=trivial)
  refine ix (j:=0) ?_
  refine ld (hA.bl k2.bl 0 _ rfl) ?_ (hm:=trivial)
  by_cases q:t.kind=2
  ·obtain ⟨q0,q1⟩:=tyA_cls (ty t hm) (.inl q)
   obtain ⟨k,hk⟩:=Int.eq_ofNat_of_zero_le q0
   have hcb:=h2.mod.cls.big
   obtain ⟨c,b',o,cs,hc,e1,hS,hA',a4,c4,a5,c5,rfl,hF,hTb,_,_⟩:=at_some h2.mod.cls (i:=k) (by omega)
   have htl:=(P.cls k c hc).tl
   obtain ⟨v,bv,ov,cv,hv,e2,hSv,hAv,rfl⟩:=at_some hTb (i:=sn) (by omega)
   have hcl:hasS X.m t.cls sn=decide (0<=v):=by
    unfold hasS
    rw [hk,Int.toNat_natCast,Int.toNat_natCast,hc]
    simp only [Option.map_some,Option.getD_some,List.getD_eq_getElem?_getD,hv]
   have hz:=P.z1
   refine spt (.bool false) ?_ (hb:=by simp [q])
   refine ld ((k2.box hC1.xc).cell rfl) ?_ (hm:=trivial)
   refine spt (.bool false) ?_
   refine ld (h2.box.cell rfl) ?_ (hm:=trivial)
   refine spt (.bool false) ?_
   refine ix (j:=0) ?_
   refine spt (.bool false) ?_
   refine ld (hA.bl k2.bl 1 _ rfl) ?_ (hm:=trivial)
   refine spt (.bool false) ?_
   rw [hk,e1]
   refine ix (j:=k) ?_
   refine spt (.bool false) ?_
   refine ld (hA' 3 _ rfl) ?_ (hm:=trivial)
   refine spt (.bool false) ?_
   refine ld ((k2.box hC1.xs).cell rfl) ?_ (hm:=trivial)
   refine spt (.bool false) ?_
   rw [e2]
   refine ix (j:=sn) ?_
   refine spt (.bool false) ?_
   refine ld (hAv 0 _ rfl) ?_ (hm:=trivial)
   refine cl (v_want (decide (0<=v)) h2) ?_
   rintro _ w3 ⟨h3,c3⟩
   refine go ⟨rfl,?_,(k2.bl.chg _).trans c3⟩
   rw [hr]
   have:cE (decide (t.kind=2)&&hasS X.m t.cls sn)=wnt 0 (decide (0<=v)):=by rw [hcl,decide_eq_true q];cases decide (0<=v) <;> rfl
   rw [this];exact h3
  ·refine spn (ptr 0) ?_ (hb:=by simp [q])
   refine spn (.slice none 0 0) ?_ (hb:=by simp [q])
   refine spn (ptr 0) ?_ (hb:=by simp [q])
   refine spn (I 0) ?_ (hb:=by simp [q])
   refine spn (ptr 0) ?_ (hb:=by simp [q])
   refine spn (.slice none 0 0) ?_ (hb:=by simp [q])
   refine spn (I 0) ?_ (hb:=by simp [q])
   refine spn (ptr 0) ?_ (hb:=by simp [q])
   refine spn (I 0) ?_ (hb:=by simp [q])
   refine cl (v_want (decide (t.kind=2)&&decide ((0:Int)<=0)) h2) ?_
   rintro _ w3 ⟨h3,c3⟩
   refine go ⟨rfl,?_,(k2.bl.chg _).trans c3⟩
   rw [hr,decide_eq_false q,Bool.false_and]
   rw [decide_eq_false q,Bool.false_and] at h3;exact h3
 ·have h0:s<0:=by simpa using h
  have hr:rcvB X.m s (L.getD 0 noT)=true:=if_pos h0
  exact go ⟨rfl,by rw [hr];exact h1,Chg.refl _ _⟩
 rintro _ w2 ⟨rfl,h2,c2⟩
 have hC2:=hC1.chg c2
 refine ld (hC2.xm.cell rfl) ?_
 refine ld (hC2.pa 2 _ rfl) ?_
 refine lpk x.params.length 42 [] [(0,.slice ta L.length tc),(2,ptr bc),(4,ptr bo),(5,ptr bu),(40,.slice a1 x.params.length c1),(41,I x.params.length)] (fun j vals w'=>vals=[]/\CkR w' X (cE (rcvB X.m s (L.getD 0 noT)&&fitL X.m (L.drop mo) (x.params.take j)))/\Chg X.at w1 w') ⟨rfl,by rw [List.take_zero,fitL_nil,Bool.and_true];exact h2,c2⟩ ?_
 rintro j vals w3 hj ⟨rfl,h3,c3⟩ ih
 have hC3:=hC1.chg c3
 by_cases hlt:j<x.params.length
 ·refine brT ?_
  obtain ⟨u,bq,oq,cq,hu,eq,hSq,hAq,rfl⟩:=at_some hC3.ps hlt
  obtain ⟨t,b,hx,hg,hm,et,hb,hA⟩:=taken (j:=mo+j) hX (hL▸hO) hn (by omega)
  subst eq et
  rw [hL] at hx
  refine ix ?_
  refine lda hAq ?_
  refine al fun b4 w4 k4 => ?_
  refine sta (cs':=encTy u) k4.box fun w5 k5 x5 => ?_
  have B35:Bl w3 w5:=k4.wr k5
  have h5:=h3.bl B35
  have c5:=c3.trans (B35.chg _)
  have hC5:=hC1.chg c5
  have n4:b4≠X.b:=by have:=k4.blk;have:=h3.box.lt;omega
  refine dh (fun i=>i≠X.b) (List.range 9) fun w6 k6 => ?_
  have h6:=h5.bl k6.bl
  have c6:=c5.trans (k6.bl.chg _)
  have ew:IntKind.i64.wrap ((mo:Int)+j)=((mo+j:Nat):Int):=by rw [IntKind.wrap_i64];omega
  refine ld ((k6.box hC5.xc).cell rfl) ?_ (hm:=by exact hC1.nc)
  refine ld ((k6.box hC5.xo).cell rfl) ?_ (hm:=by exact hC1.no)
  refine ix (j:=mo+j) ?_ (hi:=by exact congrArg (fun z=>some (Value.int .i64 z)) ew)
  refine lda (hA.kp (c6.kp.sub fun _ q=>q) hb) ?_ (hm:=by exact hb)
  refine lda (k6.box x5).at ?_ (hm:=by exact n4)
  refine cl (v_fit t u P (tyA_clsA (ty t hm)) (fun _=>tyA_clsA (pt u (List.mem_of_getElem? hu))) h6) ?_ (hm:=fun _ _ r=>r.2.kbX)
  rintro _ w7 ⟨h7,c7⟩
  refine ih hlt ⟨rfl,?_,c6.trans c7⟩
  have e1:x.params.take (j+1)=x.params.take j++[u]:=by rw [List.take_add_one,hu];rfl
  have e2:(x.params.take j).length=j:=by rw [List.length_take];omega
  rw [e1,fitL_snoc,e2,List.getElem?_drop,hx,<-Bool.and_assoc,<-cE_wnt]
  exact h7
 refine brF ?_
 obtain rfl:j=x.params.length:=by omega
 rw [List.take_length] at h3
 refine ld (hC3.xu.cell rfl) ?_
 exact rt1 ⟨_,ua,uc,resL x.result,rfl,rfl,h3,c3.wide,hC3.hu,rfl,rfl⟩
end Go.Proofs.YtdjkoljonlcemaaGreat

/- Walks: a call in the verifier; its steps on memory. -/
namespace Go.Proofs.YtdjkoljonlcemaaGreat
open Eng Go.RowKit
variable {w:World} {X:CX} {i:Ins} {bc bi:Nat}
set_option maxHeartbeats 2000000 in
theorem v_call {s:Int} {mo:Nat} {x:MM} {pb po:Nat} {a1:Option Addr} {c1:Nat} {a2:Option Addr} {c2:Nat} {a3:Option Addr} {c3:Nat} (h:CkR w X 0) (hpn:pb≠X.b) (hpa:At w pb po (mmcells x a1 c1 a2 c2 a3 c3)) (hps:Sl eTy X.S w a1 x.params)
  (P:ModP X.m) (ty:∀ t∈X.st,tyA X.m t) (pt:∀ t∈x.params,tyA X.m t) (hs:s<0/\mo=0∨(0<=s/\s<X.m.sels)/\mo=1) (hp:x.params.length<=4) :
  Ret Tryz.prog 193 #[ptr X.b,.pointer (some ⟨pb,po,none⟩),I s] w fun _ w'=>DoQ X w 0 (mo+x.params.length) (resL x.result).length
   (fun e' out=>out=resL x.result/\e'=cE (rcvB X.m s ((X.st.drop (X.st.length-(mo+x.params.length))).getD 0 noT)&&fitL X.m ((X.st.drop (X.st.length-(mo+x.params.length))).drop mo) x.params)) w':=by
 have hX0:=h.box.lt
 refine entr (vs:=[ptr X.b,.pointer (some ⟨pb,po,none⟩),I s]) [0,1,2,3,4,5,6,7,9] tabok Tryz.func193 (by kernel_rfl) ?_
 refine bx (cs:=[ptr X.b]) fun b1 w1 k1 => ?_
 refine bx (cs:=[.pointer (some ⟨pb,po,none⟩)]) fun b2 w2 k2 => ?_
 refine bx (cs:=[I s]) fun b3 w3 k3 => ?_
 have y1:=k1.blk;have y2:=k2.blk;have y3:=k3.blk
 have s1:=k1.size;have s2:=k2.size;have s3:=k3.size
 have x1:=Bl.box (k2.bl.trans k3.bl) k1.box
 have x2:=Bl.box k3.bl k2.box
 have B3:=(k1.bl.trans k2.bl).trans k3.bl
 refine al fun b4 w4 k4 => ?_
 have y4:=k4.blk
 refine st (cs':=[I 0]) k4.box fun w5 k5 x5 => ?_
 refine ld ((Bl.box (k4.wr k5) k3.box).cell rfl) ?_
 refine jn [] [(0,ptr X.b),(3,ptr b1),(4,ptr b2),(5,ptr b3),(6,ptr b4)] (fun vals w'=>vals=[]/\Box w' b4 3 [I (mo:Nat)]/\Bl w3 w') (fun q go => ?_) (fun q go => ?_) ?_
 ·have h0:0<=s:=by simpa using q
  obtain rfl:mo=1:=by omega
  refine st (cs':=[I 1]) x5 fun w6 k6 x6 => ?_
  exact go ⟨rfl,x6,Below.trans (k4.wr k5) (k6.below (by omega))⟩
 ·have h0:s<0:=by simpa using q
  obtain rfl:mo=0:=by omega
  exact go ⟨rfl,x5,k4.wr k5⟩
 rintro _ w6 ⟨rfl,x4,B36⟩
 have B6:=B3.trans B36
 have pa6:=hpa.bl B6
 refine ld ((Bl.box B36 x2).cell rfl) ?_
 refine lda (At.left (cs:=encTy x.result) pa6.tail.tail.tail.tail) ?_
 refine cl (v_results x.result w6) ?_
 rintro _ w7 ⟨ua,rfl,hu,B7⟩
 refine al fun b8 w8 k8 => ?_
 refine st (cs':=[.slice ua (resL x.result).length (resL x.result).length]) k8.box fun w9 k9 x9 => ?_
 have B79:Bl w7 w9:=k8.wr k9
 have B69:=B7.trans B79
 have B9:=B6.trans B69
 refine dhx 1 T (List.range 11) fun w10 k10 => ?_
 have B910:=k10.bl
 have B10:=B9.trans B910
 have h10:=h.bl B10
 have pa10:=hpa.bl B10
 have z6:=B6.size;have z3:=B3.size
 have y8:=k8.blk;have z7:=B7.size
 have C10:CalC X w10 b3 b1 b2 b4 b8 s mo x pb po a1 c1 a2 c2 a3 c3 ua (resL x.result).length :=
  ⟨Bl.box ((B36.trans B69).trans B910) k3.box,Bl.box ((B36.trans B69).trans B910) x1,Bl.box ((B36.trans B69).trans B910) x2,Bl.box (B69.trans B910) x4,k10.box x9,by omega,by omega,by omega,by omega,by omega,
   ((hu.bl B79).bl B910).sub fun j hj=>⟨by omega,fun z=>by have:=h.op.lt z;omega,h.gn _ (by omega)⟩,hpn,pa10,hps.bl B10⟩
 refine ld (C10.xc.cell rfl) ?_ (hm:=trivial)
 refine ld (C10.xo.cell rfl) ?_ (hm:=trivial)
 refine ld (C10.xm.cell rfl) ?_ (hm:=trivial)
 refine ld (pa10 2 _ rfl) ?_ (hm:=trivial)
 refine ld (C10.xu.cell rfl) ?_ (hm:=trivial)
 have ew:IntKind.i64.wrap ((mo:Int)+x.params.length)=((mo+x.params.length:Nat):Int):=by rw [IntKind.wrap_i64];omega
 have hrl:(resL x.result).length<=1:=by unfold resL;split <;> simp
 have hdo:Ret Tryz.prog 114 #[ptr X.b,.int .i64 (IntKind.i64.wrap ((mo:Int)+x.params.length)),I (resL x.result).length,.func (.func 218) #[] [ptr b3,ptr b1,ptr b2,ptr b4,ptr b8].toArray] w10 fun _ w'=>DoQ X w10 0 (mo+x.params.length) (resL x.result).length
   (fun e' out=>out=resL x.result/\e'=cE (rcvB X.m s ((X.st.drop (X.st.length-(mo+x.params.length))).getD 0 noT)&&fitL X.m ((X.st.drop (X.st.length-(mo+x.params.length))).drop mo) x.params)) w':=by
  rw [ew]
  exact v_do (mo+x.params.length) (resL x.result).length (by omega) (by omega) _ _ _ (by kernel_rfl) h10 fun hb=>h_call h10 C10 P ty pt hs hp (by unfold badX at hb;omega)
 refine cl hdo ?_
 rintro _ w11 h11
 exact en (h11.bl B10)
def SimQ (X:CX) (w:World) (i:Ins) (w':World):Prop :=
 ∃ e' sa sc st,CkR w' (X.put sa sc st) e'/\Chg X.at w w'/\((stkV X.m X.loc ⟨X.st,X.ops⟩ i=some st/\e'=0)∨(stkV X.m X.loc ⟨X.st,X.ops⟩ i=none/\e'≠0))
theorem SimQ.bl {w w1 w':World} (B:Bl w w1) (h:SimQ X w1 i w'):SimQ X w i w':=by
 obtain ⟨e',sa,sc,st,h1,h2,h3⟩:=h
 exact ⟨e',sa,sc,st,h1,(B.chg _).trans h2,h3⟩
theorem sim_do {n k:Nat} {w':World} (hn:takV X.m i=n) (hk:putV X.m i=k) (h:DoQ X w 0 n k (RV X i n k) w'):SimQ X w i w':=by
 obtain ⟨e',sa,sc,st,h1,h2,h3,h4⟩:=h
 refine ⟨e',sa,sc,st,h1,h2,?_⟩
 subst hn hk
 unfold stkV
 by_cases hb:badX X (takV X.m i) (putV X.m i)
 ·obtain ⟨rfl,rfl⟩:=h3 hb
  exact .inr ⟨if_pos hb,by decide⟩
 ·obtain ⟨out,hR,rfl⟩:=h4 hb
  rw [if_neg (show ¬badV ⟨X.st,X.ops⟩ (takV X.m i) (putV X.m i) from hb)]
  rcases hR with ⟨t,ht,rfl,rfl⟩ | ⟨ht,he⟩
  ·exact .inl ⟨by simp only [ht],rfl⟩
  ·exact .inr ⟨by simp only [ht],he⟩
theorem push_rv {t:Ty} {w':World} (hp:pshV X.m X.loc i (X.st.drop (X.st.length-0))=some t) (h:DoQ X w 0 0 1 (fun e' out=>e'=0/\out=[t]) w'):DoQ X w 0 0 1 (RV X i 0 1) w':=by
 obtain ⟨e',sa,sc,st,h1,h2,h3,h4⟩:=h
 refine ⟨e',sa,sc,st,h1,h2,h3,fun hb => ?_⟩
 obtain ⟨out,⟨rfl,rfl⟩,e⟩:=h4 hb
 exact ⟨[t],.inl ⟨t,hp,rfl,rfl⟩,e⟩
theorem DoQ.chg {n k:Nat} {e:Int} {R:Int->List Ty->Prop} {w w':World} (h:DoQ X w e n k R w'):Chg X.at w w':=by
 obtain ⟨_,_,_,_,_,c,_⟩:=h;exact c
end Go.Proofs.YtdjkoljonlcemaaGreat

/- Walks: the verifier's steps on memory; its simple steps. -/
namespace Go.Proofs.YtdjkoljonlcemaaGreat
open Eng Go.RowKit
variable {w:World} {X:CX} {i:Ins}
theorem tak_of (h:¬(i.op=25∨i.op=26)):takV X.m i=(cntT.getD i.op.toNat (0,0)).1/\putV X.m i=(cntT.getD i.op.toNat (0,0)).2:=⟨if_neg h,if_neg h⟩
theorem resL_rep (t:Ty):resL t=List.replicate (if t.kind=0 then 0 else 1) t:=by unfold resL;split <;> rfl
theorem resL_len (t:Ty):(resL t).length=if t.kind=0 then 0 else 1:=by unfold resL;split <;> rfl
theorem call_rv {n:Int} {x:MM} {mo:Nat} {s:Int} (h0:0<=n) (hx:X.m.methods[n.toNat]? = some x) (ht:tgtV X.m i=some n) (ho:(i.op=25/\s = -1/\mo=0)∨(i.op=26/\s=i.a/\0<=i.a/\mo=1)) {w':World}
  (h:DoQ X w 0 (mo+x.params.length) (resL x.result).length (fun e' out=>out=resL x.result/\e'=cE (rcvB X.m s ((X.st.drop (X.st.length-(mo+x.params.length))).getD 0 noT)&&fitL X.m ((X.st.drop (X.st.length-(mo+x.params.length))).drop mo) x.params)) w'):SimQ X w i w':=by
 have e1:parM X.m n=x.params:=by unfold parM;rw [hx];rfl
 have e2:resM X.m n=x.result:=by unfold resM;rw [hx];rfl
 have hop:i.op=25∨i.op=26:=by omega
 have et:takV X.m i=mo+x.params.length:=by
  unfold takV parV
  rw [if_pos hop,ht]
  rcases ho with ⟨q,_,rfl⟩ | ⟨q,_,_,rfl⟩
  ·simp [q,e1]
  ·simp [q,e1];omega
 have ep:putV X.m i=(resL x.result).length:=by
  unfold putV resV
  rw [if_pos hop,ht]
  simp only [e2,resL_len]
 have epr:putV X.m i=if x.result.kind=0 then 0 else 1:=by rw [ep,resL_len]
 refine sim_do et ep ?_
 obtain ⟨e',sa,sc,st,h1,h2,h3,h4⟩:=h
 refine ⟨e',sa,sc,st,h1,h2,h3,fun hb => ?_⟩
 obtain ⟨out,⟨rfl,rfl⟩,e⟩:=h4 hb
 refine ⟨_,?_,e⟩
 unfold RV
 generalize X.st.drop (X.st.length-(mo+x.params.length))=L
 have key:pshV X.m X.loc i L=if (rcvB X.m s (L.getD 0 noT)&&fitL X.m (L.drop mo) x.params)=true then some x.result else none:=by
  unfold pshV calV
  rw [if_pos hop,ht]
  rcases ho with ⟨q,rfl,rfl⟩ | ⟨q,rfl,q0,rfl⟩
  ·simp [q,e1,e2,rcvB]
  ·have q25:¬i.op=25:=by omega
   simp only [q25,if_false,e1,e2,rcvB,if_neg (show ¬i.a<0 by omega),List.drop_one,Bool.and_eq_true,decide_eq_true_eq,and_assoc]
 rw [key,resL_rep]
 cases rcvB X.m s (L.getD 0 noT)&&fitL X.m (L.drop mo) x.params with
 | true=>exact .inl ⟨x.result,rfl,rfl,by rw [List.length_replicate]⟩
 | false=>exact .inr ⟨rfl,by decide⟩
set_option maxHeartbeats 4000000 in
theorem v_memory (h:CkR w X 0) (I':VInv X.m ⟨X.st,X.ops⟩) (ip:InsP X.m X.loc i) (hop:i.op=0∨(14<=i.op/\i.op<=26)∨i.op=28):Ret Tryz.prog 130 #[ptr X.b,.agg (encIns i).toArray] w fun _ w'=>SimQ X w i w':=by
 have hX0:=h.box.lt
 refine entr (vs:=[ptr X.b,.agg (encIns i).toArray]) [0,1,2,3,4,7,8,15,20,27,32,37,42,47,52,65,70,75,87,101] tabok Tryz.func130 (by kernel_rfl) ?_
 refine bx (cs:=[ptr X.b]) fun b1 w1 k1 => ?_
 refine bx (cs:=encIns i) fun b2 w2 k2 => ?_
 have y1:=k1.blk;have y2:=k2.blk
 have s1:=k1.size;have s2:=k2.size
 have B2:=k1.bl.trans k2.bl
 have h2:=h.bl B2
 have HC:HowC X w2 b1 b2 i:=⟨Bl.box k2.bl k1.box,k2.box,by omega,by omega,I'.ty,ip⟩
 refine ld (HC.xi.cell rfl) ?_
 by_cases q14:i.op=14
 ·refine brT ?_ (hp:=q14)
  refine dh (fun i=>i≠X.b) (List.range 5) fun w3 k3 => ?_
  refine ld ((k3.box HC.xc).cell rfl) ?_ (hm:=by exact HC.nc)
  refine ld ((k3.box HC.xi).cell rfl) ?_ (hm:=by exact HC.ni)
  refine cl (v_object i.a w3) ?_ (hm:=fun _ _ r=>r.2.kbX)
  rintro _ w4 ⟨rfl,B4⟩
  refine cl (v_push ⟨2,i.a⟩ (h2.bl (k3.bl.trans B4))) ?_ (hm:=fun _ _ r=>r.chg.kbX)
  rintro _ w5 h5
  refine en (((sim_do ?_ ?_ (push_rv ?_ h5)).bl (k3.bl.trans B4)).bl B2)
  ·rw [(tak_of (by omega)).1,q14];rfl
  ·rw [(tak_of (by omega)).2,q14];rfl
  ·simp only [pshV,reqV,q14];rfl
 refine brF ?_ (hp:=q14)
 by_cases q15:i.op=15
 ·refine brT ?_ (hp:=q15)
  refine dh (fun i=>i≠X.b) (List.range 3) fun w3 k3 => ?_
  refine ld ((k3.box HC.xc).cell rfl) ?_ (hm:=by exact HC.nc)
  refine cl (v_numbers w3) ?_ (hm:=fun _ _ r=>r.2.kbX)
  rintro _ w4 ⟨rfl,B4⟩
  refine cl (v_push ⟨3,0⟩ (h2.bl (k3.bl.trans B4))) ?_ (hm:=fun _ _ r=>r.chg.kbX)
  rintro _ w5 h5
  refine en (((sim_do ?_ ?_ (push_rv ?_ h5)).bl (k3.bl.trans B4)).bl B2)
  ·rw [(tak_of (by omega)).1,q15];rfl
  ·rw [(tak_of (by omega)).2,q15];rfl
  ·simp only [pshV,reqV,q15];rfl
 refine brF ?_ (hp:=q15)
 by_cases q16:i.op=16
 ·refine brT ?_ (hp:=q16)
  refine ld (HC.xc.cell rfl) ?_
  refine ld (HC.xi.cell rfl) ?_
  refine bd (cs:=encTy ⟨4,i.b⟩) ?_
  refine cl (v_push ⟨4,i.b⟩ h2) ?_
  rintro _ w5 h5
  refine en ((sim_do ?_ ?_ (push_rv ?_ h5)).bl B2)
  ·rw [(tak_of (by omega)).1,q16];rfl
  ·rw [(tak_of (by omega)).2,q16];rfl
  ·simp only [pshV,reqV,q16];rfl
 refine brF ?_ (hp:=q16)
 by_cases q17:i.op=17
 ·refine brT ?_ (hp:=q17)
  refine ld (HC.xc.cell rfl) ?_
  refine cl (v_do 1 1 (by omega) (by omega) 184 [ptr b1,ptr b2] (RV X i 1 1) (by kernel_rfl) h2 fun hb=>h_get h2 HC q17 (by unfold badX at hb;omega)) ?_
  rintro _ w5 h5
  exact en ((sim_do (by rw [(tak_of (by omega)).1,q17];rfl) (by rw [(tak_of (by omega)).2,q17];rfl) h5).bl B2)
 refine brF ?_ (hp:=q17)
 by_cases q18:i.op=18
 ·refine brT ?_ (hp:=q18)
  refine ld (HC.xc.cell rfl) ?_
  refine cl (v_do 2 0 (by omega) (by omega) 186 [ptr b1,ptr b2] (RV X i 2 0) (by kernel_rfl) h2 fun hb=>h_put h2 HC q18 (by unfold badX at hb;omega)) ?_
  rintro _ w5 h5
  exact en ((sim_do (by rw [(tak_of (by omega)).1,q18];rfl) (by rw [(tak_of (by omega)).2,q18];rfl) h5).bl B2)
 refine brF ?_ (hp:=q18)
 by_cases q19:i.op=19
 ·refine brT ?_ (hp:=q19)
  refine ld (HC.xc.cell rfl) ?_
  refine cl (v_do 2 1 (by omega) (by omega) 187 [ptr b1] (RV X i 2 1) (by kernel_rfl) h2 fun hb=>h_elem h2 HC q19 (by unfold badX at hb;omega)) ?_
  rintro _ w5 h5
  exact en ((sim_do (by rw [(tak_of (by omega)).1,q19];rfl) (by rw [(tak_of (by omega)).2,q19];rfl) h5).bl B2)
 refine brF ?_ (hp:=q19)
 by_cases q20:i.op=20
 ·refine brT ?_ (hp:=q20)
  refine ld (HC.xc.cell rfl) ?_
  refine cl (v_do 3 0 (by omega) (by omega) 189 [ptr b1] (RV X i 3 0) (by kernel_rfl) h2 fun hb=>h_setelem h2 HC q20 (by unfold badX at hb;omega)) ?_
  rintro _ w5 h5
  exact en ((sim_do (by rw [(tak_of (by omega)).1,q20];rfl) (by rw [(tak_of (by omega)).2,q20];rfl) h5).bl B2)
 refine brF ?_ (hp:=q20)
 by_cases q21:i.op=21
 ·refine brT ?_ (hp:=q21)
  refine ld (HC.xc.cell rfl) ?_
  refine cl (v_do 1 1 (by omega) (by omega) 190 [ptr b1] (RV X i 1 1) (by kernel_rfl) h2 fun hb=>h_len h2 HC q21 (by unfold badX at hb;omega)) ?_
  rintro _ w5 h5
  exact en ((sim_do (by rw [(tak_of (by omega)).1,q21];rfl) (by rw [(tak_of (by omega)).2,q21];rfl) h5).bl B2)
 refine brF ?_ (hp:=q21)
 by_cases q22:i.op=22
 ·refine brT ?_ (hp:=q22)
  obtain ⟨u,hu,eu,tu⟩:=staA_ty ip.P (ip.a0 (by omega)) (ip.sta (by omega))
  have hlt:=ip.sta (by omega)
  obtain ⟨n,hn'⟩:=Int.eq_ofNat_of_zero_le (ip.a0 (by omega))
  refine dhx 1 T (List.range 10) fun w3 k3 => ?_
  have h3:=h2.bl k3.bl
  have hsb:=h3.mod.sta.big
  obtain ⟨u',b',o',cs',hu',e1,hS',hA',rfl⟩:=at_some h3.mod.sta (i:=n) (by omega)
  have:u'=u:=by rw [hn',Int.toNat_natCast,hu'] at hu;exact Option.some.inj hu
  subst this
  refine ld ((k3.box HC.xc).cell rfl) ?_ (hm:=trivial)
  refine ld ((k3.box HC.xc).cell rfl) ?_ (hm:=trivial)
  refine ld (h3.box.cell rfl) ?_ (hm:=trivial)
  refine ld ((k3.box HC.xi).cell rfl) ?_ (hm:=trivial)
  rw [e1,hn']
  refine ix (j:=n) ?_
  refine lda hA' ?_ (hm:=trivial)
  refine cl (v_push u' h3) ?_
  rintro _ w5 h5
  refine en (((sim_do ?_ ?_ (push_rv ?_ h5)).bl k3.bl).bl B2)
  ·rw [(tak_of (by omega)).1,q22];rfl
  ·rw [(tak_of (by omega)).2,q22];rfl
  ·rw [<-eu];simp only [pshV,reqV,q22];rfl
 refine brF ?_ (hp:=q22)
 by_cases q23:i.op=23
 ·refine brT ?_ (hp:=q23)
  refine ld (HC.xc.cell rfl) ?_
  refine cl (v_do 1 0 (by omega) (by omega) 191 [ptr b1,ptr b2] (RV X i 1 0) (by kernel_rfl) h2 fun hb=>h_setstatic h2 HC q23 (by unfold badX at hb;omega)) ?_
  rintro _ w5 h5
  exact en ((sim_do (by rw [(tak_of (by omega)).1,q23];rfl) (by rw [(tak_of (by omega)).2,q23];rfl) h5).bl B2)
 refine brF ?_ (hp:=q23)
 by_cases q24:i.op=24
 ·refine brT ?_ (hp:=q24)
  refine ld (HC.xc.cell rfl) ?_
  refine cl (v_do 1 1 (by omega) (by omega) 192 [ptr b2,ptr b1] (RV X i 1 1) (by kernel_rfl) h2 fun hb=>h_cast h2 HC q24 (by unfold badX at hb;omega)) ?_
  rintro _ w5 h5
  exact en ((sim_do (by rw [(tak_of (by omega)).1,q24];rfl) (by rw [(tak_of (by omega)).2,q24];rfl) h5).bl B2)
 refine brF ?_ (hp:=q24)
 by_cases q25:i.op=25
 ·refine brT ?_ (hp:=q25)
  have hlt:=(ip.call q25).1
  obtain ⟨n,hn'⟩:=Int.eq_ofNat_of_zero_le (ip.a0 (by omega))
  refine dhx 1 T (List.range 9) fun w3 k3 => ?_
  have h3:=h2.bl k3.bl
  have hsb:=h3.mod.mth.big
  obtain ⟨x,b',o',cs',hx,e1,hS',hA',a1,c1,a2,c2,a3,c3,rfl,f1,f2,f3,_⟩:=at_some h3.mod.mth (i:=n) (by omega)
  have M:=ip.P.mth n x hx
  refine ld ((k3.box HC.xc).cell rfl) ?_ (hm:=trivial)
  refine ld ((k3.box HC.xc).cell rfl) ?_ (hm:=trivial)
  refine ld (h3.box.cell rfl) ?_ (hm:=trivial)
  refine ld ((k3.box HC.xi).cell rfl) ?_ (hm:=trivial)
  rw [e1,hn']
  refine ix (j:=n) ?_
  refine cl (v_call (s := -1) (mo:=0) h3 hS'.1 hA' f1 ip.P I'.ty M.pt (.inl ⟨by omega,rfl⟩) M.pl) ?_
  rintro _ w5 h5
  refine en (((call_rv (n:=n) (by omega) (by rw [Int.toNat_natCast];exact hx) ?_ (.inl ⟨q25,rfl,rfl⟩) h5).bl k3.bl).bl B2)
  unfold tgtV;rw [if_pos q25,hn']
 refine brF ?_ (hp:=q25)
 by_cases q26:i.op=26
 ·refine brT ?_ (hp:=q26)
  have hsel:=(ip.send q26).1
  have ha0:=ip.a0 (by omega)
  have et:tgtL X.m i.a=trgM X.m i.a.toNat:=by
   unfold tgtL askE
   rw [if_pos]
   refine if_pos ⟨chkE_yes ip.P,fun j hj => ?_⟩
   rw [List.mem_singleton.1 hj];exact ⟨ha0,hsel⟩
  refine dh T (List.range 12) fun w3 k3 => ?_
  have h3:=h2.bl k3.bl
  refine ld ((k3.box HC.xc).cell rfl) ?_ (hm:=trivial)
  refine lda h3.modAt ?_ (hm:=trivial)
  refine ld ((k3.box HC.xi).cell rfl) ?_ (hm:=trivial)
  refine cl (k_Targets X.m X.a i.a w3 h3.T) ?_ (hm:=fun _ _ r=>by obtain ⟨_,_,_,_,hB⟩:=r;exact mdW_bl hB)
  rintro _ w4 ⟨at',ct,rfl,hT,B4⟩
  rw [et] at hT
  have B24:=k3.bl.trans B4
  have h4:=h2.bl B24
  have hC4:=HC.chg (B24.chg _)
  have hl10:=trg_len (m:=X.m) i.a.toNat
  have hc10:=ip.P.cl
  rw [et]
  cases ht:trgM X.m i.a.toNat with
  | nil =>
   refine brt ?_
   refine ld (hC4.xc.cell rfl) ?_
   refine cl (v_fail 11 h4) ?_
   rintro _ w5 ⟨h5,c5⟩
   have etg:tgtV X.m i=none:=by unfold tgtV;rw [if_neg q25,ht];rfl
   have e1:takV X.m i=0:=by unfold takV parV;rw [if_pos (.inr q26),etg];rfl
   have e2:putV X.m i=0:=by unfold putV resV;rw [if_pos (.inr q26),etg];rfl
   refine rt (vs:=[]) ⟨_,X.sa,X.sc,X.st,h5,((B2.trans B24).chg _).trans c5,.inr ⟨?_,by decide⟩⟩
   unfold stkV
   rw [e1,e2]
   split
   ·rfl
   ·have:∀ l,pshV X.m X.loc i l=none:=fun l=>by unfold pshV calV;rw [if_pos (.inr q26),etg]
    simp only [this]
  | cons n r =>
   have hn:n∈trgM X.m i.a.toNat:=by rw [ht];exact List.mem_cons_self ..
   obtain ⟨g0,g1⟩:=ip.P.trg hn
   obtain ⟨k,rfl⟩:=Int.eq_ofNat_of_zero_le g0
   refine brf ?_ (hp:=by simp;omega)
   rw [ht] at hT
   refine dhx 1 T (List.range 12) fun w5 k5 => ?_
   have h5:=h4.bl k5.bl
   have hC5:=hC4.chg (k5.bl.chg _)
   have hsb:=h5.mod.mth.big
   obtain ⟨x,b',o',cs',hx,e1,hS',hA',a1,c1,a2,c2,a3,c3,rfl,f1,f2,f3,_⟩:=at_some h5.mod.mth (i:=k) (by omega)
   obtain ⟨v,bv,ov,cv,hv,e2,_,hAv,rfl⟩:=at_some (hT.bl k5.bl) (i:=0) (by simp)
   have ev:v=(k:Int):=by simpa using hv.symm
   subst ev
   have M:=ip.P.mth k x hx
   refine ld (hC5.xc.cell rfl) ?_ (hm:=trivial)
   refine ld (hC5.xc.cell rfl) ?_ (hm:=trivial)
   refine ld (h5.box.cell rfl) ?_ (hm:=trivial)
   rw [e2]
   refine ix (j:=0) ?_ (hb:=Nat.succ_pos _)
   refine ld (hAv 0 _ rfl) ?_ (hm:=trivial)
   rw [e1]
   refine ix (j:=k) ?_
   refine ld (hC5.xi.cell rfl) ?_ (hm:=trivial)
   refine cl (v_call (s:=i.a) (mo:=1) h5 hS'.1 hA' f1 ip.P I'.ty M.pt (.inr ⟨⟨ha0,hsel⟩,rfl⟩) M.pl) ?_
   rintro _ w6 h6
   refine en ((((call_rv (n:=k) (by omega) (by rw [Int.toNat_natCast];exact hx) ?_ (.inr ⟨q26,rfl,ha0,rfl⟩) h6).bl k5.bl).bl B24).bl B2)
   unfold tgtV;rw [if_neg q25,ht];rfl
 refine brF ?_ (hp:=q26)
 refine en (SimQ.bl B2 ⟨0,X.sa,X.sc,X.st,h2,Chg.refl _ _,.inl ⟨?_,rfl⟩⟩)
 have hop':i.op=0∨i.op=28:=by omega
 have e1:takV X.m i=0/\putV X.m i=0:=by
  rw [(tak_of (by omega)).1,(tak_of (by omega)).2]
  rcases hop' with q | q <;> (rw [q];exact ⟨rfl,rfl⟩)
 have e2:∀ l,pshV X.m X.loc i l=some noT:=fun l=>by rcases hop' with q | q <;> (simp only [pshV,reqV,q];rfl)
 have hI1:=I'.le
 have hI2:=I'.bs
 unfold stkV
 rw [e1.1,e1.2,if_neg (by unfold badV;simp only at hI1 hI2 ⊢;omega)]
 simp only [e2,Nat.sub_zero,List.replicate_zero,List.append_nil,List.take_length]
end Go.Proofs.YtdjkoljonlcemaaGreat

/- Walk: the verifier's simple steps (printed by tools/genio.py). -/
namespace Go.Proofs.YtdjkoljonlcemaaGreat
open Eng Go.RowKit
variable {w:World} {X:CX} {i:Ins}
set_option maxHeartbeats 4000000 in
theorem v_simple (h:CkR w X 0) (I':VInv X.m ⟨X.st,X.ops⟩) (ip:InsP X.m X.loc i) (hop:i.op<29):Ret Tryz.prog 82 #[ptr X.b,.agg (encIns i).toArray] w fun _ w'=>SimQ X w i w':=by
 have hX0:=h.box.lt
 have hop0:=ip.op0
 refine entr (vs:=[ptr X.b,.agg (encIns i).toArray]) [0,1,2,3,4,6,10,15,18,25,30,35,39,49,58,63] tabok Tryz.func82 (by kernel_rfl) ?_
 refine bx (cs:=[ptr X.b]) fun b1 w1 k1 => ?_
 refine bx (cs:=encIns i) fun b2 w2 k2 => ?_
 have y1:=k1.blk;have y2:=k2.blk
 have s1:=k1.size;have s2:=k2.size
 have B2:=k1.bl.trans k2.bl
 have h2:=h.bl B2
 have HC:HowC X w2 b1 b2 i:=⟨Bl.box k2.bl k1.box,k2.box,by omega,by omega,I'.ty,ip⟩
 refine ld (HC.xi.cell rfl) ?_
 by_cases q1:i.op=1
 ·refine brT ?_ (hp:=q1)
  refine dh (fun i=>i≠X.b) (List.range 3) fun w3 k3 => ?_
  refine ld ((k3.box HC.xc).cell rfl) ?_ (hm:=by exact HC.nc)
  refine cl (v_number w3) ?_ (hm:=fun _ _ r=>r.2.kbX)
  rintro _ w4 ⟨rfl,B4⟩
  refine cl (v_push intT (h2.bl (k3.bl.trans B4))) ?_ (hm:=fun _ _ r=>r.chg.kbX)
  rintro _ w5 h5
  refine en (((sim_do ?_ ?_ (push_rv ?_ h5)).bl (k3.bl.trans B4)).bl B2)
  ·rw [(tak_of (by omega)).1,q1];rfl
  ·rw [(tak_of (by omega)).2,q1];rfl
  ·simp only [pshV,reqV,q1];rfl
 refine brF ?_ (hp:=q1)
 by_cases q2:i.op=2
 ·refine brT ?_ (hp:=q2)
  have e1:takV X.m i=0:=by rw [(tak_of (by omega)).1,q2];rfl
  have e2:putV X.m i=1:=by rw [(tak_of (by omega)).2,q2];rfl
  have ep:∀ l,pshV X.m X.loc i l=X.loc[i.a.toNat]? := fun l=>by simp only [pshV,reqV,q2];rfl
  refine ld (HC.xc.cell rfl) ?_
  refine cl (v_counts 0 1 (by omega) (by omega) h2) ?_
  rintro _ w3 ⟨rfl,h3,c3⟩
  by_cases hb:badX X 0 1
  ·refine brf ?_ (hp:=by simpa using hb)
   rw [if_pos hb] at h3
   refine en ⟨_,X.sa,X.sc,X.st,h3,(B2.chg _).trans c3,.inr ⟨?_,by decide⟩⟩
   unfold stkV
   rw [e1,e2];exact if_pos hb
  ·refine brt ?_ (hp:=by simpa using hb)
   rw [if_neg hb] at h3
   have HC3:=HC.chg c3
   refine dh (fun i=>i≠X.b) (List.range 6) fun w4 k4 => ?_
   refine ld ((k4.box HC3.xc).cell rfl) ?_ (hm:=by exact HC.nc)
   refine ld ((k4.box HC3.xc).cell rfl) ?_ (hm:=by exact HC.nc)
   refine ld ((k4.box HC3.xi).cell rfl) ?_ (hm:=by exact HC.ni)
   refine cl (v_local i.a (ip.a0 (by omega)) (h3.bl k4.bl)) ?_ (hm:=fun _ _ r=>r.2.2.kbX)
   rintro _ w5 ⟨rfl,h5,c5⟩
   refine cl (v_push ((X.loc[i.a.toNat]?).getD noT) h5) ?_ (hm:=fun _ _ r=>r.chg.kbX)
   rintro _ w6 ⟨e',sa,sc,st,h6,c6,_,g6⟩
   obtain ⟨out,⟨rfl,rfl⟩,rfl⟩:=g6 hb
   refine en ⟨_,sa,sc,_,h6,((((B2.chg _).trans c3).trans (k4.bl.chg _)).trans c5).trans c6,?_⟩
   unfold stkV
   rw [e1,e2,if_neg (show ¬badV ⟨X.st,X.ops⟩ 0 1 from hb),ep]
   cases X.loc[i.a.toNat]? with
   | none=>exact .inr ⟨rfl,by decide⟩
   | some t=>exact .inl ⟨rfl,rfl⟩
 refine brF ?_ (hp:=q2)
 by_cases q3:i.op=3
 ·refine brT ?_ (hp:=q3)
  refine ld (HC.xc.cell rfl) ?_
  refine cl (v_do 1 0 (by omega) (by omega) 124 [ptr b1,ptr b2] (RV X i 1 0) (by kernel_rfl) h2 fun hb=>h_store h2 HC q3 (by unfold badX at hb;omega)) ?_
  rintro _ w5 h5
  exact en ((sim_do (by rw [(tak_of (by omega)).1,q3];rfl) (by rw [(tak_of (by omega)).2,q3];rfl) h5).bl B2)
 refine brF ?_ (hp:=q3)
 by_cases q4:i.op=4
 ·refine brT ?_ (hp:=q4)
  refine ld (HC.xc.cell rfl) ?_
  refine cl (v_do 1 0 (by omega) (by omega) 121 [] (RV X i 1 0) (by kernel_rfl) h2 fun hb=>h_none i 1 (by simp only [pshV,reqV,q4];rfl)) ?_
  rintro _ w5 h5
  exact en ((sim_do (by rw [(tak_of (by omega)).1,q4];rfl) (by rw [(tak_of (by omega)).2,q4];rfl) h5).bl B2)
 refine brF ?_ (hp:=q4)
 by_cases q5:i.op=5
 ·refine brT ?_ (hp:=q5)
  refine ld (HC.xc.cell rfl) ?_
  refine cl (v_do 1 2 (by omega) (by omega) 126 [] (RV X i 1 2) (by kernel_rfl) h2 fun hb=>h_dup h2 q5 (by unfold badX at hb;omega)) ?_
  rintro _ w5 h5
  exact en ((sim_do (by rw [(tak_of (by omega)).1,q5];rfl) (by rw [(tak_of (by omega)).2,q5];rfl) h5).bl B2)
 refine brF ?_ (hp:=q5)
 by_cases q6:i.op=6
 ·refine brT ?_ (hp:=q6)
  refine brT ?_ (hp:=q6)
  refine ld (HC.xc.cell rfl) ?_
  refine cl (v_do 2 1 (by omega) (by omega) 127 [ptr b1] (RV X i 2 1) (by kernel_rfl) h2 fun hb=>h_arith h2 HC (by omega) (by unfold badX at hb;omega)) ?_
  rintro _ w5 h5
  exact en ((sim_do (by rw [(tak_of (by omega)).1,q6];rfl) (by rw [(tak_of (by omega)).2,q6];rfl) h5).bl B2)
 refine brF ?_ (hp:=q6)
 by_cases q7:i.op=7
 ·refine brT ?_ (hp:=q7)
  refine brT ?_ (hp:=q7)
  refine ld (HC.xc.cell rfl) ?_
  refine cl (v_do 2 1 (by omega) (by omega) 127 [ptr b1] (RV X i 2 1) (by kernel_rfl) h2 fun hb=>h_arith h2 HC (by omega) (by unfold badX at hb;omega)) ?_
  rintro _ w5 h5
  exact en ((sim_do (by rw [(tak_of (by omega)).1,q7];rfl) (by rw [(tak_of (by omega)).2,q7];rfl) h5).bl B2)
 refine brF ?_ (hp:=q7)
 by_cases q8:i.op=8
 ·refine brT ?_ (hp:=q8)
  refine brT ?_ (hp:=q8)
  refine ld (HC.xc.cell rfl) ?_
  refine cl (v_do 2 1 (by omega) (by omega) 127 [ptr b1] (RV X i 2 1) (by kernel_rfl) h2 fun hb=>h_arith h2 HC (by omega) (by unfold badX at hb;omega)) ?_
  rintro _ w5 h5
  exact en ((sim_do (by rw [(tak_of (by omega)).1,q8];rfl) (by rw [(tak_of (by omega)).2,q8];rfl) h5).bl B2)
 refine brF ?_ (hp:=q8)
 by_cases q9:i.op=9
 ·refine brT ?_ (hp:=q9)
  refine brT ?_ (hp:=q9)
  refine ld (HC.xc.cell rfl) ?_
  refine cl (v_do 2 1 (by omega) (by omega) 127 [ptr b1] (RV X i 2 1) (by kernel_rfl) h2 fun hb=>h_arith h2 HC (by omega) (by unfold badX at hb;omega)) ?_
  rintro _ w5 h5
  exact en ((sim_do (by rw [(tak_of (by omega)).1,q9];rfl) (by rw [(tak_of (by omega)).2,q9];rfl) h5).bl B2)
 refine brF ?_ (hp:=q9)
 by_cases q10:i.op=10
 ·refine brT ?_ (hp:=q10)
  refine brT ?_ (hp:=q10)
  refine ld (HC.xc.cell rfl) ?_
  refine cl (v_do 2 1 (by omega) (by omega) 127 [ptr b1] (RV X i 2 1) (by kernel_rfl) h2 fun hb=>h_arith h2 HC (by omega) (by unfold badX at hb;omega)) ?_
  rintro _ w5 h5
  exact en ((sim_do (by rw [(tak_of (by omega)).1,q10];rfl) (by rw [(tak_of (by omega)).2,q10];rfl) h5).bl B2)
 refine brF ?_ (hp:=q10)
 by_cases q11:i.op=11
 ·refine brT ?_ (hp:=q11)
  refine ld (HC.xc.cell rfl) ?_
  refine cl (v_do 2 1 (by omega) (by omega) 127 [ptr b1] (RV X i 2 1) (by kernel_rfl) h2 fun hb=>h_arith h2 HC (by omega) (by unfold badX at hb;omega)) ?_
  rintro _ w5 h5
  exact en ((sim_do (by rw [(tak_of (by omega)).1,q11];rfl) (by rw [(tak_of (by omega)).2,q11];rfl) h5).bl B2)
 refine brF ?_ (hp:=q11)
 by_cases q12:i.op=12
 ·refine brT ?_ (hp:=q12)
  refine ld (HC.xc.cell rfl) ?_
  refine ld (HC.xi.cell rfl) ?_
  refine ld (HC.xi.cell rfl) ?_
  refine bd (cs:=encTy ⟨i.a,i.b⟩) ?_
  refine cl (v_push ⟨i.a,i.b⟩ h2) ?_
  rintro _ w5 h5
  refine en ((sim_do ?_ ?_ (push_rv ?_ h5)).bl B2)
  ·rw [(tak_of (by omega)).1,q12];rfl
  ·rw [(tak_of (by omega)).2,q12];rfl
  ·simp only [pshV,reqV,q12];rfl
 refine brF ?_ (hp:=q12)
 by_cases q13:i.op=13
 ·refine brT ?_ (hp:=q13)
  refine ld (HC.xc.cell rfl) ?_
  refine cl (v_do 1 1 (by omega) (by omega) 128 [ptr b1] (RV X i 1 1) (by kernel_rfl) h2 fun hb=>h_isnull h2 HC q13 (by unfold badX at hb;omega)) ?_
  rintro _ w5 h5
  exact en ((sim_do (by rw [(tak_of (by omega)).1,q13];rfl) (by rw [(tak_of (by omega)).2,q13];rfl) h5).bl B2)
 refine brF ?_ (hp:=q13)
 by_cases q27:i.op=27
 ·refine brT ?_ (hp:=q27)
  refine ld (HC.xc.cell rfl) ?_
  refine cl (v_do 1 0 (by omega) (by omega) 129 [ptr b1] (RV X i 1 0) (by kernel_rfl) h2 fun hb=>h_emit h2 HC q27 (by unfold badX at hb;omega)) ?_
  rintro _ w5 h5
  exact en ((sim_do (by rw [(tak_of (by omega)).1,q27];rfl) (by rw [(tak_of (by omega)).2,q27];rfl) h5).bl B2)
 refine brF ?_ (hp:=q27)
 refine ld (HC.xc.cell rfl) ?_
 refine lda HC.xi.at ?_
 refine cl (v_memory h2 I' ip (by omega)) ?_
 rintro _ w5 h5
 exact en (h5.bl B2)
end Go.Proofs.YtdjkoljonlcemaaGreat

/- Walks: the ends of brackets, in the verifier. -/
namespace Go.Proofs.YtdjkoljonlcemaaGreat
open Eng Go.RowKit
variable {w:World} {X:CX} {i:Ins}
theorem OwC.elt {α:Type} {E:El α} {R:Nat->Prop} {w:World} {base e cap:Nat} {a:Option Addr} {l:List α} (h:OwC E R w base e a cap l) {k:Nat} {x:α} (hk:l[k]? = some x) :
  ∃ g cs,a=some ⟨g,0,none⟩/\base<=g/\g<w.heap.size/\At w g (0+k*E.sz) cs/\E.rel (fun b=>R b/\a≠some ⟨b,0,none⟩/\b<w.heap.size) w cs x:=by
 obtain ⟨xs,h1,h2,h3,h4⟩:=h.row
 have hlt:=(List.getElem?_eq_some_iff.1 hk).1
 obtain ⟨cs,hcs⟩:=some_of_lt (l:=xs) (k:=k) (by omega)
 rcases h3.shape with ⟨_,q,_⟩ | ⟨g,cur,rfl,_⟩
 ·omega
 ·refine ⟨g,cs,rfl,(h3.lt rfl).1,(h3.lt rfl).2,fun j v hj => ?_,h4 k cs x hcs hk⟩
  have hl:=h2 cs (List.mem_of_getElem? hcs)
  have hj':=(List.getElem?_eq_some_iff.1 hj).1
  have:=h3.at rfl (k*E.sz+j) v (by rw [flatten_get h2 hcs j (by omega)];exact hj)
  rw [Nat.add_assoc];exact this
theorem flatten_take {sz:Nat}:∀ {xs:List (List Value)} (_:∀ c∈xs,c.length=sz) (m:Nat),xs.flatten.take (m*sz)=(xs.take m).flatten
 | [],_,m=>by simp
 | y::l,h,0=>by simp
 | y::l,h,m+1=>by
  have hy:=h y (List.mem_cons_self ..)
  have:=flatten_take (xs:=l) (fun c hc=>h c (List.mem_cons_of_mem _ hc)) m
  rw [List.flatten_cons,List.take_succ_cons,List.flatten_cons,<-this,Nat.succ_mul,List.take_append,hy]
  rw [List.take_of_length_le (by omega)]
  congr 2;omega
theorem OwC.cut {α:Type} {E:El α} {R:Nat->Prop} {w:World} {base e cap:Nat} {a:Option Addr} {l:List α} (h:OwC E R w base e a cap l) (m:Nat) (hm:m<=l.length):OwC E R w base e a cap (l.take m):=by
 obtain ⟨xs,h1,h2,h3,h4⟩:=h.row
 refine ⟨xs.take m,by rw [List.length_take,List.length_take,h1],fun c hc=>h2 c (List.mem_of_mem_take hc),?_,fun i cs x hi hl => ?_⟩
 ·have:=h3.cut hm
  rw [flatten_take h2] at this
  rw [List.length_take,Nat.min_eq_left hm];exact this
 ·rw [List.getElem?_take] at hi hl
  split at hi
  ·rename_i q
   rw [if_pos q] at hl
   exact h4 i cs x hi hl
  ·cases hi
theorem v_equal {wa:Option Addr} {wc:Nat} {want:List Ty} (h:CkR w X 0) (hw:Sl eTy T w wa want):Ret Tryz.prog 120 #[ptr X.b,.slice wa want.length wc] w fun _ w'=>∃ e',CkR w' X e'/\Chg X.at w w'/\(e'=0↔X.st=want):=by
 refine entr (vs:=[ptr X.b,.slice wa want.length wc]) [0,1,11] tabok Tryz.func120 (by kernel_rfl) ?_
 refine ld (h.box.cell rfl) ?_
 have hsb:=h.st.big
 have hwb:=hw.big
 by_cases hl:X.st.length=want.length
 ·refine brF ?_
  refine ld (h.box.cell rfl) ?_
  refine cl (l_EqualT X.st want X.sa wa X.sc wc w (h.st.sub fun _ _=>trivial) hw) ?_
  rintro _ w1 ⟨rfl,B1⟩
  refine cl (v_want (decide (X.st=want)) (h.bl B1)) ?_
  rintro _ w2 ⟨h2,c2⟩
  refine en ⟨_,h2,(B1.chg _).trans c2,?_⟩
  rw [wnt0];simp
 ·refine brT ?_
  refine cl (v_fail 12 h) ?_
  rintro _ w2 ⟨h2,c2⟩
  refine rt (vs:=[]) ⟨_,h2,c2,?_⟩
  constructor
  ·intro q;cases q
  ·intro q;exact absurd (by rw [q]) hl
def CX.set (X:CX) (oa:Option Addr) (oc:Nat) (ops:List Brv) (sa:Option Addr) (sc:Nat) (st:List Ty):CX:=⟨X.b,X.m,X.a,X.la,X.lc,X.loc,oa,oc,ops,sa,sc,st,X.G⟩
abbrev CX.wt (X:CX):Nat->Prop:=fun i=>i=X.b∨X.oa=some ⟨i,0,none⟩
def StpQ (X:CX) (w:World) (i:Ins) (w':World):Prop :=
 ∃ oa oc ops sa sc st e',CkR w' (X.set oa oc ops sa sc st) e'/\Chg X.wt w w'/\(∀ g,oa=some ⟨g,0,none⟩->X.oa=some ⟨g,0,none⟩∨w.heap.size<=g) /\
  ((stpV X.m X.loc ⟨X.st,X.ops⟩ i=some ⟨st,ops⟩/\e'=0)∨(stpV X.m X.loc ⟨X.st,X.ops⟩ i=none/\e'≠0))
set_option maxHeartbeats 1000000 in
theorem v_end (h:CkR w X 0) (ho:i.op=35) (hne:X.ops≠[]) (hbig:X.ops.length<=120):Ret Tryz.prog 81 #[ptr X.b] w fun _ w'=>StpQ X w i w':=by
 obtain ⟨b,hlb⟩:∃ b,X.ops.getLast? = some b:=by
  cases hq:X.ops.getLast? with
  | none=>rw [List.getLast?_eq_none_iff] at hq;exact absurd hq hne
  | some b=>exact ⟨b,rfl⟩
 have hpos:0<X.ops.length:=List.length_pos_iff.2 hne
 have hk:X.ops[X.ops.length-1]? = some b:=by rw [<-hlb,List.getLast?_eq_getElem?]
 have ew:IntKind.i64.wrap ((X.ops.length:Int)-1)=((X.ops.length-1:Nat):Int):=by rw [IntKind.wrap_i64];omega
 refine entr (vs:=[ptr X.b]) [0,2,3,19] tabok Tryz.func81 (by kernel_rfl) ?_
 refine dht 1 T (List.range 13) fun w1 k1 => ?_
 have h1:=h.bl k1.bl
 obtain ⟨g,cs,eo,hg1,hg2,hA,a1,c1,a2,c2,rfl,hb1,hb2,hc1,hc2⟩:=h1.op.elt hk
 refine ld (h1.box.cell rfl) ?_ (hm:=trivial)
 refine ld (h1.box.cell rfl) ?_ (hm:=trivial)
 rw [eo]
 refine ix (j:=X.ops.length-1) ?_ (hi:=by exact congrArg (fun z=>some (Value.int .i64 z)) ew)
 refine lda hA ?_ (hm:=trivial)
 refine al fun b2 w2 k2 => ?_
 refine sta (cs':=brc b a1 c1 a2 c2) k2.box fun w3 k3 x3 => ?_
 have B13:Bl w1 w3:=k2.wr k3
 have B3:=k1.bl.trans B13
 have h3:=h.bl B3
 refine ld (x3.cell rfl) ?_
 refine ld (x3.cell rfl) ?_
 refine jn [3] [(0,ptr X.b),(2,ptr b2)] (fun vals w'=>∃ wa wc,vals=[.slice wa (if b.mid=true then b.fst else b.beg).length wc]/\w'=w3/\Sl eTy T w3 wa (if b.mid=true then b.fst else b.beg)) (fun q go => ?_) (fun q go => ?_) ?_
 ·refine ld (x3.cell rfl) ?_
  exact go ⟨a2,c2,by rw [if_pos q],rfl,by rw [if_pos q];exact (hb2.bl B13).sub fun _ _=>trivial⟩
 ·exact go ⟨a1,c1,by rw [if_neg (by rw [q];decide)],rfl,by rw [if_neg (by rw [q];decide)];exact (hb1.bl B13).sub fun _ _=>trivial⟩
 rintro _ w4 ⟨wa,wc,rfl,e4,hw⟩
 subst e4
 refine cl (v_equal h3 hw) ?_
 rintro _ w5 ⟨e',h5,c5,he⟩
 refine dht 1 T (List.range 14) fun w6 k6 => ?_
 have h6:=h5.bl k6.bl
 have hcp:X.ops.length<=X.oc:=by
  obtain ⟨xs,h1⟩:=h6.op.ow
  exact h1.capn.1
 refine ld (h6.box.cell rfl) ?_ (hm:=trivial)
 refine ld (h6.box.cell rfl) ?_ (hm:=trivial)
 refine sl 0 (X.ops.length-1) ?_ (h2:=by exact ⟨_,congrArg _ ew⟩)
 rw [add_zero_a,Nat.sub_zero,Nat.sub_zero]
 refine st h6.box fun w7 k7 x7 => ?_
 have hlt:(X.ops.take (X.ops.length-1)).length=X.ops.length-1:=by rw [List.length_take];omega
 have k67:Kp X.S w6 w7:=k7.kp fun _ hi=>hi.1
 have kl67:Kp (· < X.b) w6 w7:=k7.kp fun _ hi=>Nat.ne_of_lt hi
 have cw:Chg X.at w w7:=(((B3.chg _).trans c5).trans (k6.bl.chg _)).trans (k7.chg rfl)
 refine en ⟨X.oa,X.oc,X.ops.take (X.ops.length-1),X.sa,X.sc,X.st,e',⟨?_,h6.lo.kp kl67,h6.ll.kp kl67,h6.st.kp k67,(h6.op.wr k7 (Nat.lt_succ_self _) fun _ hi=>hi.1).cut _ (Nat.sub_le ..),h6.cap,fun i hi=>h6.gn i (by rw [<-k7.size];exact hi),h6.gb⟩,cw.sub fun _ hi => .inl hi,fun g hg => .inl hg,?_⟩
 ·have ec:ckc (X.set X.oa X.oc (X.ops.take (X.ops.length-1)) X.sa X.sc X.st) e'=ckc ⟨X.b,X.m,X.a,X.la,X.lc,X.loc,X.oa,X.oc,X.ops.take (X.ops.length-1),X.sa,X.sc,X.st,X.G⟩ e':=rfl
  rw [ec]
  simp only [ckc,hlt]
  exact x7
 ·have ee:stpV X.m X.loc ⟨X.st,X.ops⟩ i=if X.st=(if b.mid=true then b.fst else b.beg) then some ⟨X.st,X.ops.dropLast⟩ else none:=by
   unfold stpV
   rw [if_neg (by omega),if_pos ho]
   unfold endV
   simp only [hlb]
  rw [ee,<-List.dropLast_eq_take]
  by_cases q:X.st=(if b.mid=true then b.fst else b.beg)
  ·exact .inl ⟨if_pos q,he.2 q⟩
  ·exact .inr ⟨if_neg q,fun z=>q (he.1 z)⟩
theorem sl_live {S:Nat->Prop} {w:World} {a:Option Addr} {l:List Ty} (h:Sl eTy S w a l):Sl eTy (fun i=>S i/\i<w.heap.size) w a l :=
 ⟨h.big,fun i x hx=>by
  obtain ⟨b,o,cs,e,hs,hA,rfl⟩:=h.el i x hx
  exact ⟨b,o,_,e,⟨hs,cell_lt (hA 0 _ rfl)⟩,hA,rfl⟩⟩
set_option maxHeartbeats 2000000 in
theorem v_opening (h:CkR w X 0) (I':VInv X.m ⟨X.st,X.ops⟩) (ip:InsP X.m X.loc i) (ho:29<=i.op/\i.op<=33) (hbig:X.ops.length<=120):Ret Tryz.prog 79 #[ptr X.b,.agg (encIns i).toArray] w fun _ w'=>StpQ X w i w':=by
 have hX0:=h.box.lt
 refine entr (vs:=[ptr X.b,.agg (encIns i).toArray]) [0,1,2,3,5,6,11] tabok Tryz.func79 (by kernel_rfl) ?_
 refine bx (cs:=[ptr X.b]) fun b1 w1 k1 => ?_
 refine bx (cs:=encIns i) fun b2 w2 k2 => ?_
 have y1:=k1.blk;have y2:=k2.blk
 have s1:=k1.size;have s2:=k2.size
 have B2:=k1.bl.trans k2.bl
 have h2:=h.bl B2
 have HC:HowC X w2 b1 b2 i:=⟨Bl.box k2.bl k1.box,k2.box,by omega,by omega,I'.ty,ip⟩
 refine ld (HC.xi.cell rfl) ?_
 refine jn [] [(2,ptr b1),(3,ptr b2)] (fun vals w'=>vals=[]/\SimQ X w2 i w') (fun q go => ?_) (fun q go => ?_) ?_
 ·have q29:i.op=29:=by simpa using q
  refine ld (HC.xc.cell rfl) ?_
  refine cl (v_do 1 0 (by omega) (by omega) 115 [ptr b1] (RV X i 1 0) (by kernel_rfl) h2 fun hb=>h_if h2 HC q29 (by unfold badX at hb;omega)) ?_
  rintro _ w5 h5
  exact go ⟨rfl,sim_do (by rw [(tak_of (by omega)).1,q29];rfl) (by rw [(tak_of (by omega)).2,q29];rfl) h5⟩
 ·have q29:¬i.op=29:=by simpa using q
  by_cases q30:i.op=30
  ·refine brT ?_ (hp:=q30)
   refine ld (HC.xc.cell rfl) ?_
   refine cl (v_do 1 0 (by omega) (by omega) 118 [ptr b1,ptr b2] (RV X i 1 0) (by kernel_rfl) h2 fun hb=>h_loop h2 HC q30 (by unfold badX at hb;omega)) ?_
   rintro _ w5 h5
   exact go ⟨rfl,sim_do (by rw [(tak_of (by omega)).1,q30];rfl) (by rw [(tak_of (by omega)).2,q30];rfl) h5⟩
  ·refine brF ?_ (hp:=q30)
   refine go ⟨rfl,0,X.sa,X.sc,X.st,h2,Chg.refl _ _,.inl ⟨?_,rfl⟩⟩
   have hop':i.op=31∨i.op=32∨i.op=33:=by omega
   have e1:takV X.m i=0/\putV X.m i=0:=by
    rw [(tak_of (by omega)).1,(tak_of (by omega)).2]
    rcases hop' with q | q | q <;> (rw [q];exact ⟨rfl,rfl⟩)
   have e2:∀ l,pshV X.m X.loc i l=some noT:=fun l=>by rcases hop' with q | q | q <;> (simp only [pshV,reqV,q];rfl)
   have hI1:=I'.le
   have hI2:=I'.bs
   unfold stkV
   rw [e1.1,e1.2,if_neg (by unfold badV;simp only at hI1 hI2 ⊢;omega)]
   simp only [e2,Nat.sub_zero,List.replicate_zero,List.append_nil,List.take_length]
 rintro _ w3 ⟨rfl,e',sa,sc,st',h3,c3,hs⟩
 have HC3:=HC.chg c3
 have hoa:∀ g,X.oa=some ⟨g,0,none⟩->X.b+1<=g/\g<w.heap.size:=fun g hg=>h.op.lt hg
 have stb:=h3.st.big
 refine dht 3 (fun k=>X.oa≠some ⟨k,0,none⟩) (List.range 15) fun w4 k4 => ?_
 have h4:=h3.bl k4.bl
 refine ld ((k4.box HC3.xc).cell rfl) ?_ (hm:=fun z=>by have:=hoa _ z;omega)
 refine ld ((k4.box HC3.xc).cell rfl) ?_ (hm:=fun z=>by have:=hoa _ z;omega)
 refine ld (h4.box.cell rfl) ?_ (hm:=fun z=>by have:X.b+1<=X.b:=(hoa _ z).1;omega)
 refine ld ((k4.box HC3.xi).cell rfl) ?_ (hm:=fun z=>by have:=hoa _ z;omega)
 refine ld ((k4.box HC3.xc).cell rfl) ?_ (hm:=fun z=>by have:=hoa _ z;omega)
 refine ld (h4.box.cell rfl) ?_ (hm:=fun z=>by have:X.b+1<=X.b:=(hoa _ z).1;omega)
 refine cl (c_CloneT st' sa sc X.S w4 h4.st) ?_ (hm:=fun _ _ r=>by obtain ⟨_,_,_,_,hB⟩:=r;exact mdW_bl hB)
 rintro _ w5 ⟨a5,c5,rfl,O5,B5⟩
 have h5:=h4.bl B5
 have B35:=k4.bl.trans B5
 refine bd (cs:=brc ⟨i.op,st',[],false⟩ a5 c5 none 0) ?_
 refine bs (cs:=brc ⟨i.op,st',[],false⟩ a5 c5 none 0) fun b6 w6 k6 => ?_
 have h6:=h5.bl k6.bl
 obtain ⟨xs,g1,g2,g3,g4⟩:=h6.op.row
 have hb0:=h.box.lt
 have z2:=B2.size;have z3:=c3.size;have z4:=B35.size;have z6:=k6.size
 have hbig':(X.put sa sc st').ops.length<=120:=hbig
 refine ap g3 (.inr ⟨b6,0,rfl,k6.box.at⟩) (by have:=h6.box.lt;omega) (fun a7 c7 w7 O7 A7 f7 => ?_) (hm:=by exact apS fun g hg (q:X.oa≠some ⟨g,0,none⟩)=>q hg)
 have x7:=A7.box h6.box (fun z=>by have:X.b+1<=X.b:=(hoa _ z).1;omega)
 refine st x7 fun w8 k8 x8 => ?_
 have hf:∀ g,a7=some ⟨g,0,none⟩->X.b+1<=g:=fun g hg=>(O7.lt hg).1
 have hlen:(X.ops++[(⟨i.op,st',[],false⟩:Brv)]).length=X.ops.length+1:=by simp
 have kA:Kp (fun k=>X.oa≠some ⟨k,0,none⟩) w6 w7:=A7.kp
 have kl0:Kp (· < X.b) w6 w7:=kA.sub fun j (hj:j<X.b) z=>by have:=hoa j z;omega
 have kl1:Kp (· < X.b) w7 w8:=k8.kp fun _ hi=>Nat.ne_of_lt hi
 have kl:Kp (· < X.b) w6 w8:=fun b o v s x=>kl1 b o v s (kl0 b o v s x)
 have hst7:Sl eTy (fun j=>j≠X.b/\a7≠some ⟨j,0,none⟩/\X.G j) w7 sa st':=((sl_live h6.st).kp (kA.sub fun j hj=>hj.1.2.1)).sub fun j hj=>⟨hj.1.1,fun z=>by
  rcases f7 j z with q | q
  ·exact hj.1.2.1 q
  ·omega,hj.1.2.2⟩
 have OC:=OwC.push g1 g2 g4 O7 A7 f7 (x:=⟨i.op,st',[],false⟩) (cs:=brc ⟨i.op,st',[],false⟩ a5 c5 none 0) ?_
 ·have cw:Chg X.wt w w8:=by
   have c17:Chg X.wt w6 w7:=A7.chg fun g hg _ => .inr hg
   exact ((((B2.chg _).trans (c3.sub fun _ q => .inl q)).trans ((B35.trans k6.bl).chg _)).trans c17).trans (k8.chg (.inl rfl))
  refine en ⟨a7,c7,X.ops++[(⟨i.op,st',[],false⟩:Brv)],sa,sc,st',e',⟨?_,h6.lo.kp kl,h6.ll.kp kl,hst7.kp (k8.kp fun _ hi=>hi.1),OC.wr k8 (Nat.lt_succ_self _) fun _ hi=>hi.1,h6.cap,fun i hi=>h6.gn i (Nat.le_trans (Nat.le_trans A7.size (by rw [k8.size];exact Nat.le_refl _)) hi),h6.gb⟩,cw,fun g hg=>(f7 g hg).imp id fun q=>by omega,?_⟩
  ·have ec:ckc (X.set a7 c7 (X.ops++[(⟨i.op,st',[],false⟩:Brv)]) sa sc st') e'=ckc ⟨X.b,X.m,X.a,X.la,X.lc,X.loc,a7,c7,X.ops++[(⟨i.op,st',[],false⟩:Brv)],sa,sc,st',X.G⟩ e':=rfl
   rw [ec]
   simp only [ckc,hlen]
   exact x8
  ·have ho':opnB i=true:=by simp [opnB,ho.1,ho.2]
   have ee:stpV X.m X.loc ⟨X.st,X.ops⟩ i=match stkV X.m X.loc ⟨X.st,X.ops⟩ i with
     | none=>none
     | some l=>some ⟨l,X.ops++[⟨i.op,l,[],false⟩]⟩:=by
    unfold stpV
    rw [if_neg (by omega),if_neg (by omega)]
    simp only [ho',if_true]
    cases stkV X.m X.loc ⟨X.st,X.ops⟩ i <;> rfl
   rw [ee]
   rcases hs with ⟨hs,rfl⟩ | ⟨hs,he⟩
   ·rw [hs];exact .inl ⟨rfl,rfl⟩
   ·rw [hs];exact .inr ⟨rfl,he⟩
 ·refine ⟨a5,c5,none,0,rfl,?_,Sl.nil ..,?_,Nat.le_refl _⟩
  ·refine (owp_sl O5 stb fun g hg => ?_).bl k6.bl
   have q:=O5.lt hg
   have z34:=k4.bl.size
   have z1':w.heap.size<=w4.heap.size:=by omega
   have q1:=q.1
   have q2:=q.2
   exact ⟨⟨by show g≠X.b;omega,h4.gn _ (by omega)⟩,fun z=>by have:=hoa g z;omega,by omega⟩
  ·exact O5.capn.1
end Go.Proofs.YtdjkoljonlcemaaGreat

/- Walk: an else, in the verifier. -/
namespace Go.Proofs.YtdjkoljonlcemaaGreat
open Eng Go.RowKit
variable {w:World} {X:CX} {i:Ins}
theorem flatten_set {sz:Nat} {v:Value}:∀ {xs:List (List Value)} (_:∀ c∈xs,c.length=sz) {k j:Nat} {c:List Value},xs[k]? = some c->j<sz->xs.flatten.set (k*sz+j) v=(xs.set k (c.set j v)).flatten
 | [],_,k,j,c,hx,_=>by simp at hx
 | y::l,h,0,j,c,hx,hj=>by
  simp at hx;subst hx
  have hy:=h y (List.mem_cons_self ..)
  rw [List.flatten_cons,Nat.zero_mul,Nat.zero_add,List.set_append_left _ _ (by omega)]
  rfl
 | y::l,h,k+1,j,c,hx,hj=>by
  have hy:=h y (List.mem_cons_self ..)
  have:=flatten_set (v:=v) (xs:=l) (fun c hc=>h c (List.mem_cons_of_mem _ hc)) (k:=k) (by simpa using hx) hj
  rw [List.flatten_cons,List.set_append_right _ _ (by rw [hy,Nat.succ_mul];omega),hy,show (k+1)*sz+j-sz=k*sz+j by rw [Nat.succ_mul];omega,this]
  rfl
theorem set_last {α:Type} {l:List α} {b x:α} (h:l.getLast? = some b):l.set (l.length-1) x=l.dropLast++[x]:=by
 have e:=last_split h
 have hl:l.length=l.dropLast.length+1:=by rw [e];simp
 conv=>lhs;rw [e]
 rw [List.set_append_right _ _ (by simp)]
 simp
theorem Eng.Ow.block {w:World} {base e esz:Nat} {g n cap:Nat} {xs:List Value} (h:Ow w base e esz (some ⟨g,0,none⟩) n cap xs):∃ cs:List Value,Box w g e cs/\cs.take (n*esz)=xs/\cs.length=cap*esz/\n<=cap /\
  ∀ (w':World) (cs':List Value),Box w' g e cs'->cs'.length=cs.length->Ow w' base e esz (some ⟨g,0,none⟩) n cap (cs'.take (n*esz)):=by
 obtain ⟨h1,h2⟩:=h.own
 rcases h2 with ⟨h2,h3⟩ | ⟨g',cap',cur,h2,h3,h4,h5,h6,h7,h8⟩
 ·cases h2
 ·simp only [Value.slice.injEq,Option.some.injEq,Addr.mk.injEq,and_true] at h2
  obtain ⟨rfl,-,rfl⟩:=h2
  refine ⟨cur.toList,h4,h8,by rw [Array.length_toList];exact h7,h5,fun w' cs' hb hl=>⟨?_,.inr ⟨g,cap,cs'.toArray,rfl,h3,hb,h5,h6,by rw [List.size_toArray,hl,Array.length_toList];exact h7,rfl⟩⟩⟩
  rw [List.length_take,hl,Array.length_toList,h7]
  exact Nat.min_eq_left (Nat.mul_le_mul_right _ h5)
set_option maxHeartbeats 2000000 in
theorem v_middle (h:CkR w X 0) (ho:i.op=34) (hne:X.ops≠[]) (hbig:X.ops.length<=120):Ret Tryz.prog 80 #[ptr X.b] w fun _ w'=>StpQ X w i w':=by
 obtain ⟨b,hlb⟩:∃ b,X.ops.getLast? = some b:=by
  cases hq:X.ops.getLast? with
  | none=>rw [List.getLast?_eq_none_iff] at hq;exact absurd hq hne
  | some b=>exact ⟨b,rfl⟩
 have hpos:0<X.ops.length:=List.length_pos_iff.2 hne
 have hk:X.ops[X.ops.length-1]? = some b:=by rw [<-hlb,List.getLast?_eq_getElem?]
 have ew:IntKind.i64.wrap ((X.ops.length:Int)-1)=((X.ops.length-1:Nat):Int):=by rw [IntKind.wrap_i64];omega
 refine entr (vs:=[ptr X.b]) [0,2] tabok Tryz.func80 (by kernel_rfl) ?_
 refine dh T (List.range 12) fun w1 k1 => ?_
 have h1:=h.bl k1.bl
 obtain ⟨xs,g1,g2,g3,g4⟩:=h1.op.row
 obtain ⟨cs,hcs⟩:=some_of_lt (l:=xs) (k:=X.ops.length-1) (by omega)
 have hrel:=g4 _ _ _ hcs hk
 obtain ⟨a1,c1,a2,c2,rfl,hb1,hb2,hc1,hc2⟩:=hrel
 obtain ⟨g,_,eo,hg1,hg2,_⟩:=h1.op.elt hk
 refine ld (h1.box.cell rfl) ?_ (hm:=trivial)
 refine ld (h1.box.cell rfl) ?_ (hm:=trivial)
 rw [eo] at g3
 obtain ⟨cs,hbx,ht,hl,hcap,mk⟩:=g3.block
 rw [eo]
 refine ix (j:=X.ops.length-1) ?_ (hi:=by exact congrArg (fun z=>some (Value.int .i64 z)) ew)
 refine ld (h1.box.cell rfl) ?_
 have hcl:(X.ops.length-1)*4+4<=cs.length:=by rw [hl];show _<=X.oc*4;omega
 refine stx hbx (fun w2 k2 x2 => ?_) (ho:=by omega)
 refine stx x2 (fun w3 k3 x3 => ?_) (ho:=by rw [List.length_set];omega)
 have hX0:=h.box.lt
 have hgb:X.b≠g:=by omega
 obtain ⟨b',hb'⟩:∃ b':Brv,b'=⟨b.op,b.beg,X.st,true⟩:=⟨_,rfl⟩
 have hrow:(((cs.set (0+(X.ops.length-1)*4+2) (.slice X.sa X.st.length X.sc)).set (0+(X.ops.length-1)*4+3) (.bool true)).take (X.ops.length*4))=(xs.set (X.ops.length-1) (brc b' a1 c1 X.sa X.sc)).flatten:=by
  rw [List.take_set,List.take_set]
  have ht':cs.take (X.ops.length*4)=xs.flatten:=ht
  rw [ht',Nat.zero_add,flatten_set (sz:=4) g2 hcs (by omega)]
  have hlt:X.ops.length-1<xs.length:=by omega
  rw [flatten_set (sz:=4) (fun c hc => ?_) (c:=[I b.op,.slice a1 b.beg.length c1,.slice X.sa X.st.length X.sc,.bool b.mid]) (by rw [List.getElem?_set_self hlt];rfl) (by omega),List.set_set,hb']
  ·rfl
  ·rcases List.mem_or_eq_of_mem_set hc with q | rfl
   ·exact g2 c q
   ·rfl
 have hO3:=mk w3 _ x3 (by rw [List.length_set,List.length_set])
 have hO3':Ow w3 (X.b+1) 254 eBr.sz (some ⟨g,0,none⟩) X.ops.length X.oc ((xs.set (X.ops.length-1) (brc b' a1 c1 X.sa X.sc)).flatten):=by
  rw [<-hrow];exact hO3
 have k13:Kp (fun j=>X.oa≠some ⟨j,0,none⟩) w1 w3:=fun q o v s x=>(k3.kp (S:=fun j=>X.oa≠some ⟨j,0,none⟩) fun j hj z=>hj (by rw [z];exact eo)) q o v s ((k2.kp (S:=fun j=>X.oa≠some ⟨j,0,none⟩) fun j hj z=>hj (by rw [z];exact eo)) q o v s x)
 have s13:w3.heap.size=w1.heap.size:=by rw [k3.size,k2.size]
 have hlt:X.ops.length-1<xs.length:=by omega
 have st1:=h1.st
 have OC3:OwC eBr (fun j=>j≠X.b/\X.G j) w3 (X.b+1) 254 X.oa X.oc (X.ops.set (X.ops.length-1) b'):=by
  refine ⟨xs.set (X.ops.length-1) (brc b' a1 c1 X.sa X.sc),by rw [List.length_set,List.length_set,g1],fun c hc => ?_,by rw [List.length_set,eo];exact hO3',fun j c y hj hy => ?_⟩
  ·rcases List.mem_or_eq_of_mem_set hc with q | rfl
   ·exact g2 c q
   ·rfl
  ·rcases Nat.decEq j (X.ops.length-1) with q | q
   ·rw [List.getElem?_set_ne (fun z=>q z.symm)] at hj hy
    refine eBr.sub (fun b hb=>⟨hb.1,hb.2.1,by rw [s13];exact hb.2.2⟩) (eBr.kp (k13.sub fun b hb=>hb.2.1) (g4 j c y hj hy))
   ·subst q
    rw [List.getElem?_set_self hlt] at hj
    rw [List.getElem?_set_self (by omega)] at hy
    simp only [Option.some.injEq] at hj hy
    subst hj hy
    refine ⟨a1,c1,X.sa,X.sc,rfl,?_,?_,?_,?_⟩
    ·rw [hb'];exact ((hb1.kp (k13.sub fun b hb=>hb.2.1)).sub fun b hb=>⟨hb.1,hb.2.1,by rw [s13];exact hb.2.2⟩)
    ·rw [hb'];exact (((sl_live st1).kp (k13.sub fun b hb=>hb.1.2.1)).sub fun b hb=>⟨⟨hb.1.1,hb.1.2.2⟩,hb.1.2.1,by rw [s13];exact hb.2⟩)
    ·rw [hb'];exact hc1
    ·rw [hb'];exact h1.cap
 have hcell:w3.cell? ⟨g,0+(X.ops.length-1)*4+1,none⟩=some (.slice a1 b.beg.length c1):=by
  have hc:=hO3'.at rfl ((X.ops.length-1)*4+1) (.slice a1 b.beg.length c1) ?_
  ·rw [Nat.zero_add] at hc ⊢;exact hc
  ·have g2':∀ c∈xs.set (X.ops.length-1) (brc b' a1 c1 X.sa X.sc),c.length=4:=fun c hc=>by
    rcases List.mem_or_eq_of_mem_set hc with q | rfl
    ·exact g2 c q
    ·rfl
   rw [flatten_get (sz:=4) g2' (List.getElem?_set_self hlt) 1 (by omega),hb'];rfl
 have x3b:=k3.box (k2.box h1.box hgb) hgb
 refine ld hcell ?_
 refine cl (c_CloneT b.beg a1 c1 (fun j=>X.oa≠some ⟨j,0,none⟩) w3 ((hb1.sub fun b hb=>hb.2.1).kp k13)) ?_
 rintro _ w4 ⟨a5,c5,rfl,O5,B4⟩
 refine st (Bl.box B4 x3b) fun w5 k5 x5 => ?_
 have kl13:Kp (· < X.b) w1 w3:=k13.sub fun j (hj:j<X.b) z=>by have:=(h.op.lt z).1;omega
 have kl5:Kp (· < X.b) w4 w5:=k5.kp fun _ hi=>Nat.ne_of_lt hi
 have hs5:Sl eTy X.S w4 a5 b.beg:=owp_sl O5 hb1.big fun j hj=>by
  have q:=(O5.lt hj).1
  have z1:=k1.bl.size
  exact ⟨by omega,fun z=>by have:=(h.op.lt z).2;omega,h.gn _ (by omega)⟩
 have cw:Chg X.wt w w5:=(((k1.bl.chg _).trans ((k2.chg (.inr eo)).trans (k3.chg (.inr eo)))).trans (B4.chg _)).trans (k5.chg (.inl rfl))
 have es:=set_last (x:=b') hlb
 have hlen:(X.ops.dropLast++[b']).length=X.ops.length:=by rw [<-es,List.length_set]
 refine en ⟨X.oa,X.oc,X.ops.dropLast++[b'],a5,c5,b.beg,0,⟨?_,((h1.lo.kp kl13).bl B4).kp kl5,((h1.ll.kp kl13).bl B4).kp kl5,hs5.kp (k5.kp fun _ hi=>hi.1),by rw [<-es];exact (OC3.bl B4).wr k5 (Nat.lt_succ_self _) fun _ hi=>hi.1,O5.capn.1,fun i hi=>h.gn i (Nat.le_trans cw.size hi),h.gb⟩,cw,fun g hg => .inl hg,.inl ⟨?_,rfl⟩⟩
 ·have ec:ckc (X.set X.oa X.oc (X.ops.dropLast++[b']) a5 c5 b.beg) 0=ckc ⟨X.b,X.m,X.a,X.la,X.lc,X.loc,X.oa,X.oc,X.ops.dropLast++[b'],a5,c5,b.beg,X.G⟩ 0:=rfl
  rw [ec]
  simp only [ckc,hlen]
  rw [eo]
  rw [eo] at x5
  exact x5
 ·unfold stpV
  rw [if_pos ho]
  unfold midV
  simp only [hlb,hb']
end Go.Proofs.YtdjkoljonlcemaaGreat

/- A step keeps what holds between two instructions; the brackets are those of the code. No program stands here. -/
namespace Go.Proofs.YtdjkoljonlcemaaGreat
open Eng Go.RowKit
variable {m:Mod} {i:Ins} {loc:List Ty}
theorem stk_inv {σ:VS} {l:List Ty} (I:VInv m σ) (ip:InsP m loc i) (h:stkV m loc σ i=some l):(∀ t∈l,tyA m t)/\l.length<=12/\bseV σ.op<=l.length:=by
 unfold stkV at h
 split at h
 ·cases h
 rename_i hb
 have hle:=I.le
 generalize hL:σ.st.drop (σ.st.length-takV m i)=L at h
 cases hp:pshV m loc i L with
 | none=>rw [hp] at h;cases h
 | some t =>
  rw [hp] at h
  simp only [Option.some.injEq] at h
  subst h
  have hlen:(σ.st.take (σ.st.length-takV m i)++List.replicate (putV m i) t).length=σ.st.length-takV m i+putV m i:=by
   rw [List.length_append,List.length_take,List.length_replicate,Nat.min_eq_left (Nat.sub_le ..)]
  refine ⟨fun u hu => ?_,by rw [hlen];unfold badV at hb;omega,by rw [hlen];unfold badV at hb;omega⟩
  rcases List.mem_append.1 hu with hu | hu
  ·exact I.ty u (List.mem_of_mem_take hu)
  ·obtain ⟨hk,rfl⟩:=List.mem_replicate.1 hu
   by_cases ho:i.op=25∨i.op=26
   ·unfold pshV calV at hp
    rw [if_pos ho] at hp
    unfold putV resV at hk
    rw [if_pos ho] at hk
    cases ht:tgtV m i with
    | none=>rw [ht] at hp;cases hp
    | some n =>
     rw [ht] at hp hk
     obtain ⟨g0,g1⟩:=ip.tgt ho ht
     obtain ⟨x,hx,e1,e2⟩:=resM_ty ip.P g0 g1
     have hr:u=x.result:=by
      rw [<-e1]
      simp only at hp
      split at hp <;> (split at hp <;> first | (simp only [Option.some.injEq] at hp;exact hp.symm) | cases hp)
     rw [hr]
     refine ityp_up (ip.P.mth _ x hx).rt fun q=>hk ?_
     simp only [e1,q,if_true]
   ·unfold pshV at hp
    rw [if_neg ho] at hp
    have hk':0<(cntT.getD i.op.toNat (0,0)).2:=by
     unfold putV at hk
     rw [if_neg ho] at hk;omega
    refine req_ty ip (fun h5 => ?_) hp hk'
    have ht1:takV m i<=σ.st.length/\1<=takV m i:=by
     refine ⟨by unfold badV at hb;omega,?_⟩
     unfold takV
     rw [if_neg ho]
     rcases h5 with q | q <;> (rw [q];decide)
    have hd:L.length=takV m i:=by rw [<-hL,List.length_drop];omega
    obtain ⟨v,hv⟩:=some_of_lt (l:=L) (k:=0) (by omega)
    rw [List.getD_eq_getElem?_getD,hv]
    exact I.ty v (List.mem_of_mem_drop (hL▸List.mem_of_getElem? hv))
theorem stp_inv {σ τ:VS} (I:VInv m σ) (ip:InsP m loc i) (h:stpV m loc σ i=some τ):VInv m τ:=by
 unfold stpV at h
 split at h
 ·exact mid_inv I h
 split at h
 ·exact end_inv I h
 cases hs:stkV m loc σ i with
 | none=>rw [hs] at h;cases h
 | some l =>
  rw [hs] at h
  simp only [Option.some.injEq] at h
  subst h
  obtain ⟨h1,h2,h3⟩:=stk_inv I ip hs
  by_cases ho:opnB i=true
  ·simp only [ho,if_true]
   refine ⟨h1,h2,?_,brsI_snoc I.br ⟨h1,h2,h3,(fun t ht=>by cases ht),by simp,(fun q=>by cases q)⟩⟩
   show bseV (σ.op++[⟨i.op,l,[],false⟩])<=l.length
   rw [bseV_snoc]
   split
   ·exact Nat.le_refl _
   ·exact h3
  ·simp only [if_neg ho]
   exact ⟨h1,h2,h3,I.br⟩
def brkS (σ:VS):List (Int×Bool):=(σ.op.map fun b=>(b.op,b.mid)).reverse
theorem brk_last {σ:VS} {p:Int×Bool} {r:List (Int×Bool)} (h:brkS σ=p::r):∃ b,σ.op.getLast? = some b/\p=(b.op,b.mid)/\r=(σ.op.dropLast.map fun b=>(b.op,b.mid)).reverse:=by
 unfold brkS at h
 cases hl:σ.op.getLast? with
 | none =>
  rw [List.getLast?_eq_none_iff] at hl
  rw [hl] at h;cases h
 | some b =>
  have e:=last_split hl
  rw [e] at h
  simp only [List.map_append,List.map_cons,List.map_nil,List.reverse_append,List.reverse_cons,List.reverse_nil,List.nil_append,List.cons_append,List.cons.injEq] at h
  exact ⟨b,rfl,h.1.symm,h.2.symm⟩
theorem brk_step {c:List Int} {σ:VS} {d:Nat} {r:List (Int×Bool)×Nat} (h:runB (i.op::c) (brkS σ) d=some r) :
  (i.op=34∨i.op=35->σ.op≠[])/\∀ τ,stpV m loc σ i=some τ->τ.op.length<=σ.op.length+1/\∃ d',runB c (brkS τ) d'=some r:=by
 by_cases h34:i.op=34
 ·rw [h34] at h
  cases hs:brkS σ with
  | nil=>rw [hs,runB_top (.inl rfl)] at h;cases h
  | cons p r' =>
   obtain ⟨o,e⟩:=p
   obtain ⟨b,hb,ep,er⟩:=brk_last hs
   rw [hs,runB_else] at h
   split at h
   ·refine ⟨(fun _ q=>by rw [q] at hb;cases hb),fun τ hτ => ?_⟩
    unfold stpV at hτ
    rw [if_pos h34] at hτ
    unfold midV at hτ
    rw [hb] at hτ
    simp only [Option.some.injEq] at hτ
    subst hτ
    have hl:=congrArg List.length (last_split hb)
    simp only [List.length_append,List.length_cons,List.length_nil] at hl
    refine ⟨by simp only [List.length_append,List.length_cons,List.length_nil];omega,d,?_⟩
    have:brkS ⟨b.beg,σ.op.dropLast++[⟨b.op,b.beg,σ.st,true⟩]⟩=(o,true)::r':=by
     simp only [Prod.mk.injEq] at ep
     rw [er,ep.1];simp [brkS]
    rw [this];exact h
   ·cases h
 by_cases h35:i.op=35
 ·rw [h35] at h
  cases hs:brkS σ with
  | nil=>rw [hs,runB_top (.inr rfl)] at h;cases h
  | cons p r' =>
   obtain ⟨o,e⟩:=p
   obtain ⟨b,hb,ep,er⟩:=brk_last hs
   rw [hs,runB_end] at h
   split at h
   ·cases h
   ·refine ⟨(fun _ q=>by rw [q] at hb;cases hb),fun τ hτ => ?_⟩
    unfold stpV at hτ
    rw [if_neg h34,if_pos h35] at hτ
    unfold endV at hτ
    rw [hb] at hτ
    change (if σ.st=(if b.mid=true then b.fst else b.beg) then some (VS.mk σ.st σ.op.dropLast) else none)=some τ at hτ
    by_cases hq:σ.st=(if b.mid=true then b.fst else b.beg)
    ·rw [if_pos hq] at hτ
     simp only [Option.some.injEq] at hτ
     subst hτ
     refine ⟨by simp only [List.length_dropLast];omega,d,?_⟩
     have:brkS ⟨σ.st,σ.op.dropLast⟩=r':=er.symm
     rw [this];exact h
    ·rw [if_neg hq] at hτ;cases hτ
 refine ⟨fun q=>by omega,fun τ hτ => ?_⟩
 unfold stpV at hτ
 rw [if_neg h34,if_neg h35] at hτ
 cases hs:stkV m loc σ i with
 | none=>rw [hs] at hτ;cases hτ
 | some l =>
  rw [hs] at hτ
  simp only [Option.some.injEq] at hτ
  subst hτ
  by_cases ho:opnB i=true
  ·have ho':opensB i.op=true:=ho
   rw [runB_open ho'] at h
   simp only [ho,if_true]
   refine ⟨by simp,max d ((brkS σ).length+1),?_⟩
   have:brkS ⟨l,σ.op++[⟨i.op,l,[],false⟩]⟩=(i.op,false)::brkS σ:=by simp [brkS]
   rw [this];exact h
  ·have ho':opensB i.op=false:=Bool.eq_false_iff.2 ho
   rw [runB_plain ho' h34 h35] at h
   simp only [if_neg ho]
   exact ⟨Nat.le_succ _,d,h⟩
end Go.Proofs.YtdjkoljonlcemaaGreat

/- Walk: a method is verified. -/
namespace Go.Proofs.YtdjkoljonlcemaaGreat
open Eng Go.RowKit
theorem code_runs {l:List Ins} (h:codeE l false=0):l.length<=120/\∃ d,runB (l.map (·.op)) [] 0=some ([],d):=by
 refine ⟨codeE_len h,?_⟩
 unfold codeE at h
 split at h
 ·cases h
 split at h
 ·split at h
  ·rename_i q
   unfold okB at q
   split at q
   ·rename_i d e;exact ⟨d,e⟩
   ·cases q
  ·cases h
 ·cases h
theorem loc_at {m:Mod} {k:Nat} {x:MM} (P:ModP m) (hx:m.methods[k]? = some x):locL m k=locM x:=by
 have hk:=(List.getElem?_eq_some_iff.1 hx).1
 have h0:askE m m.methods.length [(k:Int)]=0:=by
  unfold askE
  refine if_pos ⟨chkE_yes P,fun i hi => ?_⟩
  rw [List.mem_singleton.1 hi];omega
 unfold locL
 rw [if_pos h0,mths_at hx]
theorem CkR.beside {w w':World} {b:Nat} {m:Mod} {a:MA} {la:Option Addr} {lc:Nat} {loc:List Ty} {oa:Option Addr} {oc:Nat} {ops:List Brv} {sa:Option Addr} {sc:Nat} {st:List Ty} {ta a':Option Addr} {e:Int}
  (h:CkR w ⟨b,m,a,la,lc,loc,oa,oc,ops,sa,sc,st,fun g=>ta≠some ⟨g,0,none⟩⟩ e) (A:Ap w ta w') (ht:∀ g,ta=some ⟨g,0,none⟩->b+1<=g/\oa≠some ⟨g,0,none⟩) (hf:∀ g,a'=some ⟨g,0,none⟩->ta=some ⟨g,0,none⟩∨w.heap.size<=g) (hl:∀ g,a'=some ⟨g,0,none⟩->b+1<=g/\g<w'.heap.size) :
  CkR w' ⟨b,m,a,la,lc,loc,oa,oc,ops,sa,sc,st,fun g=>a'≠some ⟨g,0,none⟩⟩ e:=by
 have kA:Kp (fun i=>ta≠some ⟨i,0,none⟩) w w':=A.kp
 have kl:Kp (· < b) w w':=kA.sub fun j (hj:j<b) z=>by have:=(ht j z).1;omega
 obtain ⟨xs,g1,g2,g3,g4⟩:=h.op.row
 refine ⟨A.box h.box (fun z=>by have:=(ht _ z).1;exact absurd this (by show ¬b+1<=b;omega)),h.lo.kp kl,h.ll.kp kl,((sl_live h.st).kp (kA.sub fun j hj=>hj.1.2.2)).sub fun j hj=>⟨hj.1.1,hj.1.2.1,fun z => ?_⟩,⟨xs,g1,g2,g3.same fun g hg=>A.block g (g3.lt hg).2 fun z=>(ht g z).2 hg,fun i cs y hi hy=>eBr.sub (fun q hq=>⟨⟨hq.1.1,fun z => ?_⟩,hq.2.1,Nat.lt_of_lt_of_le hq.2.2 A.size⟩) (eBr.kp (kA.sub fun q hq=>hq.1.2) (g4 i cs y hi hy))⟩,h.cap,fun i hi z => ?_,fun i hi z => ?_⟩
 ·rcases hf j z with q | q
  ·exact hj.1.2.2 q
  ·omega
 ·rcases hf q z with r | r
  ·exact hq.1.2 r
  ·have:=hq.2.2;omega
 ·have:=(hl i z).2;omega
 ·have:=(hl i z).1
  have hi':i<b:=hi
  omega
def VMI (w0:World) (b:Nat) (m:Mod) (a:MA) (la:Option Addr) (lc:Nat) (x:MM) (j:Nat) (vals:List Value) (w:World):Prop :=
 ∃ ta tc oa oc ops sa sc st xs,vals=[.slice ta j tc]/\CkR w ⟨b,m,a,la,lc,locM x,oa,oc,ops,sa,sc,st,fun g=>ta≠some ⟨g,0,none⟩⟩ 0/\runV m (locM x) ⟨[],[]⟩ (x.code.take j)=some ⟨st,ops⟩/\VInv m ⟨st,ops⟩/\ops.length<=j /\
  (∃ d r,runB ((x.code.drop j).map (·.op)) (brkS ⟨st,ops⟩) d=some r)/\Ow w (b+1) 23 1 ta j tc xs/\(∀ g,ta=some ⟨g,0,none⟩->oa≠some ⟨g,0,none⟩)/\Bl w0 w
set_option maxHeartbeats 4000000 in
theorem v_method (m:Mod) (a:MA) (k:Nat) (x:MM) (w:World) (P:ModP m) (hx:m.methods[k]? = some x) (hM:MdR (· < w.heap.size) w m a) :
  Ret Tryz.prog 47 #[.agg (modcells m a).toArray,I k] w fun v w'=>∃ sv pl er,v = .tuple #[sv,I pl,I er]/\(er=0↔mokV m x=true)/\Bl w w':=by
 have hMT:MdR T w m a:=hM.sub fun _ _=>trivial
 have hk:=(List.getElem?_eq_some_iff.1 hx).1
 have hml:=P.ml
 have M:=P.mth k x hx
 obtain ⟨hcl,d0,hrun0⟩:=code_runs M.cd
 refine entr (vs:=[.agg (modcells m a).toArray,I (k:Int)]) [0,1,2,4,5,6,7,9,10,11,12,13,31,32,33,34,49,56,62,72,99,121] tabok Tryz.func47 (by kernel_rfl) ?_
 refine bx (cs:=modcells m a) fun b1 w1 k1 => ?_
 refine lda k1.box.at ?_
 refine cl (k_LocalsF m a k w1 (hMT.bl k1.bl)) ?_
 rintro _ w2 ⟨la,lc,rfl,OL,B2⟩
 rw [loc_at P hx] at OL ⊢
 have B02:=k1.bl.trans B2
 have x1:=Bl.box B2 k1.box
 refine lda x1.at ?_
 refine bd (cs:=ckc ⟨0,m,a,la,lc,locM x,none,0,[],none,0,[],T⟩ 0) ?_
 refine bx (cs:=ckc ⟨0,m,a,la,lc,locM x,none,0,[],none,0,[],T⟩ 0) fun b3 w3 k3 => ?_
 have B03:=B02.trans k3.bl
 have y3:=k3.blk
 have z2:=B02.size
 have hM3:=hM.bl B03
 obtain ⟨x',bm,om,cm,hx',e1,hSm,hAm,a1,c1,a2,c2,a3,c3,rfl,f1,f2,f3,_⟩:=at_some hM.mth (i:=k) hk
 obtain rfl:x'=x:=Option.some.inj (hx'.symm.trans hx)
 have x13:=Bl.box k3.bl x1
 refine ld (x13.cell rfl) ?_
 rw [e1]
 refine ix (j:=k) ?_
 refine ld (hAm.bl B03 6 _ rfl) ?_
 have hC3:CkR w3 ⟨b3,m,a,la,lc,locM x',none,0,[],none,0,[],fun g=>(none:Option Addr)≠some ⟨g,0,none⟩⟩ 0:=⟨k3.box,hM3.sub fun j hj=>by show j<b3;omega,(owp_sl (S:=fun j=>j<b3) OL (by have:=locM_len P hx;omega) (fun g hg=>by have:=(OL.lt hg).2;show g<b3;omega)).bl k3.bl,Sl.nil ..,OwC.nil ..,Nat.le_refl _,(fun i _ z=>by cases z),(fun i _ z=>by cases z)⟩
 refine lpk x'.code.length 33 [4] [(2,ptr b1),(9,ptr b3),(10,.pointer (some ⟨bm,om+k*7,none⟩)),(31,.slice a3 x'.code.length c3),(32,I x'.code.length)] (VMI w1 b3 m a la lc x') ⟨none,0,none,0,[],none,0,[],[],rfl,hC3,rfl,VInv.nil m,Nat.le_refl _,⟨0,([],d0),hrun0⟩,Ow.nil ..,fun g hg=>(by cases hg),B2.trans k3.bl⟩ ?_
 rintro j vals w4 hj ⟨ta,tc,oa,oc,ops,sa,sc,st',xs,rfl,h4,hrun,I4,hol,⟨d,r,hbr⟩,O4,hdis,B04'⟩ ih
 have B04:=k1.bl.trans B04'
 have z12:=B2.size
 by_cases hlt:j<x'.code.length
 ·refine brT ?_
  obtain ⟨i,bi,oi,ci,hi,e2,_,hAi,rfl⟩:=at_some (f3.bl B04) hlt
  have ip:=insP_of P hx (List.mem_of_getElem? hi)
  have hdrop:x'.code.drop j=i::x'.code.drop (j+1):=by
   obtain ⟨q,e⟩:=List.getElem?_eq_some_iff.1 hi
   rw [List.drop_eq_getElem_cons q,e]
  rw [hdrop,List.map_cons] at hbr
  obtain ⟨hne,hnx⟩:=brk_step (m:=m) (loc:=locM x') hbr
  subst e2
  refine ix (j:=j) ?_
  refine lda hAi ?_
  refine al fun b5 w5 k5 => ?_
  refine sta (cs':=encIns i) k5.box fun w6 k6 x6 => ?_
  have B46:Bl w4 w6:=k5.wr k6
  have h6:=h4.bl B46
  refine ld (h6.box.cell rfl) ?_
  refine cl (c_CloneT st' sa sc _ w6 h6.st) ?_
  rintro _ w7 ⟨a7,c7,rfl,O7,B7⟩
  refine bs (cs:=[.slice a7 st'.length c7]) fun b8 w8 k8 => ?_
  have B68:=B7.trans k8.bl
  have B48:=B46.trans B68
  have y5:=k5.blk
  have h4b:b3<w4.heap.size:=h4.box.lt
  have z48:=B48.size
  refine ap (O4.bl B48) (.inr ⟨b8,0,rfl,k8.box.at⟩) (by show b3+1<=_;omega) (fun a9 c9 w9 O9 A9 f9 => ?_)
  have hta:∀ g,ta=some ⟨g,0,none⟩->b3+1<=g/\g<w4.heap.size:=fun g hg=>O4.lt hg
  have hoa:∀ g,oa=some ⟨g,0,none⟩->b3+1<=g/\g<w4.heap.size:=fun g hg=>h4.op.lt hg
  have h9:CkR w9 ⟨b3,m,a,la,lc,locM x',oa,oc,ops,sa,sc,st',fun g=>a9≠some ⟨g,0,none⟩⟩ 0 :=
   (h4.bl B48).beside A9 (fun g hg=>⟨(hta g hg).1,hdis g hg⟩) f9 (fun g hg=>O9.lt hg)
  have x59:Box w9 b5 53 (encIns i):=A9.box (Bl.box B68 x6) fun z=>by have:=(hta _ z).2;omega
  have B09':Bl w1 w9:=bl_ap (B04'.trans B48) A9 fun g hg=>by have:=(hta g hg).1;omega
  have B09:=k1.bl.trans B09'
  have hd9:∀ g,a9=some ⟨g,0,none⟩->oa≠some ⟨g,0,none⟩:=fun g hg z=>by
   rcases f9 g hg with q | q
   ·exact hdis g q z
   ·have:=(hoa g z).2;omega
  refine ld (x59.cell rfl) ?_
  refine cl (v_Opens i.op w9) ?_
  rintro _ w10 ⟨rfl,rfl⟩
  refine jn [4] [(2,ptr b1),(9,ptr b3),(10,.pointer (some ⟨bm,om+k*7,none⟩)),(31,.slice (some ⟨bi,oi,none⟩) x'.code.length c3),(32,I x'.code.length),(33,I j),(11,I j)] (fun vals w'=>vals=[.slice a9 (j+1) c9]/\StpQ ⟨b3,m,a,la,lc,locM x',oa,oc,ops,sa,sc,st',fun g=>a9≠some ⟨g,0,none⟩⟩ w10 i w') (fun q go => ?_) (fun q go => ?_) ?_
  ·have q':opensB i.op=true:=q
   simp only [opensB,Bool.and_eq_true,decide_eq_true_eq] at q'
   refine lda x59.at ?_
   refine cl (v_opening h9 I4 ip q' (by show ops.length<=120;omega)) ?_
   rintro _ w11 hS
   exact go ⟨rfl,hS⟩
  ·have q':¬(29<=i.op/\i.op<=33):=fun z=>by
    have:opensB i.op=true:=by simp [opensB,z.1,z.2]
    rw [this] at q;cases q
   refine ld (x59.cell rfl) ?_
   by_cases q34:i.op=34
   ·refine brT ?_ (hp:=q34)
    refine cl (v_middle h9 q34 (hne (.inl q34)) (by show ops.length<=120;omega)) ?_
    rintro _ w11 hS
    exact go ⟨rfl,hS⟩
   refine brF ?_ (hp:=q34)
   refine ld (x59.cell rfl) ?_
   by_cases q35:i.op=35
   ·refine brT ?_ (hp:=q35)
    refine cl (v_end h9 q35 (hne (.inr q35)) (by show ops.length<=120;omega)) ?_
    rintro _ w11 hS
    exact go ⟨rfl,hS⟩
   refine brF ?_ (hp:=q35)
   have hop:=ip.op1
   refine lda x59.at ?_
   refine cl (v_simple h9 I4 ip (by omega)) ?_
   rintro _ w11 ⟨e',sa',sc',st2,h11,c11,hs⟩
   refine go ⟨rfl,oa,oc,ops,sa',sc',st2,e',h11,c11.sub fun _ z => .inl z,fun g hg => .inl hg,?_⟩
   have hno:¬opnB i=true:=fun z=>q' (by simpa [opnB] using z)
   unfold stpV
   rw [if_neg q34,if_neg q35]
   rcases hs with ⟨hs,he⟩ | ⟨hs,he⟩
   ·rw [hs];exact .inl ⟨by simp only [if_neg hno],he⟩
   ·rw [hs];exact .inr ⟨rfl,he⟩
  rintro _ w11 ⟨rfl,oa',oc',ops',sa',sc',st2,e',h11,c11,hf,hs⟩
  have B011':Bl w1 w11:=by
   refine Below.trans B09' ((c11.below (B:=w1.heap.size) B09'.size fun g hg => ?_))
   rcases hg with z | z
   ·have z':g=b3:=z
    omega
   ·have:=(hoa g z).1;omega
  have B011:=k1.bl.trans B011'
  have htk:x'.code.take (j+1)=x'.code.take j++[i]:=by rw [List.take_add_one,hi];rfl
  have hrn:runV m (locM x') ⟨[],[]⟩ (x'.code.take (j+1))=stpV m (locM x') ⟨st',ops⟩ i:=by rw [htk,runV_snoc,hrun];rfl
  refine ld (h11.box.cell rfl) ?_
  by_cases he:e'=0
  ·refine brF ?_
   subst he
   have hstp:stpV m (locM x') ⟨st',ops⟩ i=some ⟨st2,ops'⟩:=by
    rcases hs with ⟨hs,_⟩ | ⟨_,z⟩
    ·exact hs
    ·exact absurd rfl z
   obtain ⟨hlen,d',hbr'⟩:=hnx _ hstp
   refine ih hlt ⟨a9,c9,oa',oc',ops',sa',sc',st2,_,rfl,h11,hrn.trans hstp,stp_inv I4 ip hstp,by show ops'.length<=j+1;have:ops'.length<=ops.length+1:=hlen;omega,⟨d',r,hbr'⟩,O9.same fun g hg => ?_,fun g hg z => ?_,B011'⟩
   ·refine c11.block g (O9.lt hg).2 fun z => ?_
    rcases z with z | z
    ·have:=(O9.lt hg).1
     have z':g=b3:=z
     omega
    ·exact hd9 g hg z
   ·rcases hf g z with q | q
    ·exact hd9 g hg q
    ·have:=(O9.lt hg).2;omega
  ·refine brT ?_
   refine dh T (List.range 8) fun w12 k12 => ?_
   have h12:=h11.bl k12.bl
   refine ld (h12.box.cell rfl) ?_ (hm:=trivial)
   have hno:stpV m (locM x') ⟨st',ops⟩ i=none:=by
    rcases hs with ⟨_,z⟩ | ⟨hs,_⟩
    ·exact absurd z he
    ·exact hs
   refine rt3 ⟨_,_,_,rfl,?_,B011.trans k12.bl⟩
   have:mokV m x'=false:=by
    unfold mokV
    have e1:=runV_none (l':=x'.code.drop (j+1)) (hrn.trans hno)
    rw [List.take_append_drop] at e1
    rw [e1]
   rw [this]
   exact ⟨fun z=>absurd z he,fun z=>by cases z⟩
 ·refine brF ?_
  obtain rfl:j=x'.code.length:=by omega
  rw [List.take_length] at hrun
  have hst:=h4.st.big
  refine ld (h4.box.cell rfl) ?_
  refine cl (c_CloneT st' sa sc _ w4 h4.st) ?_
  rintro _ w7 ⟨a7,c7,rfl,O7,B7⟩
  refine bs (cs:=[.slice a7 st'.length c7]) fun b8 w8 k8 => ?_
  have B48:=B7.trans k8.bl
  have h4b:b3<w4.heap.size:=h4.box.lt
  have z48:=B48.size
  refine ap (O4.bl B48) (.inr ⟨b8,0,rfl,k8.box.at⟩) (by show b3+1<=_;omega) (fun a9 c9 w9 O9 A9 f9 => ?_)
  have B09':Bl w1 w9:=bl_ap (B04'.trans B48) A9 fun g hg=>by have:=O4.lt hg;omega
  have B09:=k1.bl.trans B09'
  have h9:CkR w9 ⟨b3,m,a,la,lc,locM x',oa,oc,ops,sa,sc,st',fun g=>a9≠some ⟨g,0,none⟩⟩ 0 :=
   (h4.bl B48).beside A9 (fun g hg=>⟨(O4.lt hg).1,hdis g hg⟩) f9 (fun g hg=>O9.lt hg)
  refine lda (At.left (cs:=encTy x'.result) (hAm.bl B09).tail.tail.tail.tail) ?_
  refine cl (v_results x'.result w9) ?_
  rintro _ w10 ⟨ra,rfl,hR,B10⟩
  have h10:=h9.bl B10
  have B010:=B09.trans B10
  refine ld (h10.box.cell rfl) ?_
  have hmok:mokV m x'=enoV m x'.result ⟨st',ops⟩:=by unfold mokV;rw [hrun]
  by_cases hlen:st'.length=(resL x'.result).length
  ·refine brf ?_ (hp:=by simp [hlen])
   refine dh T (List.range 17) fun w12 k12 => ?_
   have h12:=h10.bl k12.bl
   have B012:=B010.trans k12.bl
   have x12:=Bl.box ((B09'.trans B10).trans k12.bl) k1.box
   have hR12:=hR.bl k12.bl
   by_cases q:x'.result.kind=0
   ·have e0:resL x'.result=[]:=if_pos q
    rw [e0] at hlen ⊢
    have es:st'=[]:=List.eq_nil_of_length_eq_zero hlen
    refine spn (.agg #[]) ?_
    refine spn (.slice none 0 0) ?_
    refine spn (ptr 0) ?_
    refine spn (.agg #[]) ?_
    refine spn (ptr 0) ?_
    refine spn (.agg #[]) ?_
    refine spn (.bool false) ?_
    refine brf ?_
    refine rt3 ⟨_,_,_,rfl,?_,B012⟩
    rw [hmok]
    unfold enoV
    rw [if_pos q]
    exact ⟨fun _=>decide_eq_true es,fun _=>rfl⟩
   ·have e0:resL x'.result=[x'.result]:=if_neg q
    rw [e0] at hlen hR12 ⊢
    obtain ⟨t,bt,ot,ct,ht,et,hSt,hAt,rfl⟩:=at_some h12.st (i:=0) (by show 0<st'.length;rw [hlen];exact Nat.zero_lt_one)
    have es:st'=[t]:=by
     have ht':st'[0]? = some t:=ht
     match st',hlen,ht' with
     | [u],_,z=>simp at z;rw [z]
    obtain ⟨u,bu,ou,cu,hu,eu,hSu,hAu,rfl⟩:=at_some hR12 (i:=0) Nat.zero_lt_one
    have hu':u=x'.result:=by simpa using hu.symm
    subst hu'
    have et':sa=some ⟨bt,ot,none⟩:=et
    have tyt:tyA m t:=I4.ty t (by show t∈st';rw [es];exact List.mem_cons_self ..)
    refine spt (.bool false) ?_
    refine lda x12.at ?_ (hm:=trivial)
    refine spt (.bool false) ?_
    refine ld (h12.box.cell rfl) ?_ (hm:=trivial)
    refine spt (.bool false) ?_
    simp only [et']
    refine ix (j:=0) ?_ (hb:=by show 0<st'.length;rw [hlen];exact Nat.zero_lt_one)
    refine spt (.bool false) ?_
    refine lda hAt ?_ (hm:=trivial)
    refine spt (.bool false) ?_
    rw [eu]
    refine ix (j:=0) ?_ (hb:=Nat.zero_lt_one)
    refine spt (.bool false) ?_
    refine lda hAu ?_ (hm:=trivial)
    refine spt (.bool false) ?_
    refine cl (v_fits m a t x'.result w12 P (hMT.bl B012) (tyA_clsA tyt) (tyA_clsA (ityp_up M.rt q))) ?_ (hm:=fun _ _ r=>mdW_bl r.2)
    rintro _ w13 ⟨rfl,B13⟩
    have hen:enoV m x'.result ⟨st',ops⟩=fitB m t x'.result:=by
     unfold enoV
     rw [if_neg q,es]
    by_cases hf:fitB m t x'.result=true
    ·refine brf ?_ (hp:=by simp [hf])
     refine rt3 ⟨_,_,_,rfl,?_,B012.trans B13⟩
     rw [hmok,hen]
     exact ⟨fun _=>hf,fun _=>rfl⟩
    ·refine brt ?_ (hp:=by simp [hf])
     refine dh T (List.range 8) fun w14 k14 => ?_
     refine ld ((hAm.bl ((B012.trans B13).trans k14.bl)) 6 _ rfl) ?_ (hm:=trivial)
     refine rt3 ⟨_,_,_,rfl,?_,(B012.trans B13).trans k14.bl⟩
     rw [hmok,hen]
     exact ⟨(fun z=>by cases z),(fun z=>absurd z hf)⟩
  ·refine brt ?_ (hp:=by simp;omega)
   refine dh T (List.range 8) fun w12 k12 => ?_
   refine ld ((hAm.bl (B010.trans k12.bl)) 6 _ rfl) ?_ (hm:=trivial)
   refine rt3 ⟨_,_,_,rfl,?_,B010.trans k12.bl⟩
   rw [hmok]
   have:enoV m x'.result ⟨st',ops⟩=false:=by
    rw [resL_len] at hlen
    unfold enoV
    split
    ·rename_i q
     rw [if_pos q] at hlen
     exact decide_eq_false fun z=>hlen (by rw [show st'=[] from z];rfl)
    ·rename_i q
     rw [if_neg q] at hlen
     match st',hlen with
     | [],_=>rfl
     | [_],z=>exact absurd rfl z
     | _::_::_,_=>rfl
   rw [this]
   exact ⟨(fun z=>by cases z),(fun z=>by cases z)⟩
end Go.Proofs.YtdjkoljonlcemaaGreat

/- Walk: a module is verified. -/
namespace Go.Proofs.YtdjkoljonlcemaaGreat
open Eng Go.RowKit
theorem Sl.ltM {S:Nat->Prop} {w:World} {a:Option Addr} {l:List MC} (h:Sl eMC S w a l):Sl eMC (· < w.heap.size) w a l :=
 ⟨h.big,fun i x hx=>by
  obtain ⟨b,o,cs,e,_,hat,a1,c1,a2,c2,rfl,h1,h2,h3⟩:=h.el i x hx
  exact ⟨b,o,_,e,cell_lt (hat 0 _ rfl),hat,a1,c1,a2,c2,rfl,Sl.lt (by decide) h1,Sl.lt (by decide) h2,h3⟩⟩
theorem Sl.ltMM {S:Nat->Prop} {w:World} {a:Option Addr} {l:List MM} (h:Sl eMM S w a l):Sl eMM (· < w.heap.size) w a l :=
 ⟨h.big,fun i x hx=>by
  obtain ⟨b,o,cs,e,_,hat,a1,c1,a2,c2,a3,c3,rfl,h1,h2,h3,h4⟩:=h.el i x hx
  exact ⟨b,o,_,e,cell_lt (hat 0 _ rfl),hat,a1,c1,a2,c2,a3,c3,rfl,Sl.lt (by decide) h1,Sl.lt (by decide) h2,Sl.lt (by decide) h3,h4⟩⟩
theorem MdR.lt {S:Nat->Prop} {w:World} {m:Mod} {a:MA} (h:MdR S w m a):MdR (· < w.heap.size) w m a:=⟨h.cls.ltM,Sl.lt (by decide) h.sta,h.mth.ltMM⟩
theorem v_Module (m:Mod) (a:MA) (w:World) (hM:MdR T w m a) :
  Ret Tryz.prog 28 #[.agg (modcells m a).toArray] w fun v w'=>∃ at' pl er,v = .tuple #[I at',I pl,I er]/\(er=0↔verE m=0)/\Bl w w':=by
 have q1:=hM.mth.big
 have hML:=hM.lt
 refine entr (vs:=[.agg (modcells m a).toArray]) [0,1,2,3,4,5,7,8,11,14,15,16,26] tabok Tryz.func28 (by kernel_rfl) ?_
 refine bx (cs:=modcells m a) fun b1 w1 k1 => ?_
 refine lda k1.box.at ?_
 refine cl (k_Check m a w1 (hM.bl k1.bl)) ?_
 rintro _ w2 ⟨rfl,B2⟩
 have B02:=k1.bl.trans B2
 by_cases h0:mchkE m=0
 rotate_left
 ·refine brt ?_ (hp:=by simp [h0])
  refine rt3 ⟨0,0,1,rfl,⟨(fun z=>by cases z),(fun z => ?_)⟩,B02⟩
  unfold verE at z
  split at z
  ·rename_i q;exact absurd (chkE_yes q.1) h0
  ·cases z
 have P:=modP_of h0
 refine brf ?_ (hp:=by simp [h0])
 refine ld ((Bl.box B2 k1.box).cell rfl) ?_
 refine lpk m.methods.length 15 [] [(1,ptr b1),(14,I m.methods.length)] (fun j vals w'=>vals=[]/\(∀ k x,k<j->m.methods[k]? = some x->mokV m x=true)/\Bl w1 w') ⟨rfl,fun k x hk=>by omega,B2⟩ ?_
 rintro j vals w3 hj ⟨rfl,hall,B3⟩ ih
 have B03:=k1.bl.trans B3
 by_cases hlt:j<m.methods.length
 ·refine brT ?_
  obtain ⟨x,hx⟩:=some_of_lt hlt
  refine lda (Bl.box B3 k1.box).at ?_
  have z3:=B03.size
  refine cl (v_method m a j x w3 P hx ((hML.bl B03).sub fun i hi=>by have:i<w.heap.size:=hi;show i<w3.heap.size;omega)) ?_
  rintro _ w4 ⟨sv,pl,er,rfl,hok,B4⟩
  by_cases he:er=0
  ·refine brf ?_ (hp:=by simp [he])
   refine ih hlt ⟨rfl,fun k y hk hy => ?_,B3.trans B4⟩
   rcases Nat.lt_or_ge k j with q | q
   ·exact hall k y q hy
   ·obtain rfl:k=j:=by omega
    obtain rfl:y=x:=Option.some.inj (hy.symm.trans hx)
    exact hok.1 he
  ·refine brt ?_ (hp:=by simp [he])
   refine rt3 ⟨j,pl,er,rfl,⟨(fun z=>absurd z he),(fun z => ?_)⟩,B03.trans B4⟩
   unfold verE at z
   split at z
   ·rename_i q;exact absurd (hok.2 (q.2 x (List.mem_of_getElem? hx))) he
   ·cases z
 ·refine brF ?_
  obtain rfl:j=m.methods.length:=by omega
  refine rt3 ⟨0,0,0,rfl,⟨(fun _ => ?_),(fun _=>rfl)⟩,B03⟩
  unfold verE
  refine if_pos ⟨P,fun x hx => ?_⟩
  obtain ⟨k,hk⟩:=List.mem_iff_getElem?.1 hx
  exact hall k x (List.getElem?_eq_some_iff.1 hk).1 hk
end Go.Proofs.YtdjkoljonlcemaaGreat

/- Walks: the places of brackets (what they are is not asked here, only that they are). -/
namespace Go.Proofs.YtdjkoljonlcemaaGreat
open Eng Go.RowKit
theorem ShpR.bl {n b1 b3 b5:Nat} {w w':World} (h:ShpR n b1 b3 b5 w) (k:Bl w w'):ShpR n b1 b3 b5 w':=by
 obtain ⟨cO,cN,E,h1,h2,h3,h4,h5,h6,h7,h8⟩:=h
 exact ⟨cO,cN,E,Bl.box k h1,h2,h3,Bl.box k h4,h5,Bl.box k h6,h7,h8⟩
abbrev shc (n b1 b3 b5 b7:Nat) (D:Int):List Value:=[slv b1 n,slv b3 n,slv b5 n,slv b7 n,I D,.bool true]
theorem c_indexed (l:List Ins) (a:Option Addr) (cap:Nat) (S:Nat->Prop) (w:World) (hS:Sl eIns S w a l) (h0:codeE l false=0) (k:Nat) (hk:k<l.length) :
  Ret Tryz.prog 85 #[.slice a l.length cap,I k] w fun v w'=>(∃ b1 b3 b5 b7 D,v = .tuple #[.agg (shc l.length b1 b3 b5 b7 D).toArray,I 0]/\ShpR l.length b1 b3 b5 w')/\Bl w w':=by
 have hok:okB (l.map (·.op))=true:=by
  unfold codeE at h0
  split at h0
  ·cases h0
  split at h0
  ·split at h0
   ·rename_i q;exact q
   ·cases h0
  ·cases h0
 refine entr (vs:=[.slice a l.length cap,I (k:Nat)]) [0,1,4,5,6,10,20] tabok Tryz.func85 (by kernel_rfl) ?_
 refine al fun b2 w2 k2 => ?_
 refine cl (u_codeCheck l a cap false S w2 (hS.bl k2.bl)) ?_
 rintro _ w3 ⟨rfl,B3⟩
 refine brf ?_ (hp:=by simp [h0])
 refine brf ?_ (hp:=by simp;omega)
 have B03:=k2.bl.trans B3
 refine cl (u_shapeR l a cap S w3 (hS.bl B03)) ?_
 rintro _ w4 ⟨⟨b1,b3,b5,b7,D,rfl,hR⟩,B4⟩
 rw [hok]
 refine sta (vs:=shc l.length b1 b3 b5 b7 D) (cs':=shc l.length b1 b3 b5 b7 D) (Bl.box (B3.trans B4) k2.box) fun w5 k5 x5 => ?_
 have y2:=k2.blk
 have B5:Bl w w5:=Below.trans (B03.trans B4) (k5.below (by omega))
 refine rtc2 x5.at ⟨⟨b1,b3,b5,b7,D,rfl,?_⟩,B5⟩
 obtain ⟨⟨cO,cN,E,h1,h2,h3,h4,h5,h6,h7,h8⟩,n1,n3,n5⟩:=hR hok
 have z3:=B3.size;have s2:=k2.size
 exact ⟨cO,cN,E,k5.box h1 (by omega),h2,h3,k5.box h4 (by omega),h5,k5.box h6 (by omega),h7,h8⟩
theorem box_at {w:World} {b:Nat} {t:TypeId} {cs:List Value} (h:Box w b t cs) {k:Nat} {v:Value} (hk:cs[k]? = some v):w.cell? ⟨b,0+k*1,none⟩=some v:=by
 rw [Nat.mul_one];exact h.at k v hk
theorem c_Match (l:List Ins) (a:Option Addr) (cap:Nat) (S:Nat->Prop) (w:World) (hS:Sl eIns S w a l) (h0:codeE l false=0) (k:Nat) (x:Ins) (hx:l[k]? = some x) (ho:opensB x.op=true) :
  Ret Tryz.prog 54 #[.slice a l.length cap,I k] w fun v w'=>(∃ p q:Int,v = .tuple #[I p,I q,I 0])/\Bl w w':=by
 have hk:=(List.getElem?_eq_some_iff.1 hx).1
 have hbig:=hS.big
 refine entr (vs:=[.slice a l.length cap,I (k:Nat)]) [0,1,4,5,6,7,8,15,19] tabok Tryz.func54 (by kernel_rfl) ?_
 refine cl (c_indexed l a cap S w hS h0 k hk) ?_
 rintro _ w1 ⟨⟨b1,b3,b5,b7,D,rfl,hR⟩,B1⟩
 refine al fun b2 w2 k2 => ?_
 refine sta (vs:=shc l.length b1 b3 b5 b7 D) (cs':=shc l.length b1 b3 b5 b7 D) k2.box fun w3 k3 x3 => ?_
 have B13:Bl w1 w3:=k2.wr k3
 have B3:=B1.trans B13
 refine brf ?_
 obtain ⟨x',b,o,_,hx',rfl,_,hA,rfl⟩:=at_some (hS.bl B3) hk
 obtain rfl:x'=x:=Option.some.inj (hx'.symm.trans hx)
 refine ix (j:=k) ?_
 refine ld (hA 0 _ rfl) ?_
 refine cl (v_Opens x'.op w3) ?_
 rintro _ _ ⟨rfl,rfl⟩
 refine brf ?_ (hp:=by simp [ho])
 refine dh T (List.range 13) fun w4 k4 => ?_
 obtain ⟨cO,cN,E,h1,h2,h3,h4,h5,h6,h7,h8⟩:=(hR.bl B13).bl k4.bl
 obtain ⟨e,he⟩:=some_of_lt (l:=E) (k:=k) (by omega)
 obtain ⟨u,hu⟩:=some_of_lt (l:=cN) (k:=k) (by omega)
 obtain ⟨z,rfl⟩:=h8 u (List.mem_of_getElem? hu)
 refine ld ((k4.box x3).cell rfl) ?_ (hm:=trivial)
 refine ix (j:=k) ?_
 refine ld (box_at h4 (v:=I e) (by rw [List.getElem?_map,he];rfl)) ?_ (hm:=trivial)
 refine ld ((k4.box x3).cell rfl) ?_ (hm:=trivial)
 refine ix (j:=k) ?_
 refine ld (box_at h6 hu) ?_ (hm:=trivial)
 exact rt3 ⟨⟨e,z,rfl⟩,B3.trans k4.bl⟩
theorem c_Opener (l:List Ins) (a:Option Addr) (cap:Nat) (S:Nat->Prop) (w:World) (hS:Sl eIns S w a l) (h0:codeE l false=0) (k:Nat) (hk:k<l.length) :
  Ret Tryz.prog 55 #[.slice a l.length cap,I k] w fun v w'=>(∃ p e:Int,v = .tuple #[I p,I e])/\Bl w w':=by
 have hbig:=hS.big
 refine entr (vs:=[.slice a l.length cap,I (k:Nat)]) [0,1,4,5,6,7,14,18] tabok Tryz.func55 (by kernel_rfl) ?_
 refine cl (c_indexed l a cap S w hS h0 k hk) ?_
 rintro _ w1 ⟨⟨b1,b3,b5,b7,D,rfl,hR⟩,B1⟩
 refine al fun b2 w2 k2 => ?_
 refine sta (vs:=shc l.length b1 b3 b5 b7 D) (cs':=shc l.length b1 b3 b5 b7 D) k2.box fun w3 k3 x3 => ?_
 have B13:Bl w1 w3:=k2.wr k3
 have B3:=B1.trans B13
 refine brf ?_
 obtain ⟨cO,cN,E,h1,h2,h3,h4,h5,h6,h7,h8⟩:=hR.bl B13
 obtain ⟨u,hu⟩:=some_of_lt (l:=cO) (k:=k) (by omega)
 obtain ⟨z,rfl⟩:=h3 u (List.mem_of_getElem? hu)
 refine ld (x3.cell rfl) ?_
 refine ix (j:=k) ?_
 refine ld (box_at h1 hu) ?_
 by_cases hz:z<0
 ·refine brT ?_
  exact rt2 ⟨⟨0,3,rfl⟩,B3⟩
 ·refine brF ?_
  refine ld (x3.cell rfl) ?_
  refine ix (j:=k) ?_
  refine ld (box_at h1 hu) ?_
  exact rt2 ⟨⟨z,0,rfl⟩,B3⟩
set_option maxHeartbeats 1000000 in
theorem i_places (l:List Ins) (a:Option Addr) (cap:Nat) (S:Nat->Prop) (w:World) (hS:Sl eIns S w a l) (h0:codeE l false=0) :
  Ret Tryz.prog 31 #[.slice a l.length cap] w fun v w'=>(∃ b n c,v = .slice b n c)/\Bl w w':=by
 have hlen:=codeE_len h0
 have hbig:=hS.big
 refine entr (vs:=[.slice a l.length cap]) [0,2,3,4,5,9,10,11,12,16,35] tabok Tryz.func31 (by kernel_rfl) ?_
 refine mk fun b1 w1 k1 => ?_
 have y1:=k1.blk
 refine lpk l.length 11 [] [(0,.slice a l.length cap),(3,slv b1 l.length),(9,.slice a l.length cap),(10,I l.length)] (fun j vals w'=>vals=[]/\Bl w w'/\∃ cs,Box w' b1 145 cs/\cs.length=l.length*3) ⟨rfl,k1.bl,_,k1.box,by rw [rep_length];rfl⟩ ?_
 rintro j vals w2 hj ⟨rfl,B2,cs,x1,hcs⟩ ih
 have l1:=x1.lt
 by_cases hlt:j<l.length
 ·refine brT ?_
  obtain ⟨x,b,o,_,hx,rfl,_,hA,rfl⟩:=at_some (hS.bl B2) hlt
  refine ix (j:=j) ?_
  refine lda hA ?_
  refine al fun b3 w3 k3 => ?_
  refine sta (cs':=encIns x) k3.box fun w4 k4 x4 => ?_
  have B24:Bl w2 w4:=k3.wr k4
  have B4:=B2.trans B24
  have x14:=Bl.box B24 x1
  have y3:=k3.blk
  have z2:=B2.size
  refine ld (x4.cell rfl) ?_
  refine cl (v_Opens x.op w4) ?_
  rintro _ _ ⟨rfl,rfl⟩
  refine br (fun q => ?_) (fun q => ?_)
  ·refine cl (c_Match l (some ⟨b,o,none⟩) cap S _ (hS.bl B4) h0 j x hx q) ?_
   rintro _ w5 ⟨⟨p,u,rfl⟩,B5⟩
   refine ix (j:=j) ?_
   refine stx (Bl.box B5 x14) (fun w6 k6 x6 => ?_) (ho:=by omega)
   refine ix (j:=j) ?_
   refine stx x6 (fun w7 k7 x7 => ?_) (ho:=by rw [List.length_set];omega)
   exact ih hlt ⟨rfl,Below.trans (Below.trans (B4.trans B5) (k6.below (by omega))) (k7.below (by omega)),_,x7,by rw [List.length_set,List.length_set];exact hcs⟩
  ·refine ld (x4.cell rfl) ?_
   refine ldg (fun _=>x4.cell rfl) ?_
   refine br (t:=decide (x.op=34)||decide (x.op=35)) (fun q2 => ?_) (fun q2 => ?_)
   ·refine cl (c_Opener l (some ⟨b,o,none⟩) cap S _ (hS.bl B4) h0 j hlt) ?_
    rintro _ w5 ⟨⟨p,u,rfl⟩,B5⟩
    refine ix (j:=j) ?_
    refine stx (Bl.box B5 x14) (fun w6 k6 x6 => ?_) (ho:=by omega)
    exact ih hlt ⟨rfl,Below.trans (B4.trans B5) (k6.below (by omega)),_,x6,by rw [List.length_set];exact hcs⟩
   ·exact ih hlt ⟨rfl,B4,_,x14,hcs⟩
 ·refine brF ?_
  exact rt1 ⟨⟨_,_,_,rfl⟩,B2⟩
theorem i_isRef (t:Ty) (w:World):Ret Tryz.prog 30 #[.agg (encTy t).toArray] w fun v w'=>v = .bool (decide (2<=t.kind))/\Bl w w':=by
 refine entr (vs:=[.agg (encTy t).toArray]) [0,1,2] tabok Tryz.func30 (by kernel_rfl) ?_
 refine bx (cs:=encTy t) fun b1 w1 k1 => ?_
 refine ld (k1.box.cell rfl) ?_
 exact rt1 ⟨rfl,k1.bl⟩
end Go.Proofs.YtdjkoljonlcemaaGreat

/- Walks: a module cloned, in the program. -/
namespace Go.Proofs.YtdjkoljonlcemaaGreat
open Eng Go.RowKit
theorem one_MC {S:Nat->Prop} {w:World} {cs:List Value} {x:MC} (h:eMC.rel S w cs x):cs.all Value.oneCell'=true:=by
 obtain ⟨a1,c1,a2,c2,rfl,_⟩:=h
 rfl
theorem one_MM {S:Nat->Prop} {w:World} {cs:List Value} {x:MM} (h:eMM.rel S w cs x):cs.all Value.oneCell'=true:=by
 obtain ⟨a1,c1,a2,c2,a3,c3,rfl,_⟩:=h
 rfl
theorem OwC.made0 {α:Type} (E:El α) (R:Nat->Prop) {w w':World} {b e:Nat} (h:New w b e [] w'):OwC E R w' w.heap.size e (some ⟨b,0,none⟩) 0 ([]:List α) :=
 ⟨[],rfl,(fun _ h=>by simp at h),Ow.base (Ow.made (n:=0) h (Nat.zero_mul _).symm (by omega)) (by rw [h.blk];exact Nat.le_refl _),(fun i cs x h=>by simp at h)⟩
theorem OwC.sub {α:Type} {E:El α} {R R':Nat->Prop} {w:World} {base e cap:Nat} {a:Option Addr} {l:List α} (h:OwC E R w base e a cap l) (hR:∀ i,R i->R' i):OwC E R' w base e a cap l:=by
 obtain ⟨xs,h1,h2,h3,h4⟩:=h.row
 exact ⟨xs,h1,h2,h3,fun i cs x hi hl=>E.sub (fun b hb=>⟨hR b hb.1,hb.2⟩) (h4 i cs x hi hl)⟩
theorem OwC.base {α:Type} {E:El α} {R:Nat->Prop} {w:World} {base base' e cap:Nat} {a:Option Addr} {l:List α} (h:OwC E R w base e a cap l) (hb:base'<=base):OwC E R w base' e a cap l:=by
 obtain ⟨xs,h1,h2,h3,h4⟩:=h.row
 exact ⟨xs,h1,h2,h3.base hb,h4⟩
theorem c_CloneMC (l:List MC) (a:Option Addr) (cap:Nat) (S:Nat->Prop) (w:World) (hS:Sl eMC S w a l) (hb:∀ i,S i->i<w.heap.size) :
  Ret Tryz.prog 48 #[.slice a l.length cap] w fun v w'=>∃ a' cap',v = .slice a' l.length cap'/\OwC eMC S w' w.heap.size 137 a' cap' l/\Bl w w':=by
 have hbig:=hS.big
 refine entr (vs:=[.slice a l.length cap]) [0,2,4] tabok Tryz.func48 (by kernel_rfl) ?_
 refine bnil ?_
 refine br (t:=a.isNone) (fun h => ?_) (fun h => ?_)
 ·have hl:l=[]:=by
   cases l with
   | nil=>rfl
   | cons x l =>
    obtain ⟨b,o,cs,e,_⟩:=hS.el 0 x rfl
    rw [e] at h;cases h
  subst hl
  exact rt1 ⟨none,0,rfl,OwC.nil ..,Bl.refl _⟩
 refine bs (cs:=[]) fun b1 w1 h1 => ?_
 refine apc (l0:=[]) (l1:=l) (OwC.made0 eMC S h1) ((hS.bl h1.bl).sub fun i hi=>⟨hi,hb i hi⟩) (by rw [h1.size];omega) rfl one_MC (fun a' cap' w2 hO hA hf => ?_)
 exact rt1 ⟨a',cap',rfl,hO,bl_ap h1.bl hA fun g hg=>by
  simp only [Option.some.injEq,Addr.mk.injEq,and_true] at hg
  rw [<-hg,h1.blk];exact Nat.le_refl _⟩
theorem c_CloneMM (l:List MM) (a:Option Addr) (cap:Nat) (S:Nat->Prop) (w:World) (hS:Sl eMM S w a l) (hb:∀ i,S i->i<w.heap.size) :
  Ret Tryz.prog 50 #[.slice a l.length cap] w fun v w'=>∃ a' cap',v = .slice a' l.length cap'/\OwC eMM S w' w.heap.size 45 a' cap' l/\Bl w w':=by
 have hbig:=hS.big
 refine entr (vs:=[.slice a l.length cap]) [0,2,4] tabok Tryz.func50 (by kernel_rfl) ?_
 refine bnil ?_
 refine br (t:=a.isNone) (fun h => ?_) (fun h => ?_)
 ·have hl:l=[]:=by
   cases l with
   | nil=>rfl
   | cons x l =>
    obtain ⟨b,o,cs,e,_⟩:=hS.el 0 x rfl
    rw [e] at h;cases h
  subst hl
  exact rt1 ⟨none,0,rfl,OwC.nil ..,Bl.refl _⟩
 refine bs (cs:=[]) fun b1 w1 h1 => ?_
 refine apc (l0:=[]) (l1:=l) (OwC.made0 eMM S h1) ((hS.bl h1.bl).sub fun i hi=>⟨hi,hb i hi⟩) (by rw [h1.size];omega) rfl one_MM (fun a' cap' w2 hO hA hf => ?_)
 exact rt1 ⟨a',cap',rfl,hO,bl_ap h1.bl hA fun g hg=>by
  simp only [Option.some.injEq,Addr.mk.injEq,and_true] at hg
  rw [<-hg,h1.blk];exact Nat.le_refl _⟩
theorem c_CloneI (l:List Int) (a:Option Addr) (cap:Nat) (S:Nat->Prop) (w:World) (hS:Sl eInt S w a l) :
  Ret Tryz.prog 51 #[.slice a l.length cap] w fun v w'=>∃ a' cap',v = .slice a' l.length cap'/\OwP 1 encInt w' w.heap.size 3 a' cap' l/\Bl w w':=by
 have hbig:=hS.big
 refine entr (vs:=[.slice a l.length cap]) [0,2,4] tabok Tryz.func51 (by kernel_rfl) ?_
 refine bnil ?_
 refine br (t:=a.isNone) (fun h => ?_) (fun h => ?_)
 ·have hl:=sl_none hS h
  subst hl
  exact rt1 ⟨none,0,rfl,Ow.nil ..,Bl.refl _⟩
 refine bs (cs:=[]) fun b1 w1 h1 => ?_
 refine apl (enc:=encInt) (base:=w.heap.size) (l0:=[]) (l1:=l) (Ow.base (Ow.made (n:=0) h1 rfl (by omega)) (by rw [h1.blk];exact Nat.le_refl _)) (src_of (hS.bl h1.bl)) (by rw [h1.size];omega) (fun a' cap' w2 hO hA hf => ?_)
 exact rt1 ⟨a',cap',rfl,hO,bl_ap h1.bl hA fun g hg=>by
  simp only [Option.some.injEq,Addr.mk.injEq,and_true] at hg
  rw [<-hg,h1.blk];exact Nat.le_refl _⟩
theorem c_CloneIns (l:List Ins) (a:Option Addr) (cap:Nat) (S:Nat->Prop) (w:World) (hS:Sl eIns S w a l) :
  Ret Tryz.prog 52 #[.slice a l.length cap] w fun v w'=>∃ a' cap',v = .slice a' l.length cap'/\OwP 3 encIns w' w.heap.size 53 a' cap' l/\Bl w w':=by
 have hbig:=hS.big
 refine entr (vs:=[.slice a l.length cap]) [0,2,4] tabok Tryz.func52 (by kernel_rfl) ?_
 refine bnil ?_
 refine br (t:=a.isNone) (fun h => ?_) (fun h => ?_)
 ·have hl:=sl_none hS h
  subst hl
  exact rt1 ⟨none,0,rfl,Ow.nil ..,Bl.refl _⟩
 refine bs (cs:=[]) fun b1 w1 h1 => ?_
 refine apl (enc:=encIns) (base:=w.heap.size) (l0:=[]) (l1:=l) (Ow.base (Ow.made (n:=0) h1 rfl (by omega)) (by rw [h1.blk];exact Nat.le_refl _)) (src_of (hS.bl h1.bl)) (by rw [h1.size];omega) (fun a' cap' w2 hO hA hf => ?_)
 exact rt1 ⟨a',cap',rfl,hO,bl_ap h1.bl hA fun g hg=>by
  simp only [Option.some.injEq,Addr.mk.injEq,and_true] at hg
  rw [<-hg,h1.blk];exact Nat.le_refl _⟩
theorem OwC.set1 {α:Type} {E:El α} {R:Nat->Prop} {w:World} {base e cap g:Nat} {l:List α} (h:OwC E R w base e (some ⟨g,0,none⟩) cap l) {k:Nat} {x:α} (hx:l[k]? = some x) :
  ∃ cur cs,Box w g e cur/\0+k*E.sz+E.sz<=cur.length/\E.rel (fun b=>R b/\(some ⟨g,0,none⟩:Option Addr)≠some ⟨b,0,none⟩/\b<w.heap.size) w cs x/\∀ (w':World) (j:Nat) (v:Value),j<E.sz->Wr w g w'->Box w' g e (cur.set (0+k*E.sz+j) v) ->
   E.rel (fun b=>R b/\(some ⟨g,0,none⟩:Option Addr)≠some ⟨b,0,none⟩/\b<w.heap.size) w (cs.set j v) x->OwC E R w' base e (some ⟨g,0,none⟩) cap l:=by
 obtain ⟨xs,h1,h2,h3,h4⟩:=h.row
 obtain ⟨cs0,hbx,ht,hl,hcap,mk⟩:=h3.block
 have hk:=(List.getElem?_eq_some_iff.1 hx).1
 obtain ⟨cs,hcs⟩:=some_of_lt (l:=xs) (k:=k) (by omega)
 refine ⟨cs0,cs,hbx,?_,h4 k cs x hcs hx,fun w' j v hj kw hb hr => ?_⟩
 ·rw [hl,Nat.zero_add,<-Nat.succ_mul]
  exact Nat.mul_le_mul_right _ (by omega)
 have hkp:Kp (fun b=>R b/\(some ⟨g,0,none⟩:Option Addr)≠some ⟨b,0,none⟩/\b<w.heap.size) w w':=kw.kp fun j hj z=>hj.2.1 (by rw [z])
 have hsz:w'.heap.size=w.heap.size:=kw.size
 have hO:=mk w' _ hb (by rw [List.length_set])
 refine ⟨xs.set k (cs.set j v),by rw [List.length_set,h1],fun c hc => ?_,?_,fun i c y hi hy => ?_⟩
 ·rcases List.mem_or_eq_of_mem_set hc with q | rfl
  ·exact h2 c q
  ·rw [List.length_set];exact h2 cs (List.mem_of_getElem? hcs)
 ·rw [<-flatten_set h2 hcs hj,<-ht,<-List.take_set]
  rw [Nat.zero_add] at hO
  exact hO
 ·rcases Nat.decEq i k with q | q
  ·rw [List.getElem?_set_ne (fun z=>q z.symm)] at hi
   exact E.sub (fun b hb=>⟨hb.1,hb.2.1,by rw [hsz];exact hb.2.2⟩) (E.kp hkp (h4 i c y hi hy))
  ·subst q
   rw [List.getElem?_set_self (by omega)] at hi
   simp only [Option.some.injEq] at hi
   subst hi
   obtain rfl:y=x:=Option.some.inj (hy.symm.trans hx)
   exact E.sub (fun b hb=>⟨hb.1,hb.2.1,by rw [hsz];exact hb.2.2⟩) (E.kp hkp hr)
theorem OwC.sl4 {α:Type} {E:El α} {R:Nat->Prop} {w:World} {base e cap:Nat} {a:Option Addr} {l:List α} (h:OwC E R w base e a cap l) (hl:l.length<=4194304) {N:Nat->Prop} (hN:∀ i,R i->N i) (hb:∀ i,base<=i->N i):Sl E (fun i=>N i/\i<w.heap.size) w a l:=by
 obtain ⟨xs,h1,h2,h3,h4⟩:=h.row
 refine ⟨hl,fun i x hx => ?_⟩
 have hi:i<l.length:=(List.getElem?_eq_some_iff.1 hx).1
 obtain ⟨cs,hc⟩:=some_of_lt (l:=xs) (k:=i) (by omega)
 have hcl:=h2 cs (List.mem_of_getElem? hc)
 rcases h3.shape with ⟨_,h0,_⟩ | ⟨g,cur,rfl,_⟩
 ·omega
 ·refine ⟨g,0,cs,rfl,⟨hb g (h3.lt rfl).1,(h3.lt rfl).2⟩,fun j v hj => ?_,E.sub (fun b hb=>⟨hN b hb.1,hb.2.2⟩) (h4 i cs x hc hx)⟩
  have hj':j<E.sz:=by rw [<-hcl];exact (List.getElem?_eq_some_iff.1 hj).1
  have:=h3.at rfl (i*E.sz+j) v (by rw [flatten_get h2 hc j hj'];exact hj)
  rw [Nat.zero_add] at this
  rw [Nat.zero_add];exact this
abbrev MA.R (A:MA) (N:Nat->Prop):Nat->Prop:=fun b=>(A.a1≠some ⟨b,0,none⟩/\A.a2≠some ⟨b,0,none⟩/\A.a3≠some ⟨b,0,none⟩)/\N b
structure MdO (N:Nat->Prop) (base:Nat) (w:World) (m:Mod) (A:MA):Prop where
 cls:OwC eMC (A.R N) w base 137 A.a1 A.c1 m.classes
 sta:OwP 2 encTy w base 42 A.a2 A.c2 m.statics
 mth:OwC eMM (A.R N) w base 45 A.a3 A.c3 m.methods
 d12:∀ g,A.a1=some ⟨g,0,none⟩->A.a2≠some ⟨g,0,none⟩/\A.a3≠some ⟨g,0,none⟩
 d23:∀ g,A.a2=some ⟨g,0,none⟩->A.a3≠some ⟨g,0,none⟩
theorem MdO.bl {N:Nat->Prop} {base:Nat} {w w':World} {m:Mod} {A:MA} (h:MdO N base w m A) (k:Bl w w'):MdO N base w' m A:=⟨h.cls.bl k,h.sta.bl k,h.mth.bl k,h.d12,h.d23⟩
theorem MdO.fresh {N:Nat->Prop} {base:Nat} {w:World} {m:Mod} {A:MA} (h:MdO N base w m A) {i:Nat} (hi:w.heap.size<=i) (hN:N i):A.R N i :=
 ⟨⟨fun z=>by have:=(h.cls.lt z).2;omega,fun z=>by have:=(h.sta.lt z).2;omega,fun z=>by have:=(h.mth.lt z).2;omega⟩,hN⟩
theorem MdO.putC {N:Nat->Prop} {base:Nat} {w w':World} {m:Mod} {A:MA} {g:Nat} (M:MdO N base w m A) (e1:A.a1=some ⟨g,0,none⟩) (k:Wr w g w') (C:OwC eMC (A.R N) w' base 137 A.a1 A.c1 m.classes):MdO N base w' m A :=
 ⟨C,M.sta.wr k fun q hq z=>(M.d12 g e1).1 (z▸hq),M.mth.chg (k.chg (bs:=(· = g)) rfl) (fun q hq z=>(M.d12 g e1).2 (z▸hq)) fun i hi z=>hi.1.1 (z▸e1),M.d12,M.d23⟩
theorem MdO.putM {N:Nat->Prop} {base:Nat} {w w':World} {m:Mod} {A:MA} {g:Nat} (M:MdO N base w m A) (e3:A.a3=some ⟨g,0,none⟩) (k:Wr w g w') (C:OwC eMM (A.R N) w' base 45 A.a3 A.c3 m.methods):MdO N base w' m A :=
 ⟨M.cls.chg (k.chg (bs:=(· = g)) rfl) (fun q hq z=>(M.d12 q hq).2 (z▸e3)) fun i hi z=>hi.1.2.2 (z▸e3),M.sta.wr k fun q hq z=>M.d23 q hq (z▸e3),C,M.d12,M.d23⟩
set_option maxHeartbeats 4000000 in
theorem i_clone (m:Mod) (a:MA) (w:World) (hM:MdR T w m a):Ret Tryz.prog 29 #[.agg (modcells m a).toArray] w fun v w'=>∃ A,v = .agg (modcells m A).toArray/\MdR (· < w'.heap.size) w' m A/\Bl w w':=by
 have q1:=hM.cls.big
 have q2:=hM.sta.big
 have q3:=hM.mth.big
 have hML:=hM.lt
 refine entr (vs:=[.agg (modcells m a).toArray]) [0,1,2,3,4,5,6,21,22,23,48,49,50] tabok Tryz.func29 (by kernel_rfl) ?_
 refine bx (cs:=modcells m a) fun b1 w1 k1 => ?_
 refine al fun b2 w2 k2 => ?_
 have B2:=k1.bl.trans k2.bl
 have x1:=Bl.box k2.bl k1.box
 have y1:=k1.blk;have y2:=k2.blk;have s1:=k1.size;have s2:=k2.size
 refine dht 5 T [0,1,3,4,6,7,2,9,5,8] fun w3 k3 => ?_
 have B3:=B2.trans k3.bl
 have x13:=k3.box x1
 have z03:=B3.size
 refine ld (x13.cell rfl) ?_ (hm:=trivial)
 refine ld (x13.cell rfl) ?_ (hm:=trivial)
 refine ld (x13.cell rfl) ?_ (hm:=trivial)
 refine cl (c_CloneMC m.classes a.a1 a.c1 (· < w.heap.size) w3 (hML.bl B3).cls (fun i (hi:i<w.heap.size)=>by omega)) ?_ (hm:=fun _ _ r=>by obtain ⟨_,_,_,_,hB⟩:=r;exact mdW_bl hB)
 rintro _ w4 ⟨a1,c1,rfl,O1,B4⟩
 refine cl (c_CloneT m.statics a.a2 a.c2 T w4 (hM.bl (B3.trans B4)).sta) ?_ (hm:=fun _ _ r=>by obtain ⟨_,_,_,_,hB⟩:=r;exact mdW_bl hB)
 rintro _ w5 ⟨a2,c2,rfl,O2,B5⟩
 refine cl (c_CloneMM m.methods a.a3 a.c3 (· < w.heap.size) w5 (hML.bl ((B3.trans B4).trans B5)).mth (fun i (hi:i<w.heap.size)=>by have:=((B3.trans B4).trans B5).size;omega)) ?_ (hm:=fun _ _ r=>by obtain ⟨_,_,_,_,hB⟩:=r;exact mdW_bl hB)
 rintro _ w6 ⟨a3,c3,rfl,O3,B6⟩
 have B36:=(B4.trans B5).trans B6
 have x16:=Bl.box B36 x13
 have z3:w3.heap.size=w2.heap.size:=by rw [k3.heap]
 have z4:=B4.size;have z5:=B5.size;have z6:=B6.size
 refine st x16 fun w7 k7 x7 => ?_
 refine st x7 fun w8 k8 x8 => ?_
 refine st x8 fun w9 k9 x9 => ?_
 have K:Wr w6 b1 w9:=(k7.trans k8).trans k9
 obtain ⟨A,hA⟩:∃ A:MA,A=⟨a1,c1,a2,c2,a3,c3⟩:=⟨_,rfl⟩
 have l1:∀ g,a1=some ⟨g,0,none⟩->w3.heap.size<=g/\g<w4.heap.size:=fun g hg=>O1.lt hg
 have l2:∀ g,a2=some ⟨g,0,none⟩->w4.heap.size<=g/\g<w5.heap.size:=fun g hg=>O2.lt hg
 have l3:∀ g,a3=some ⟨g,0,none⟩->w5.heap.size<=g/\g<w6.heap.size:=fun g hg=>O3.lt hg
 have hR:∀ i,i<w.heap.size->A.R (fun i=>i≠b1/\i≠b2) i:=fun i hi=>by
  subst hA
  exact ⟨⟨fun z=>by have:=l1 i z;omega,fun z=>by have:=l2 i z;omega,fun z=>by have:=l3 i z;omega⟩,by omega,by omega⟩
 have M9:MdO (fun i=>i≠b1/\i≠b2) w3.heap.size w9 m A:=by
  have r1:=((O1.bl (B5.trans B6)).wr K (by omega) fun i (hi:i<w.heap.size)=>by omega).sub hR
  have r2:=(((O2.base (by omega)).bl B6).wr K fun g hg=>by have:=l2 g hg;omega)
  have r3:=(((O3.base (base':=w3.heap.size) (by omega))).wr K (by omega) fun i (hi:i<w.heap.size)=>by omega).sub hR
  subst hA
  exact ⟨r1,r2,r3,fun g hg=>⟨fun z=>by have:=l1 g hg;have:=l2 g z;omega,fun z=>by have:=l1 g hg;have:=l3 g z;omega⟩,fun g hg z=>by have:=l2 g hg;have:=l3 g z;omega⟩
 have x19:Box w9 b1 26 (modcells m A):=by subst hA;exact x9
 have x29:=K.box (Bl.box (k3.bl.trans B36) k2.box) (by omega)
 have B9:Bl w w9:=Below.trans (B3.trans B36) (K.below (by omega))
 have z9:=K.size
 clear hA hR x9 x8 x7 k7 k8 k9 K O1 O2 O3 l1 l2 l3 x16 x13
 refine ld (x19.cell rfl) ?_
 refine lpk m.classes.length 22 [] [(1,ptr b1),(2,ptr b2),(21,I m.classes.length)] (fun k vals w'=>vals=[]/\MdO (fun i=>i≠b1/\i≠b2) w3.heap.size w' m A/\Box w' b1 26 (modcells m A)/\Box w' b2 26 [.slice none 0 0,.slice none 0 0,.slice none 0 0,I 0]/\Bl w w'/\w3.heap.size<=w'.heap.size) ⟨rfl,M9,x19,x29,B9,by omega⟩ ?_
 rintro k vals w10 hk ⟨rfl,M,e1,e2,B10,z10⟩ ih
 by_cases hlt:k<m.classes.length
 ·refine brT ?_
  obtain ⟨x,hx⟩:=some_of_lt hlt
  obtain ⟨g,cs,eg,hg1,hg2,hA,p1,d1,p2,d2,rfl,F1,F2,F3⟩:=M.cls.elt hx
  refine ld (e1.cell rfl) ?_
  rw [eg]
  refine ix (j:=k) ?_
  refine dht 4 T [0,1,2,3,4,5,7,8,9,10,6,11,12,13] fun w11 k11 => ?_
  refine ld (hA.bl k11.bl 2 _ rfl) ?_ (hm:=trivial)
  refine ld (hA.bl k11.bl 3 _ rfl) ?_ (hm:=trivial)
  refine cl (c_CloneT x.fields p1 d1 _ w11 (F1.bl k11.bl)) ?_ (hm:=fun _ _ r=>by obtain ⟨_,_,_,_,hB⟩:=r;exact mdW_bl hB)
  rintro _ w12 ⟨n1,t1,rfl,N1,B12⟩
  refine cl (c_CloneI x.table p2 d2 _ w12 ((F2.bl k11.bl).bl B12)) ?_ (hm:=fun _ _ r=>by obtain ⟨_,_,_,_,hB⟩:=r;exact mdW_bl hB)
  rintro _ w13 ⟨n2,t2,rfl,N2,B13⟩
  have B1013:=(k11.bl.trans B12).trans B13
  have z11:=k11.bl.size;have z12:=B12.size;have z13:=B13.size
  have M13:=M.bl B1013
  have C13:=M13.cls
  rw [eg] at C13
  obtain ⟨cur,cs',hbx,hcl,⟨p1',d1',p2',d2',rfl,F1',F2',F3'⟩,mk1⟩:=C13.set1 hx
  have fr:∀ q,w10.heap.size<=q->q<w13.heap.size->A.R (fun i=>i≠b1/\i≠b2) q/\(some ⟨g,0,none⟩:Option Addr)≠some ⟨q,0,none⟩/\q<w13.heap.size:=fun q h1 h2=>⟨M.fresh h1 ⟨by omega,by omega⟩,fun z=>by
   simp only [Option.some.injEq,Addr.mk.injEq,and_true] at z
   omega,h2⟩
  refine stx hbx (fun w14 k14 x14 => ?_) (ho:=by have hcl':0+k*4+4<=cur.length:=hcl;omega)
  have C14:=mk1 w14 2 (.slice n1 x.fields.length t1) (by decide) k14 x14 ⟨n1,t1,p2',d2',rfl,(owp_sl N1 F1.big fun q hq=>by have:=N1.lt hq;exact fr q (by omega) (by omega)).bl B13,F2',F3'.1,N1.capn.1⟩
  have M14:=M13.putC eg k14 (by rw [eg];exact C14)
  obtain ⟨cur2,cs2,hbx2,hcl2,⟨p1'',d1'',p2'',d2'',rfl,F1'',F2'',F3''⟩,mk2⟩:=C14.set1 hx
  have s14:=k14.size
  refine stx hbx2 (fun w15 k15 x15 => ?_) (ho:=by have hcl':0+k*4+4<=cur2.length:=hcl2;omega)
  have C15:=mk2 w15 3 (.slice n2 x.table.length t2) (by decide) k15 x15 ⟨p1'',d1'',n2,t2,rfl,F1'',(owp_sl (N2.wr k14 fun q hq=>by have:=N2.lt hq;omega) F2.big fun q hq=>by have:=N2.lt hq;have r:=fr q (by omega) (by omega);exact ⟨r.1,r.2.1,by omega⟩),F3''⟩
  have M15:=M14.putC eg k15 (by rw [eg];exact C15)
  have s15:=k15.size
  refine ih hlt ⟨rfl,M15,?_,?_,Below.trans (Below.trans (B10.trans B1013) (k14.below (by omega))) (k15.below (by omega)),by omega⟩
  ·have:=k15.box (k14.box (Bl.box B1013 e1) (by omega)) (by omega)
   exact this
  ·exact k15.box (k14.box (Bl.box B1013 e2) (by omega)) (by omega)
 refine brF ?_
 refine ld (e1.cell rfl) ?_
 clear M9 x19 x29 B9 ih
 refine lpk m.methods.length 49 [] [(1,ptr b1),(2,ptr b2),(48,I m.methods.length)] (fun k vals w'=>vals=[]/\MdO (fun i=>i≠b1/\i≠b2) w3.heap.size w' m A/\Box w' b1 26 (modcells m A)/\Box w' b2 26 [.slice none 0 0,.slice none 0 0,.slice none 0 0,I 0]/\Bl w w'/\w3.heap.size<=w'.heap.size) ⟨rfl,M,e1,e2,B10,z10⟩ ?_
 clear M e1 e2 B10 z10
 rintro k vals w10 hk ⟨rfl,M,e1,e2,B10,z10⟩ ih
 by_cases hlt:k<m.methods.length
 ·refine brT ?_
  obtain ⟨x,hx⟩:=some_of_lt hlt
  obtain ⟨g,cs,eg,hg1,hg2,hA,p1,d1,p2,d2,p3,d3,rfl,F1,F2,F3,F4⟩:=M.mth.elt hx
  refine ld (e1.cell rfl) ?_
  rw [eg]
  refine ix (j:=k) ?_
  refine dht 7 T [0,1,2,3,4,5,6,8,9,10,11,13,14,15,16,7,12,17,18,19] fun w11 k11 => ?_
  refine ld (hA.bl k11.bl 2 _ rfl) ?_ (hm:=trivial)
  refine ld (hA.bl k11.bl 3 _ rfl) ?_ (hm:=trivial)
  refine ld (hA.bl k11.bl 6 _ rfl) ?_ (hm:=trivial)
  refine cl (c_CloneT x.params p1 d1 _ w11 (F1.bl k11.bl)) ?_ (hm:=fun _ _ r=>by obtain ⟨_,_,_,_,hB⟩:=r;exact mdW_bl hB)
  rintro _ w12 ⟨n1,t1,rfl,N1,B12⟩
  refine cl (c_CloneT x.locals p2 d2 _ w12 ((F2.bl k11.bl).bl B12)) ?_ (hm:=fun _ _ r=>by obtain ⟨_,_,_,_,hB⟩:=r;exact mdW_bl hB)
  rintro _ w13 ⟨n2,t2,rfl,N2,B13⟩
  refine cl (c_CloneIns x.code p3 d3 _ w13 (((F3.bl k11.bl).bl B12).bl B13)) ?_ (hm:=fun _ _ r=>by obtain ⟨_,_,_,_,hB⟩:=r;exact mdW_bl hB)
  rintro _ w14 ⟨n3,t3,rfl,N3,B14⟩
  have B1014:=((k11.bl.trans B12).trans B13).trans B14
  have z11:=k11.bl.size;have z12:=B12.size;have z13:=B13.size;have z14:=B14.size
  have M14:=M.bl B1014
  have C14:=M14.mth
  rw [eg] at C14
  have fr:∀ q,w10.heap.size<=q->q<w14.heap.size->A.R (fun i=>i≠b1/\i≠b2) q/\(some ⟨g,0,none⟩:Option Addr)≠some ⟨q,0,none⟩/\q<w14.heap.size:=fun q h1 h2=>⟨M.fresh h1 ⟨by omega,by omega⟩,fun z=>by
   simp only [Option.some.injEq,Addr.mk.injEq,and_true] at z
   omega,h2⟩
  obtain ⟨cur,cs',hbx,hcl,⟨p1',d1',p2',d2',p3',d3',rfl,F1',F2',F3',F4'⟩,mk1⟩:=C14.set1 hx
  refine stx hbx (fun w15 k15 x15 => ?_) (ho:=by have hcl':0+k*7+7<=cur.length:=hcl;omega)
  have C15:=mk1 w15 2 (.slice n1 x.params.length t1) (by decide) k15 x15 ⟨n1,t1,p2',d2',p3',d3',rfl,((owp_sl N1 F1.big fun q hq=>by have:=N1.lt hq;exact fr q (by omega) (by omega)).bl B13).bl B14,F2',F3',F4'⟩
  have M15:=M14.putM eg k15 (by rw [eg];exact C15)
  have s15:=k15.size
  obtain ⟨cur2,cs2,hbx2,hcl2,⟨p1'',d1'',p2'',d2'',p3'',d3'',rfl,F1'',F2'',F3'',F4''⟩,mk2⟩:=C15.set1 hx
  refine stx hbx2 (fun w16 k16 x16 => ?_) (ho:=by have hcl':0+k*7+7<=cur2.length:=hcl2;omega)
  have N2':=(N2.bl B14).wr k15 fun q hq=>by have:=N2.lt hq;omega
  have C16:=mk2 w16 3 (.slice n2 x.locals.length t2) (by decide) k16 x16 ⟨p1'',d1'',n2,t2,p3'',d3'',rfl,F1'',(owp_sl N2' F2.big fun q hq=>by have:=N2.lt hq;have r:=fr q (by omega) (by omega);exact ⟨r.1,r.2.1,by omega⟩),F3'',F4''⟩
  have M16:=M15.putM eg k16 (by rw [eg];exact C16)
  have s16:=k16.size
  obtain ⟨cur3,cs3,hbx3,hcl3,⟨q1',r1',q2',r2',q3',r3',rfl,G1,G2,G3,G4⟩,mk3⟩:=C16.set1 hx
  refine stx hbx3 (fun w17 k17 x17 => ?_) (ho:=by have hcl':0+k*7+7<=cur3.length:=hcl3;omega)
  have N3':=(N3.wr k15 fun q hq=>by have:=N3.lt hq;omega).wr k16 fun q hq=>by have:=N3.lt hq;omega
  have C17:=mk3 w17 6 (.slice n3 x.code.length t3) (by decide) k17 x17 ⟨q1',r1',q2',r2',n3,t3,rfl,G1,G2,(owp_sl N3' F3.big fun q hq=>by have:=N3.lt hq;have r:=fr q (by omega) (by omega);exact ⟨r.1,r.2.1,by omega⟩),G4⟩
  have M17:=M16.putM eg k17 (by rw [eg];exact C17)
  have s17:=k17.size
  refine ih hlt ⟨rfl,M17,?_,?_,Below.trans (Below.trans (Below.trans (B10.trans B1014) (k15.below (by omega))) (k16.below (by omega))) (k17.below (by omega)),by omega⟩
  ·have:=k17.box (k16.box (k15.box (Bl.box B1014 e1) (by omega)) (by omega)) (by omega)
   exact this
  ·exact k17.box (k16.box (k15.box (Bl.box B1014 e2) (by omega)) (by omega)) (by omega)
 refine brF ?_
 refine lda e1.at ?_
 refine sta (cs':=modcells m A) e2 fun w18 k18 x18 => ?_
 have s18:=k18.size
 refine rtc x18.at ⟨A,rfl,?_,Below.trans B10 (k18.below (by omega))⟩
 have sC:=M.cls.sl4 q1 (N:=fun i=>i≠b2) (fun i hi=>hi.2.2) (fun i (hi:w3.heap.size<=i)=>by omega)
 have sS:Sl eTy (fun i=>i≠b2/\i<w10.heap.size) w10 A.a2 m.statics:=owp_sl M.sta q2 fun g hg=>by have:=M.sta.lt hg;exact ⟨by omega,by omega⟩
 have sM:=M.mth.sl4 q3 (N:=fun i=>i≠b2) (fun i hi=>hi.2.2) (fun i (hi:w3.heap.size<=i)=>by omega)
 have kk:Kp (fun i=>i≠b2/\i<w10.heap.size) w10 w18:=k18.kp fun i hi=>hi.1
 exact ⟨(sC.kp kk).sub fun i hi=>by have:=hi.2;show i<w18.heap.size;omega,(sS.kp kk).sub fun i hi=>by have:=hi.2;show i<w18.heap.size;omega,(sM.kp kk).sub fun i hi=>by have:=hi.2;show i<w18.heap.size;omega⟩
end Go.Proofs.YtdjkoljonlcemaaGreat
