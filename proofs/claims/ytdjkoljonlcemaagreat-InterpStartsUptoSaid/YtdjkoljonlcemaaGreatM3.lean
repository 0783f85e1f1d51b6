import Derived.Test.YtdjkoljonlcemaaGreatM2
import Derived.ArgAppend
import Derived.Laws.StructEq
import Derived.Test.YtdjkoljonlcemaaGreatM1
import Derived.Lib.LastIndexByte
/- The engine: slices with a greatest capacity; an append that has no room and makes a new row. No program stands here. -/
namespace Go.Proofs.YtdjkoljonlcemaaGreat.Eng
open Go Go.RowKit
theorem bounds3_run {P:Program} {w:World} {sl:Bool} {len cap lo hi mx:Nat} {vlo vhi:Option Value} {km kh:IntKind} (h1:bnd 0 vlo lo) (h2:vhi=some (.int kh hi)) (h3:lo<=hi) (h4:hi<=mx) (h5:mx<=cap) :
  (Instr.sliceBounds sl len cap vlo vhi (some (.int km mx))).run P w = .ok (lo,hi,mx) w:=by
 subst h2
 unfold Instr.sliceBounds
 simp only
 refine (run_bind_ok (bound_run h5)).trans ?_
 refine (run_bind_ok (bound_run h4)).trans ?_
 cases vlo with
 | none=>have:lo=0:=h1;subst this;rfl
 | some v=>obtain ⟨k,rfl⟩:=h1;exact (run_bind_ok (bound_run h3)).trans rfl
theorem exec_slm {P:Program} {ρ:Operand->Value} {w:World} {d:Option Nat} {T:TypeId} {x hi mx:Operand} {lo:Option Operand} {ty:TypeId} {pos:String} {af:Array Edge} {g:Option (Nat×Bool)} {e esz by' sz:Nat} {ag:Bool} {zr:List Value}
  (ht:tiOk P T ⟨.slice e esz by',sz,ag,zr⟩=true) {a:Option Addr} {len cap nl nh nm:Nat} {kh km:IntKind} (hx:ρ x = .slice a len cap) (h1:bnd 0 (lo.map ρ) nl) (h2:ρ hi = .int kh nh) (h2':ρ mx = .int km nm) (h3:nl<=nh) (h4:nh<=nm) (h5:nm<=cap) :
  (execOp ρ ⟨d,.slice T x lo (some hi) (some mx),ty,pos,af,g⟩).run P w = .ok (.value (.slice (if nm=nl then a else a.map (·.add (nl*esz))) (nh-nl) (nm-nl))) w:=by
 obtain ⟨dd,xx,zz,hT⟩:=tiOk_und ht
 obtain ⟨rfl,hel⟩:=hT.sl _ _ _ rfl
 obtain ⟨y,z,hy,hys,_⟩:=elemOk_of hel
 simp only [execOp,hx]
 refine (run_bind_ok (P:=P) (x:=_) (w':=w) ?_).trans rfl
 simp only [Instr.sliceAt]
 rw [run_bind_ok (und_run hT.und w)]
 simp only [Instr.slice]
 rw [run_bind_ok (und_run hT.und w)]
 simp only [Option.map_some,h2,h2']
 rw [run_bind_ok (bounds3_run h1 rfl h3 h4 h5)]
 simp only
 rw [run_bind_ok (size_run hy w),hys]
 rfl
section
variable {C:Cx} {s:St} {w:World}
theorem slm {md:Option Md} {ops:Array Oper} {T:TypeId} {x hi mx:Operand} {lo:Option Operand} {d:Nat} {ty:TypeId} {pos:String} {af:Array Edge} {g:Option (Nat×Bool)} {rest:List Oper} {k:List Item} {l:Env} {c:CEnv} {e esz by' sz:Nat} {ag:Bool} {zr:List Value}
  {a:Option Addr} {len cap:Nat} (nl nh nm:Nat) {vlo:Option Value} {kh km:IntKind} (h:Wk C (.reg md ops rest k ((d,.slice (if nm=nl then a else a.map (·.add (nl*esz))) (nh-nl) (nm-nl))::l) c) w)
  (hs:adv C.tab C.n C.ks 400 s = .opn md ops ⟨some d,.slice T x lo (some hi) (some mx),ty,pos,af,g⟩ rest k l c []:=by rfl) (ht:C.tab.at T=some ⟨.slice e esz by',sz,ag,zr⟩:=by rfl) (hx:evc l c [] x=some (.slice a len cap):=by rfl)
  (hlo:evo l c [] lo=some vlo:=by rfl) (hhi:evc l c [] hi=some (.int kh nh):=by rfl) (hmx:evc l c [] mx=some (.int km nm):=by rfl) (h1:bnd 0 vlo nl:=by first | rfl | exact ⟨_,rfl⟩) (h3:nl<=nh:=by omega) (h4:nh<=nm:=by omega) (h5:nm<=cap:=by omega) (hf:fresh d l c []=true:=by rfl):Wk C s w :=
 rd (p:=[]) (fun hT _ hA hp _ _=>exec_slm (tab_at hT ht) (evc_ok hA.k hA.kc.c hp hx) (by rw [evo_ok hA.k hA.kc.c hp hlo];exact h1) (evc_ok hA.k hA.kc.c hp hhi) (evc_ok hA.k hA.kc.c hp hmx) h3 h4 h5) h hs rfl hf (okR_no rfl)
theorem grow_run {P:Program} {w:World} {T e esz by' sz:Nat} {ag:Bool} {zr:List Value} (ht:tiOk P T ⟨.slice e esz by',sz,ag,zr⟩=true) (hsz:0<esz) {a:Option Addr} {n cap:Nat} {xs:List Value} (hO:Src w a n xs) (hc:a=none->cap=0)
  {ay:Option Addr} {m cy:Nat} {news:List Value} (hy:Src w ay m news) (hlx:xs.length=n*esz) (hl:news.length=m*esz) (h1:news.all Value.oneCell'=true) (hg:cap<n+m) (hm:0<m) (hb:(n+m)*by'<=140737488355328) (hn:n+m<=1152921504606846976) (ty:TypeId) :
  ∃ a' cap' w',(Builtin.append_ #[T,T] ty #[.slice a n cap,.slice ay m cy]).run P w = .ok (.slice a' (n+m) cap') w'/\Ow w' w.heap.size e esz a' (n+m) cap' (xs++news)/\Bl w w':=by
 obtain ⟨d,x,z,hT⟩:=tiOk_und ht
 obtain ⟨rfl,hel⟩:=hT.sl _ _ _ rfl
 obtain ⟨y,zz,hyi,hys,hyb,hyz,hzc⟩:=elemOk_of hel
 have h63:n+m<=maxLen:=by unfold maxLen;omega
 rcases hy with ⟨rfl,rfl⟩ | ⟨b,o,rfl,hat⟩
 ·omega
 have hnews:∀ j u,news[j]? = some u->w.cell? ((⟨b,o,none⟩:Addr).add j)=some u:=fun j u hu=>by rw [add_none];exact hat j u hu
 cases a with
 | none =>
  obtain rfl:=hc rfl
  rcases hO with ⟨rfl,rfl⟩ | ⟨b,o,h,_⟩
  ·obtain ⟨a',cap',w',g1,g2,g3,g4⟩:=append_run (w:=w) (base:=w.heap.size) ht hsz (Ow.nil w w.heap.size e y.size |> fun h=>by rw [hys] at h;exact h) (.inr ⟨b,o,rfl,hat⟩) hl h1 (by omega) hn (Nat.le_refl _) ty (cy:=cy)
   exact ⟨a',cap',w',g1,g2,g3.below (Nat.le_refl _) fun g hg=>by cases hg⟩
  ·cases h
 | some ad =>
  have hold:∀ j u,xs[j]? = some u->w.cell? (ad.add j)=some u:=fun j u hu=>by
   rcases hO with ⟨rfl,rfl⟩ | ⟨b,o,h,hx⟩
   ·simp at hu
   ·obtain rfl:=Option.some.inj h
    rw [add_none];exact hx j u hu
  obtain ⟨v',w',hr,ho,hgr⟩:=run_append_arg_grows (P:=P) w T ty _ y zz esz by' hT.und hyi hyz hys hyb hzc hsz ad n cap xs hlx hold ⟨b,o,none⟩ m cy news hl hnews hg h63 hb
  have hB:Bl w w':=⟨hgr.os,hgr.tape,hgr.output,hgr.size,fun k hk=>hgr.block k hk (by simp)⟩
  rcases ho.2 with ⟨rfl,h0⟩ | ⟨g',cap',cur',rfl,hb',_⟩
  ·omega
  ·exact ⟨_,_,w',hr,⟨ho⟩,hB⟩
theorem apg {md:Option Md} {ops:Array Oper} {T T':TypeId} {x y:Operand} {d:Nat} {ty:TypeId} {pos:String} {af:Array Edge} {g:Option (Nat×Bool)} {rest:List Oper} {k:List Item} {l:Env} {c:CEnv} {e esz by' sz:Nat} {ag:Bool} {zr:List Value}
  {a:Option Addr} {n cap:Nat} {xs:List Value} {ay:Option Addr} {m cy:Nat} {news:List Value} (hO:Src w a n xs) (hsrc:Src w ay m news) (hc:a=none->cap=0) (hg:cap<n+m) (hmp:0<m)
  (h:∀ a' cap' w',Ow w' w.heap.size e esz a' (n+m) cap' (xs++news)->Bl w w'->Wk C (.reg md ops rest k ((d,.slice a' (n+m) cap')::l) c) w')
  (hs:adv C.tab C.n C.ks 400 s = .opn md ops ⟨some d,.call ⟨.builtin .append,#[x,y],#[T,T']⟩,ty,pos,af,g⟩ rest k l c []:=by rfl) (ht:C.tab.at T=some ⟨.slice e esz by',sz,ag,zr⟩:=by rfl)
  (hx:evc l c [] x=some (.slice a n cap):=by rfl) (hy:evc l c [] y=some (.slice ay m cy):=by rfl) (hTT:T'=T:=by rfl) (hsz:Nat.blt 0 esz=true:=by rfl) (hlx:xs.length=n*esz:=by first | rfl | (simp;done) | omega) (hl:news.length=m*esz:=by first | rfl | (simp;done) | omega) (h1:news.all Value.oneCell'=true:=by first | rfl | (simp;done))
  (hb:(n+m)*by'<=140737488355328:=by omega) (hn:n+m<=1152921504606846976:=by omega) (hf:fresh d l c []=true:=by rfl) (hm:∀ w',Bl w w'->mdW md w w':=by exact fun _ h=>mdW_bl h) (hnt:notT md=true:=by rfl):Wk C s w:=by
 subst hTT
 refine by_adv hs ⟨fun hT hfn => ?_⟩
 obtain ⟨a',cap',w',hr,hO',hB⟩:=grow_run (tab_at hT ht) (blt_lt hsz) hO hc hsrc hlx hl h1 hg hmp hb hn ty (cy:=cy)
 refine (op_val0 (okW_of rfl hnt) (hm _ hB) (fun _ a hA => ?_) (h a' cap' w' hO' hB) rfl hf).run hT hfn
 simp only [execOp,resolve,List.map_toArray,List.map_cons,List.map_nil,evc_ok hA.k hA.kc.c (p:=[]) trivial hx,evc_ok hA.k hA.kc.c (p:=[]) trivial hy]
 show (Sem.bind (Sem.pure _) _).run C.P w=_
 simp only [Sem.bind,invoke,builtin]
 exact (run_bind_ok hr).trans rfl
end
end Go.Proofs.YtdjkoljonlcemaaGreat.Eng

/- Walks: the document's Sort of numbers. -/
namespace Go.Proofs.YtdjkoljonlcemaaGreat
open Eng Go.RowKit
theorem int_one (l:List Int):(l.flatMap encInt).all Value.oneCell'=true:=by
 rw [List.all_flatMap,List.all_eq_true];exact fun _ _=>rfl
theorem int_len (l:List Int):(l.flatMap encInt).length=l.length:=by
 rw [flat_length (sz:=1) (fun _=>rfl),Nat.mul_one]
theorem lt_at {out:List Int} {x:Int} {j:Nat} (h:∀ (i:Nat) y,i<j->out[i]? = some y->y<x) {y:Int} (hy:out[j]? = some y) (hlt:y<x):∀ (i:Nat) y,i<j+1->out[i]? = some y->y<x:=fun i z hi hz=>by
 rcases Nat.lt_or_ge i j with q | q
 ·exact h i z q hz
 ·obtain rfl:i=j:=by omega
  rw [hy] at hz;obtain rfl:=Option.some.inj hz;exact hlt
theorem ins_at {out:List Int} {x:Int} {j:Nat} (ha:AscI out) (_hj:j<=out.length) (h1:∀ (i:Nat) y,i<j->out[i]? = some y->y<x) (h2:∀ y,out[j]? = some y->x<y):AscI (out.take j++[x]++out.drop j):=by
 have ha':=ha
 unfold AscI at ha ⊢
 rw [<-List.take_append_drop j out,List.pairwise_append] at ha
 rw [List.append_assoc,List.pairwise_append]
 refine ⟨ha.1,List.pairwise_cons.2 ⟨fun z hz => ?_,ha.2.1⟩,fun y hy z hz => ?_⟩
 ·cases hd:out.drop j with
  | nil=>rw [hd] at hz;cases hz
  | cons d r =>
   have hdj:out[j]? = some d:=by
    have:(out.drop j)[0]? = some d:=by rw [hd];rfl
    rwa [List.getElem?_drop,Nat.add_zero] at this
   have hxd:=h2 d hdj
   rw [hd] at hz
   have hp:=ha.2.1
   rw [hd] at hp
   rcases List.mem_cons.1 hz with rfl | hz
   ·exact hxd
   ·have:=(List.pairwise_cons.1 hp).1 z hz;omega
 ·obtain ⟨i,hi⟩:=List.mem_iff_getElem?.1 hy
  rw [List.getElem?_take] at hi
  split at hi
  ·rename_i hij
   have hyx:=h1 i y hij hi
   rcases List.mem_cons.1 hz with rfl | hz
   ·exact hyx
   ·exact ha.2.2 y hy z hz
  ·cases hi
theorem sl_dropI {S:Nat->Prop} {w:World} {a:Option Addr} {out:List Int} {c j:Nat} (h:Sl eInt S w a out) (hc:out.length<=c):Sl eInt S w (if c=j then a else a.map (·.add (j*1))) (out.drop j):=by
 split
 ·rename_i e
  rw [List.drop_of_length_le (by omega)]
  exact Sl.nil ..
 ·exact h.drop j
theorem r5_SortO (l:List Int) (al:Option Addr) (cl:Nat) (w:World) (hS:Sl eInt T w al l) :
  Ret Tryz.prog 138 #[.slice al l.length cl] w fun v w'=>∃ a c,v = .slice a (srtI l).length c/\OwP 1 encInt w' w.heap.size 3 a c (srtI l)/\Bl w w':=by
 have hbig:=hS.big
 refine entr (vs:=[.slice al l.length cl]) [0,2,3,4,5,6,10,27,44] tabok Tryz.func138 (by kernel_rfl) ?_
 refine lpk l.length 4 [3] [(0,.slice al l.length cl)] (fun k vals w'=>∃ out a c,vals=[.slice a out.length c]/\AscI out/\(∀ x,x∈out↔x∈l.take k)/\out.length<=k/\out.length<=c/\(a=none->c=0)/\Sl eInt (fun b=>w.heap.size<=b/\b<w'.heap.size) w' a out/\Bl w w'/\OwP 1 encInt w' w.heap.size 3 a c out)
  ⟨[],none,0,rfl,List.Pairwise.nil,fun x=>by simp,Nat.le_refl _,Nat.le_refl _,fun _=>rfl,Sl.nil ..,Bl.refl _,Ow.nil ..⟩ ?_
 rintro k vals w1 hk ⟨out,a,c,rfl,hA,hM,hl,hc,hn,hO,B1,hP⟩ ih
 by_cases hlt:k<l.length
 rotate_left
 ·refine brF ?_
  obtain rfl:k=l.length:=by omega
  rw [List.take_length] at hM
  rw [srtI_of hA hM] at hP ⊢
  exact rt1 ⟨a,c,rfl,hP,B1⟩
 refine brT ?_
 obtain ⟨x,b,o,cs,hx,rfl,hbw,hAt,rfl⟩:=at_some (Sl.lt (by decide) hS) hlt
 refine lpk out.length 5 [] [(0,.slice (some ⟨b,o,none⟩) l.length cl),(3,.slice a out.length c),(4,I k)] (fun j vals w'=>vals=[]/\Bl w1 w'/\∀ (i:Nat) y,i<j->out[i]? = some y->y<x) ⟨rfl,Bl.refl _,fun i y h=>by omega⟩ ?_
 rintro j vals w2 hj ⟨rfl,B2,hb⟩ ih2
 refine dh T (List.range 15) fun w3 h3 => ?_
 have B3:=B2.trans h3.bl
 have B03:=B1.trans B3
 by_cases hjl:j<out.length
 ·obtain ⟨y,b2,o2,cs2,hy,rfl,_,hA2,rfl⟩:=at_some (hO.bl B3) hjl
  refine spt (.bool false) ?_ (hb:=by simp;omega)
  refine ix ?_
  refine ldg (fun _=>hA2 0 _ rfl) ?_ (hm:=trivial)
  refine spt (.bool false) ?_
  refine ix ?_
  refine ldg (fun _=>hAt.bl B03 0 _ rfl) ?_ (hm:=trivial)
  refine br (fun h => ?_) (fun h => ?_)
  ·have hyx:y<x:=by simpa using h
   exact ih2 hjl ⟨rfl,B3,lt_at hb hy hyx⟩
  ·have hyx:¬y<x:=by simpa using h
   refine dh T (List.range 15) fun w4 h4 => ?_
   have B4:=B3.trans h4.bl
   have B04:=B1.trans B4
   refine spt (.bool false) ?_ (hb:=by simp;omega)
   refine ix ?_
   refine ldg (fun _=>hA2.bl h4.bl 0 _ rfl) ?_ (hm:=trivial)
   refine spt (.bool false) ?_
   refine ix ?_
   refine ldg (fun _=>hAt.bl B04 0 _ rfl) ?_ (hm:=trivial)
   refine br (fun h => ?_) (fun h => ?_)
   ·have exy:y=x:=by simpa using h
    subst exy
    refine ih hlt ⟨out,some ⟨b2,o2,none⟩,c,rfl,hA,fun z => ?_,by omega,hc,hn,(hO.bl B4).sub fun i hi=>⟨hi.1,by have:=B4.size;omega⟩,B04,hP.bl B4⟩
    rw [take_succ_some hx,List.mem_append,<-hM z,List.mem_singleton]
    exact ⟨.inl,fun q=>q.elim id fun q=>by subst q;exact List.mem_of_getElem? hy⟩
   ·have hne:¬y=x:=by simpa using h
    have hgt:∀ z,out[j]? = some z->x<z:=fun z hz=>by
     rw [hy] at hz;obtain rfl:=Option.some.inj hz;omega
    clear ih2
    obtain ⟨a,ea⟩:∃ a,a=some (⟨b2,o2,none⟩:Addr):=⟨_,rfl⟩
    rw [<-ea] at hO hn ⊢
    refine bs (cs:=[]) fun b6 w5 k5 => ?_
    have y5:=k5.blk
    have B5:=B4.trans k5.bl
    refine sl j out.length ?_
    have D5:=sl_dropI (j:=j) ((hO.bl B5).sub (S':=T) fun i hi=>trivial) hc
    have e1:(out.drop j).length=out.length-j:=List.length_drop
    have O5:OwP 1 encInt w5 b6 3 (some ⟨b6,0,none⟩) 0 ([]:List Int):=Ow.made (n:=0) k5 rfl (by omega)
    rw [<-e1]
    refine apl (l0:=[]) O5 (src_of D5) (by have:=k5.size;omega) fun a6 c6 w6 O6 A6 F6 => ?_
    have B56:Bl w4 w6:=Below.trans k5.bl (A6.below (by have:=k5.size;omega) fun g hg=>by
     have h7:b6=g:=by simpa using hg
     omega)
    have B6:=B4.trans B56
    have B06:=B1.trans B6
    refine dh (· < w.heap.size) [0,1,2,3,4,5,6,7,10,8,9,11,12] fun w7 h7 => ?_
    have B07:=B06.trans h7.bl
    have B17:=B6.trans h7.bl
    have O7:=O6.bl h7.bl
    refine slm 0 j j ?_
    refine ix ?_
    refine ld (hAt.bl B07 0 _ rfl) ?_ (hm:=hbw)
    refine bs (cs:=encInt x) fun b8 w8 k8 => ?_
    have B18:=B17.trans k8.bl
    have T8:Eng.Src w8 (if j=0 then a else a.map (·.add (0*1))) (j-0) ((out.take j).flatMap encInt):=by
     have h0:=src_of ((hO.bl B18).take j)
     rw [List.length_take,Nat.min_eq_left hj] at h0
     have e2:(if j=0 then a else a.map (·.add (0*1)))=a:=by
      split
      ·rfl
      ·cases a <;> simp [Addr.add]
     rw [e2];exact h0
    refine apg (m:=1) (cap:=j-0) T8 (.inr ⟨b8,0,rfl,k8.box.at⟩) (fun e => ?_) (by omega) (by omega) (fun a9 c9 w9 O9 B89 => ?_) (hlx:=by rw [int_len,List.length_take];omega) (h1:=rfl)
    ·split at e
     ·omega
     ·have:a=none:=by cases a with
       | none=>rfl
       | some q=>cases e
      have:=hn this
      omega
    have O9s:=src_of (owp_sl (S:=T) ((O7.bl k8.bl).bl B89) (by simp only [List.length_append,List.length_nil,List.length_drop];omega) (fun _ _=>trivial))
    have B19:=B18.trans B89
    refine ap O9 O9s (by have:=B89.size;omega) (fun a10 c10 w10 O10 A10 F10 => ?_) (hl:=by rw [int_len];omega) (h1:=int_one _) (hb:=by simp only [List.nil_append,List.length_drop];omega) (hn:=by simp only [List.nil_append,List.length_drop];omega) (hm:=apS fun g hg q=>by have:=(O9.lt hg).1;have:=B07.size;have:=k8.size;omega)
    have e3:j-0+1+([]++out.drop j).length=(out.take j++[x]++out.drop j).length:=by
     simp only [List.length_append,List.length_take,List.length_drop,List.length_nil,List.length_cons];omega
    have e4:(out.take j).flatMap encInt++encInt x++([]++out.drop j).flatMap encInt=(out.take j++[x]++out.drop j).flatMap encInt:=by
     simp only [List.flatMap_append,List.flatMap_cons,List.flatMap_nil,List.nil_append,List.append_nil]
    rw [e4,e3] at O10
    rw [e3]
    have B110:Bl w1 w10:=Below.trans B19 (A10.below (by exact B19.size) fun g hg=>by have:=(O9.lt hg).1;have:=B18.size;omega)
    have hlen:(out.take j++[x]++out.drop j).length=out.length+1:=by
     simp only [List.length_append,List.length_take,List.length_drop,List.length_nil,List.length_cons];omega
    refine ih hlt ⟨out.take j++[x]++out.drop j,a10,c10,rfl,ins_at hA hj hb hgt,fun z => ?_,by omega,O10.capn.1,O10.capn.2,O10.sl rfl (by omega) fun g hg => ?_,B1.trans B110,O10.base (by have:=B18.size;have:=B1.size;omega)⟩
    ·rw [take_succ_some hx,List.mem_append (s:=l.take k),<-hM z]
     have:z∈out↔z∈out.take j++out.drop j:=by rw [List.take_append_drop]
     rw [this]
     simp only [List.mem_append,List.mem_singleton]
     exact or_right_comm
    ·have:=O10.lt hg
     have:=B17.size
     have:=B1.size
     have:=k8.size
     omega
 ·refine spn (.pointer (some ⟨0,0,none⟩)) ?_ (hb:=by simp;omega)
  refine spn (I 0) ?_ (hb:=by simp;omega)
  refine spn (.pointer (some ⟨0,0,none⟩)) ?_ (hb:=by simp;omega)
  refine spn (I 0) ?_ (hb:=by simp;omega)
  refine brf ?_ (hp:=by first | (simp;done) | (simp;omega))
  refine dh T (List.range 15) fun w4 h4 => ?_
  have B4:=B3.trans h4.bl
  have B04:=B1.trans B4
  refine spn (.pointer (some ⟨0,0,none⟩)) ?_ (hb:=by simp;omega)
  refine spn (I 0) ?_ (hb:=by simp;omega)
  refine spn (.pointer (some ⟨0,0,none⟩)) ?_ (hb:=by simp;omega)
  refine spn (I 0) ?_ (hb:=by simp;omega)
  refine brf ?_ (hp:=by simp;omega)
  have hgt:∀ z,out[j]? = some z->x<z:=fun z hz=>by
   rw [List.getElem?_eq_none (by omega)] at hz;cases hz
  clear ih2
  refine bs (cs:=[]) fun b6 w5 k5 => ?_
  have y5:=k5.blk
  have B5:=B4.trans k5.bl
  refine sl j out.length ?_
  have D5:=sl_dropI (j:=j) ((hO.bl B5).sub (S':=T) fun i hi=>trivial) hc
  have e1:(out.drop j).length=out.length-j:=List.length_drop
  have O5:OwP 1 encInt w5 b6 3 (some ⟨b6,0,none⟩) 0 ([]:List Int):=Ow.made (n:=0) k5 rfl (by omega)
  rw [<-e1]
  refine apl (l0:=[]) O5 (src_of D5) (by have:=k5.size;omega) fun a6 c6 w6 O6 A6 F6 => ?_
  have B56:Bl w4 w6:=Below.trans k5.bl (A6.below (by have:=k5.size;omega) fun g hg=>by
   have h7:b6=g:=by simpa using hg
   omega)
  have B6:=B4.trans B56
  have B06:=B1.trans B6
  refine dh (· < w.heap.size) [0,1,2,3,4,5,6,7,10,8,9,11,12] fun w7 h7 => ?_
  have B07:=B06.trans h7.bl
  have B17:=B6.trans h7.bl
  have O7:=O6.bl h7.bl
  refine slm 0 j j ?_
  refine ix ?_
  refine ld (hAt.bl B07 0 _ rfl) ?_ (hm:=hbw)
  refine bs (cs:=encInt x) fun b8 w8 k8 => ?_
  have B18:=B17.trans k8.bl
  have T8:Eng.Src w8 (if j=0 then a else a.map (·.add (0*1))) (j-0) ((out.take j).flatMap encInt):=by
   have h0:=src_of ((hO.bl B18).take j)
   rw [List.length_take,Nat.min_eq_left hj] at h0
   have e2:(if j=0 then a else a.map (·.add (0*1)))=a:=by
    split
    ·rfl
    ·cases a <;> simp [Addr.add]
   rw [e2];exact h0
  refine apg (m:=1) (cap:=j-0) T8 (.inr ⟨b8,0,rfl,k8.box.at⟩) (fun e => ?_) (by omega) (by omega) (fun a9 c9 w9 O9 B89 => ?_) (hlx:=by rw [int_len,List.length_take];omega) (h1:=rfl)
  ·split at e
   ·omega
   ·have:a=none:=by cases a with
     | none=>rfl
     | some q=>cases e
    have:=hn this
    omega
  have O9s:=src_of (owp_sl (S:=T) ((O7.bl k8.bl).bl B89) (by simp only [List.length_append,List.length_nil,List.length_drop];omega) (fun _ _=>trivial))
  have B19:=B18.trans B89
  refine ap O9 O9s (by have:=B89.size;omega) (fun a10 c10 w10 O10 A10 F10 => ?_) (hl:=by rw [int_len];omega) (h1:=int_one _) (hb:=by simp only [List.nil_append,List.length_drop];omega) (hn:=by simp only [List.nil_append,List.length_drop];omega) (hm:=apS fun g hg q=>by have:=(O9.lt hg).1;have:=B07.size;have:=k8.size;omega)
  have e3:j-0+1+([]++out.drop j).length=(out.take j++[x]++out.drop j).length:=by
   simp only [List.length_append,List.length_take,List.length_drop,List.length_nil,List.length_cons];omega
  have e4:(out.take j).flatMap encInt++encInt x++([]++out.drop j).flatMap encInt=(out.take j++[x]++out.drop j).flatMap encInt:=by
   simp only [List.flatMap_append,List.flatMap_cons,List.flatMap_nil,List.nil_append,List.append_nil]
  rw [e4,e3] at O10
  rw [e3]
  have B110:Bl w1 w10:=Below.trans B19 (A10.below (by exact B19.size) fun g hg=>by have:=(O9.lt hg).1;have:=B18.size;omega)
  have hlen:(out.take j++[x]++out.drop j).length=out.length+1:=by
   simp only [List.length_append,List.length_take,List.length_drop,List.length_nil,List.length_cons];omega
  refine ih hlt ⟨out.take j++[x]++out.drop j,a10,c10,rfl,ins_at hA hj hb hgt,fun z => ?_,by omega,O10.capn.1,O10.capn.2,O10.sl rfl (by omega) fun g hg => ?_,B1.trans B110,O10.base (by have:=B18.size;have:=B1.size;omega)⟩
  ·rw [take_succ_some hx,List.mem_append (s:=l.take k),<-hM z]
   have:z∈out↔z∈out.take j++out.drop j:=by rw [List.take_append_drop]
   rw [this]
   simp only [List.mem_append,List.mem_singleton]
   exact or_right_comm
  ·have:=O10.lt hg
   have:=B17.size
   have:=B1.size
   have:=k8.size
   omega
theorem r5_Sort (l:List Int) (al:Option Addr) (cl:Nat) (w:World) (hS:Sl eInt T w al l) :
  Ret Tryz.prog 138 #[.slice al l.length cl] w fun v w'=>∃ a c,v = .slice a (srtI l).length c/\Sl eInt (fun b=>w.heap.size<=b/\b<w'.heap.size) w' a (srtI l)/\Bl w w' :=
 (r5_SortO l al cl w hS).mono fun v w' ⟨a,c,e,hO,hB⟩=>⟨a,c,e,owp_sl hO (by have:=srtI_len l;have:=hS.big;omega) fun _ hg=>hO.lt hg,hB⟩
end Go.Proofs.YtdjkoljonlcemaaGreat

/- Walks: types, what is above, targets, in the document. -/
namespace Go.Proofs.YtdjkoljonlcemaaGreat
open Eng Go.RowKit
theorem ityp_bad {m:Mod} {t:Ty} {least:Int} (hl:least=0∨least=1) (h:t.kind<least∨4<t.kind):ityp m t least=false:=by
 unfold ityp
 rw [if_neg (by omega)]
 split
 ·rw [decide_eq_false (by omega)];rfl
 ·rfl
theorem ityp_obj {m:Mod} {t:Ty} {least:Int} (h:t.kind=2∨t.kind=4):ityp m t least=(decide (0<=t.cls)&&decide (t.cls<m.classes.length)):=by
 unfold ityp
 rw [if_pos h]
theorem ityp_no {m:Mod} {t:Ty} {least:Int} (h0:0<=least) (h:¬(t.kind=2∨t.kind=4)) (h1:¬t.kind<least) (h2:¬4<t.kind):ityp m t least=decide (t.cls=0):=by
 unfold ityp
 rw [if_neg h,if_pos (by omega),decide_eq_true (show least<=t.kind by omega),Bool.true_and]
theorem r5_IsType (m:Mod) (a:MA) (t:Ty) (least:Int) (hl:least=0∨least=1) (w:World) :
  Ret Tryz.prog 135 #[.agg (modcells m a).toArray,.agg (encTy t).toArray,I least] w fun v w'=>v = .bool (ityp m t least)/\Bl w w':=by
 refine entr (vs:=[.agg (modcells m a).toArray,.agg (encTy t).toArray,I least]) [0,1,2,3,4,6,15,23] tabok Tryz.func135 (by kernel_rfl) ?_
 refine bx (cs:=modcells m a) fun b1 w1 k1 => ?_
 refine bx (cs:=encTy t) fun b2 w2 k2 => ?_
 have B2:=k1.bl.trans k2.bl
 have x1:=Bl.box k2.bl k1.box
 have x2:=k2.box
 refine ld (x2.cell rfl) ?_
 refine ldg (fun _=>x2.cell rfl) ?_
 refine br (fun h => ?_) (fun h => ?_)
 ·refine rt1 ⟨congrArg Value.bool (ityp_bad hl (by simpa using h)).symm,B2⟩
 have h':¬t.kind<least/\¬4<t.kind:=by simpa using h
 refine ld (x2.cell rfl) ?_
 refine ldg (fun _=>x2.cell rfl) ?_
 refine br (fun h2 => ?_) (fun h2 => ?_)
 ·refine ld (x2.cell rfl) ?_
  refine ldg (fun _=>x2.cell rfl) ?_
  refine ldg (fun _=>x1.cell rfl) ?_
  refine rt1 ⟨congrArg Value.bool (ityp_obj (by simpa using h2)).symm,B2⟩
 have h2':¬(t.kind=2∨t.kind=4):=by simpa using h2
 refine ld (x2.cell rfl) ?_
 refine rt1 ⟨congrArg Value.bool (ityp_no (by omega) h2' h'.1 h'.2).symm,B2⟩
theorem r5_types (m:Mod) (a:MA) (l:List Ty) (al:Option Addr) (ce:Nat) (w:World) (hS:Sl eTy T w al l) :
  Ret Tryz.prog 87 #[.agg (modcells m a).toArray,.slice al l.length ce] w fun v w'=>v = .bool (l.all fun t=>ityp m t 1)/\Bl w w':=by
 have hbig:=hS.big
 refine entr (vs:=[.agg (modcells m a).toArray,.slice al l.length ce]) [0,1,2,4,5,9,18] tabok Tryz.func87 (by kernel_rfl) ?_
 refine bx (cs:=modcells m a) fun b1 w1 k1 => ?_
 have x1:=k1.box
 refine lpk l.length 5 [] [(1,.slice al l.length ce),(2,.pointer (some ⟨b1,0,none⟩))] (fun k vals w'=>vals=[]/\(l.take k).all (fun t=>ityp m t 1)=true/\Bl w1 w') ⟨rfl,rfl,Bl.refl _⟩ ?_
 rintro k vals w2 hk ⟨rfl,ha,B2⟩ ih
 have y1:=Bl.box B2 x1
 have B02:=k1.bl.trans B2
 by_cases hlt:k<l.length
 ·refine brT ?_
  refine dh T (List.range 7) fun w3 h3 => ?_
  have B3:=B2.trans h3.bl
  obtain ⟨t,b,o,cs,ht,rfl,_,hAt,rfl⟩:=at_some (hS.bl (B02.trans h3.bl)) hlt
  refine lda (h3.box y1).at ?_ (hm:=trivial)
  refine ix ?_
  refine lda hAt ?_ (hm:=trivial)
  refine cl (r5_IsType m a t 1 (.inr rfl) w3) ?_
  rintro _ w4 ⟨rfl,B34⟩
  refine br (fun h => ?_) (fun h => ?_)
  ·refine rt1 ⟨congrArg Value.bool (all_miss ht (by simpa using h)).symm,(k1.bl.trans B3).trans B34⟩
  ·exact ih hlt ⟨rfl,all_snoc' ht ha (by simpa using h),B3.trans B34⟩
 refine brF ?_
 obtain rfl:k=l.length:=by omega
 refine rt1 ⟨congrArg Value.bool (all_end ha).symm,B02⟩
theorem mem_step {m:Mod} {k:Nat} (h:Desc m k) {a b:Int} (h0:0<=a) (ha:a<k) (hne:¬a=b):b∈upM m a↔b∈upM m (supM m a):=by
 rw [upM_step h h0 ha,List.mem_cons]
 exact ⟨fun q=>q.resolve_left fun e=>hne e.symm,.inr⟩
theorem r5_above (m:Mod) (a:MA) {kk:Nat} (hd:Desc m kk) (x y:Int) (hx:x<kk) (hx0 : -1<=x) (w:World) (hM:MdR T w m a) :
  Ret Tryz.prog 134 #[.agg (modcells m a).toArray,I x,I y] w fun v w'=>v = .bool (decide (y∈upM m x))/\Bl w w':=by
 have hbig:=hM.cls.big
 have hdl:=hd.1
 refine entr (vs:=[.agg (modcells m a).toArray,I x,I y]) [0,1,2,3,6,7,16,21] tabok Tryz.func134 (by kernel_rfl) ?_
 refine bx (cs:=modcells m a) fun b1 w1 k1 => ?_
 have x1:=k1.box
 refine lpk (m.classes.length+1) 7 [1] [(2,I y),(3,.pointer (some ⟨b1,0,none⟩))] (fun k vals w'=>(∃ z:Int,vals=[I z] /\ -1<=z/\z<kk/\(z+k<=x∨z = -1)/\(y∈upM m x↔y∈upM m z))/\w1=w') ⟨⟨x,rfl,hx0,hx,.inl (by omega),Iff.rfl⟩,rfl⟩ ?_
 rintro k vals _ hk ⟨⟨z,rfl,hz0,hzk,hzx,hzy⟩,rfl⟩ ih
 refine ld (x1.cell rfl) ?_
 refine br (fun h => ?_) (fun h => ?_)
 ·have h':(k:Int)<=m.classes.length/\0<=z:=by simpa using h
  obtain ⟨j,rfl⟩:=Int.eq_ofNat_of_zero_le h'.2
  refine br (fun h2 => ?_) (fun h2 => ?_)
  ·have e:(j:Int)=y:=by simpa using h2
   refine rt1 ⟨congrArg Value.bool (decide_eq_true (hzy.2 (e▸upM_self h'.2))).symm,k1.bl⟩
  have hne:¬(j:Int)=y:=by simpa using h2
  obtain ⟨c,b,o,cs,hc,e2,_,hAt,a1,c1,a2,c2,rfl,_⟩:=at_some (hM.bl k1.bl).cls (i:=j) (by omega)
  refine ld (x1.cell rfl) ?_
  rw [e2]
  refine ix ?_
  refine ld (hAt 1 _ rfl) ?_
  have hs:=sup_lt hd h'.2 hzk
  rw [mem_step hd h'.2 hzk hne] at hzy
  rw [supM_at hc] at hs hzy
  exact ih (by omega) ⟨⟨c.super,rfl,hs.1,by omega,by omega,hzy⟩,rfl⟩
 ·have hz:z<0:=by
   rcases Classical.em (z<0) with q | q
   ·exact q
   ·rw [decide_eq_true (show (k:Int)<=m.classes.length by omega),decide_eq_true (show (0:Int)<=z by omega)] at h
    cases h
  rw [upM_neg hz] at hzy
  refine rt1 ⟨congrArg Value.bool (decide_eq_false (fun q=>by have:=hzy.1 q;cases this)).symm,k1.bl⟩
def rT (s:Nat) (l:List MC):List Int:=(l.map fun c=>c.table.getD s (-1)).filter fun n=>decide (0<=n)
theorem rT_snoc {s:Nat} {l:List MC} {k:Nat} {c:MC} {n:Int} (hc:l[k]? = some c) (hn:c.table[s]? = some n):rT s (l.take (k+1))=rT s (l.take k)++(if 0<=n then [n] else []):=by
 have e:c.table.getD s (-1)=n:=by rw [List.getD_eq_getElem?_getD,hn];rfl
 unfold rT
 rw [take_succ_some hc,List.map_append,List.filter_append]
 congr 1
 simp only [List.map_cons,List.map_nil,e]
 split
 ·rename_i h;rw [List.filter_cons_of_pos (by simpa using h)];rfl
 ·rename_i h;rw [List.filter_cons_of_neg (by simpa using h)];rfl
theorem rT_len (s:Nat) (l:List MC):(rT s l).length<=l.length:=by
 unfold rT
 refine Nat.le_trans (List.length_filter_le _ _) ?_
 rw [List.length_map];exact Nat.le_refl _
theorem r5_targets (m:Mod) (a:MA) (s:Nat) (hT:∀ c∈m.classes,s<c.table.length) (w:World) (hM:MdR T w m a) :
  Ret Tryz.prog 89 #[.agg (modcells m a).toArray,I s] w fun v w'=>∃ a c,v = .slice a (trgM m s).length c/\Sl eInt (fun b=>w.heap.size<=b/\b<w'.heap.size) w' a (trgM m s)/\Bl w w':=by
 have hbig:=hM.cls.big
 refine entr (vs:=[.agg (modcells m a).toArray,I s]) [0,1,2,4,5,6,11,23] tabok Tryz.func89 (by kernel_rfl) ?_
 refine bx (cs:=modcells m a) fun b1 w1 k1 => ?_
 have x1:=k1.box
 have y1:=k1.blk
 have z1:=k1.size
 refine lpk m.classes.length 6 [5] [(1,I s),(2,.pointer (some ⟨b1,0,none⟩))] (fun k vals w'=>∃ a c,vals=[.slice a (rT s (m.classes.take k)).length c]/\OwP 1 encInt w' w1.heap.size 3 a c (rT s (m.classes.take k))/\Bl w1 w') ⟨none,0,rfl,Ow.nil ..,Bl.refl _⟩ ?_
 rintro k vals w2 hk ⟨a2,c2,rfl,O2,B2⟩ ih
 have y2:=Bl.box B2 x1
 have B02:=k1.bl.trans B2
 have z2:=B2.size
 refine ld (y2.cell rfl) ?_
 by_cases hlt:k<m.classes.length
 ·refine brT ?_
  obtain ⟨c,b,o,cs,hc,e2,_,hAt,a3,c3,a4,c4,rfl,_,hF,_⟩:=at_some (hM.bl B02).cls hlt
  have hcm:=List.mem_of_getElem? hc
  obtain ⟨n,b5,o5,cs5,hn,e5,_,hA5,rfl⟩:=at_some hF (hT c hcm)
  refine ld (y2.cell rfl) ?_
  rw [e2]
  refine ix ?_
  refine ld (hAt 3 _ rfl) ?_
  rw [e5]
  refine ix (j:=s) ?_ (hb:=hT c hcm)
  refine ld (hA5 0 _ rfl) ?_
  have hl:=rT_len s (m.classes.take k)
  rw [List.length_take] at hl
  refine br (fun h => ?_) (fun h => ?_)
  ·have h0:0<=n:=by simpa using h
   refine ld (y2.cell rfl) ?_
   rw [e2]
   refine ix ?_
   refine ld (hAt 3 _ rfl) ?_
   rw [e5]
   refine ix (j:=s) ?_ (hb:=hT c hcm)
   refine ld (hA5 0 _ rfl) ?_
   refine bs (cs:=encInt n) fun b6 w6 k6 => ?_
   refine apl (l1:=[n]) (O2.bl k6.bl) (.inr ⟨b6,0,rfl,k6.box.at⟩) (by have:=k6.size;omega) fun a7 c7 w7 O7 A7 _ => ?_
   have e7:rT s (m.classes.take (k+1))=rT s (m.classes.take k)++[n]:=by rw [rT_snoc hc hn,if_pos h0]
   refine ih hlt ⟨a7,c7,by rw [e7],by rw [e7];exact O7,Below.trans (B2.trans k6.bl) (A7.below (by have:=k6.size;omega) fun g hg=>(O2.lt hg).1)⟩
  ·have h0:¬0<=n:=by simpa using h
   have e7:rT s (m.classes.take (k+1))=rT s (m.classes.take k):=by rw [rT_snoc hc hn,if_neg h0,List.append_nil]
   exact ih hlt ⟨a2,c2,by rw [e7],by rw [e7];exact O2,B2⟩
 refine brF ?_
 obtain rfl:k=m.classes.length:=by omega
 rw [List.take_length] at O2 ⊢
 have hl:=rT_len s m.classes
 refine cl (r5_Sort (rT s m.classes) a2 c2 w2 (owp_sl O2 (by omega) fun _ _=>trivial)) ?_ (hm:=fun _ _ r=>by obtain ⟨_,_,_,_,hB⟩:=r;exact mdW_bl hB)
 rintro _ w3 ⟨a3,c3,rfl,hS3,B3⟩
 exact rt1 ⟨a3,c3,rfl,hS3.sub fun i hi=>by have:=B02.size;omega,B02.trans B3⟩
end Go.Proofs.YtdjkoljonlcemaaGreat

/- Walks: the document's comparison of modules. -/
namespace Go.Proofs.YtdjkoljonlcemaaGreat
open Eng Go.RowKit
theorem part_cell {P:Program} {w:World} {t:TypeId} {tk:TK} {sz:Nat} {zr:List Value} {xs:Array Value} {off:Nat} {v:Value} (h:tiOk P t ⟨tk,sz,false,zr⟩=true) (hv:xs[off]? = some v):(part t xs off).run P w = .ok v w:=by
 unfold part
 rw [run_bind_ok (ti_agg h w).1]
 simp only [hv];rfl
def shp:List Field->List (Nat×Nat)->Bool
 | [],[]=>true
 | f::fs,(t,o)::ts=>decide (f.name ≠ "_")&&decide (f.type=t)&&decide (f.offset=o)&&shp fs ts
 | _,_=>false
theorem eqf_gen {P:Program} {w:World} {d:Nat} {t o:Nat} {ts:List (Nat×Nat)} {fs:List Field} {xs ys:Array Value} {vx vy:Value} {r:Bool} (h:shp fs ((t,o)::ts)=true)
  (hx:(part t xs o).run P w = .ok vx w) (hy:(part t ys o).run P w = .ok vy w) (he:(Op.equalIn d t vx vy).run P w = .ok r w):∃ fs',shp fs' ts=true/\(Op.eqFields d xs ys fs).run P w=if r=true then (Op.eqFields d xs ys fs').run P w else .ok false w:=by
 cases fs with
 | nil=>simp [shp] at h
 | cons f fs =>
  simp only [shp,Bool.and_eq_true,decide_eq_true_eq] at h
  obtain ⟨⟨⟨h1,rfl⟩,rfl⟩,h4⟩:=h
  refine ⟨fs,h4,?_⟩
  rw [Op.eqFields,if_pos h1,run_bind_ok hx,run_bind_ok hy,run_bind_ok he]
  cases r <;> rfl
theorem eqf_nil {P:Program} {w:World} {d:Nat} {fs:List Field} {xs ys:Array Value} (h:shp fs []=true):(Op.eqFields d xs ys fs).run P w = .ok true w:=by
 cases fs with
 | nil=>rfl
 | cons f fs=>simp [shp] at h
theorem ti_i:tiOk Tryz.prog 3 ⟨.other,1,false,[.int .i64 0]⟩=true:=tab_at tabok rfl
theorem eq_i {w:World} {d:Nat} (a b:Int):(Op.equalIn (d+1) 3 (I a) (I b)).run Tryz.prog w = .ok (a == b) w:=run_equalIn_int w d _ .i64 .i64 _ _ (by kernel_rfl)
theorem eq_ty {w:World} {d:Nat} (x y:Ty):(Op.equalIn (d+2) 42 (.agg (encTy x).toArray) (.agg (encTy y).toArray)).run Tryz.prog w = .ok (decide (x=y)) w:=by
 rw [run_equalIn_struct w (d+1) _ _ _ (by kernel_rfl) (by kernel_rfl)]
 obtain ⟨f1,h1,e1⟩:=eqf_gen (P:=Tryz.prog) (w:=w) (d:=d+1) (ts:=[(3,1)]) (xs:=(encTy x).toArray) (ys:=(encTy y).toArray) (show shp (Tryz.prog.fieldsOf 42).toList [(3,0),(3,1)]=true by kernel_rfl) (part_cell ti_i rfl) (part_cell ti_i rfl) (eq_i x.kind y.kind)
 obtain ⟨f2,h2,e2⟩:=eqf_gen (P:=Tryz.prog) (w:=w) (d:=d+1) (xs:=(encTy x).toArray) (ys:=(encTy y).toArray) h1 (part_cell ti_i rfl) (part_cell ti_i rfl) (eq_i x.cls y.cls)
 rw [e1,e2,eqf_nil h2]
 obtain ⟨a,b⟩:=x
 obtain ⟨c,e⟩:=y
 by_cases p:a=c <;> by_cases q:b=e <;> simp [p,q]
theorem Eng.neA {C:Cx} {s:St} {w:World} {md:Option Md} {ops:Array Oper} {T T':TypeId} {x y:Operand} {d:Nat} {ty:TypeId} {pos:String} {af:Array Edge} {g:Option (Nat×Bool)} {rest:List Oper} {k:List Item} {l:Env} {c:CEnv} {a b:List Value} {r:Bool}
  (he:∀ w',(Op.equalIn 10000 T (.agg a.toArray) (.agg b.toArray)).run C.P w' = .ok r w') (h:Wk C (.reg md ops rest k ((d,.bool (!r))::l) c) w)
  (hs:adv C.tab C.n C.ks 400 s = .opn md ops ⟨some d,.binOp .neq T x y T',ty,pos,af,g⟩ rest k l c []:=by rfl) (hx:evc l c [] x=some (.agg a.toArray):=by rfl) (hy:evc l c [] y=some (.agg b.toArray):=by rfl) (hg:C.P.eqGuardType C.P.depth T=false:=by kernel_rfl) (hf:fresh d l c []=true:=by rfl):Wk C s w :=
 rd (p:=[]) (fun _ _ hA hp w' _=>by
  simp only [execOp,evc_ok hA.k hA.kc.c hp hx,evc_ok hA.k hA.kc.c hp hy]
  have hb:(binOp .neq T (.agg a.toArray) (.agg b.toArray)).run C.P w' = .ok (.bool (!r)) w':=by rw [run_neq_struct,he];rfl
  exact run_bind_ok (run_bind_ok (run_eqGuard_agg _ _ _ _ _ _ _ hg) |>.trans hb) |>.trans rfl) h hs rfl hf (okR_no rfl)
theorem Eng.eqA {C:Cx} {s:St} {w:World} {md:Option Md} {ops:Array Oper} {T T':TypeId} {x y:Operand} {d:Nat} {ty:TypeId} {pos:String} {af:Array Edge} {g:Option (Nat×Bool)} {rest:List Oper} {k:List Item} {l:Env} {c:CEnv} {a b:List Value} {r:Bool}
  (he:∀ w',(Op.equalIn 10000 T (.agg a.toArray) (.agg b.toArray)).run C.P w' = .ok r w') (h:Wk C (.reg md ops rest k ((d,.bool r)::l) c) w)
  (hs:adv C.tab C.n C.ks 400 s = .opn md ops ⟨some d,.binOp .eql T x y T',ty,pos,af,g⟩ rest k l c []:=by rfl) (hx:evc l c [] x=some (.agg a.toArray):=by rfl) (hy:evc l c [] y=some (.agg b.toArray):=by rfl) (hg:C.P.eqGuardType C.P.depth T=false:=by kernel_rfl) (hf:fresh d l c []=true:=by rfl):Wk C s w :=
 rd (p:=[]) (fun _ _ hA hp w' _=>by
  simp only [execOp,evc_ok hA.k hA.kc.c hp hx,evc_ok hA.k hA.kc.c hp hy]
  have hb:(binOp .eql T (.agg a.toArray) (.agg b.toArray)).run C.P w' = .ok (.bool r) w':=by rw [run_eql_struct,he];rfl
  exact run_bind_ok (run_bind_ok (run_eqGuard_agg _ _ _ _ _ _ _ hg) |>.trans hb) |>.trans rfl) h hs rfl hf (okR_no rfl)
theorem same_no {α:Type} [DecidableEq α] {l m:List α} {k:Nat} {x y:α} (hx:l[k]? = some x) (hy:m[k]? = some y) (h:x≠y):decide (l=m)=false:=by
 rw [decide_eq_false_iff_not]
 rintro rfl
 rw [hx] at hy
 exact h (Option.some.inj hy)
theorem same_len {α:Type} [DecidableEq α] {l m:List α} (h:(l.length:Int)≠m.length):decide (l=m)=false:=by
 rw [decide_eq_false_iff_not]
 rintro rfl
 exact h rfl
theorem same_go {α:Type} {l m:List α} {k:Nat} {x y:α} (hx:l[k]? = some x) (hy:m[k]? = some y) (h:x=y) (hk:l.take k=m.take k):l.take (k+1)=m.take (k+1):=by
 rw [take_succ_some hx,take_succ_some hy,hk,h]
theorem same_end {α:Type} [DecidableEq α] {l m:List α} {k:Nat} (hl:(l.length:Int)=m.length) (h:l.take k=m.take k) (hk:k=l.length):decide (l=m)=true:=by
 subst hk
 rw [List.take_length,List.take_of_length_le (by omega)] at h
 exact decide_eq_true h
theorem r_SameTypes (l m:List Ty) (a1 a2:Option Addr) (c1 c2:Nat) (w:World) (h1:Sl eTy T w a1 l) (h2:Sl eTy T w a2 m):Ret Tryz.prog 90 #[.slice a1 l.length c1,.slice a2 m.length c2] w fun v w'=>v = .bool (decide (l=m))/\Bl w w':=by
 refine entr (vs:=[.slice a1 l.length c1,.slice a2 m.length c2]) [0,1,4,5,10,14,25] tabok Tryz.func90 (by kernel_rfl) ?_
 have hb1:=h1.big
 have hb2:=h2.big
 refine br (fun h => ?_) (fun h => ?_)
 ·exact rt1 ⟨vb (same_len (of_decide_eq_true h)).symm,Bl.refl _⟩
 have hl:=Classical.not_not.1 (of_decide_eq_false h)
 refine lpk l.length 5 [] [(0,.slice a1 l.length c1),(1,.slice a2 m.length c2)] (fun k vals w'=>vals=[]/\l.take k=m.take k/\Bl w w') ⟨rfl,rfl,Bl.refl _⟩ ?_
 rintro k vals w2 hk ⟨rfl,ha,hB⟩ ih
 by_cases hlt:k<l.length
 ·refine brT ?_
  obtain ⟨x,b,o,cs,hx,rfl,_,hAt,rfl⟩:=at_some (h1.bl hB) hlt
  obtain ⟨y,b',o',cs',hy,rfl,_,hAt',rfl⟩:=at_some (h2.bl hB) (i:=k) (by omega)
  refine dh T (List.range 9) fun w8 h8 => ?_
  have hC:=hAt.bl h8.bl
  have hC':=hAt'.bl h8.bl
  refine ix ?_
  refine lda hC ?_ (hm:=trivial)
  refine ix ?_
  refine lda hC' ?_ (hm:=trivial)
  refine neA (fun w=>eq_ty x y) ?_
  refine br (fun h => ?_) (fun h => ?_)
  ·exact rt1 ⟨vb (same_no hx hy (fun e=>by rw [decide_eq_true e] at h;cases h)).symm,hB.trans h8.bl⟩
  ·exact ih hlt ⟨rfl,same_go hx hy (Classical.byContradiction fun e=>by rw [decide_eq_false e] at h;cases h) ha,hB.trans h8.bl⟩
 refine brF ?_
 exact rt1 ⟨vb (same_end hl ha (by omega)).symm,hB⟩
end Go.Proofs.YtdjkoljonlcemaaGreat

/- slices.IndexFunc and slices.ContainsFunc at numbers and types; slices.Equal at types. The first four printed out of XIdx. -/
namespace Go.Proofs.YtdjkoljonlcemaaGreat
open Eng Go.RowKit
theorem IndexFunc_int (l:List Int) (a:Option Addr) (cap:Nat) (g:FuncId) (caps:List Value) (p:Int->Bool) (S:Nat->Prop) (w:World) (hS:Sl eInt S w a l)
  (hp:∀ x cs,x∈l->∀ w',Bl w w'->(eInt).rel S w' cs x->Ret Tryz.prog g ([asV cs]++caps).toArray w' fun v w''=>v = .bool (p x)/\Bl w' w'') :
  Ret Tryz.prog 39 #[.slice a l.length cap,.func (.func g) #[] caps.toArray] w fun v w'=>(∃ i:Int,v=I i/\decide (i≥0)=l.any p)/\Bl w w':=by
 refine entr (vs:=[.slice a l.length cap,.func (.func g) #[] caps.toArray]) [0,1,4,5,7,8,9,16] tabok Tryz.func39 (by kernel_rfl) ?_
 have hbig:=hS.big
 refine lp [8] [(0,.slice a l.length cap),(1,.func (.func g) #[] caps.toArray),(7,I l.length)] (fun m vals w'=>∃ k:Nat,m=l.length-k/\k<=l.length/\vals=[I k]/\(l.take k).any p=false/\Bl w w') ⟨rfl,rfl,rfl,trivial⟩ ⟨0,rfl,Nat.zero_le _,rfl,rfl,Bl.refl _⟩ ?_
 rintro m vals w1 ⟨k,rfl,hk,rfl,ha,hB⟩ ih
 by_cases hlt:k<l.length
 ·refine brT ?_
  obtain ⟨x,b,o,cs,hx,rfl,hSb,hAt,rfl⟩:=at_some (hS.bl hB) hlt
  refine ix ?_
  refine ld (hAt 0 _ rfl) ?_
  refine cl (hp x _ (List.mem_of_getElem? hx) _ hB rfl) ?_
  rintro _ w2 ⟨rfl,hB2⟩
  refine br (fun h => ?_) (fun h => ?_)
  ·exact rt1 ⟨⟨k,rfl,by rw [any_hit hx h];simp⟩,hB.trans hB2⟩
  ·refine again (ih _ _ _ _ (by omega) ⟨rfl,rfl,rfl,trivial⟩ rfl ⟨k+1,rfl,by omega,lst1 (inc hlt),any_snoc hx ha h,hB.trans hB2⟩)
 ·refine brF ?_
  obtain rfl:k=l.length:=by omega
  exact rt1 ⟨⟨-1,rfl,by rw [any_end ha];rfl⟩,hB⟩
theorem ContainsFunc_int (l:List Int) (a:Option Addr) (cap:Nat) (g:FuncId) (caps:List Value) (p:Int->Bool) (S:Nat->Prop) (w:World) (hS:Sl eInt S w a l)
  (hp:∀ x cs,x∈l->∀ w',Bl w w'->(eInt).rel S w' cs x->Ret Tryz.prog g ([asV cs]++caps).toArray w' fun v w''=>v = .bool (p x)/\Bl w' w'') :
  Ret Tryz.prog 20 #[.slice a l.length cap,.func (.func g) #[] caps.toArray] w fun v w'=>v = .bool (l.any p)/\Bl w w':=by
 refine entr (vs:=[.slice a l.length cap,.func (.func g) #[] caps.toArray]) [0,1,4] tabok Tryz.func20 (by kernel_rfl) ?_
 refine cl (IndexFunc_int l a cap g caps p S w hS hp) ?_
 rintro _ w1 ⟨⟨i,rfl,hi⟩,hB⟩
 exact rt1 ⟨vb hi,hB⟩
theorem IndexFunc_typ (l:List Ty) (a:Option Addr) (cap:Nat) (g:FuncId) (caps:List Value) (p:Ty->Bool) (S:Nat->Prop) (w:World) (hS:Sl eTy S w a l)
  (hp:∀ x cs,x∈l->∀ w',Bl w w'->(eTy).rel S w' cs x->Ret Tryz.prog g ([asV cs]++caps).toArray w' fun v w''=>v = .bool (p x)/\Bl w' w'') :
  Ret Tryz.prog 38 #[.slice a l.length cap,.func (.func g) #[] caps.toArray] w fun v w'=>(∃ i:Int,v=I i/\decide (i≥0)=l.any p)/\Bl w w':=by
 refine entr (vs:=[.slice a l.length cap,.func (.func g) #[] caps.toArray]) [0,1,4,5,7,8,9,16] tabok Tryz.func38 (by kernel_rfl) ?_
 have hbig:=hS.big
 refine lp [8] [(0,.slice a l.length cap),(1,.func (.func g) #[] caps.toArray),(7,I l.length)] (fun m vals w'=>∃ k:Nat,m=l.length-k/\k<=l.length/\vals=[I k]/\(l.take k).any p=false/\Bl w w') ⟨rfl,rfl,rfl,trivial⟩ ⟨0,rfl,Nat.zero_le _,rfl,rfl,Bl.refl _⟩ ?_
 rintro m vals w1 ⟨k,rfl,hk,rfl,ha,hB⟩ ih
 by_cases hlt:k<l.length
 ·refine brT ?_
  obtain ⟨x,b,o,cs,hx,rfl,hSb,hAt,rfl⟩:=at_some (hS.bl hB) hlt
  refine ix ?_
  refine lda hAt ?_
  refine cl (hp x _ (List.mem_of_getElem? hx) _ hB rfl) ?_
  rintro _ w2 ⟨rfl,hB2⟩
  refine br (fun h => ?_) (fun h => ?_)
  ·exact rt1 ⟨⟨k,rfl,by rw [any_hit hx h];simp⟩,hB.trans hB2⟩
  ·refine again (ih _ _ _ _ (by omega) ⟨rfl,rfl,rfl,trivial⟩ rfl ⟨k+1,rfl,by omega,lst1 (inc hlt),any_snoc hx ha h,hB.trans hB2⟩)
 ·refine brF ?_
  obtain rfl:k=l.length:=by omega
  exact rt1 ⟨⟨-1,rfl,by rw [any_end ha];rfl⟩,hB⟩
theorem ContainsFunc_typ (l:List Ty) (a:Option Addr) (cap:Nat) (g:FuncId) (caps:List Value) (p:Ty->Bool) (S:Nat->Prop) (w:World) (hS:Sl eTy S w a l)
  (hp:∀ x cs,x∈l->∀ w',Bl w w'->(eTy).rel S w' cs x->Ret Tryz.prog g ([asV cs]++caps).toArray w' fun v w''=>v = .bool (p x)/\Bl w' w'') :
  Ret Tryz.prog 18 #[.slice a l.length cap,.func (.func g) #[] caps.toArray] w fun v w'=>v = .bool (l.any p)/\Bl w w':=by
 refine entr (vs:=[.slice a l.length cap,.func (.func g) #[] caps.toArray]) [0,1,4] tabok Tryz.func18 (by kernel_rfl) ?_
 refine cl (IndexFunc_typ l a cap g caps p S w hS hp) ?_
 rintro _ w1 ⟨⟨i,rfl,hi⟩,hB⟩
 exact rt1 ⟨vb hi,hB⟩
theorem l_EqualT (l m:List Ty) (a1 a2:Option Addr) (c1 c2:Nat) (w:World) (h1:Sl eTy T w a1 l) (h2:Sl eTy T w a2 m):Ret Tryz.prog 173 #[.slice a1 l.length c1,.slice a2 m.length c2] w fun v w'=>v = .bool (decide (l=m))/\Bl w w':=by
 refine entr (vs:=[.slice a1 l.length c1,.slice a2 m.length c2]) [0,1,4,5,10,12,13,14,24] tabok Tryz.func173 (by kernel_rfl) ?_
 have hb1:=h1.big
 have hb2:=h2.big
 refine br (fun h => ?_) (fun h => ?_)
 ·exact rt1 ⟨vb (same_len (of_decide_eq_true h)).symm,Bl.refl _⟩
 have hl:=Classical.not_not.1 (of_decide_eq_false h)
 refine lpk l.length 13 [] [(0,.slice a1 l.length c1),(1,.slice a2 m.length c2),(12,I l.length)] (fun k vals w'=>vals=[]/\l.take k=m.take k/\Bl w w') ⟨rfl,rfl,Bl.refl _⟩ ?_
 rintro k vals w2 hk ⟨rfl,ha,hB⟩ ih
 by_cases hlt:k<l.length
 ·refine brT ?_
  obtain ⟨x,b,o,cs,hx,rfl,_,hAt,rfl⟩:=at_some (h1.bl hB) hlt
  obtain ⟨y,b',o',cs',hy,rfl,_,hAt',rfl⟩:=at_some (h2.bl hB) (i:=k) (by omega)
  refine dh T (List.range 9) fun w8 h8 => ?_
  have hC:=hAt.bl h8.bl
  have hC':=hAt'.bl h8.bl
  refine ix ?_
  refine lda hC ?_ (hm:=trivial)
  refine ix ?_
  refine lda hC' ?_ (hm:=trivial)
  refine neA (fun w=>eq_ty x y) ?_
  refine br (fun h => ?_) (fun h => ?_)
  ·exact rt1 ⟨vb (same_no hx hy (fun e=>by rw [decide_eq_true e] at h;cases h)).symm,hB.trans h8.bl⟩
  ·exact ih hlt ⟨rfl,same_go hx hy (Classical.byContradiction fun e=>by rw [decide_eq_false e] at h;cases h) ha,hB.trans h8.bl⟩
 refine brF ?_
 exact rt1 ⟨vb (same_end hl ha (by omega)).symm,hB⟩
end Go.Proofs.YtdjkoljonlcemaaGreat

/- The engine: ways that part and meet at a loop. No program stands here. -/
namespace Go.Proofs.YtdjkoljonlcemaaGreat
open Eng
theorem Eng.jlk {C:Cx} {s:St} {w:World} {c:Code} {k:List Item} (n i:Nat) (sel:List Nat) (keep:Env) (Inv:Nat->List Value->World->Prop)
  (hb:(∀ {s':St} {l:Env} {vals:List Value} {w':World},Inv 0 vals w'->(hs:adv C.tab C.n C.ks 400 s' = .code (.code (.loop c)::k) l:=by rfl)->(hkeep:Sub keep l:=by repeat (first | exact True.intro | (refine ⟨rfl,?_⟩))) ->
    (hv:lookAll l (i::sel)=some (I 0::vals):=by rfl)->Wk C s' w')->Wk C s w)
  (hr:∀ j vals w',j<=n->Inv j vals w' ->
   (∀ {s':St} {l'':Env} {vals'':List Value} {w'':World},j<n->Inv (j+1) vals'' w''->(hs:adv C.tab C.n C.ks 400 s' = .code (.inLoop c::k) l'':=by rfl) ->
    (hsub:Sub keep l'':=by repeat (first | exact True.intro | (refine ⟨rfl,?_⟩)))->(hv:lookAll l'' (i::sel)=some (.int .i64 (IntKind.wrap .i64 ((j:Int)+1))::vals''):=by rfl)->Wk C s' w'') ->
   Wk C (.code (.code c :: .inLoop c::k) ((i,I j)::pair sel vals keep)) w')
  (hn:n<=4611686018427387904):Wk C s w :=
 hb fun h0 hs hk hv=>lpk n i sel keep Inv h0 hr hs hk hv hn
end Go.Proofs.YtdjkoljonlcemaaGreat

/- Walks: types, what is above, entries of tables, in the program's checker. -/
namespace Go.Proofs.YtdjkoljonlcemaaGreat
open Eng Go.RowKit
theorem k_isClass (m:Mod) (a:MA) (n:Int) (w:World) (_hn:m.classes.length<=4194304):Ret Tryz.prog 212 #[.agg (modcells m a).toArray,I n] w fun v w'=>v = .bool (decide (0<=n)&&decide (n<m.classes.length))/\Bl w w':=by
 refine entr (vs:=[.agg (modcells m a).toArray,I n]) [0,1,2,4] tabok Tryz.func212 (by kernel_rfl) ?_
 refine bx (cs:=modcells m a) fun b1 w1 k1 => ?_
 refine ldg (fun _=>k1.box.cell rfl) ?_
 exact rt1 ⟨rfl,k1.bl⟩
theorem k_isTypeM (m:Mod) (a:MA) (t:Ty) (least:Int) (_hl:least=0∨least=1) (w:World) (hn:m.classes.length<=4194304) :
  Ret Tryz.prog 171 #[.agg (modcells m a).toArray,.agg (encTy t).toArray,I least] w fun v w'=>v = .bool (ityp m t least)/\Bl w w':=by
 refine entr (vs:=[.agg (modcells m a).toArray,.agg (encTy t).toArray,I least]) [0,1,2,3,4,6,8,9,16] tabok Tryz.func171 (by kernel_rfl) ?_
 refine bx (cs:=modcells m a) fun b1 w1 k1 => ?_
 refine bx (cs:=encTy t) fun b2 w2 k2 => ?_
 have B2:=k1.bl.trans k2.bl
 have x1:=Bl.box k2.bl k1.box
 have x2:=k2.box
 refine ld (x2.cell rfl) ?_
 by_cases h2:t.kind=2
 ·refine brT ?_ (hp:=h2)
  refine brT ?_ (hp:=h2)
  refine lda x1.at ?_
  refine ld (x2.cell rfl) ?_
  refine cl (k_isClass m a t.cls w2 hn) ?_
  rintro _ w3 ⟨rfl,B3⟩
  exact rt1 ⟨congrArg Value.bool (ityp_obj (.inl h2)).symm,B2.trans B3⟩
 refine brF ?_ (hp:=h2)
 by_cases h4:t.kind=4
 ·refine brT ?_ (hp:=h4)
  refine lda x1.at ?_
  refine ld (x2.cell rfl) ?_
  refine cl (k_isClass m a t.cls w2 hn) ?_
  rintro _ w3 ⟨rfl,B3⟩
  exact rt1 ⟨congrArg Value.bool (ityp_obj (.inr h4)).symm,B2.trans B3⟩
 refine brF ?_ (hp:=h4)
 have e:(t.kind=0∨t.kind=1∨t.kind=3)->ityp m t least=(decide (least<=t.kind)&&decide (t.cls=0)):=fun h=>by
  unfold ityp
  rw [if_neg (by omega),if_pos h]
 by_cases h0:t.kind=0
 ·refine brT ?_ (hp:=h0)
  refine brT ?_ (hp:=h0)
  refine ld (x2.cell rfl) ?_
  refine ldg (fun _=>x2.cell rfl) ?_
  exact rt1 ⟨congrArg Value.bool (e (.inl h0)).symm,B2⟩
 refine brF ?_ (hp:=h0)
 by_cases h1:t.kind=1
 ·refine brT ?_ (hp:=h1)
  refine brT ?_ (hp:=h1)
  refine ld (x2.cell rfl) ?_
  refine ldg (fun _=>x2.cell rfl) ?_
  exact rt1 ⟨congrArg Value.bool (e (.inr (.inl h1))).symm,B2⟩
 refine brF ?_ (hp:=h1)
 by_cases h3:t.kind=3
 ·refine brT ?_ (hp:=h3)
  refine ld (x2.cell rfl) ?_
  refine ldg (fun _=>x2.cell rfl) ?_
  exact rt1 ⟨congrArg Value.bool (e (.inr (.inr h3))).symm,B2⟩
 refine brF ?_ (hp:=h3)
 refine rt1 ⟨congrArg Value.bool ?_,B2⟩
 unfold ityp
 rw [if_neg (by omega),if_neg (by omega)]
theorem k_areTypes1 (m:Mod) (a:MA) (t:Ty) (b:Nat) (w:World) (hx:At w b 0 (modcells m a)) (hn:m.classes.length<=4194304):Ret Tryz.prog 170 #[.agg (encTy t).toArray,.pointer (some ⟨b,0,none⟩)] w fun v w'=>v = .bool (!ityp m t 1)/\Bl w w':=by
 refine entr (vs:=[.agg (encTy t).toArray,.pointer (some ⟨b,0,none⟩)]) [0,1,2,3] tabok Tryz.func170 (by kernel_rfl) ?_
 refine bx (cs:=encTy t) fun b2 w2 k2 => ?_
 refine lda (hx.bl k2.bl) ?_
 refine lda k2.box.at ?_
 refine cl (k_isTypeM m a t 1 (.inr rfl) w2 hn) ?_
 rintro _ w3 ⟨rfl,B3⟩
 exact rt1 ⟨rfl,k2.bl.trans B3⟩
theorem k_areTypes (m:Mod) (a:MA) (l:List Ty) (al:Option Addr) (ce:Nat) (most:Int) (w:World) (hS:Sl eTy T w al l) (hn:m.classes.length<=4194304) :
  Ret Tryz.prog 110 #[.agg (modcells m a).toArray,.slice al l.length ce,I most] w fun v w'=>v = .bool (decide ((l.length:Int)<=most)&&l.all fun t=>ityp m t 1)/\Bl w w':=by
 have hbig:=hS.big
 refine entr (vs:=[.agg (modcells m a).toArray,.slice al l.length ce,I most]) [0,1,2,3,6] tabok Tryz.func110 (by kernel_rfl) ?_
 refine bx (cs:=modcells m a) fun b1 w1 k1 => ?_
 by_cases hle:(l.length:Int)<=most
 ·refine spt (.bool false) ?_ (hb:=decide_eq_true hle)
  refine cl (ContainsFunc_typ l al ce 170 [.pointer (some ⟨b1,0,none⟩)] (fun t => !ityp m t 1) T w1 (hS.bl k1.bl) fun t cs ht w' k hr => ?_) ?_
  ·obtain rfl:cs=encTy t:=hr
   exact k_areTypes1 m a t b1 w' (Bl.box k k1.box).at hn
  rintro _ w2 ⟨rfl,B2⟩
  refine rt1 ⟨congrArg Value.bool ?_,k1.bl.trans B2⟩
  rw [decide_eq_true hle,List.all_eq_not_any_not]
 ·refine spn (.bool false) ?_ (hb:=decide_eq_false hle)
  refine rt1 ⟨congrArg Value.bool ?_,k1.bl⟩
  rw [decide_eq_false hle];simp
theorem k_above (m:Mod) (a:MA) {kk:Nat} (hd:Desc m kk) (x y:Int) (hx:x<kk) (hx0 : -1<=x) (hy:0<=y) (w:World) (hM:MdR T w m a) :
  Ret Tryz.prog 194 #[.agg (modcells m a).toArray,I x,I y] w fun v w'=>v = .bool (decide (y∈upM m x))/\Bl w w':=by
 have hbig:=hM.cls.big
 have hdl:=hd.1
 refine entr (vs:=[.agg (modcells m a).toArray,I x,I y]) [0,1,2,3,6,9] tabok Tryz.func194 (by kernel_rfl) ?_
 refine bx (cs:=modcells m a) fun b1 w1 k1 => ?_
 have x1:=k1.box
 refine lp (vals:=[I x]) [1] [(2,I y),(3,.pointer (some ⟨b1,0,none⟩))] (fun n vals w'=>(∃ z:Int,vals=[I z]/\n=(z+1).toNat /\ -1<=z/\z<kk/\(y∈upM m x↔y∈upM m z))/\w1=w') ⟨rfl,rfl,trivial⟩ (m:=(x+1).toNat) ⟨⟨x,rfl,rfl,hx0,hx,Iff.rfl⟩,rfl⟩ ?_
 rintro n vals _ ⟨⟨z,rfl,rfl,hz0,hzk,hzy⟩,rfl⟩ ih
 by_cases hgt:y<z
 ·refine brT ?_
  obtain ⟨j,rfl⟩:=Int.eq_ofNat_of_zero_le (show 0<=z by omega)
  obtain ⟨c,b,o,cs,hc,e2,_,hAt,a1,c1,a2,c2,rfl,_⟩:=at_some (hM.bl k1.bl).cls (i:=j) (by omega)
  refine ld (x1.cell rfl) ?_
  rw [e2]
  refine ix ?_
  refine ld (hAt 1 _ rfl) ?_
  have hs:=sup_lt hd (a:=(j:Int)) (by omega) hzk
  rw [mem_step hd (by omega) hzk (by omega)] at hzy
  rw [supM_at hc] at hs hzy
  exact again (ih _ _ _ _ (by omega) ⟨rfl,rfl,trivial⟩ rfl ⟨⟨c.super,rfl,rfl,hs.1,by omega,hzy⟩,rfl⟩)
 ·refine brF ?_
  refine rt1 ⟨congrArg Value.bool (Bool.eq_iff_iff.2 ?_),k1.bl⟩
  rw [decide_eq_true_eq,decide_eq_true_eq,hzy]
  constructor
  ·rintro rfl;exact upM_self hy
  ·intro h
   have:=upM_mem_le hd hzk h
   omega
theorem k_entry (m:Mod) (a:MA) (k s j:Nat) (hd:Desc m (k+1)) {y:MM} (hy:m.methods[j]? = some y) (hT:∀ (i:Nat) z,i<=k->m.classes[i]? = some z->s<z.table.length) (w:World) (hM:MdR T w m a) :
  Ret Tryz.prog 172 #[.agg (modcells m a).toArray,I k,I s,I j] w fun v w'=>(∃ b,v = .bool b/\(b=true↔∃ z,y.cls∈upM m k/\m.classes[y.cls.toNat]? = some z/\z.table[s]? = some (j:Int)))/\Bl w w':=by
 have hdl:=hd.1
 refine entr (vs:=[.agg (modcells m a).toArray,I k,I s,I j]) [0,1,2,3,4,8,9] tabok Tryz.func172 (by kernel_rfl) ?_
 refine bx (cs:=modcells m a) fun b1 w1 k1 => ?_
 have x1:=k1.box
 obtain ⟨y',b,o,cs,hy',e2,_,hAt,a3,c3,a4,c4,a5,c5,rfl,_⟩:=at_some (hM.bl k1.bl).mth (i:=j) (List.getElem?_eq_some_iff.1 hy).1
 obtain rfl:y=y':=by rw [hy] at hy';exact Option.some.inj hy'
 refine ld (x1.cell rfl) ?_
 rw [e2]
 refine ix ?_ (hb:=(List.getElem?_eq_some_iff.1 hy).1)
 refine ld (hAt 1 _ rfl) ?_
 have no:¬y.cls∈upM m k->(false=true↔∃ z,y.cls∈upM m k/\m.classes[y.cls.toNat]? = some z/\z.table[s]? = some (j:Int)):=fun h=>⟨(fun q=>(by cases q)),fun ⟨_,q,_⟩=>absurd q h⟩
 by_cases hA:0<=y.cls/\y.cls<=k
 rotate_left
 ·refine spn (.agg (modcells m a).toArray) ?_ (hb:=by first | (simp;done) | (simp;omega))
  refine spn (.bool false) ?_ (hb:=by first | (simp;done) | (simp;omega))
  refine spn (.slice none 0 0) ?_ (hb:=by first | (simp;done) | (simp;omega))
  refine spn (.pointer (some ⟨0,0,none⟩)) ?_ (hb:=by first | (simp;done) | (simp;omega))
  refine spn (.slice none 0 0) ?_ (hb:=by first | (simp;done) | (simp;omega))
  refine spn (.pointer (some ⟨0,0,none⟩)) ?_ (hb:=by first | (simp;done) | (simp;omega))
  refine spn (I 0) ?_ (hb:=by first | (simp;done) | (simp;omega))
  refine rt1 ⟨⟨false,congrArg Value.bool ?_,no fun q=>hA (upM_mem_le hd (by omega) q)⟩,k1.bl⟩
  first | (simp;done) | (simp;omega)
 obtain ⟨o',ho'⟩:=Int.eq_ofNat_of_zero_le hA.1
 refine spt (.agg (modcells m a).toArray) ?_ (hb:=by first | (simp;done) | (simp;omega))
 refine lda x1.at ?_
 refine spt (.bool false) ?_ (hb:=by first | rfl | (simp;done) | (simp;omega))
 refine cl (k_above m a hd (k:Int) y.cls (by omega) (by omega) hA.1 w1 (hM.bl k1.bl)) ?_
 rintro _ w2 ⟨rfl,B2⟩
 have x2:=Bl.box B2 x1
 have B02:=k1.bl.trans B2
 by_cases hin:y.cls∈upM m k
 rotate_left
 ·rw [decide_eq_false hin]
  refine spn (.slice none 0 0) ?_ (hb:=by first | rfl | (simp;done) | (simp;omega))
  refine spn (.pointer (some ⟨0,0,none⟩)) ?_ (hb:=by first | rfl | (simp;done) | (simp;omega))
  refine spn (.slice none 0 0) ?_ (hb:=by first | rfl | (simp;done) | (simp;omega))
  refine spn (.pointer (some ⟨0,0,none⟩)) ?_ (hb:=by first | rfl | (simp;done) | (simp;omega))
  refine spn (I 0) ?_ (hb:=by first | rfl | (simp;done) | (simp;omega))
  refine rt1 ⟨⟨false,congrArg Value.bool ?_,no hin⟩,B02⟩
  first | rfl | (simp;done) | (simp;omega)
 rw [decide_eq_true hin]
 obtain ⟨z,b6,o6,cs6,hz,e6,_,hA6,a7,c7,a8,c8,rfl,_,hT6,_⟩:=at_some (hM.bl B02).cls (i:=o') (by omega)
 obtain ⟨q,b9,o9,cs9,hq,e9,_,hA9,rfl⟩:=at_some hT6 (i:=s) (hT o' z (by omega) hz)
 refine ldg (fun _=>x2.cell rfl) ?_
 rw [e6]
 refine spt (.pointer (some ⟨0,0,none⟩)) ?_ (hb:=by first | rfl | (simp;done) | (simp;omega))
 refine ix (j:=o') ?_ (hij:=ho') (hb:=by omega)
 refine ldg (fun _=>hA6 3 _ rfl) ?_
 rw [e9]
 refine spt (.pointer (some ⟨0,0,none⟩)) ?_ (hb:=by first | rfl | (simp;done) | (simp;omega))
 refine ix (j:=s) ?_ (hb:=hT o' z (by omega) hz)
 refine ldg (fun _=>hA9 0 _ rfl) ?_
 refine rt1 ⟨⟨decide (q=j),congrArg Value.bool ?_,?_⟩,B02⟩
 ·first | rfl | (simp;done) | (simp;omega)
 ·rw [decide_eq_true_eq,ho',Int.toNat_natCast,hz]
  constructor
  ·rintro rfl;exact ⟨z,by rw [<-ho'];exact hin,rfl,hq⟩
  ·rintro ⟨z',_,e1,e3⟩
   obtain rfl:=Option.some.inj e1
   rw [hq] at e3;exact Option.some.inj e3
end Go.Proofs.YtdjkoljonlcemaaGreat

/- Walks: a class, in the program's checker. -/
namespace Go.Proofs.YtdjkoljonlcemaaGreat
open Eng Go.RowKit
set_option maxHeartbeats 2000000 in
theorem k_class (m:Mod) (a:MA) (k:Nat) (c:MC) (w:World) (hM:MdR T w m a) (hc:m.classes[k]? = some c) (hP:∀ i x,i<k->m.classes[i]? = some x->ClsP m i x) (hc10:m.classes.length<=10) (_hm16:m.methods.length<=16) (hz0:0<=m.sels) (hz1:m.sels<=16) :
  Ret Tryz.prog 111 #[.agg (modcells m a).toArray,I k] w fun v w'=>(∃ b,v = .bool b/\(b=true↔ClsP m k c))/\Bl w w':=by
 have hlt:k<m.classes.length:=(List.getElem?_eq_some_iff.1 hc).1
 have hd:Desc m k:=desc_of (by omega) hP
 refine entr (vs:=[.agg (modcells m a).toArray,I k]) [0,1,2,4,5,6,7,8,39,41,42,43,44,57,67,88,92] tabok Tryz.func111 (by kernel_rfl) ?_
 refine bx (cs:=modcells m a) fun b1 w1 k1 => ?_
 have x1:=k1.box
 obtain ⟨c',b,o,cs,hc',e2,_,hAt,a3,c3,a4,c4,rfl,hF,hTb,_,hcap⟩:=at_some (hM.bl k1.bl).cls hlt
 obtain rfl:c=c':=by rw [hc] at hc';exact Option.some.inj hc'
 have no:(ClsP m k c->False)->(false=true↔ClsP m k c):=fun h=>⟨(fun q=>(by cases q)),fun q=>(h q).elim⟩
 refine ld (x1.cell rfl) ?_
 rw [e2]
 refine ix ?_
 refine lda hAt ?_
 refine al fun b5 w2 h2 => ?_
 refine sta (cs':=mccells c a3 c3 a4 c4) h2.box fun w3 k3 x3 => ?_
 have B13:=h2.wr k3
 have B3:=k1.bl.trans B13
 have y3:=Bl.box B13 x1
 have q1:=hF.big
 have q2:=hTb.big
 refine ld (x3.cell rfl) ?_
 refine ldg (fun _=>x3.cell rfl) ?_
 by_cases hA:c.super < -1∨(k:Int)<=c.super
 ·refine spn (.agg (modcells m a).toArray) ?_ (hb:=by first | rfl | (simp;done) | (simp;omega))
  refine ldg (fun _=>x3.cell rfl) ?_
  refine spn (.bool false) ?_ (hb:=by first | rfl | (simp;done) | (simp;omega))
  refine ldg (fun _=>x3.cell rfl) ?_
  refine ldg (fun _=>y3.cell rfl) ?_
  refine brt ?_ (hp:=by first | rfl | (simp;done) | (simp;omega))
  exact rt1 ⟨⟨false,rfl,no fun q=>by have:=q.s1;have:=q.s2;omega⟩,B3⟩
 refine spt (.agg (modcells m a).toArray) ?_ (hb:=by first | rfl | (simp;done) | (simp;omega))
 refine lda y3.at ?_
 refine ldg (fun _=>x3.cell rfl) ?_
 refine spt (.bool false) ?_ (hb:=by first | rfl | (simp;done) | (simp;omega))
 refine cl (k_areTypes m a c.fields a3 c3 7 w3 (hF.bl B13) (by omega)) ?_
 rintro _ w4 ⟨rfl,B34⟩
 have B4:=B3.trans B34
 have x4:=Bl.box B34 x3
 have y4:=Bl.box B34 y3
 refine ldg (fun _=>x4.cell rfl) ?_
 refine ldg (fun _=>y4.cell rfl) ?_
 by_cases hfl:(c.fields.length:Int)<=7
 rotate_left
 ·rw [decide_eq_false hfl]
  refine brt ?_ (hp:=by first | rfl | (simp;done) | (simp;omega))
  exact rt1 ⟨⟨false,rfl,no fun q=>by have:=q.fl;omega⟩,B4⟩
 rw [decide_eq_true hfl]
 cases hft:c.fields.all fun t=>ityp m t 1 with
 | false =>
  refine brt ?_ (hp:=by first | rfl | (simp;done) | (simp;omega))
  exact rt1 ⟨⟨false,rfl,no fun q=>by rw [List.all_eq_true.2 q.ft] at hft;cases hft⟩,B4⟩
 | true =>
 by_cases htl:(c.table.length:Int)=m.sels
 rotate_left
 ·refine brt ?_ (hp:=by first | (simp;done) | (simp;exact htl) | (simp;omega))
  exact rt1 ⟨⟨false,rfl,no fun q=>htl q.tl⟩,B4⟩
 refine brf ?_ (hp:=by first | (simp;done) | (simp;exact htl) | (simp;omega))
 have hd1:Desc m (k+1):=⟨by omega,fun i x hi hx=>by
  rcases Nat.lt_or_ge i k with q | q
  ·exact hd.2 i x q hx
  ·obtain rfl:i=k:=by omega
   rw [hc] at hx;obtain rfl:=Option.some.inj hx;exact ⟨by omega,by omega⟩⟩
 have hTl:∀ (i:Nat) z,i<=k->m.classes[i]? = some z->z.table.length=c.table.length:=fun i z hi hz=>by
  rcases Nat.lt_or_ge i k with q | q
  ·have:=(hP i z q hz).tl;omega
  ·obtain rfl:i=k:=by omega
   rw [hc] at hz;obtain rfl:=Option.some.inj hz;rfl
 refine ld (x4.cell rfl) ?_
 refine lpk c.table.length 43 [] [(1,I k),(2,.pointer (some ⟨b1,0,none⟩)),(5,.pointer (some ⟨b5,0,none⟩)),(41,.slice a4 c.table.length c4),(42,I c.table.length)] (fun s vals w'=>vals=[]/\(∀ (i:Nat) x,i<s->c.table[i]? = some x->EntP m k c i x)/\Bl w4 w') ⟨rfl,fun i x h=>by omega,Bl.refl _⟩ ?_
 rintro s vals w5 hs ⟨rfl,hen,B45⟩ ih
 have x5:=Bl.box B45 x4
 have y5:=Bl.box B45 y4
 have B5:=B4.trans B45
 have B15:=(B13.trans B34).trans B45
 by_cases hsl:s<c.table.length
 ·refine brT ?_
  obtain ⟨v,b6,o6,cs6,hv,e6,_,hA6,rfl⟩:=at_some (hTb.bl B15) hsl
  have noE:(EntP m k c s v->False)->(false=true↔ClsP m k c):=fun h=>no fun q=>h (q.tb s v hv)
  have next:∀ w9,Bl w5 w9->EntP m k c s v->(∀ (i:Nat) x,i<s+1->c.table[i]? = some x->EntP m k c i x)/\Bl w4 w9:=fun w9 B9 he=>⟨fun i x hi hx=>by
   rcases Nat.lt_or_ge i s with q | q
   ·exact hen i x q hx
   ·obtain rfl:i=s:=by omega
    rw [hv] at hx;obtain rfl:=Option.some.inj hx;exact he,B45.trans B9⟩
  have ek:Eng.Sub [(41,Value.slice a4 c.table.length c4)] [(41,Value.slice a4 c.table.length c4)]:=⟨rfl,trivial⟩
  subst e6
  refine ix ?_
  refine ld (hA6 0 _ rfl) ?_
  refine ldg (fun _=>y5.cell rfl) ?_
  by_cases hB:v < -1∨(m.methods.length:Int)<=v
  ·refine brt ?_ (hp:=by first | rfl | (simp;done) | (simp;omega))
   exact rt1 ⟨⟨false,rfl,noE fun q=>by have:=q.lo;have:=q.hi;omega⟩,B5⟩
  refine brf ?_ (hp:=by first | rfl | (simp;done) | (simp;omega))
  by_cases hv0:0<=v
  ·obtain ⟨j,rfl⟩:=Int.eq_ofNat_of_zero_le hv0
   obtain ⟨y,hy⟩:=some_of_lt (l:=m.methods) (k:=j) (by omega)
   refine spt (.agg (modcells m a).toArray) ?_ (hb:=by first | rfl | (simp;done) | (simp;omega))
   refine lda y5.at ?_
   refine spt (.bool false) ?_ (hb:=by first | rfl | (simp;done) | (simp;omega))
   refine cl (k_entry m a k s j hd1 hy (fun i z hi hz=>by rw [hTl i z hi hz];exact hsl) w5 (hM.bl B5)) ?_ (hm:=fun _ _ r=>mdW_bl r.2)
   rintro _ w6 ⟨⟨be,rfl,hbe⟩,B6⟩
   cases be with
   | false =>
    refine brt ?_ (hp:=by first | rfl | (simp;done) | (simp;omega))
    refine rt1 ⟨⟨false,rfl,noE fun q => ?_⟩,B5.trans B6⟩
    obtain ⟨y',z,e1,e2,e3,e4⟩:=q.own hv0
    rw [Int.toNat_natCast,hy] at e1;obtain rfl:=Option.some.inj e1
    have:=hbe.2 ⟨z,e2,e3,e4⟩
    cases this
   | true =>
    refine brf ?_ (hp:=by first | rfl | (simp;done) | (simp;omega))
    refine ld ((Bl.box B6 x5).cell rfl) ?_
    refine spn (.slice none 0 0) ?_ (hb:=by first | rfl | (simp;done) | (simp;omega))
    refine spn (I 0) ?_ (hb:=by first | rfl | (simp;done) | (simp;omega))
    refine spn (.pointer (some ⟨0,0,none⟩)) ?_ (hb:=by first | rfl | (simp;done) | (simp;omega))
    refine spn (.slice none 0 0) ?_ (hb:=by first | rfl | (simp;done) | (simp;omega))
    refine spn (.pointer (some ⟨0,0,none⟩)) ?_ (hb:=by first | rfl | (simp;done) | (simp;omega))
    refine spn (I 0) ?_ (hb:=by first | rfl | (simp;done) | (simp;omega))
    refine brf ?_ (hp:=by first | rfl | (simp;done) | (simp;omega))
    obtain ⟨z,e2',e3,e4⟩:=hbe.1 rfl
    have nx:=next w6 B6 ⟨by omega,by omega,fun _=>⟨y,z,by rw [Int.toNat_natCast];exact hy,e2',e3,e4⟩,fun h=>by omega⟩
    exact ih hsl ⟨rfl,nx.1,nx.2⟩
  ·refine spn (.agg (modcells m a).toArray) ?_ (hb:=by first | rfl | (simp;done) | (simp;omega))
   refine spn (.bool false) ?_ (hb:=by first | rfl | (simp;done) | (simp;omega))
   refine brf ?_ (hp:=by first | rfl | (simp;done) | (simp;omega))
   refine ld (x5.cell rfl) ?_
   by_cases hs0:0<=c.super
   ·obtain ⟨j,hj⟩:=Int.eq_ofNat_of_zero_le hs0
    obtain ⟨u,b8,o8,cs8,hu,e8,_,hA8,a9,c9,a10,c10,rfl,hF8,hT8,_⟩:=at_some (hM.bl B5).cls (i:=j) (by omega)
    have huj:m.classes[c.super.toNat]? = some u:=by rw [hj,Int.toNat_natCast];exact hu
    have hlu:=hTl j u (by omega) hu
    obtain ⟨q,b11,o11,cs11,hq,e11,_,hA11,rfl⟩:=at_some hT8 (i:=s) (by omega)
    refine ldg (fun _=>y5.cell rfl) ?_
    refine ldg (fun _=>x5.cell rfl) ?_
    rw [e8]
    refine spt (.pointer (some ⟨0,0,none⟩)) ?_ (hb:=by first | rfl | (simp;done) | (simp;omega))
    refine ix (j:=j) ?_ (hij:=hj) (hb:=by omega)
    refine ldg (fun _=>hA8 3 _ rfl) ?_
    rw [e11]
    refine spt (.pointer (some ⟨0,0,none⟩)) ?_ (hb:=by first | rfl | (simp;done) | (simp;omega))
    refine ix (j:=s) ?_ (hb:=by omega)
    refine ldg (fun _=>hA11 0 _ rfl) ?_
    by_cases hq0:0<=q
    ·refine brt ?_ (hp:=by first | rfl | (simp;done) | (simp;omega))
     exact rt1 ⟨⟨false,rfl,noE fun e=>by have:=e.up (by omega) hs0 u q huj hq;omega⟩,B5⟩
    ·refine brf ?_ (hp:=by first | rfl | (simp;done) | (simp;omega))
     have nx:=next w5 (Bl.refl _) ⟨by omega,by omega,fun h=>by omega,fun _ hs' y z hy hz=>by rw [huj] at hy;obtain rfl:=Option.some.inj hy;rw [hq] at hz;obtain rfl:=Option.some.inj hz;omega⟩
     exact ih hsl ⟨rfl,nx.1,nx.2⟩
   ·refine spn (.slice none 0 0) ?_ (hb:=by first | rfl | (simp;done) | (simp;omega))
    refine spn (I 0) ?_ (hb:=by first | rfl | (simp;done) | (simp;omega))
    refine spn (.pointer (some ⟨0,0,none⟩)) ?_ (hb:=by first | rfl | (simp;done) | (simp;omega))
    refine spn (.slice none 0 0) ?_ (hb:=by first | rfl | (simp;done) | (simp;omega))
    refine spn (.pointer (some ⟨0,0,none⟩)) ?_ (hb:=by first | rfl | (simp;done) | (simp;omega))
    refine spn (I 0) ?_ (hb:=by first | rfl | (simp;done) | (simp;omega))
    refine brf ?_ (hp:=by first | rfl | (simp;done) | (simp;omega))
    have nx:=next w5 (Bl.refl _) ⟨by omega,by omega,fun h=>by omega,fun _ hs' y z hy hz=>absurd hs' hs0⟩
    exact ih hsl ⟨rfl,nx.1,nx.2⟩
 refine brF ?_
 clear ih
 have hent:∀ s n,c.table[s]? = some n->EntP m k c s n:=fun i x hx=>hen i x (by have:=(List.getElem?_eq_some_iff.1 hx).1;omega) hx
 have yes:(0<=c.super->∀ y,m.classes[c.super.toNat]? = some y->y.fields.length<=c.fields.length/\c.fields.take y.fields.length=y.fields)->ClsP m k c:=fun h=>⟨by omega,by omega,by omega,List.all_eq_true.1 hft,htl,hent,h⟩
 refine ld (x5.cell rfl) ?_
 by_cases hs0:0<=c.super
 rotate_left
 ·refine brT ?_
  exact rt1 ⟨⟨true,rfl,⟨fun _=>yes fun h=>absurd h hs0,fun _=>rfl⟩⟩,B5⟩
 refine brF ?_
 obtain ⟨j,hj⟩:=Int.eq_ofNat_of_zero_le hs0
 obtain ⟨u,b6,o6,cs6,hu,e6,_,hA6,a7,c7,a8,c8,rfl,hF6,hT6,_⟩:=at_some (hM.bl B5).cls (i:=j) (by omega)
 have q3:=hF6.big
 have huj:m.classes[c.super.toNat]? = some u:=by rw [hj,Int.toNat_natCast];exact hu
 refine ld (y5.cell rfl) ?_
 refine ld (x5.cell rfl) ?_
 rw [e6]
 refine ix (j:=j) ?_ (hij:=hj) (hb:=by omega)
 refine ld (hA6 2 _ rfl) ?_
 refine ld (x5.cell rfl) ?_
 by_cases hle:u.fields.length<=c.fields.length
 ·refine ldg (fun _=>x5.cell rfl) ?_
  refine spt (.slice none 0 0) ?_ (hb:=by first | rfl | (simp;done) | (simp;omega))
  refine sl 0 u.fields.length ?_
  refine spt (.bool false) ?_ (hb:=by first | rfl | (simp;done) | (simp;omega))
  have eF:Sl eTy T w5 (if c3=0 then a3 else a3.map (·.add (0*2))) (c.fields.take u.fields.length):=by
   have e:(if c3=0 then a3 else a3.map (·.add (0*2)))=a3:=by
    split
    ·rfl
    ·cases a3 <;> simp [Addr.add]
   rw [e]
   exact (hF.bl B15).take _
  have el:u.fields.length-0=(c.fields.take u.fields.length).length:=by rw [List.length_take];omega
  rw [el]
  refine cl (l_EqualT u.fields (c.fields.take u.fields.length) a7 _ c7 _ w5 hF6 eF) ?_
  rintro _ w6 ⟨rfl,B6⟩
  refine rt1 ⟨⟨decide (u.fields=c.fields.take u.fields.length),congrArg Value.bool ?_,?_⟩,B5.trans B6⟩
  ·first | rfl | (simp;done) | (simp;omega)
  ·rw [decide_eq_true_eq]
   constructor
   ·intro h;exact yes fun _ y hy=>by rw [huj] at hy;obtain rfl:=Option.some.inj hy;exact ⟨hle,h.symm⟩
   ·intro h;exact (h.up hs0 u huj).2.symm
 ·refine ldg (fun _=>x5.cell rfl) ?_
  refine spn (.slice none 0 0) ?_ (hb:=by first | rfl | (simp;done) | (simp;omega))
  refine spn (.bool false) ?_ (hb:=by first | rfl | (simp;done) | (simp;omega))
  refine rt1 ⟨⟨false,congrArg Value.bool ?_,no fun q=>hle (q.up hs0 u huj).1⟩,B5⟩
  first | rfl | (simp;done) | (simp;omega)
end Go.Proofs.YtdjkoljonlcemaaGreat

/- Walks: the operands of a module's instructions, in the document. -/
namespace Go.Proofs.YtdjkoljonlcemaaGreat
open Eng Go.RowKit
theorem opr_nul {m:Mod} {k:Nat} {i:Ins} (h:i.op=12):oprB m k i=(decide (i.a=3)||decide (i.b<m.classes.length)):=by unfold oprB;rw [if_pos h]
theorem opr_new {m:Mod} {k:Nat} {i:Ins} (h:i.op=14∨i.op=24):oprB m k i=decide (i.a<m.classes.length):=by unfold oprB;rw [if_neg (by omega),if_pos h]
theorem opr_rfs {m:Mod} {k:Nat} {i:Ins} (h:i.op=16):oprB m k i=decide (i.b<m.classes.length):=by unfold oprB;rw [if_neg (by omega),if_neg (by omega),if_pos h]
theorem opr_sta {m:Mod} {k:Nat} {i:Ins} (h:i.op=22∨i.op=23):oprB m k i=decide (i.a<m.statics.length):=by unfold oprB;rw [if_neg (by omega),if_neg (by omega),if_neg (by omega),if_pos h]
theorem opr_cal {m:Mod} {k:Nat} {i:Ins} (h:i.op=25):oprB m k i=(decide (i.a<k)&&decide (mcl m i.a = -1)):=by unfold oprB;rw [if_neg (by omega),if_neg (by omega),if_neg (by omega),if_neg (by omega),if_pos h]
theorem opr_snd {m:Mod} {k:Nat} {i:Ins} (h:i.op=26):oprB m k i=(decide (i.a<m.sels)&&(trgM m i.a.toNat).all fun t=>decide (t<k)):=by unfold oprB;rw [if_neg (by omega),if_neg (by omega),if_neg (by omega),if_neg (by omega),if_neg (by omega),if_pos h]
theorem opr_no {m:Mod} {k:Nat} {i:Ins} (h1:¬i.op=12) (h2:¬(i.op=14∨i.op=24)) (h3:¬i.op=16) (h4:¬(i.op=22∨i.op=23)) (h5:¬i.op=25) (h6:¬i.op=26):oprB m k i=true:=by unfold oprB;rw [if_neg h1,if_neg h2,if_neg h3,if_neg h4,if_neg h5,if_neg h6]
theorem val_call {i:Ins} (hv:validI i false=true) (h:i.op=25∨i.op=26):0<=i.a:=by
 obtain ⟨op,a,b⟩:=i
 simp only at h ⊢
 rcases h with rfl | rfl <;> (simp [validI,inR,rngs,mosts] at hv;omega)
theorem asc_last {l:List Int} (h:AscI l) {k:Int} {x:Int} (hx:l[l.length-1]? = some x):(l.all fun t=>decide (t<k))=decide (x<k):=by
 refine Bool.eq_iff_iff.2 ?_
 rw [List.all_eq_true,decide_eq_true_eq]
 refine ⟨fun q=>of_decide_eq_true (q x (List.mem_of_getElem? hx)),fun q y hy=>decide_eq_true ?_⟩
 obtain ⟨i,hi⟩:=List.mem_iff_getElem?.1 hy
 obtain ⟨h1,rfl⟩:=List.getElem?_eq_some_iff.1 hi
 obtain ⟨h2,rfl⟩:=List.getElem?_eq_some_iff.1 hx
 rcases Nat.lt_or_ge i (l.length-1) with p | p
 ·have:=List.pairwise_iff_getElem.1 h i (l.length-1) h1 h2 p
  omega
 ·have e:i=l.length-1:=by omega
  subst e;exact q
theorem r5_operand (m:Mod) (a:MA) (k:Nat) (i:Ins) (hv:validI i false=true) (hk:k<=m.methods.length) (hT:∀ c∈m.classes,(c.table.length:Int)=m.sels) (w:World) (hM:MdR T w m a) :
  Ret Tryz.prog 137 #[.agg (modcells m a).toArray,I k,.agg (encIns i).toArray] w fun v w'=>v = .bool (oprB m k i)/\Bl w w':=by
 have hbig:=hM.cls.big
 refine entr (vs:=[.agg (modcells m a).toArray,I k,.agg (encIns i).toArray]) [0,1,2,3,5,6,7,9,10,23,32,40,49,65,71] tabok Tryz.func137 (by kernel_rfl) ?_
 refine bx (cs:=modcells m a) fun b1 w1 k1 => ?_
 refine bx (cs:=encIns i) fun b2 w2 k2 => ?_
 have B2:=k1.bl.trans k2.bl
 have x1:=Bl.box k2.bl k1.box
 have x2:=k2.box
 refine ld (x2.cell rfl) ?_
 by_cases h12:i.op=12
 ·refine brT ?_ (hp:=h12)
  refine ld (x2.cell rfl) ?_
  refine ldg (fun _=>x2.cell rfl) ?_
  refine ldg (fun _=>x1.cell rfl) ?_
  refine rt1 ⟨congrArg Value.bool (opr_nul h12).symm,B2⟩
 refine brF ?_ (hp:=h12)
 by_cases h14:i.op=14
 ·refine brT ?_ (hp:=h14)
  refine brT ?_ (hp:=h14)
  refine ld (x2.cell rfl) ?_
  refine ld (x1.cell rfl) ?_
  refine rt1 ⟨congrArg Value.bool (opr_new (.inl h14)).symm,B2⟩
 refine brF ?_ (hp:=h14)
 by_cases h24:i.op=24
 ·refine brT ?_ (hp:=h24)
  refine ld (x2.cell rfl) ?_
  refine ld (x1.cell rfl) ?_
  refine rt1 ⟨congrArg Value.bool (opr_new (.inr h24)).symm,B2⟩
 refine brF ?_ (hp:=h24)
 by_cases h16:i.op=16
 ·refine brT ?_ (hp:=h16)
  refine ld (x2.cell rfl) ?_
  refine ld (x1.cell rfl) ?_
  refine rt1 ⟨congrArg Value.bool (opr_rfs h16).symm,B2⟩
 refine brF ?_ (hp:=h16)
 by_cases h22:i.op=22
 ·refine brT ?_ (hp:=h22)
  refine brT ?_ (hp:=h22)
  refine ld (x2.cell rfl) ?_
  refine ld (x1.cell rfl) ?_
  refine rt1 ⟨congrArg Value.bool (opr_sta (.inl h22)).symm,B2⟩
 refine brF ?_ (hp:=h22)
 by_cases h23:i.op=23
 ·refine brT ?_ (hp:=h23)
  refine ld (x2.cell rfl) ?_
  refine ld (x1.cell rfl) ?_
  refine rt1 ⟨congrArg Value.bool (opr_sta (.inr h23)).symm,B2⟩
 refine brF ?_ (hp:=h23)
 by_cases h25:i.op=25
 ·refine brT ?_ (hp:=h25)
  have h0:=val_call hv (.inl h25)
  refine ld (x2.cell rfl) ?_
  by_cases hlt:i.a<k
  ·obtain ⟨j,hj⟩:=Int.eq_ofNat_of_zero_le h0
   obtain ⟨y,b,o,cs,hy,e2,_,hAt,a3,c3,a4,c4,a5,c5,rfl,_⟩:=at_some (hM.bl B2).mth (i:=j) (by omega)
   refine ldg (fun _=>x1.cell rfl) ?_
   refine ldg (fun _=>x2.cell rfl) ?_
   rw [e2]
   refine ixg (j:=j) (len:=m.methods.length) (fun _=>by omega) ?_ (hij:=hj)
   refine ldg (fun _=>hAt 1 _ rfl) ?_
   refine rt1 ⟨congrArg Value.bool ?_,B2⟩
   rw [opr_cal h25]
   congr 1
   unfold mcl
   rw [hj,Int.toNat_natCast,hy];rfl
  ·refine spn (.slice none 0 0) ?_ (hb:=by simp;omega)
   refine spn (I 0) ?_ (hb:=by simp;omega)
   refine spn (.pointer (some ⟨0,0,none⟩)) ?_ (hb:=by simp;omega)
   refine spn (I 0) ?_ (hb:=by simp;omega)
   refine rt1 ⟨congrArg Value.bool ?_,B2⟩
   rw [opr_cal h25,decide_eq_false hlt];rfl
 refine brF ?_ (hp:=h25)
 by_cases h26:i.op=26
 ·refine brT ?_ (hp:=h26)
  have h0:=val_call hv (.inr h26)
  refine ld (x2.cell rfl) ?_
  refine ld (x1.cell rfl) ?_
  by_cases hlt:i.a<m.sels
  ·refine brF ?_
   obtain ⟨j,hj⟩:=Int.eq_ofNat_of_zero_le h0
   refine lda x1.at ?_
   refine ld (x2.cell rfl) ?_
   rw [hj]
   refine cl (r5_targets m a j (fun c hc=>by have:=hT c hc;omega) w2 (hM.bl B2)) ?_ (hm:=fun _ _ r=>by obtain ⟨_,_,_,_,hB⟩:=r;exact mdW_bl hB)
   rintro _ w3 ⟨a3,c3,rfl,hS,B3⟩
   have hlen:=trg_len (m:=m) j
   rw [opr_snd h26,hj,Int.toNat_natCast,decide_eq_true (show (j:Int)<m.sels by omega),Bool.true_and]
   by_cases hz:(trgM m j).length=0
   ·refine spn (.pointer (some ⟨0,0,none⟩)) ?_ (hb:=by rw [hz];rfl)
    refine spn (I 0) ?_ (hb:=by rw [hz];rfl)
    refine rt1 ⟨congrArg Value.bool ?_,B2.trans B3⟩
    rw [hz,List.eq_nil_of_length_eq_zero hz];rfl
   ·obtain ⟨x,b,o,cs,hx,e3,_,hAt,rfl⟩:=at_some hS (i:=(trgM m j).length-1) (by omega)
    have ew:IntKind.wrap .i64 (((trgM m j).length:Int)-1)=(((trgM m j).length-1:Nat):Int):=by rw [wrap_fit (by omega) (by omega)];omega
    rw [e3]
    refine ixg (j:=(trgM m j).length-1) (len:=(trgM m j).length) (fun _=>by omega) ?_ (hij:=ew)
    refine ldg (fun _=>hAt 0 _ rfl) ?_
    refine rt1 ⟨congrArg Value.bool ?_,B2.trans B3⟩
    rw [asc_last (l:=trgM m j) (srtI_asc _) hx,decide_eq_false (show ¬((trgM m j).length:Int)=0 by omega)];rfl
  ·refine brT ?_
   refine rt1 ⟨congrArg Value.bool ?_,B2⟩
   rw [opr_snd h26,decide_eq_false hlt];rfl
 refine brF ?_ (hp:=h26)
 refine rt1 ⟨congrArg Value.bool (opr_no h12 (by omega) h16 (by omega) h25 h26).symm,B2⟩
end Go.Proofs.YtdjkoljonlcemaaGreat

/- Walks: targets and operands, in the program's checker. -/
namespace Go.Proofs.YtdjkoljonlcemaaGreat
open Eng Go.RowKit
theorem sortI_len (l:List Int):(sortI l).length=l.length:=by unfold sortI;rw [List.length_mergeSort]
theorem k_targets (m:Mod) (a:MA) (s:Nat) (hT:∀ c∈m.classes,s<c.table.length) (w:World) (hM:MdR T w m a) :
  Ret Tryz.prog 177 #[.agg (modcells m a).toArray,I s] w fun v w'=>∃ a c,v = .slice a (trgM m s).length c/\OwP 1 encInt w' w.heap.size 3 a c (trgM m s)/\Bl w w':=by
 have hbig:=hM.cls.big
 refine entr (vs:=[.agg (modcells m a).toArray,I s]) [0,1,2,4,5,7,8,10,11,12,13,22] tabok Tryz.func177 (by kernel_rfl) ?_
 refine bx (cs:=modcells m a) fun b1 w1 k1 => ?_
 have x1:=k1.box
 have y1:=k1.blk
 have z1:=k1.size
 refine ld (x1.cell rfl) ?_
 obtain ⟨ac,eac⟩:∃ ac,a.a1=ac:=⟨_,rfl⟩
 rw [eac]
 refine lpk m.classes.length 12 [5] [(1,I s),(2,.pointer (some ⟨b1,0,none⟩)),(10,.slice ac m.classes.length a.c1),(11,I m.classes.length)] (fun k vals w'=>∃ a c,vals=[.slice a (rT s (m.classes.take k)).length c]/\OwP 1 encInt w' w1.heap.size 3 a c (rT s (m.classes.take k))/\Bl w1 w') ⟨none,0,rfl,Ow.nil ..,Bl.refl _⟩ ?_
 rintro k vals w2 hk ⟨a2,c2,rfl,O2,B2⟩ ih
 have B02:=k1.bl.trans B2
 have z2:=B2.size
 by_cases hlt:k<m.classes.length
 ·refine brT ?_
  obtain ⟨c,b,o,cs,hc,e2,_,hAt,a3,c3,a4,c4,rfl,_,hF,_⟩:=at_some (hM.bl B02).cls hlt
  have hcm:=List.mem_of_getElem? hc
  obtain ⟨n,b5,o5,cs5,hn,e5,_,hA5,rfl⟩:=at_some hF (hT c hcm)
  obtain rfl:ac=some ⟨b,o,none⟩:=by rw [<-eac,e2]
  refine ix ?_
  refine lda hAt ?_
  refine al fun b7 w3 h3 => ?_
  refine sta (cs':=mccells c a3 c3 a4 c4) h3.box fun w4 k4 x4 => ?_
  have B24:=h3.wr k4
  have z4:=B24.size
  refine ld (x4.cell rfl) ?_
  rw [e5]
  refine ix (j:=s) ?_ (hb:=hT c hcm)
  refine ld (hA5.bl B24 0 _ rfl) ?_
  have hl:=rT_len s (m.classes.take k)
  rw [List.length_take] at hl
  by_cases h0:0<=n
  ·refine brT ?_ (hp:=h0)
   refine bs (cs:=encInt n) fun b6 w6 k6 => ?_
   have B26:=B24.trans k6.bl
   have z6:=k6.size
   refine apl (l1:=[n]) (O2.bl B26) (.inr ⟨b6,0,rfl,k6.box.at⟩) (by omega) fun a7 c7 w7 O7 A7 _ => ?_
   have e7:rT s (m.classes.take (k+1))=rT s (m.classes.take k)++[n]:=by rw [rT_snoc hc hn,if_pos h0]
   refine ih hlt ⟨a7,c7,by rw [e7],by rw [e7];exact O7,Below.trans (B2.trans B26) (A7.below (by omega) fun g hg=>(O2.lt hg).1)⟩
  ·refine brF ?_ (hp:=h0)
   have e7:rT s (m.classes.take (k+1))=rT s (m.classes.take k):=by rw [rT_snoc hc hn,if_neg h0,List.append_nil]
   exact ih hlt ⟨a2,c2,by rw [e7],by rw [e7];exact O2.bl B24,B2.trans B24⟩
 refine brF ?_
 obtain rfl:k=m.classes.length:=by omega
 rw [List.take_length] at O2 ⊢
 have hl:=rT_len s m.classes
 refine cl (c_SortI (rT s m.classes) w1.heap.size a2 c2 w2 O2 (by omega)) ?_ (hm:=by intros;trivial)
 rintro _ w3 ⟨O3,A3⟩
 rw [show (rT s m.classes).length=(sortI (rT s m.classes)).length from (sortI_len _).symm]
 refine cl (c_CompactI (sortI (rT s m.classes)) w1.heap.size a2 c2 w3 O3 (by rw [sortI_len];omega)) ?_ (hm:=by intros;trivial)
 rintro _ w4 ⟨rfl,O4,A4⟩
 have et:Lib.compact (sortI (rT s m.classes))=trgM m s:=compactI_srt _
 rw [et] at O4 ⊢
 refine rt1 ⟨a2,c2,rfl,O4.base (by omega),?_⟩
 exact Below.trans (Below.trans B02 (A3.below B02.size fun g hg=>by have:=(O2.lt hg).1;omega)) (A4.below (by have:=A3.size;have:=B02.size;omega) fun g hg=>by have:=(O2.lt hg).1;omega)
theorem k_operand1 (x:Int) (k:Nat) (b:Nat) (w:World) (hx:w.cell? ⟨b,0,none⟩=some (I k)):Ret Tryz.prog 214 #[I x,.pointer (some ⟨b,0,none⟩)] w fun v w'=>v = .bool (decide ((k:Int)<=x))/\Bl w w':=by
 refine entr (vs:=[I x,.pointer (some ⟨b,0,none⟩)]) [0,1,3] tabok Tryz.func214 (by kernel_rfl) ?_
 refine ld hx ?_
 exact rt1 ⟨rfl,Bl.refl _⟩
end Go.Proofs.YtdjkoljonlcemaaGreat

/- Walks: the classes of a module, in the document. -/
namespace Go.Proofs.YtdjkoljonlcemaaGreat
open Eng Go.RowKit
set_option maxHeartbeats 4000000 in
theorem r5_classes (m:Mod) (a:MA) (w:World) (hM:MdR T w m a) (hc10:m.classes.length<=10) (_hm16:m.methods.length<=16) (hz0:0<=m.sels) (hz1:m.sels<=16) :
  Ret Tryz.prog 86 #[.agg (modcells m a).toArray] w fun v w'=>(∃ b,v = .bool b/\(b=true↔∀ k x,m.classes[k]? = some x->ClsP m k x))/\Bl w w':=by
 refine entr (vs:=[.agg (modcells m a).toArray]) [0,1,2,3,4,5,6,7,12,49,52,75,79,117,170] tabok Tryz.func86 (by kernel_rfl) ?_
 refine bx (cs:=modcells m a) fun b1 w1 k1 => ?_
 have x1:=k1.box
 refine lpk m.classes.length 3 [] [(1,.pointer (some ⟨b1,0,none⟩))] (fun k vals w'=>vals=[]/\(∀ i x,i<k->m.classes[i]? = some x->ClsP m i x)/\Bl w1 w') ⟨rfl,fun i x h=>by omega,Bl.refl _⟩ ?_
 rintro k vals w2 hk ⟨rfl,hP,B2⟩ ih
 have y2:=Bl.box B2 x1
 have B02:=k1.bl.trans B2
 refine ld (y2.cell rfl) ?_
 by_cases hlt:k<m.classes.length
 rotate_left
 ·refine brF ?_
  exact rt1 ⟨⟨true,rfl,⟨fun _ i x hx=>hP i x (by have:=(List.getElem?_eq_some_iff.1 hx).1;omega) hx,fun _=>rfl⟩⟩,B02⟩
 refine brT ?_
 have hd:Desc m k:=desc_of (by omega) hP
 obtain ⟨c,b,o,cs,hc,e2,_,hAt,a3,c3,a4,c4,rfl,hF,hTb,_,hcap⟩:=at_some (hM.bl B02).cls hlt
 have no:(ClsP m k c->False)->(false=true↔∀ k x,m.classes[k]? = some x->ClsP m k x):=fun h=>⟨(fun q=>(by cases q)),fun q=>(h (q k c hc)).elim⟩
 refine ld (y2.cell rfl) ?_
 rw [e2]
 refine ix ?_
 refine lda hAt ?_
 refine al fun b4 w3 h3 => ?_
 refine sta (cs':=mccells c a3 c3 a4 c4) h3.box fun w4 k4 x4 => ?_
 have B24:=h3.wr k4
 have B4:=B2.trans B24
 have B04:=k1.bl.trans B4
 have y4:=Bl.box B24 y2
 have q1:=hF.big
 have q2:=hTb.big
 refine ld (x4.cell rfl) ?_
 refine ldg (fun _=>x4.cell rfl) ?_
 refine ldg (fun _=>x4.cell rfl) ?_
 by_cases hA:c.super < -1∨(k:Int)<=c.super∨7<(c.fields.length:Int)
 ·refine spn (.agg (modcells m a).toArray) ?_ (hb:=by first | rfl | (simp;done) | (simp;omega))
  refine ldg (fun _=>x4.cell rfl) ?_
  refine spn (.bool false) ?_ (hb:=by first | rfl | (simp;done) | (simp;omega))
  refine ldg (fun _=>x4.cell rfl) ?_
  refine ldg (fun _=>y4.cell rfl) ?_
  refine brt ?_ (hp:=by first | rfl | (simp;done) | (simp;omega))
  exact rt1 ⟨⟨false,rfl,no fun q=>by have:=q.s1;have:=q.s2;have:=q.fl;omega⟩,B04⟩
 refine spt (.agg (modcells m a).toArray) ?_ (hb:=by first | rfl | (simp;done) | (simp;omega))
 refine lda y4.at ?_
 refine ldg (fun _=>x4.cell rfl) ?_
 refine spt (.bool false) ?_
 refine cl (r5_types m a c.fields a3 c3 w4 (hF.bl B24)) ?_
 rintro _ w5 ⟨rfl,B45⟩
 have B5:=B4.trans B45
 have B05:=B04.trans B45
 have y5:=Bl.box B45 y4
 have x5:=Bl.box B45 x4
 refine ldg (fun _=>x5.cell rfl) ?_
 refine ldg (fun _=>y5.cell rfl) ?_
 refine br (fun h => ?_) (fun h => ?_)
 ·refine rt1 ⟨⟨false,rfl,no fun q => ?_⟩,B05⟩
  rw [List.all_eq_true.2 q.ft] at h
  simp [q.tl] at h
 have hft:(c.fields.all fun t=>ityp m t 1)=true:=by
  cases hb:c.fields.all fun t=>ityp m t 1 with
  | true=>rfl
  | false=>rw [hb] at h;simp at h
 have htl:(c.table.length:Int)=m.sels:=by
  rw [hft] at h;simpa using h
 clear h
 refine ld (x5.cell rfl) ?_
 obtain ⟨n,hn⟩:=Int.eq_ofNat_of_zero_le hz0
 apply Eng.jlk n 6 [] [(1,.pointer (some ⟨b1,0,none⟩)),(3,I k),(4,.pointer (some ⟨b4,0,none⟩))] (fun s vals w'=>vals=[]/\(0<=c.super->∀ y,m.classes[c.super.toNat]? = some y->y.fields.length<=c.fields.length/\c.fields.take y.fields.length=y.fields) /\
  (∀ (i:Nat) x,i<s->c.table[i]? = some x->EntP m k c i x)/\Bl w5 w') (hn:=by omega)
 case hb =>
  intro J
  by_cases hs:0<=c.super
  ·refine brT ?_
   obtain ⟨j,hj⟩:=Int.eq_ofNat_of_zero_le hs
   obtain ⟨u,b6,o6,cs6,hu,e6,_,hA6,a7,c7,a8,c8,rfl,hF6,hT6,_⟩:=at_some (hM.bl B05).cls (i:=j) (by omega)
   have q3:=hF6.big
   have huj:m.classes[c.super.toNat]? = some u:=by rw [hj,Int.toNat_natCast];exact hu
   refine ld (y5.cell rfl) ?_
   refine ld (x5.cell rfl) ?_
   rw [e6]
   refine ix (j:=j) ?_ (hij:=hj) (hb:=by omega)
   refine ld (hA6 2 _ rfl) ?_
   refine ld (x5.cell rfl) ?_
   by_cases hle:u.fields.length<=c.fields.length
   ·refine ldg (fun _=>x5.cell rfl) ?_
    refine spt (.slice none 0 0) ?_ (hb:=by first | rfl | (simp;done) | (simp;omega))
    refine sl 0 u.fields.length ?_
    refine spt (.bool false) ?_
    have eF:Sl eTy T w5 (if c3=0 then a3 else a3.map (·.add (0*2))) (c.fields.take u.fields.length):=by
     have e:(if c3=0 then a3 else a3.map (·.add (0*2)))=a3:=by
      split
      ·rfl
      ·cases a3 <;> simp [Addr.add]
     rw [e]
     exact ((hF.bl B24).bl B45).take _
    have el:u.fields.length-0=(c.fields.take u.fields.length).length:=by rw [List.length_take];omega
    rw [el]
    refine cl (r_SameTypes u.fields (c.fields.take u.fields.length) a7 _ c7 _ w5 hF6 eF) ?_
    rintro _ w6 ⟨rfl,B6⟩
    refine br (fun h => ?_) (fun h => ?_)
    ·refine rt1 ⟨⟨false,rfl,no fun q => ?_⟩,B05.trans B6⟩
     have:=(q.up hs u huj).2
     rw [this] at h
     simp at h
     try omega
    ·have e7:u.fields=c.fields.take u.fields.length:=by
      cases hd:decide (u.fields=c.fields.take u.fields.length) with
      | true=>exact of_decide_eq_true hd
      | false=>rw [hd] at h;simp at h
     exact J ⟨rfl,fun _ y hy=>by rw [huj] at hy;obtain rfl:=Option.some.inj hy;exact ⟨hle,e7.symm⟩,fun i x h=>by omega,B6⟩
   ·refine ldg (fun _=>x5.cell rfl) ?_
    refine spn (.slice none 0 0) ?_ (hb:=by first | rfl | (simp;done) | (simp;omega))
    refine spn (.bool false) ?_ (hb:=by first | rfl | (simp;done) | (simp;omega))
    refine brt ?_ (hp:=by first | rfl | (simp;done) | (simp;omega))
    exact rt1 ⟨⟨false,rfl,no fun q=>hle (q.up hs u huj).1⟩,B05⟩
  ·refine brF ?_
   exact J ⟨rfl,fun h=>absurd h hs,fun i x h=>by omega,Bl.refl _⟩
 case hr =>
  rintro s vals w6 hs16 ⟨rfl,hup,hen,B6⟩ ih2
  have y6:=Bl.box B6 y5
  have x6:=Bl.box B6 x5
  have B06:=B05.trans B6
  refine ld (y6.cell rfl) ?_
  by_cases hsl:s<n
  rotate_left
  ·refine brF ?_ (hp:=by omega)
   refine ih hlt ⟨rfl,fun i x hi hx => ?_,B5.trans B6⟩
   rcases Nat.lt_or_ge i k with q | q
   ·exact hP i x q hx
   ·obtain rfl:i=k:=by omega
    rw [hc] at hx
    obtain rfl:=Option.some.inj hx
    exact ⟨by omega,by omega,by omega,List.all_eq_true.1 hft,htl,fun s' n' h=>hen s' n' (by have:=(List.getElem?_eq_some_iff.1 h).1;omega) h,hup⟩
  refine brT ?_ (hp:=by omega)
  have hTb6:=((hTb.bl B24).bl B45).bl B6
  obtain ⟨v,b7,o7,cs7,hv,e7,_,hA7,rfl⟩:=at_some hTb6 (i:=s) (by omega)
  refine ld (x6.cell rfl) ?_
  rw [e7]
  refine ix ?_ (hb:=by omega)
  refine ld (hA7 0 _ rfl) ?_
  have noE:(EntP m k c s v->False)->(false=true↔∀ k x,m.classes[k]? = some x->ClsP m k x):=fun h=>no fun q=>h (q.tb s v hv)
  refine ldg (fun _=>y6.cell rfl) ?_
  have next:∀ w9,Bl w6 w9->EntP m k c s v->(∀ (i:Nat) x,i<s+1->c.table[i]? = some x->EntP m k c i x)/\Bl w5 w9:=fun w9 B9 he=>⟨fun i x hi hx=>by
   rcases Nat.lt_or_ge i s with q | q
   ·exact hen i x q hx
   ·obtain rfl:i=s:=by omega
    rw [hv] at hx;obtain rfl:=Option.some.inj hx;exact he,B6.trans B9⟩
  have hd1:Desc m (k+1):=⟨by omega,fun i x hi hx=>by
   rcases Nat.lt_or_ge i k with q | q
   ·exact hd.2 i x q hx
   ·obtain rfl:i=k:=by omega
    rw [hc] at hx;obtain rfl:=Option.some.inj hx;exact ⟨by omega,by omega⟩⟩
  by_cases hA:v < -1∨(m.methods.length:Int)<=v
  ·refine spn2 (I 0) ?_ (hn:=by first | (simp;done) | (simp;omega))
   refine spn2 (.slice none 0 0) ?_ (hn:=by first | (simp;done) | (simp;omega))
   refine spn2 (I 0) ?_ (hn:=by first | (simp;done) | (simp;omega))
   refine spn2 (.pointer (some ⟨0,0,none⟩)) ?_ (hn:=by first | (simp;done) | (simp;omega))
   refine spn2 (.slice none 0 0) ?_ (hn:=by first | (simp;done) | (simp;omega))
   refine spn2 (.pointer (some ⟨0,0,none⟩)) ?_ (hn:=by first | (simp;done) | (simp;omega))
   refine spn2 (I 0) ?_ (hn:=by first | (simp;done) | (simp;omega))
   refine brt ?_ (hp:=by first | rfl | (simp;done) | (simp;omega))
   exact rt1 ⟨⟨false,rfl,noE fun q=>by have:=q.lo;have:=q.hi;omega⟩,B06⟩
  by_cases hneg:v = -1
  ·refine ldg2 (fun _ _=>x6.cell rfl) ?_
   by_cases hs:0<=c.super
   ·obtain ⟨j,hj⟩:=Int.eq_ofNat_of_zero_le hs
    obtain ⟨u,b8,o8,cs8,hu,e8,_,hA8,a9,c9,a10,c10,rfl,hF8,hT8,_⟩:=at_some (hM.bl B06).cls (i:=j) (by omega)
    have huj:m.classes[c.super.toNat]? = some u:=by rw [hj,Int.toNat_natCast];exact hu
    have hPu:=hP j u (by omega) hu
    have hlu:u.table.length=n:=by have:=hPu.tl;omega
    obtain ⟨q,b11,o11,cs11,hq,e11,_,hA11,rfl⟩:=at_some hT8 (i:=s) (by omega)
    have hql:=(hPu.tb s q hq).lo
    refine ldg2 (fun _ _=>y6.cell rfl) ?_
    refine ldg2 (fun _ _=>x6.cell rfl) ?_
    rw [e8]
    refine spt2 (.pointer (some ⟨0,0,none⟩)) ?_ (hy:=by first | (simp;done) | (simp;omega))
    refine ix (j:=j) ?_ (hij:=hj) (hb:=by omega)
    refine ldg (fun _=>hA8 3 _ rfl) ?_
    rw [e11]
    refine spt (.pointer (some ⟨0,0,none⟩)) ?_ (hb:=by first | rfl | (simp;done) | (simp;omega))
    refine ix (j:=s) ?_ (hb:=by omega)
    refine ldg (fun _=>hA11 0 _ rfl) ?_
    by_cases hq1:q = -1
    ·refine brf ?_ (hp:=by first | rfl | (simp;done) | (simp;omega))
     refine dh T (List.range 53) fun w8 h8 => ?_
     refine spn (.slice none 0 0) ?_ (hb:=by first | rfl | (simp;done) | (simp;omega))
     refine spn (.pointer (some ⟨0,0,none⟩)) ?_ (hb:=by first | rfl | (simp;done) | (simp;omega))
     refine spn (I 0) ?_ (hb:=by first | rfl | (simp;done) | (simp;omega))
     refine spn2 (.slice none 0 0) ?_ (hn:=by first | (simp;done) | (simp;omega))
     refine spn2 (.pointer (some ⟨0,0,none⟩)) ?_ (hn:=by first | (simp;done) | (simp;omega))
     refine spn2 (I 0) ?_ (hn:=by first | (simp;done) | (simp;omega))
     refine spn2 (.slice none 0 0) ?_ (hn:=by first | (simp;done) | (simp;omega))
     refine spn2 (.agg (modcells m a).toArray) ?_ (hn:=by first | (simp;done) | (simp;omega))
     refine spn2 (.slice none 0 0) ?_ (hn:=by first | (simp;done) | (simp;omega))
     refine spn2 (.pointer (some ⟨0,0,none⟩)) ?_ (hn:=by first | (simp;done) | (simp;omega))
     refine spn2 (I 0) ?_ (hn:=by first | (simp;done) | (simp;omega))
     refine spn2 (.bool false) ?_ (hn:=by first | (simp;done) | (simp;omega))
     refine spn2 (.slice none 0 0) ?_ (hn:=by first | (simp;done) | (simp;omega))
     refine spn2 (.slice none 0 0) ?_ (hn:=by first | (simp;done) | (simp;omega))
     refine spn2 (.pointer (some ⟨0,0,none⟩)) ?_ (hn:=by first | (simp;done) | (simp;omega))
     refine spn2 (I 0) ?_ (hn:=by first | (simp;done) | (simp;omega))
     refine spn2 (.pointer (some ⟨0,0,none⟩)) ?_ (hn:=by first | (simp;done) | (simp;omega))
     refine spn2 (.slice none 0 0) ?_ (hn:=by first | (simp;done) | (simp;omega))
     refine spn2 (.pointer (some ⟨0,0,none⟩)) ?_ (hn:=by first | (simp;done) | (simp;omega))
     refine spn2 (I 0) ?_ (hn:=by first | (simp;done) | (simp;omega))
     refine brf ?_ (hp:=by first | rfl | (simp;done) | (simp;omega))
     have nx:=next w8 h8.bl (⟨by omega,by omega,fun h=>by omega,fun _ hs' y z hy hz=>by rw [huj] at hy;obtain rfl:=Option.some.inj hy;rw [hq] at hz;obtain rfl:=Option.some.inj hz;omega⟩)
     exact ih2 hsl ⟨rfl,hup,nx.1,nx.2⟩
    ·refine brt ?_ (hp:=by first | rfl | (simp;done) | (simp;omega))
     exact rt1 ⟨⟨false,rfl,noE fun e=>by have:=e.up (by omega) hs u q huj hq;omega⟩,B06⟩
   ·refine spn2 (.slice none 0 0) ?_ (hn:=by first | (simp;done) | (simp;omega))
    refine spn2 (I 0) ?_ (hn:=by first | (simp;done) | (simp;omega))
    refine spn2 (.pointer (some ⟨0,0,none⟩)) ?_ (hn:=by first | (simp;done) | (simp;omega))
    refine spn2 (.slice none 0 0) ?_ (hn:=by first | (simp;done) | (simp;omega))
    refine spn2 (.pointer (some ⟨0,0,none⟩)) ?_ (hn:=by first | (simp;done) | (simp;omega))
    refine spn2 (I 0) ?_ (hn:=by first | (simp;done) | (simp;omega))
    refine brf ?_ (hp:=by first | rfl | (simp;done) | (simp;omega))
    refine dh T (List.range 53) fun w8 h8 => ?_
    refine spn (.slice none 0 0) ?_ (hb:=by first | rfl | (simp;done) | (simp;omega))
    refine spn (.pointer (some ⟨0,0,none⟩)) ?_ (hb:=by first | rfl | (simp;done) | (simp;omega))
    refine spn (I 0) ?_ (hb:=by first | rfl | (simp;done) | (simp;omega))
    refine spn2 (.slice none 0 0) ?_ (hn:=by first | (simp;done) | (simp;omega))
    refine spn2 (.pointer (some ⟨0,0,none⟩)) ?_ (hn:=by first | (simp;done) | (simp;omega))
    refine spn2 (I 0) ?_ (hn:=by first | (simp;done) | (simp;omega))
    refine spn2 (.slice none 0 0) ?_ (hn:=by first | (simp;done) | (simp;omega))
    refine spn2 (.agg (modcells m a).toArray) ?_ (hn:=by first | (simp;done) | (simp;omega))
    refine spn2 (.slice none 0 0) ?_ (hn:=by first | (simp;done) | (simp;omega))
    refine spn2 (.pointer (some ⟨0,0,none⟩)) ?_ (hn:=by first | (simp;done) | (simp;omega))
    refine spn2 (I 0) ?_ (hn:=by first | (simp;done) | (simp;omega))
    refine spn2 (.bool false) ?_ (hn:=by first | (simp;done) | (simp;omega))
    refine spn2 (.slice none 0 0) ?_ (hn:=by first | (simp;done) | (simp;omega))
    refine spn2 (.slice none 0 0) ?_ (hn:=by first | (simp;done) | (simp;omega))
    refine spn2 (.pointer (some ⟨0,0,none⟩)) ?_ (hn:=by first | (simp;done) | (simp;omega))
    refine spn2 (I 0) ?_ (hn:=by first | (simp;done) | (simp;omega))
    refine spn2 (.pointer (some ⟨0,0,none⟩)) ?_ (hn:=by first | (simp;done) | (simp;omega))
    refine spn2 (.slice none 0 0) ?_ (hn:=by first | (simp;done) | (simp;omega))
    refine spn2 (.pointer (some ⟨0,0,none⟩)) ?_ (hn:=by first | (simp;done) | (simp;omega))
    refine spn2 (I 0) ?_ (hn:=by first | (simp;done) | (simp;omega))
    refine brf ?_ (hp:=by first | rfl | (simp;done) | (simp;omega))
    have nx:=next w8 h8.bl (⟨by omega,by omega,fun h=>by omega,fun _ hs' y z hy hz=>absurd hs' hs⟩)
    exact ih2 hsl ⟨rfl,hup,nx.1,nx.2⟩
  ·refine spn2 (I 0) ?_ (hn:=by first | (simp;done) | (simp;omega))
   refine spn2 (.slice none 0 0) ?_ (hn:=by first | (simp;done) | (simp;omega))
   refine spn2 (I 0) ?_ (hn:=by first | (simp;done) | (simp;omega))
   refine spn2 (.pointer (some ⟨0,0,none⟩)) ?_ (hn:=by first | (simp;done) | (simp;omega))
   refine spn2 (.slice none 0 0) ?_ (hn:=by first | (simp;done) | (simp;omega))
   refine spn2 (.pointer (some ⟨0,0,none⟩)) ?_ (hn:=by first | (simp;done) | (simp;omega))
   refine spn2 (I 0) ?_ (hn:=by first | (simp;done) | (simp;omega))
   refine brf ?_ (hp:=by first | rfl | (simp;done) | (simp;omega))
   have hv0:0<=v:=by omega
   obtain ⟨j,hj⟩:=Int.eq_ofNat_of_zero_le hv0
   obtain ⟨y,b8,o8,cs8,hy,e8,_,hA8,a9,c9,a10,c10,a11,c11,rfl,_⟩:=at_some (hM.bl B06).mth (i:=j) (by omega)
   have hyj:m.methods[v.toNat]? = some y:=by rw [hj,Int.toNat_natCast];exact hy
   refine dh T (List.range 53) fun w8 h8 => ?_
   have y8:=h8.box y6
   have B68:=h8.bl
   have B08:=B06.trans B68
   have hA88:=hA8.bl B68
   refine ldg (fun _=>y8.cell rfl) ?_ (hm:=trivial)
   rw [e8]
   refine ixg (j:=j) (len:=m.methods.length) (fun _=>by omega) ?_ (hij:=hj)
   refine ldg (fun _=>hA88 1 _ rfl) ?_ (hm:=trivial)
   by_cases ho:y.cls<0
   ·refine spn2 (.slice none 0 0) ?_ (hn:=by first | (simp;done) | (simp;omega))
    refine spn2 (.pointer (some ⟨0,0,none⟩)) ?_ (hn:=by first | (simp;done) | (simp;omega))
    refine spn2 (I 0) ?_ (hn:=by first | (simp;done) | (simp;omega))
    refine spn2 (.slice none 0 0) ?_ (hn:=by first | (simp;done) | (simp;omega))
    refine spn2 (.agg (modcells m a).toArray) ?_ (hn:=by first | (simp;done) | (simp;omega))
    refine spn2 (.slice none 0 0) ?_ (hn:=by first | (simp;done) | (simp;omega))
    refine spn2 (.pointer (some ⟨0,0,none⟩)) ?_ (hn:=by first | (simp;done) | (simp;omega))
    refine spn2 (I 0) ?_ (hn:=by first | (simp;done) | (simp;omega))
    refine spn2 (.bool false) ?_ (hn:=by first | (simp;done) | (simp;omega))
    refine spn2 (.slice none 0 0) ?_ (hn:=by first | (simp;done) | (simp;omega))
    refine spn2 (.slice none 0 0) ?_ (hn:=by first | (simp;done) | (simp;omega))
    refine spn2 (.pointer (some ⟨0,0,none⟩)) ?_ (hn:=by first | (simp;done) | (simp;omega))
    refine spn2 (I 0) ?_ (hn:=by first | (simp;done) | (simp;omega))
    refine spn2 (.pointer (some ⟨0,0,none⟩)) ?_ (hn:=by first | (simp;done) | (simp;omega))
    refine spn2 (.slice none 0 0) ?_ (hn:=by first | (simp;done) | (simp;omega))
    refine spn2 (.pointer (some ⟨0,0,none⟩)) ?_ (hn:=by first | (simp;done) | (simp;omega))
    refine spn2 (I 0) ?_ (hn:=by first | (simp;done) | (simp;omega))
    refine brt ?_ (hp:=by first | rfl | (simp;done) | (simp;omega))
    refine rt1 ⟨⟨false,rfl,noE fun e => ?_⟩,B08⟩
    obtain ⟨y',z,e1,e2,_⟩:=e.own hv0
    rw [hyj] at e1;obtain rfl:=Option.some.inj e1
    have:=(upM_mem_le hd1 (by omega) e2).1
    omega
   obtain ⟨o,ho'⟩:=Int.eq_ofNat_of_zero_le (show 0<=y.cls by omega)
   refine ldg2 (fun _ _=>y8.cell rfl) ?_ (hm:=trivial)
   rw [e8]
   refine spt2 (.pointer (some ⟨0,0,none⟩)) ?_ (hy:=by first | (simp;done) | (simp;omega))
   refine ix (j:=j) ?_ (hij:=hj) (hb:=by omega)
   refine ldg (fun _=>hA88 1 _ rfl) ?_ (hm:=trivial)
   refine ldg (fun _=>y8.cell rfl) ?_ (hm:=trivial)
   by_cases hw:(m.classes.length:Int)<=y.cls
   ·refine spn2 (.agg (modcells m a).toArray) ?_ (hn:=by first | (simp;done) | (simp;omega))
    refine spn2 (.slice none 0 0) ?_ (hn:=by first | (simp;done) | (simp;omega))
    refine spn2 (.pointer (some ⟨0,0,none⟩)) ?_ (hn:=by first | (simp;done) | (simp;omega))
    refine spn2 (I 0) ?_ (hn:=by first | (simp;done) | (simp;omega))
    refine spn2 (.bool false) ?_ (hn:=by first | (simp;done) | (simp;omega))
    refine spn2 (.slice none 0 0) ?_ (hn:=by first | (simp;done) | (simp;omega))
    refine spn2 (.slice none 0 0) ?_ (hn:=by first | (simp;done) | (simp;omega))
    refine spn2 (.pointer (some ⟨0,0,none⟩)) ?_ (hn:=by first | (simp;done) | (simp;omega))
    refine spn2 (I 0) ?_ (hn:=by first | (simp;done) | (simp;omega))
    refine spn2 (.pointer (some ⟨0,0,none⟩)) ?_ (hn:=by first | (simp;done) | (simp;omega))
    refine spn2 (.slice none 0 0) ?_ (hn:=by first | (simp;done) | (simp;omega))
    refine spn2 (.pointer (some ⟨0,0,none⟩)) ?_ (hn:=by first | (simp;done) | (simp;omega))
    refine spn2 (I 0) ?_ (hn:=by first | (simp;done) | (simp;omega))
    refine brt ?_ (hp:=by first | rfl | (simp;done) | (simp;omega))
    refine rt1 ⟨⟨false,rfl,noE fun e => ?_⟩,B08⟩
    obtain ⟨y',z,e1,e2,_⟩:=e.own hv0
    rw [hyj] at e1;obtain rfl:=Option.some.inj e1
    have:=(upM_mem_le hd1 (by omega) e2).2
    omega
   refine spt2 (.agg (modcells m a).toArray) ?_ (hy:=by first | (simp;done) | (simp;omega))
   refine lda y8.at ?_ (hm:=trivial)
   refine ldg (fun _=>y8.cell rfl) ?_ (hm:=trivial)
   rw [e8]
   refine spt (.pointer (some ⟨0,0,none⟩)) ?_ (hb:=by first | rfl | (simp;done) | (simp;omega))
   refine ix (j:=j) ?_ (hij:=hj) (hb:=by omega)
   refine ldg (fun _=>hA88 1 _ rfl) ?_ (hm:=trivial)
   refine spt (.bool false) ?_ (hb:=by first | rfl | (simp;done) | (simp;omega))
   refine cl (r5_above m a hd1 (k:Int) y.cls (by omega) (by omega) w8 (hM.bl B08)) ?_
   rintro _ w12 ⟨rfl,B812⟩
   have B612:=B68.trans B812
   have B012:=B08.trans B812
   have y12:=Bl.box B812 y8
   have hA12:=hA88.bl B812
   by_cases hin:y.cls∈upM m k
   ·have hok:y.cls<=k:=(upM_mem_le hd1 (by omega) hin).2
    obtain ⟨z,b13,o13,cs13,hz,e13,_,hA13,a14,c14,a15,c15,rfl,_,hT13,_⟩:=at_some (hM.bl B012).cls (i:=o) (by omega)
    have hzj:m.classes[y.cls.toNat]? = some z:=by rw [ho',Int.toNat_natCast];exact hz
    have hlz:z.table.length=n:=by
     rcases Nat.lt_or_ge o k with q | q
     ·have:=(hP o z q hz).tl;omega
     ·obtain rfl:o=k:=by omega
      rw [hc] at hz;obtain rfl:=Option.some.inj hz;omega
    obtain ⟨q,b16,o16,cs16,hq,e16,_,hA16,rfl⟩:=at_some hT13 (i:=s) (by omega)
    rw [decide_eq_true hin]
    refine ldg2 (fun _ _=>y12.cell rfl) ?_ (hm:=trivial)
    refine ldg2 (fun _ _=>y12.cell rfl) ?_ (hm:=trivial)
    rw [e8]
    refine spt2 (.pointer (some ⟨0,0,none⟩)) ?_ (hy:=by first | (simp;done) | (simp;omega))
    refine ix (j:=j) ?_ (hij:=hj) (hb:=by omega)
    refine ldg (fun _=>hA12 1 _ rfl) ?_ (hm:=trivial)
    rw [e13]
    refine spt (.pointer (some ⟨0,0,none⟩)) ?_ (hb:=by first | rfl | (simp;done) | (simp;omega))
    refine ix (j:=o) ?_ (hij:=ho') (hb:=by omega)
    refine ldg (fun _=>hA13 3 _ rfl) ?_ (hm:=trivial)
    rw [e16]
    refine spt (.pointer (some ⟨0,0,none⟩)) ?_ (hb:=by first | rfl | (simp;done) | (simp;omega))
    refine ix (j:=s) ?_ (hb:=by omega)
    refine ldg (fun _=>hA16 0 _ rfl) ?_ (hm:=trivial)
    by_cases hqv:q=v
    ·refine brf ?_ (hp:=by first | rfl | (simp;done) | (simp;omega))
     have nx:=next w12 B612 ⟨by omega,by omega,fun _=>⟨y,z,hyj,hin,hzj,by rw [hq,hqv]⟩,fun h=>by omega⟩
     exact ih2 hsl ⟨rfl,hup,nx.1,nx.2⟩
    ·refine brt ?_ (hp:=by first | rfl | (simp;done) | (simp;omega))
     refine rt1 ⟨⟨false,rfl,noE fun e => ?_⟩,B012⟩
     obtain ⟨y',z',e1,e2,e3,e4⟩:=e.own hv0
     rw [hyj] at e1;obtain rfl:=Option.some.inj e1
     rw [hzj] at e3;obtain rfl:=Option.some.inj e3
     rw [hq] at e4
     exact hqv (Option.some.inj e4)
   ·rw [decide_eq_false hin]
    refine spn2 (.slice none 0 0) ?_ (hn:=by first | (simp;done) | (simp;omega))
    refine spn2 (.slice none 0 0) ?_ (hn:=by first | (simp;done) | (simp;omega))
    refine spn2 (.pointer (some ⟨0,0,none⟩)) ?_ (hn:=by first | (simp;done) | (simp;omega))
    refine spn2 (I 0) ?_ (hn:=by first | (simp;done) | (simp;omega))
    refine spn2 (.pointer (some ⟨0,0,none⟩)) ?_ (hn:=by first | (simp;done) | (simp;omega))
    refine spn2 (.slice none 0 0) ?_ (hn:=by first | (simp;done) | (simp;omega))
    refine spn2 (.pointer (some ⟨0,0,none⟩)) ?_ (hn:=by first | (simp;done) | (simp;omega))
    refine spn2 (I 0) ?_ (hn:=by first | (simp;done) | (simp;omega))
    refine brt ?_ (hp:=by first | rfl | (simp;done) | (simp;omega))
    refine rt1 ⟨⟨false,rfl,noE fun e => ?_⟩,B012⟩
    obtain ⟨y',z',e1,e2,e3,e4⟩:=e.own hv0
    rw [hyj] at e1;obtain rfl:=Option.some.inj e1
    exact hin e2
end Go.Proofs.YtdjkoljonlcemaaGreat

/- Walks: the methods of a module, in the document. -/
namespace Go.Proofs.YtdjkoljonlcemaaGreat
open Eng Go.RowKit
theorem code_all {l:List Ins} {p:Bool} (h:codeE l p=0):∀ i∈l,validI i p=true:=by
 unfold codeE at h
 split at h
 ·cases h
 ·split at h
  ·rename_i h2;exact List.all_eq_true.1 h2
  ·cases h
def nslots (x:MM):Int:=(x.params.length:Int)+x.locals.length+(if 0<=x.cls then 1 else 0)
set_option maxHeartbeats 4000000 in
theorem r5_isMethod (m:Mod) (a:MA) (k:Nat) (x:MM) (w:World) (hM:MdR T w m a) (hx:m.methods[k]? = some x) (_hc10:m.classes.length<=10) (_hm16:m.methods.length<=16) (hT:∀ c∈m.classes,(c.table.length:Int)=m.sels) :
  Ret Tryz.prog 88 #[.agg (modcells m a).toArray,I k] w fun v w'=>(∃ b,v = .bool b/\(b=true↔MthP m k x))/\Bl w w':=by
 have hlt:k<m.methods.length:=(List.getElem?_eq_some_iff.1 hx).1
 obtain ⟨x',b,o,cs,hx',e2,_,hAt,a3,c3,a4,c4,a5,c5,rfl,f1,f2,f3,_⟩:=at_some hM.mth hlt
 obtain rfl:x=x':=by rw [hx] at hx';exact Option.some.inj hx'
 have q1:=f1.big
 have q2:=f2.big
 have q3:=f3.big
 have no:(MthP m k x->False)->(false=true↔MthP m k x):=fun h=>⟨(fun q=>(by cases q)),fun q=>(h q).elim⟩
 refine entr (vs:=[.agg (modcells m a).toArray,I k]) [0,1,2,4,5,6,7,22,66,70,75,86] tabok Tryz.func88 (by kernel_rfl) ?_
 refine bx (cs:=modcells m a) fun b1 w1 k1 => ?_
 have x1:=k1.box
 refine ld (x1.cell rfl) ?_
 rw [e2]
 refine ix ?_
 refine lda (hAt.bl k1.bl) ?_
 refine al fun b5 w2 h2 => ?_
 refine sta (cs':=mmcells x a3 c3 a4 c4 a5 c5) h2.box fun w3 k3 x3 => ?_
 have B13:=h2.wr k3
 have B3:=k1.bl.trans B13
 have y3:=Bl.box B13 x1
 refine ld (x3.cell rfl) ?_
 refine ld (x3.cell rfl) ?_
 refine ld (x3.cell rfl) ?_
 rw [show IntKind.wrap .i64 ((x.params.length:Int)+x.locals.length)=(x.params.length:Int)+x.locals.length from wrap_fit (by omega) (by omega)]
 by_cases hc0:0<=x.cls
 ·refine brT ?_ (hp:=hc0)
  refine ld (x3.cell rfl) ?_
  rw [show IntKind.wrap .i64 ((x.params.length:Int)+x.locals.length+1)=nslots x from by rw [wrap_fit (by omega) (by omega)];unfold nslots;rw [if_pos hc0]]
  refine ldg (fun _=>x3.cell rfl) ?_
  refine ldg (fun _=>y3.cell rfl) ?_
  refine ldg (fun _=>x3.cell rfl) ?_
  by_cases hA:x.cls < -1∨(m.classes.length:Int)<=x.cls∨4<(x.params.length:Int)∨10<nslots x
  ·refine spn (.agg (modcells m a).toArray) ?_ (hb:=by first | rfl | (simp;done) | (simp;omega))
   refine ldg (fun _=>x3.cell rfl) ?_
   refine spn (.bool false) ?_ (hb:=by first | rfl | (simp;done) | (simp;omega))
   refine spn (.agg (modcells m a).toArray) ?_ (hb:=by first | rfl | (simp;done) | (simp;omega))
   refine ldg (fun _=>x3.cell rfl) ?_
   refine spn (.bool false) ?_ (hb:=by first | rfl | (simp;done) | (simp;omega))
   refine spn (.agg (modcells m a).toArray) ?_ (hb:=by first | rfl | (simp;done) | (simp;omega))
   refine spn (.agg (encTy x.result).toArray) ?_ (hb:=by first | rfl | (simp;done) | (simp;omega))
   refine spn (.bool false) ?_ (hb:=by first | rfl | (simp;done) | (simp;omega))
   refine brt ?_ (hp:=by first | rfl | (simp;done) | (simp;omega))
   exact rt1 ⟨⟨false,rfl,no fun q=>by have:=q.c1;have:=q.c2;have:=q.pl;have:=q.ll;unfold nslots at hA;omega⟩,B3⟩
  refine spt (.agg (modcells m a).toArray) ?_ (hb:=by first | rfl | (simp;done) | (simp;omega))
  refine lda y3.at ?_
  refine ldg (fun _=>x3.cell rfl) ?_
  refine spt (.bool false) ?_ (hb:=by first | rfl | (simp;done) | (simp;omega))
  refine cl (r5_types m a x.params a3 c3 w3 (f1.bl B3)) ?_
  rintro _ w4 ⟨rfl,B34⟩
  have B4:=B3.trans B34
  have x4:=Bl.box B34 x3
  have y4:=Bl.box B34 y3
  cases hp:x.params.all fun t=>ityp m t 1 with
  | false =>
   refine spn (.agg (modcells m a).toArray) ?_ (hb:=by first | rfl | (simp;done) | (simp;omega))
   refine ldg (fun _=>x4.cell rfl) ?_
   refine spn (.bool false) ?_ (hb:=by first | rfl | (simp;done) | (simp;omega))
   refine spn (.agg (modcells m a).toArray) ?_ (hb:=by first | rfl | (simp;done) | (simp;omega))
   refine spn (.agg (encTy x.result).toArray) ?_ (hb:=by first | rfl | (simp;done) | (simp;omega))
   refine spn (.bool false) ?_ (hb:=by first | rfl | (simp;done) | (simp;omega))
   refine brt ?_ (hp:=by first | rfl | (simp;done) | (simp;omega))
   exact rt1 ⟨⟨false,rfl,no fun q=>by rw [List.all_eq_true.2 q.pt] at hp;cases hp⟩,B4⟩
  | true =>
  refine spt (.agg (modcells m a).toArray) ?_ (hb:=by first | rfl | (simp;done) | (simp;omega))
  refine lda y4.at ?_
  refine ldg (fun _=>x4.cell rfl) ?_
  refine spt (.bool false) ?_ (hb:=by first | rfl | (simp;done) | (simp;omega))
  refine cl (r5_types m a x.locals a4 c4 w4 (f2.bl B4)) ?_
  rintro _ w5 ⟨rfl,B45⟩
  have B5:=B4.trans B45
  have x5:=Bl.box B45 x4
  have y5:=Bl.box B45 y4
  cases hl:x.locals.all fun t=>ityp m t 1 with
  | false =>
   refine spn (.agg (modcells m a).toArray) ?_ (hb:=by first | rfl | (simp;done) | (simp;omega))
   refine spn (.agg (encTy x.result).toArray) ?_ (hb:=by first | rfl | (simp;done) | (simp;omega))
   refine spn (.bool false) ?_ (hb:=by first | rfl | (simp;done) | (simp;omega))
   refine brt ?_ (hp:=by first | rfl | (simp;done) | (simp;omega))
   exact rt1 ⟨⟨false,rfl,no fun q=>by rw [List.all_eq_true.2 q.lt] at hl;cases hl⟩,B5⟩
  | true =>
  refine spt (.agg (modcells m a).toArray) ?_ (hb:=by first | rfl | (simp;done) | (simp;omega))
  refine lda y5.at ?_
  refine spt (.agg (encTy x.result).toArray) ?_ (hb:=by first | rfl | (simp;done) | (simp;omega))
  refine lda (At.left (cs:=encTy x.result) x5.at.tail.tail.tail.tail) ?_
  refine spt (.bool false) ?_ (hb:=by first | rfl | (simp;done) | (simp;omega))
  refine cl (r5_IsType m a x.result 0 (.inl rfl) w5) ?_
  rintro _ w6 ⟨rfl,B56⟩
  have B6:=B5.trans B56
  have x6:=Bl.box B56 x5
  have y6:=Bl.box B56 y5
  cases hr:ityp m x.result 0 with
  | false =>
   refine brt ?_ (hp:=by first | rfl | (simp;done) | (simp;omega))
   exact rt1 ⟨⟨false,rfl,no fun q=>by rw [q.rt] at hr;cases hr⟩,B6⟩
  | true =>
  refine brf ?_ (hp:=by first | rfl | (simp;done) | (simp;omega))
  refine ld (x6.cell rfl) ?_
  refine cl (r3_Check x.code a5 c5 false T w6 (f3.bl B6)) ?_
  rintro _ w7 ⟨rfl,B67⟩
  have B7:=B6.trans B67
  have x7:=Bl.box B67 x6
  have y7:=Bl.box B67 y6
  by_cases hcd:codeE x.code false=0
  rotate_left
  ·refine brT ?_ (hp:=hcd)
   exact rt1 ⟨⟨false,rfl,no fun q=>hcd q.cd⟩,B7⟩
  refine brF ?_ (hp:=by exact fun h=>h hcd)
  have hval:=code_all hcd
  refine lpk x.code.length 7 [] [(1,I k),(2,.pointer (some ⟨b1,0,none⟩)),(5,.pointer (some ⟨b5,0,none⟩))] (fun j vals w'=>vals=[]/\(x.code.take j).all (oprB m k)=true/\Bl w7 w') ⟨rfl,rfl,Bl.refl _⟩ ?_
  rintro j vals w8 hj ⟨rfl,ha,B8⟩ ih
  have x8:=Bl.box B8 x7
  have y8:=Bl.box B8 y7
  have B08:=B7.trans B8
  refine ld (x8.cell rfl) ?_
  by_cases hjl:j<x.code.length
  ·refine brT ?_
   obtain ⟨i,b9,o9,cs9,hi,e9,_,hA9,rfl⟩:=at_some (f3.bl B08) hjl
   refine dh T (List.range 9) fun w10 h10 => ?_
   have B810:=h10.bl
   refine lda (h10.box y8).at ?_ (hm:=trivial)
   refine ld ((h10.box x8).cell rfl) ?_ (hm:=trivial)
   rw [e9]
   refine ix ?_
   refine lda (hA9.bl B810) ?_ (hm:=trivial)
   refine cl (r5_operand m a k i (hval i (List.mem_of_getElem? hi)) (by omega) hT w10 (hM.bl (B08.trans B810))) ?_
   rintro _ w11 ⟨rfl,B11⟩
   refine br (fun h => ?_) (fun h => ?_)
   ·exact rt1 ⟨⟨false,rfl,no fun q=>by rw [q.op i (List.mem_of_getElem? hi)] at h;cases h⟩,(B08.trans B810).trans B11⟩
   ·exact ih hjl ⟨rfl,all_snoc' hi ha (by simpa using h),(B8.trans B810).trans B11⟩
  refine brF ?_
  obtain rfl:j=x.code.length:=by omega
  exact rt1 ⟨⟨true,rfl,⟨fun _=>⟨by omega,by omega,by omega,by unfold nslots at hA;omega,List.all_eq_true.1 hp,List.all_eq_true.1 hl,hr,hcd,List.all_eq_true.1 (all_end ha)⟩,fun _=>rfl⟩⟩,B08⟩
 ·refine brF ?_ (hp:=hc0)
  rw [show (x.params.length:Int)+x.locals.length=nslots x from by unfold nslots;rw [if_neg hc0,Int.add_zero]]
  refine ld (x3.cell rfl) ?_
  refine ldg (fun _=>x3.cell rfl) ?_
  refine ldg (fun _=>y3.cell rfl) ?_
  refine ldg (fun _=>x3.cell rfl) ?_
  by_cases hA:x.cls < -1∨(m.classes.length:Int)<=x.cls∨4<(x.params.length:Int)∨10<nslots x
  ·refine spn (.agg (modcells m a).toArray) ?_ (hb:=by first | rfl | (simp;done) | (simp;omega))
   refine ldg (fun _=>x3.cell rfl) ?_
   refine spn (.bool false) ?_ (hb:=by first | rfl | (simp;done) | (simp;omega))
   refine spn (.agg (modcells m a).toArray) ?_ (hb:=by first | rfl | (simp;done) | (simp;omega))
   refine ldg (fun _=>x3.cell rfl) ?_
   refine spn (.bool false) ?_ (hb:=by first | rfl | (simp;done) | (simp;omega))
   refine spn (.agg (modcells m a).toArray) ?_ (hb:=by first | rfl | (simp;done) | (simp;omega))
   refine spn (.agg (encTy x.result).toArray) ?_ (hb:=by first | rfl | (simp;done) | (simp;omega))
   refine spn (.bool false) ?_ (hb:=by first | rfl | (simp;done) | (simp;omega))
   refine brt ?_ (hp:=by first | rfl | (simp;done) | (simp;omega))
   exact rt1 ⟨⟨false,rfl,no fun q=>by have:=q.c1;have:=q.c2;have:=q.pl;have:=q.ll;unfold nslots at hA;omega⟩,B3⟩
  refine spt (.agg (modcells m a).toArray) ?_ (hb:=by first | rfl | (simp;done) | (simp;omega))
  refine lda y3.at ?_
  refine ldg (fun _=>x3.cell rfl) ?_
  refine spt (.bool false) ?_ (hb:=by first | rfl | (simp;done) | (simp;omega))
  refine cl (r5_types m a x.params a3 c3 w3 (f1.bl B3)) ?_
  rintro _ w4 ⟨rfl,B34⟩
  have B4:=B3.trans B34
  have x4:=Bl.box B34 x3
  have y4:=Bl.box B34 y3
  cases hp:x.params.all fun t=>ityp m t 1 with
  | false =>
   refine spn (.agg (modcells m a).toArray) ?_ (hb:=by first | rfl | (simp;done) | (simp;omega))
   refine ldg (fun _=>x4.cell rfl) ?_
   refine spn (.bool false) ?_ (hb:=by first | rfl | (simp;done) | (simp;omega))
   refine spn (.agg (modcells m a).toArray) ?_ (hb:=by first | rfl | (simp;done) | (simp;omega))
   refine spn (.agg (encTy x.result).toArray) ?_ (hb:=by first | rfl | (simp;done) | (simp;omega))
   refine spn (.bool false) ?_ (hb:=by first | rfl | (simp;done) | (simp;omega))
   refine brt ?_ (hp:=by first | rfl | (simp;done) | (simp;omega))
   exact rt1 ⟨⟨false,rfl,no fun q=>by rw [List.all_eq_true.2 q.pt] at hp;cases hp⟩,B4⟩
  | true =>
  refine spt (.agg (modcells m a).toArray) ?_ (hb:=by first | rfl | (simp;done) | (simp;omega))
  refine lda y4.at ?_
  refine ldg (fun _=>x4.cell rfl) ?_
  refine spt (.bool false) ?_ (hb:=by first | rfl | (simp;done) | (simp;omega))
  refine cl (r5_types m a x.locals a4 c4 w4 (f2.bl B4)) ?_
  rintro _ w5 ⟨rfl,B45⟩
  have B5:=B4.trans B45
  have x5:=Bl.box B45 x4
  have y5:=Bl.box B45 y4
  cases hl:x.locals.all fun t=>ityp m t 1 with
  | false =>
   refine spn (.agg (modcells m a).toArray) ?_ (hb:=by first | rfl | (simp;done) | (simp;omega))
   refine spn (.agg (encTy x.result).toArray) ?_ (hb:=by first | rfl | (simp;done) | (simp;omega))
   refine spn (.bool false) ?_ (hb:=by first | rfl | (simp;done) | (simp;omega))
   refine brt ?_ (hp:=by first | rfl | (simp;done) | (simp;omega))
   exact rt1 ⟨⟨false,rfl,no fun q=>by rw [List.all_eq_true.2 q.lt] at hl;cases hl⟩,B5⟩
  | true =>
  refine spt (.agg (modcells m a).toArray) ?_ (hb:=by first | rfl | (simp;done) | (simp;omega))
  refine lda y5.at ?_
  refine spt (.agg (encTy x.result).toArray) ?_ (hb:=by first | rfl | (simp;done) | (simp;omega))
  refine lda (At.left (cs:=encTy x.result) x5.at.tail.tail.tail.tail) ?_
  refine spt (.bool false) ?_ (hb:=by first | rfl | (simp;done) | (simp;omega))
  refine cl (r5_IsType m a x.result 0 (.inl rfl) w5) ?_
  rintro _ w6 ⟨rfl,B56⟩
  have B6:=B5.trans B56
  have x6:=Bl.box B56 x5
  have y6:=Bl.box B56 y5
  cases hr:ityp m x.result 0 with
  | false =>
   refine brt ?_ (hp:=by first | rfl | (simp;done) | (simp;omega))
   exact rt1 ⟨⟨false,rfl,no fun q=>by rw [q.rt] at hr;cases hr⟩,B6⟩
  | true =>
  refine brf ?_ (hp:=by first | rfl | (simp;done) | (simp;omega))
  refine ld (x6.cell rfl) ?_
  refine cl (r3_Check x.code a5 c5 false T w6 (f3.bl B6)) ?_
  rintro _ w7 ⟨rfl,B67⟩
  have B7:=B6.trans B67
  have x7:=Bl.box B67 x6
  have y7:=Bl.box B67 y6
  by_cases hcd:codeE x.code false=0
  rotate_left
  ·refine brT ?_ (hp:=hcd)
   exact rt1 ⟨⟨false,rfl,no fun q=>hcd q.cd⟩,B7⟩
  refine brF ?_ (hp:=by exact fun h=>h hcd)
  have hval:=code_all hcd
  refine lpk x.code.length 7 [] [(1,I k),(2,.pointer (some ⟨b1,0,none⟩)),(5,.pointer (some ⟨b5,0,none⟩))] (fun j vals w'=>vals=[]/\(x.code.take j).all (oprB m k)=true/\Bl w7 w') ⟨rfl,rfl,Bl.refl _⟩ ?_
  rintro j vals w8 hj ⟨rfl,ha,B8⟩ ih
  have x8:=Bl.box B8 x7
  have y8:=Bl.box B8 y7
  have B08:=B7.trans B8
  refine ld (x8.cell rfl) ?_
  by_cases hjl:j<x.code.length
  ·refine brT ?_
   obtain ⟨i,b9,o9,cs9,hi,e9,_,hA9,rfl⟩:=at_some (f3.bl B08) hjl
   refine dh T (List.range 9) fun w10 h10 => ?_
   have B810:=h10.bl
   refine lda (h10.box y8).at ?_ (hm:=trivial)
   refine ld ((h10.box x8).cell rfl) ?_ (hm:=trivial)
   rw [e9]
   refine ix ?_
   refine lda (hA9.bl B810) ?_ (hm:=trivial)
   refine cl (r5_operand m a k i (hval i (List.mem_of_getElem? hi)) (by omega) hT w10 (hM.bl (B08.trans B810))) ?_
   rintro _ w11 ⟨rfl,B11⟩
   refine br (fun h => ?_) (fun h => ?_)
   ·exact rt1 ⟨⟨false,rfl,no fun q=>by rw [q.op i (List.mem_of_getElem? hi)] at h;cases h⟩,(B08.trans B810).trans B11⟩
   ·exact ih hjl ⟨rfl,all_snoc' hi ha (by simpa using h),(B8.trans B810).trans B11⟩
  refine brF ?_
  obtain rfl:j=x.code.length:=by omega
  exact rt1 ⟨⟨true,rfl,⟨fun _=>⟨by omega,by omega,by omega,by unfold nslots at hA;omega,List.all_eq_true.1 hp,List.all_eq_true.1 hl,hr,hcd,List.all_eq_true.1 (all_end ha)⟩,fun _=>rfl⟩⟩,B08⟩
end Go.Proofs.YtdjkoljonlcemaaGreat

/- Walks: the operands and the methods of a module, in the program's checker. -/
namespace Go.Proofs.YtdjkoljonlcemaaGreat
open Eng Go.RowKit
theorem val_a {i:Ins} (hv:validI i false=true) (h:i.op=14∨i.op=24):0<=i.a:=by
 obtain ⟨op,a,b⟩:=i
 simp only at h ⊢
 rcases h with rfl | rfl <;> (simp [validI,inR,rngs,mosts] at hv;omega)
theorem val_b {i:Ins} (hv:validI i false=true) (h:i.op=16∨i.op=12):0<=i.b:=by
 obtain ⟨op,a,b⟩:=i
 simp only at h ⊢
 rcases h with rfl | rfl <;> (simp [validI,inR,rngs,mosts] at hv;omega)
theorem k_operandM (m:Mod) (a:MA) (k:Nat) (i:Ins) (hv:validI i false=true) (hk:k<=m.methods.length) (hC:∀ y∈m.methods,-1<=y.cls) (hT:∀ c∈m.classes,(c.table.length:Int)=m.sels) (w:World) (hM:MdR T w m a) :
  Ret Tryz.prog 176 #[.agg (modcells m a).toArray,I k,.agg (encIns i).toArray] w fun v w'=>v = .bool (oprB m k i)/\Bl w w':=by
 have hbig:=hM.cls.big
 refine entr (vs:=[.agg (modcells m a).toArray,I k,.agg (encIns i).toArray]) [0,1,2,3,4,5,6,8,9,16,22,33,43,60] tabok Tryz.func176 (by kernel_rfl) ?_
 refine bx (cs:=modcells m a) fun b1 w1 k1 => ?_
 refine bx (cs:=[I k]) fun b2 w2 k2 => ?_
 refine bx (cs:=encIns i) fun b3 w3 k3 => ?_
 have B3:=(k1.bl.trans k2.bl).trans k3.bl
 have x1:=Bl.box (k2.bl.trans k3.bl) k1.box
 have x2:=Bl.box k3.bl k2.box
 have x3:=k3.box
 refine ld (x3.cell rfl) ?_
 by_cases h14:i.op=14
 ·refine brT ?_ (hp:=h14)
  refine brT ?_ (hp:=h14)
  refine lda x1.at ?_
  refine ld (x3.cell rfl) ?_
  refine cl (k_isClass m a i.a w3 (by omega)) ?_
  rintro _ w4 ⟨rfl,B4⟩
  refine rt1 ⟨congrArg Value.bool ?_,B3.trans B4⟩
  rw [opr_new (.inl h14),decide_eq_true (val_a hv (.inl h14)),Bool.true_and]
 refine brF ?_ (hp:=h14)
 by_cases h24:i.op=24
 ·refine brT ?_ (hp:=h24)
  refine lda x1.at ?_
  refine ld (x3.cell rfl) ?_
  refine cl (k_isClass m a i.a w3 (by omega)) ?_
  rintro _ w4 ⟨rfl,B4⟩
  refine rt1 ⟨congrArg Value.bool ?_,B3.trans B4⟩
  rw [opr_new (.inr h24),decide_eq_true (val_a hv (.inr h24)),Bool.true_and]
 refine brF ?_ (hp:=h24)
 by_cases h16:i.op=16
 ·refine brT ?_ (hp:=h16)
  refine lda x1.at ?_
  refine ld (x3.cell rfl) ?_
  refine cl (k_isClass m a i.b w3 (by omega)) ?_
  rintro _ w4 ⟨rfl,B4⟩
  refine rt1 ⟨congrArg Value.bool ?_,B3.trans B4⟩
  rw [opr_rfs h16,decide_eq_true (val_b hv (.inl h16)),Bool.true_and]
 refine brF ?_ (hp:=h16)
 by_cases h12:i.op=12
 ·refine brT ?_ (hp:=h12)
  refine ld (x3.cell rfl) ?_
  by_cases h3:i.a=3
  ·refine spn (.agg (modcells m a).toArray) ?_ (hb:=by first | rfl | (simp;done) | (simp;omega))
   refine spn (I 0) ?_ (hb:=by first | rfl | (simp;done) | (simp;omega))
   refine spn (.bool false) ?_ (hb:=by first | rfl | (simp;done) | (simp;omega))
   refine rt1 ⟨congrArg Value.bool ?_,B3⟩
   rw [opr_nul h12,decide_eq_true h3];rfl
  ·refine spt (.agg (modcells m a).toArray) ?_ (hb:=by first | rfl | (simp;done) | (simp;omega))
   refine lda x1.at ?_
   refine ldg (fun _=>x3.cell rfl) ?_
   refine spt (.bool false) ?_ (hb:=by first | rfl | (simp;done) | (simp;omega))
   refine cl (k_isClass m a i.b w3 (by omega)) ?_
   rintro _ w4 ⟨rfl,B4⟩
   refine rt1 ⟨congrArg Value.bool ?_,B3.trans B4⟩
   rw [opr_nul h12,decide_eq_true (val_b hv (.inr h12)),Bool.true_and,decide_eq_false h3]
 refine brF ?_ (hp:=h12)
 by_cases h22:i.op=22
 ·refine brT ?_ (hp:=h22)
  refine brT ?_ (hp:=h22)
  refine ld (x3.cell rfl) ?_
  refine ld (x1.cell rfl) ?_
  exact rt1 ⟨congrArg Value.bool (opr_sta (.inl h22)).symm,B3⟩
 refine brF ?_ (hp:=h22)
 by_cases h23:i.op=23
 ·refine brT ?_ (hp:=h23)
  refine ld (x3.cell rfl) ?_
  refine ld (x1.cell rfl) ?_
  exact rt1 ⟨congrArg Value.bool (opr_sta (.inr h23)).symm,B3⟩
 refine brF ?_ (hp:=h23)
 by_cases h25:i.op=25
 ·refine brT ?_ (hp:=h25)
  have h0:=val_call hv (.inl h25)
  refine ld (x3.cell rfl) ?_
  refine ld (x2.cell rfl) ?_
  by_cases hlt:i.a<k
  ·obtain ⟨j,hj⟩:=Int.eq_ofNat_of_zero_le h0
   obtain ⟨y,b,o,cs,hy,e2,_,hAt,a3,c3,a4,c4,a5,c5,rfl,_⟩:=at_some (hM.bl B3).mth (i:=j) (by omega)
   refine ldg (fun _=>x1.cell rfl) ?_
   refine ldg (fun _=>x3.cell rfl) ?_
   rw [e2]
   refine ixg (j:=j) (len:=m.methods.length) (fun _=>by omega) ?_ (hij:=hj)
   refine ldg (fun _=>hAt 1 _ rfl) ?_
   refine rt1 ⟨congrArg Value.bool ?_,B3⟩
   have hcy:=hC y (List.mem_of_getElem? hy)
   have em:mcl m i.a=y.cls:=by unfold mcl;rw [hj,Int.toNat_natCast,hy];rfl
   rw [opr_cal h25,em]
   congr 1
   exact decide_eq_decide.2 (by omega)
  ·refine spn (.slice none 0 0) ?_ (hb:=by first | rfl | (simp;done) | (simp;omega))
   refine spn (I 0) ?_ (hb:=by first | rfl | (simp;done) | (simp;omega))
   refine spn (.pointer (some ⟨0,0,none⟩)) ?_ (hb:=by first | rfl | (simp;done) | (simp;omega))
   refine spn (I 0) ?_ (hb:=by first | rfl | (simp;done) | (simp;omega))
   refine rt1 ⟨congrArg Value.bool ?_,B3⟩
   rw [opr_cal h25,decide_eq_false hlt];rfl
 refine brF ?_ (hp:=h25)
 by_cases h26:i.op=26
 ·refine brT ?_ (hp:=h26)
  have h0:=val_call hv (.inr h26)
  refine ld (x3.cell rfl) ?_
  refine ld (x1.cell rfl) ?_
  by_cases hlt:i.a<m.sels
  ·obtain ⟨j,hj⟩:=Int.eq_ofNat_of_zero_le h0
   refine spt (.agg (modcells m a).toArray) ?_ (hb:=by first | rfl | (simp;done) | (simp;omega))
   refine lda x1.at ?_
   refine ldg (fun _=>x3.cell rfl) ?_
   refine spt (.slice none 0 0) ?_ (hb:=by first | rfl | (simp;done) | (simp;omega))
   rw [hj]
   refine cl (k_targets m a j (fun c hc=>by have:=hT c hc;omega) w3 (hM.bl B3)) ?_ (hm:=fun _ _ r=>by obtain ⟨_,_,_,_,hB⟩:=r;exact mdW_bl hB)
   rintro _ w4 ⟨a4,c4,rfl,O4,B4⟩
   have hlen:=trg_len (m:=m) j
   refine spt (.bool false) ?_ (hb:=by first | rfl | (simp;done) | (simp;omega))
   refine cl (ContainsFunc_int (trgM m j) a4 c4 214 [.pointer (some ⟨b2,0,none⟩)] (fun t=>decide ((k:Int)<=t)) T w4 (owp_sl O4 (by omega) fun _ _=>trivial) fun t cs ht w' kk hr => ?_) ?_
   ·obtain rfl:cs=encInt t:=hr
    exact k_operand1 t k b2 w' ((Bl.box (B4.trans kk) x2).cell rfl)
   rintro _ w5 ⟨rfl,B5⟩
   refine rt1 ⟨congrArg Value.bool ?_,(B3.trans B4).trans B5⟩
   rw [opr_snd h26,hj,Int.toNat_natCast,decide_eq_true (show (j:Int)<m.sels by omega),Bool.true_and,Bool.true_and,List.not_any_eq_all_not]
   congr 1
   funext t
   rw [<-decide_not]
   exact decide_eq_decide.2 (by omega)
  ·refine spn (.agg (modcells m a).toArray) ?_ (hb:=by first | rfl | (simp;done) | (simp;omega))
   refine spn (I 0) ?_ (hb:=by first | rfl | (simp;done) | (simp;omega))
   refine spn (.slice none 0 0) ?_ (hb:=by first | rfl | (simp;done) | (simp;omega))
   refine spn (.bool false) ?_ (hb:=by first | rfl | (simp;done) | (simp;omega))
   refine rt1 ⟨congrArg Value.bool ?_,B3⟩
   rw [opr_snd h26,decide_eq_false hlt];rfl
 refine brF ?_ (hp:=h26)
 exact rt1 ⟨congrArg Value.bool (opr_no h12 (by omega) h16 (by omega) h25 h26).symm,B3⟩
end Go.Proofs.YtdjkoljonlcemaaGreat

/- Walks: the program's ways through a unit, handing each index to a function. -/
namespace Go.Proofs.YtdjkoljonlcemaaGreat
open Eng Go.RowKit
section
variable {S:Nat->Prop} {w0:World} {g:FuncId} {caps:List Value} {J:List Rf->World->Prop} {Pok:Rf->Prop} {N:Nat}
end
end Go.Proofs.YtdjkoljonlcemaaGreat

namespace Go.Proofs.YtdjkoljonlcemaaGreat
end Go.Proofs.YtdjkoljonlcemaaGreat

/- Walks: the program's word on kinds. -/
namespace Go.Proofs.YtdjkoljonlcemaaGreat
open Eng Go.RowKit
theorem Eng.Ap.trans {a b c:World} {x:Option Addr} (h:Ap a x b) (k:Ap b x c):Ap a x c :=
 ⟨k.os.trans h.os,k.tape.trans h.tape,k.output.trans h.output,Nat.le_trans h.size k.size,fun i hi hx=>(k.block i (Nat.lt_of_lt_of_le hi h.size) hx).trans (h.block i hi hx)⟩
theorem Eng.Ap.bl {w w':World} (h:Bl w w') (x:Option Addr):Ap w x w':=⟨h.os,h.tape,h.output,h.size,fun i hi _=>h.block i hi⟩
end Go.Proofs.YtdjkoljonlcemaaGreat

/- Walks: names out of the pool; names that are there twice. -/
namespace Go.Proofs.YtdjkoljonlcemaaGreat
open Eng Go.RowKit
end Go.Proofs.YtdjkoljonlcemaaGreat

/- Walks: the program's word on names that must differ. -/
namespace Go.Proofs.YtdjkoljonlcemaaGreat
open Eng Go.RowKit
end Go.Proofs.YtdjkoljonlcemaaGreat

/- What the program's Check sees is what the document's Check sees. No program stands here. -/
namespace Go.Proofs.YtdjkoljonlcemaaGreat
open Eng Go.RowKit
def beyB (u:Unt) (r:Rf):Bool := !refOk u.pool.length r
def frmB (u:Unt) (r:Rf):Bool:=refOk u.pool.length r&&decide (0<=r.at')&&decide (¬(path (nm u r.at'):Int)=r.parts)
section
variable {p:Rf->Bool} (hp:∀ r:Rf,r.at' = -1->r.opt=true->p r=false)
include hp
end
end Go.Proofs.YtdjkoljonlcemaaGreat
namespace Go.Proofs.YtdjkoljonlcemaaGreat
open Eng Go.RowKit
structure SeeJ (u:Unt) (bb bf:Nat) (w0:World) (pre:List Rf) (w:World):Prop where
 os:w.os=w0.os
 tape:w.tape=w0.tape
 output:w.output=w0.output
 size:w0.heap.size<=w.heap.size
 block:∀ k,k<w0.heap.size->k≠bb->k≠bf->w.heap[k]? = w0.heap[k]?
 bey:Box w bb 4 [.bool (pre.any (beyB u))]
 frm:Box w bf 4 [.bool (pre.any (frmB u))]
abbrev seeS (bb bf:Nat) (w0:World):Nat->Prop:=fun i=>i<w0.heap.size/\i≠bb/\i≠bf
theorem SeeJ.bl {u:Unt} {bb bf:Nat} {w0:World} {pre:List Rf} {w w':World} (h:SeeJ u bb bf w0 pre w) (k:Bl w w'):SeeJ u bb bf w0 pre w' :=
 ⟨k.os.trans h.os,k.tape.trans h.tape,k.output.trans h.output,Nat.le_trans h.size k.size,fun i h1 h2 h3=>(k.block i (Nat.lt_of_lt_of_le h1 h.size)).trans (h.block i h1 h2 h3),Bl.box k h.bey,Bl.box k h.frm⟩
theorem SeeJ.kp {u:Unt} {bb bf:Nat} {w0:World} {pre:List Rf} {w:World} (h:SeeJ u bb bf w0 pre w):Kp (seeS bb bf w0) w0 w:=fun b o v s x=>by
 rw [World.cell?_of_block (w:=w0) (h.block b s.1 s.2.1 s.2.2)];exact x
end Go.Proofs.YtdjkoljonlcemaaGreat
namespace Go.Proofs.YtdjkoljonlcemaaGreat
open Eng Go.RowKit
end Go.Proofs.YtdjkoljonlcemaaGreat

/- Walks: a method, and the methods of a selector, in the program's checker. -/
namespace Go.Proofs.YtdjkoljonlcemaaGreat
open Eng Go.RowKit
theorem k_method1 (m:Mod) (a:MA) (k:Nat) (i:Ins) (b b2:Nat) (w:World) (hx:At w b 0 (modcells m a)) (hx2:w.cell? ⟨b2,0,none⟩=some (I k)) (hv:validI i false=true) (hk:k<=m.methods.length) (hC:∀ y∈m.methods,-1<=y.cls) (hT:∀ c∈m.classes,(c.table.length:Int)=m.sels) (hM:MdR T w m a) :
  Ret Tryz.prog 175 #[.agg (encIns i).toArray,.pointer (some ⟨b,0,none⟩),.pointer (some ⟨b2,0,none⟩)] w fun v w'=>v = .bool (!oprB m k i)/\Bl w w':=by
 refine entr (vs:=[.agg (encIns i).toArray,.pointer (some ⟨b,0,none⟩),.pointer (some ⟨b2,0,none⟩)]) [0,1,2,3,4] tabok Tryz.func175 (by kernel_rfl) ?_
 refine bx (cs:=encIns i) fun b3 w3 k3 => ?_
 refine lda (hx.bl k3.bl) ?_
 refine ld (Bl.cl k3.bl hx2) ?_
 refine lda k3.box.at ?_
 refine cl (k_operandM m a k i hv hk hC hT w3 (hM.bl k3.bl)) ?_
 rintro _ w4 ⟨rfl,B4⟩
 exact rt1 ⟨rfl,k3.bl.trans B4⟩
def room (x:MM):Int:=10-x.params.length-(if 0<=x.cls then 1 else 0)
set_option maxHeartbeats 4000000 in
theorem k_method (m:Mod) (a:MA) (k:Nat) (x:MM) (w:World) (hM:MdR T w m a) (hx:m.methods[k]? = some x) (hc10:m.classes.length<=10) (_hm16:m.methods.length<=16) (hC:∀ y∈m.methods,-1<=y.cls) (hT:∀ c∈m.classes,(c.table.length:Int)=m.sels) :
  Ret Tryz.prog 112 #[.agg (modcells m a).toArray,I k] w fun v w'=>(∃ b,v = .bool b/\(b=true↔MthP m k x))/\Bl w w':=by
 have hlt:k<m.methods.length:=(List.getElem?_eq_some_iff.1 hx).1
 obtain ⟨x',b,o,cs,hx',e2,_,hAt,a3,c3,a4,c4,a5,c5,rfl,f1,f2,f3,_⟩:=at_some hM.mth hlt
 obtain rfl:x=x':=by rw [hx] at hx';exact Option.some.inj hx'
 have q1:=f1.big
 have q2:=f2.big
 have q3:=f3.big
 have no:(MthP m k x->False)->(false=true↔MthP m k x):=fun h=>⟨(fun q=>(by cases q)),fun q=>(h q).elim⟩
 refine entr (vs:=[.agg (modcells m a).toArray,I k]) [0,1,2,3,4,5,6,19] tabok Tryz.func112 (by kernel_rfl) ?_
 refine bx (cs:=modcells m a) fun b1 w1 k1 => ?_
 refine bx (cs:=[I k]) fun b2 w2 k2 => ?_
 have B2:=k1.bl.trans k2.bl
 have x1:=Bl.box k2.bl k1.box
 have x2:=k2.box
 refine ld (x1.cell rfl) ?_
 refine ld (x2.cell rfl) ?_
 rw [e2]
 refine ix ?_
 refine lda (hAt.bl B2) ?_
 refine al fun b5 w3 h3 => ?_
 refine sta (cs':=mmcells x a3 c3 a4 c4 a5 c5) h3.box fun w4 k4 x4 => ?_
 have B24:=h3.wr k4
 have B4:=B2.trans B24
 have y4:=Bl.box B24 x1
 have z4:=Bl.box B24 x2
 refine ld (x4.cell rfl) ?_
 refine ld (x4.cell rfl) ?_
 rw [show IntKind.wrap .i64 (10-(x.params.length:Int))=10-(x.params.length:Int) from wrap_fit (by omega) (by omega)]
 refine jn [6] [(2,.pointer (some ⟨b1,0,none⟩)),(3,.pointer (some ⟨b2,0,none⟩)),(5,.pointer (some ⟨b5,0,none⟩))] (fun vals w'=>vals=[I (room x)]/\w4=w') (fun h jo => ?_) (fun h jo => ?_) ?_
 ·have h':0<=x.cls:=of_decide_eq_true h
  refine jo ⟨?_,rfl⟩
  rw [wrap_fit (by omega) (by omega)]
  unfold room;rw [if_pos h']
 ·have h':¬0<=x.cls:=of_decide_eq_false h
  refine jo ⟨?_,rfl⟩
  unfold room;rw [if_neg h',Int.sub_zero]
 rintro vals _ ⟨rfl,rfl⟩
 refine ld (x4.cell rfl) ?_
 refine ldg (fun _=>x4.cell rfl) ?_
 refine ldg (fun _=>y4.cell rfl) ?_
 by_cases hA : -1<=x.cls/\x.cls<m.classes.length
 rotate_left
 ·refine spn (.agg (modcells m a).toArray) ?_ (hb:=by first | rfl | (simp;done) | (simp;omega))
  refine ldg (fun _=>x4.cell rfl) ?_
  refine spn (.bool false) ?_ (hb:=by first | rfl | (simp;done) | (simp;omega))
  refine spn (.agg (modcells m a).toArray) ?_ (hb:=by first | rfl | (simp;done) | (simp;omega))
  refine ldg (fun _=>x4.cell rfl) ?_
  refine spn (.bool false) ?_ (hb:=by first | rfl | (simp;done) | (simp;omega))
  refine spn (.agg (modcells m a).toArray) ?_ (hb:=by first | rfl | (simp;done) | (simp;omega))
  refine spn (.agg (encTy x.result).toArray) ?_ (hb:=by first | rfl | (simp;done) | (simp;omega))
  refine spn (.bool false) ?_ (hb:=by first | rfl | (simp;done) | (simp;omega))
  refine ldg (fun _=>x4.cell rfl) ?_
  refine spn (I 0) ?_ (hb:=by first | rfl | (simp;done) | (simp;omega))
  refine ldg (fun _=>x4.cell rfl) ?_
  refine spn (.bool false) ?_ (hb:=by first | rfl | (simp;done) | (simp;omega))
  refine rt1 ⟨⟨false,congrArg Value.bool ?_,no fun q=>by have:=q.c1;have:=q.c2;omega⟩,B4⟩
  first | rfl | (simp;done) | (simp;omega)
 have hrl:∀ q:MthP m k x,(x.locals.length:Int)<=room x:=fun q=>by have:=q.ll;unfold room;omega
 refine spt (.agg (modcells m a).toArray) ?_ (hb:=by first | rfl | (simp;done) | (simp;omega))
 refine lda y4.at ?_
 refine ldg (fun _=>x4.cell rfl) ?_
 refine spt (.bool false) ?_ (hb:=by first | rfl | (simp;done) | (simp;omega))
 refine cl (k_areTypes m a x.params a3 c3 4 w4 (f1.bl B4) (by omega)) ?_
 rintro _ w5 ⟨rfl,B45⟩
 have B5:=B4.trans B45
 have x5:=Bl.box B45 x4
 have y5:=Bl.box B45 y4
 have z5:=Bl.box B45 z4
 obtain ⟨t1,et1⟩:∃ t,(decide ((x.params.length:Int)<=4)&&x.params.all fun t=>ityp m t 1)=t:=⟨_,rfl⟩
 rw [et1]
 cases t1 with
 | false =>
  refine spn (.agg (modcells m a).toArray) ?_ (hb:=by first | rfl | (simp;done) | (simp;omega))
  refine ldg (fun _=>x5.cell rfl) ?_
  refine spn (.bool false) ?_ (hb:=by first | rfl | (simp;done) | (simp;omega))
  refine spn (.agg (modcells m a).toArray) ?_ (hb:=by first | rfl | (simp;done) | (simp;omega))
  refine spn (.agg (encTy x.result).toArray) ?_ (hb:=by first | rfl | (simp;done) | (simp;omega))
  refine spn (.bool false) ?_ (hb:=by first | rfl | (simp;done) | (simp;omega))
  refine ldg (fun _=>x5.cell rfl) ?_
  refine spn (I 0) ?_ (hb:=by first | rfl | (simp;done) | (simp;omega))
  refine ldg (fun _=>x5.cell rfl) ?_
  refine spn (.bool false) ?_ (hb:=by first | rfl | (simp;done) | (simp;omega))
  refine rt1 ⟨⟨false,congrArg Value.bool ?_,no fun q=>by rw [List.all_eq_true.2 q.pt,decide_eq_true (show (x.params.length:Int)<=4 by have:=q.pl;omega)] at et1;cases et1⟩,B5⟩
  first | rfl | (simp;done) | (simp;omega)
 | true =>
 refine spt (.agg (modcells m a).toArray) ?_ (hb:=by first | rfl | (simp;done) | (simp;omega))
 refine lda y5.at ?_
 refine ldg (fun _=>x5.cell rfl) ?_
 refine spt (.bool false) ?_ (hb:=by first | rfl | (simp;done) | (simp;omega))
 refine cl (k_areTypes m a x.locals a4 c4 (room x) w5 (f2.bl B5) (by omega)) ?_
 rintro _ w6 ⟨rfl,B56⟩
 have B6:=B5.trans B56
 have x6:=Bl.box B56 x5
 have y6:=Bl.box B56 y5
 have z6:=Bl.box B56 z5
 obtain ⟨t2,et2⟩:∃ t,(decide ((x.locals.length:Int)<=room x)&&x.locals.all fun t=>ityp m t 1)=t:=⟨_,rfl⟩
 rw [et2]
 cases t2 with
 | false =>
  refine spn (.agg (modcells m a).toArray) ?_ (hb:=by first | rfl | (simp;done) | (simp;omega))
  refine spn (.agg (encTy x.result).toArray) ?_ (hb:=by first | rfl | (simp;done) | (simp;omega))
  refine spn (.bool false) ?_ (hb:=by first | rfl | (simp;done) | (simp;omega))
  refine ldg (fun _=>x6.cell rfl) ?_
  refine spn (I 0) ?_ (hb:=by first | rfl | (simp;done) | (simp;omega))
  refine ldg (fun _=>x6.cell rfl) ?_
  refine spn (.bool false) ?_ (hb:=by first | rfl | (simp;done) | (simp;omega))
  refine rt1 ⟨⟨false,congrArg Value.bool ?_,no fun q=>by rw [List.all_eq_true.2 q.lt,decide_eq_true (hrl q)] at et2;cases et2⟩,B6⟩
  first | rfl | (simp;done) | (simp;omega)
 | true =>
 refine spt (.agg (modcells m a).toArray) ?_ (hb:=by first | rfl | (simp;done) | (simp;omega))
 refine lda y6.at ?_
 refine spt (.agg (encTy x.result).toArray) ?_ (hb:=by first | rfl | (simp;done) | (simp;omega))
 refine lda (At.left (cs:=encTy x.result) x6.at.tail.tail.tail.tail) ?_
 refine spt (.bool false) ?_ (hb:=by first | rfl | (simp;done) | (simp;omega))
 refine cl (k_isTypeM m a x.result 0 (.inl rfl) w6 (by omega)) ?_
 rintro _ w7 ⟨rfl,B67⟩
 have B7:=B6.trans B67
 have x7:=Bl.box B67 x6
 have y7:=Bl.box B67 y6
 have z7:=Bl.box B67 z6
 cases hr:ityp m x.result 0 with
 | false =>
  refine ldg (fun _=>x7.cell rfl) ?_
  refine spn (I 0) ?_ (hb:=by first | rfl | (simp;done) | (simp;omega))
  refine ldg (fun _=>x7.cell rfl) ?_
  refine spn (.bool false) ?_ (hb:=by first | rfl | (simp;done) | (simp;omega))
  refine rt1 ⟨⟨false,congrArg Value.bool ?_,no fun q=>by rw [q.rt] at hr;cases hr⟩,B7⟩
  first | rfl | (simp;done) | (simp;omega)
 | true =>
 refine ldg (fun _=>x7.cell rfl) ?_
 refine spt (I 0) ?_ (hb:=by first | rfl | (simp;done) | (simp;omega))
 refine cl (u_codeCheck x.code a5 c5 false T w7 (f3.bl B7)) ?_
 rintro _ w8 ⟨rfl,B78⟩
 have B8:=B7.trans B78
 have x8:=Bl.box B78 x7
 have y8:=Bl.box B78 y7
 have z8:=Bl.box B78 z7
 by_cases hcd:codeE x.code false=0
 rotate_left
 ·refine ldg (fun _=>x8.cell rfl) ?_
  refine spn (.bool false) ?_ (hb:=by first | (simp;done) | (simp;exact hcd))
  refine rt1 ⟨⟨false,congrArg Value.bool ?_,no fun q=>hcd q.cd⟩,B8⟩
  first | (simp;done) | (simp;exact hcd)
 have hval:=code_all hcd
 refine ldg (fun _=>x8.cell rfl) ?_
 refine spt (.bool false) ?_ (hb:=by first | (simp;done) | (simp;exact hcd))
 refine cl (ContainsFunc_ins x.code a5 c5 175 [.pointer (some ⟨b1,0,none⟩),.pointer (some ⟨b2,0,none⟩)] (fun i => !oprB m k i) T w8 (f3.bl B8) fun i cs hi w' kk hr => ?_) ?_
 ·obtain rfl:cs=encIns i:=hr
  exact k_method1 m a k i b1 b2 w' (Bl.box kk y8).at ((Bl.box kk z8).cell rfl) (hval i hi) (by omega) hC hT (hM.bl (B8.trans kk))
 rintro _ w9 ⟨rfl,B9⟩
 simp only [Bool.and_eq_true,decide_eq_true_eq] at et1 et2
 refine rt1 ⟨⟨x.code.all (oprB m k),congrArg Value.bool ?_,?_⟩,B8.trans B9⟩
 ·rw [List.all_eq_not_any_not];simp
 ·rw [List.all_eq_true]
  exact ⟨fun h=>⟨hA.1,hA.2,by omega,by have:=et2.1;unfold room at this;omega,List.all_eq_true.1 et1.2,List.all_eq_true.1 et2.2,hr,hcd,h⟩,fun q=>q.op⟩
end Go.Proofs.YtdjkoljonlcemaaGreat

/- Walks: the document's Check of modules. -/
namespace Go.Proofs.YtdjkoljonlcemaaGreat
open Eng Go.RowKit
theorem chkE_no {m:Mod} (h:¬ModP m):mchkE m=1:=by unfold mchkE;rw [if_neg h]
theorem chkE_yes {m:Mod} (h:ModP m):mchkE m=0:=by unfold mchkE;rw [if_pos h]
set_option maxHeartbeats 2000000 in
theorem r5_Check (m:Mod) (a:MA) (w:World) (hM:MdR T w m a):Ret Tryz.prog 56 #[.agg (modcells m a).toArray] w fun v w'=>v=I (mchkE m)/\Bl w w':=by
 have q1:=hM.cls.big
 have q2:=hM.sta.big
 have q3:=hM.mth.big
 refine entr (vs:=[.agg (modcells m a).toArray]) [0,1,2,3,4,5,6,7,8,34,44,49,55,59,68,98] tabok Tryz.func56 (by kernel_rfl) ?_
 refine bx (cs:=modcells m a) fun b1 w1 k1 => ?_
 have x1:=k1.box
 refine ld (x1.cell rfl) ?_
 refine ldg (fun _=>x1.cell rfl) ?_
 refine ldg (fun _=>x1.cell rfl) ?_
 refine ldg (fun _=>x1.cell rfl) ?_
 refine ldg (fun _=>x1.cell rfl) ?_
 by_cases hA:10<(m.classes.length:Int)∨10<(m.statics.length:Int)∨16<(m.methods.length:Int)∨m.sels<0∨16<m.sels
 ·refine brt ?_ (hp:=by first | rfl | (simp;done) | (simp;omega))
  rw [chkE_no fun q=>by have:=q.cl;have:=q.sl;have:=q.ml;have:=q.z0;have:=q.z1;omega]
  exact rt1 ⟨rfl,k1.bl⟩
 refine brf ?_ (hp:=by first | rfl | (simp;done) | (simp;omega))
 refine lda x1.at ?_
 refine cl (r5_classes m a w1 (hM.bl k1.bl) (by omega) (by omega) (by omega) (by omega)) ?_ (hm:=fun _ _ r=>mdW_bl r.2)
 rintro _ w2 ⟨⟨bc,rfl,hbc⟩,B12⟩
 have B2:=k1.bl.trans B12
 have x2:=Bl.box B12 x1
 cases bc with
 | false =>
  refine spn (.agg (modcells m a).toArray) ?_
  refine spn (.slice none 0 0) ?_
  refine spn (.bool false) ?_
  refine brt ?_
  rw [chkE_no fun q=>by have:=hbc.2 q.cls;cases this]
  exact rt1 ⟨rfl,B2⟩
 | true =>
 have hP:=hbc.1 rfl
 have hT:∀ c∈m.classes,(c.table.length:Int)=m.sels:=fun c hc=>by
  obtain ⟨i,hi⟩:=List.mem_iff_getElem?.1 hc
  exact (hP i c hi).tl
 refine spt (.agg (modcells m a).toArray) ?_
 refine lda x2.at ?_
 refine ldg (fun _=>x2.cell rfl) ?_
 refine spt (.bool false) ?_
 refine cl (r5_types m a m.statics a.a2 a.c2 w2 (hM.bl B2).sta) ?_
 rintro _ w3 ⟨rfl,B23⟩
 have B3:=B2.trans B23
 have x3:=Bl.box B23 x2
 cases hst:m.statics.all fun t=>ityp m t 1 with
 | false =>
  refine brt ?_
  rw [chkE_no fun q=>by rw [List.all_eq_true.2 q.sta] at hst;cases hst]
  exact rt1 ⟨rfl,B3⟩
 | true =>
 refine brf ?_
 refine lpk m.methods.length 3 [] [(1,.pointer (some ⟨b1,0,none⟩))] (fun k vals w'=>vals=[]/\(∀ (i:Nat) x,i<k->m.methods[i]? = some x->MthP m i x)/\Bl w3 w') ⟨rfl,fun i x h=>by omega,Bl.refl _⟩ ?_
 rintro k vals w4 hk ⟨rfl,hMt,B34⟩ ih
 have x4:=Bl.box B34 x3
 have B4:=B3.trans B34
 refine ld (x4.cell rfl) ?_
 by_cases hlt:k<m.methods.length
 ·refine brT ?_
  obtain ⟨x,hx⟩:=some_of_lt hlt
  refine lda x4.at ?_
  refine cl (r5_isMethod m a k x w4 (hM.bl B4) hx (by omega) (by omega) hT) ?_ (hm:=fun _ _ r=>mdW_bl r.2)
  rintro _ w5 ⟨⟨b,rfl,hb⟩,B45⟩
  cases b with
  | false =>
   refine brt ?_
   rw [chkE_no fun q=>by have:=hb.2 (q.mth k x hx);cases this]
   exact rt1 ⟨rfl,B4.trans B45⟩
  | true =>
   refine brf ?_
   refine ih hlt ⟨rfl,fun i y hi hy => ?_,B34.trans B45⟩
   rcases Nat.lt_or_ge i k with q | q
   ·exact hMt i y q hy
   ·obtain rfl:i=k:=by omega
    rw [hx] at hy;obtain rfl:=Option.some.inj hy;exact hb.1 rfl
 refine brF ?_
 clear ih
 have hMt':∀ (k:Nat) x,m.methods[k]? = some x->MthP m k x:=fun i x hx=>hMt i x (by have:=(List.getElem?_eq_some_iff.1 hx).1;omega) hx
 clear hMt
 obtain ⟨n,hn⟩:=Int.eq_ofNat_of_zero_le (show 0<=m.sels by omega)
 refine lpk (vals:=[]) n 4 [] [(1,.pointer (some ⟨b1,0,none⟩))] (fun s vals w'=>vals=[]/\(∀ i:Nat,i<s->AlkP m i)/\Bl w4 w') ⟨rfl,fun i h=>by omega,Bl.refl _⟩ ?_
 rintro s vals w5 hs ⟨rfl,hAl,B45⟩ ih
 have x5:=Bl.box B45 x4
 have B5:=B4.trans B45
 refine ld (x5.cell rfl) ?_
 by_cases hsl:s<n
 rotate_left
 ·refine brF ?_ (hp:=by omega)
  rw [chkE_yes ⟨by omega,by omega,by omega,by omega,by omega,hP,List.all_eq_true.1 hst,hMt',fun s' h=>hAl s' (by omega)⟩]
  exact rt1 ⟨rfl,B5⟩
 refine brT ?_ (hp:=by omega)
 refine lda x5.at ?_
 refine cl (r5_targets m a s (fun c hc=>by have:=hT c hc;omega) w5 (hM.bl B5)) ?_ (hm:=fun _ _ r=>by obtain ⟨_,_,_,_,hB⟩:=r;exact mdW_bl hB)
 rintro _ w6 ⟨a6,c6,rfl,hS,B56⟩
 have x6:=Bl.box B56 x5
 have B6:=B5.trans B56
 have hlen:=trg_len (m:=m) s
 have htr:∀ t∈trgM m s,0<=t/\t<m.methods.length:=fun t ht=>by
  obtain ⟨h0,c,hc,e⟩:=mem_trg.1 ht
  obtain ⟨k,hk⟩:=List.mem_iff_getElem?.1 hc
  cases hs:c.table[s]? with
  | none=>rw [List.getD_eq_getElem?_getD,hs] at e;simp at e;omega
  | some n =>
   rw [List.getD_eq_getElem?_getD,hs] at e
   simp only [Option.getD_some] at e
   subst e
   exact ⟨h0,((hP k c hk).tb s n hs).hi⟩
 obtain ⟨tr,etr⟩:∃ tr,trgM m s=tr:=⟨_,rfl⟩
 rw [etr] at hS hlen htr ⊢
 refine lp (vals:=[I 1]) [6] [(1,.pointer (some ⟨b1,0,none⟩)),(4,I s),(5,.slice a6 tr.length c6)] (fun mm vals w'=>∃ i:Nat,mm=tr.length-i/\vals=[I i]/\1<=i/\(∀ (j:Nat) t x t0 x0,j<i->tr[j]? = some t->m.methods[t.toNat]? = some x->tr[0]? = some t0->m.methods[t0.toNat]? = some x0->x.params=x0.params/\x.result=x0.result)/\Bl w6 w') ⟨rfl,rfl,rfl,trivial⟩ (m:=tr.length-1)
  ⟨1,rfl,rfl,Nat.le_refl _,fun j t x t0 x0 hj ht hx h0 hx0=>by
   obtain rfl:j=0:=by omega
   rw [ht] at h0;obtain rfl:=Option.some.inj h0;rw [hx] at hx0;obtain rfl:=Option.some.inj hx0;exact ⟨rfl,rfl⟩,Bl.refl _⟩ ?_
 rintro mm vals w7 ⟨i,rfl,rfl,hi1,hAi,B67⟩ ih2
 have x7:=Bl.box B67 x6
 have B7:=B6.trans B67
 by_cases hil:i<tr.length
 rotate_left
 ·refine brF ?_
  refine ih hsl ⟨rfl,fun j hj => ?_,(B45.trans B56).trans B67⟩
  rcases Nat.lt_or_ge j s with q | q
  ·exact hAl j q
  ·obtain rfl:j=s:=by omega
   intro t ht u hu x y hx hy
   rw [etr] at ht hu
   obtain ⟨i1,h1⟩:=List.mem_iff_getElem?.1 ht
   obtain ⟨i2,h2⟩:=List.mem_iff_getElem?.1 hu
   obtain ⟨t0,h0⟩:=some_of_lt (l:=tr) (k:=0) (by have:=(List.getElem?_eq_some_iff.1 h1).1;omega)
   have r0:=htr t0 (List.mem_of_getElem? h0)
   obtain ⟨x0,hx0⟩:=some_of_lt (l:=m.methods) (k:=t0.toNat) (by omega)
   obtain ⟨p1,p2⟩:=hAi i1 t x t0 x0 (by have:=(List.getElem?_eq_some_iff.1 h1).1;omega) h1 hx h0 hx0
   obtain ⟨p3,p4⟩:=hAi i2 u y t0 x0 (by have:=(List.getElem?_eq_some_iff.1 h2).1;omega) h2 hy h0 hx0
   exact ⟨p1.trans p3.symm,p2.trans p4.symm⟩
 refine brT ?_
 have l7:=x7.lt
 obtain ⟨t0,b8,o8,cs8,h0,e8,s8,hA8,rfl⟩:=at_some (hS.bl B67) (i:=0) (by omega)
 obtain ⟨t,b8',o8',cs8',ht,e8',s8',hA8',rfl⟩:=at_some (hS.bl B67) (i:=i) hil
 obtain ⟨rfl,rfl⟩:b8=b8'/\o8=o8':=by rw [e8] at e8';simpa using e8'
 have r0:=htr t0 (List.mem_of_getElem? h0)
 have r1:=htr t (List.mem_of_getElem? ht)
 obtain ⟨j0,hj0⟩:=Int.eq_ofNat_of_zero_le r0.1
 obtain ⟨j1,hj1⟩:=Int.eq_ofNat_of_zero_le r1.1
 obtain ⟨x0,b9,o9,cs9,hx0,e9,s9,hA9,a10,c10,a11,c11,a12,c12,rfl,f1,f2,f3,_⟩:=at_some ((hM.bl B7).mth) (i:=j0) (by omega)
 obtain ⟨y0,b9',o9',cs9',hy0,e9',s9',hA9',a10',c10',a11',c11',a12',c12',rfl,g1,g2,g3,_⟩:=at_some ((hM.bl B7).mth) (i:=j1) (by omega)
 obtain ⟨rfl,rfl⟩:b9=b9'/\o9=o9':=by rw [e9] at e9';simpa using e9'
 have lb8:=cell_lt (hA8 0 _ rfl)
 have lb8':=cell_lt (hA8' 0 _ rfl)
 have lb9:=cell_lt (hA9 0 _ rfl)
 have lb9':=cell_lt (hA9' 0 _ rfl)
 refine cut [7,8] [(1,.pointer (some ⟨b1,0,none⟩)),(4,I s),(5,.slice a6 tr.length c6),(6,I i)] (fun vals w'=>∃ b13 b14,vals=[.pointer (some ⟨b13,0,none⟩),.pointer (some ⟨b14,0,none⟩)]/\Bl w7 w'/\Box w' b13 45 (mmcells x0 a10 c10 a11 c11 a12 c12)/\Box w' b14 45 (mmcells y0 a10' c10' a11' c11' a12' c12')) (fun jo => ?_) ?_
 ·refine dhb (· < w7.heap.size) (.row [0,1,2,3,4,5,6,7,8,9,10,11,12,13,14] (.two 15 (.row [16,17,18] .done) 16 (.row [15,17,18] .done))) fun w8 k8 => ?_
  have B8:=k8.bl
  refine ld ((k8.box x7).cell rfl) ?_ (hm:=l7)
  rw [e8]
  refine ix (j:=0) ?_ (hb:=by omega)
  refine ld (hA8.bl B8 0 _ rfl) ?_ (hm:=lb8)
  rw [e9]
  refine ix (j:=j0) ?_ (hij:=hj0) (hb:=by omega)
  refine lda (hA9.bl B8) ?_ (hm:=lb9)
  refine ld ((k8.box x7).cell rfl) ?_ (hm:=l7)
  refine ix (j:=i) ?_ (hb:=by omega)
  refine ld (hA8'.bl B8 0 _ rfl) ?_ (hm:=lb8')
  rw [e9]
  refine ix (j:=j1) ?_ (hij:=hj1) (hb:=by omega)
  refine lda (hA9'.bl B8) ?_ (hm:=lb9')
  refine bt ?_ ?_
  ·refine al fun b13 w9 k9 => ?_
   refine al fun b14 w10 k10 => ?_
   have y9:=k9.blk
   have y10:=k10.blk
   have z9:=k9.size
   have z10:=k10.size
   have z8:=B8.size
   have v13:=Bl.box k10.bl k9.box
   have v14:=k10.box
   refine sta (cs':=mmcells x0 a10 c10 a11 c11 a12 c12) v13 (fun w11 k11 x11 => ?_) (hm:=wrB (by show ¬b13<_;omega))
   refine sta (cs':=mmcells y0 a10' c10' a11' c11' a12' c12') (k11.box v14 (by omega)) (fun w12 k12 x12 => ?_) (hm:=wrB (by show ¬b14<_;omega))
   refine jo ⟨b13,b14,rfl,?_,k12.box x11 (by omega),x12⟩ (hsub:=⟨rfl,rfl,by rw [e8];rfl,rfl,trivial⟩)
   exact Below.trans (Below.trans (B8.trans (k9.bl.trans k10.bl)) (k11.below (by omega))) (k12.below (by omega))
  ·refine al fun b14 w9 k9 => ?_
   refine al fun b13 w10 k10 => ?_
   have y9:=k9.blk
   have y10:=k10.blk
   have z9:=k9.size
   have z10:=k10.size
   have z8:=B8.size
   have v14:=Bl.box k10.bl k9.box
   have v13:=k10.box
   refine sta (cs':=mmcells x0 a10 c10 a11 c11 a12 c12) v13 (fun w11 k11 x11 => ?_) (hm:=wrB (by show ¬b13<_;omega))
   refine sta (cs':=mmcells y0 a10' c10' a11' c11' a12' c12') (k11.box v14 (by omega)) (fun w12 k12 x12 => ?_) (hm:=wrB (by show ¬b14<_;omega))
   refine jo ⟨b13,b14,rfl,?_,k12.box x11 (by omega),x12⟩ (hsub:=⟨rfl,rfl,by rw [e8];rfl,rfl,trivial⟩)
   exact Below.trans (Below.trans (B8.trans (k9.bl.trans k10.bl)) (k11.below (by omega))) (k12.below (by omega))
 rintro vals w13 ⟨b13,b14,rfl,B713,x13,x14⟩
 have B13:=B7.trans B713
 refine ld (x13.cell rfl) ?_
 refine ld (x14.cell rfl) ?_
 refine cl (r_SameTypes x0.params y0.params a10 a10' c10 c10' w13 (f1.bl B713) (g1.bl B713)) ?_
 rintro _ w14 ⟨rfl,B14⟩
 have v13:=Bl.box B14 x13
 have v14:=Bl.box B14 x14
 have B014:=B13.trans B14
 have hx0':m.methods[t0.toNat]? = some x0:=by rw [hj0,Int.toNat_natCast];exact hx0
 have hy0':m.methods[t.toNat]? = some y0:=by rw [hj1,Int.toNat_natCast];exact hy0
 have bad:¬(y0.params=x0.params/\y0.result=x0.result)->¬ModP m:=fun hne q=>hne (q.alk s (by omega) t (by rw [etr];exact List.mem_of_getElem? ht) t0 (by rw [etr];exact List.mem_of_getElem? h0) y0 x0 hy0' hx0')
 by_cases hpp:x0.params=y0.params
 ·rw [decide_eq_true hpp]
  refine spt (.agg (encTy x0.result).toArray) ?_
  refine lda (At.left (cs:=encTy x0.result) v13.at.tail.tail.tail.tail) ?_
  refine spt (.agg (encTy x0.result).toArray) ?_
  refine lda (At.left (cs:=encTy y0.result) v14.at.tail.tail.tail.tail) ?_
  refine spt (.bool false) ?_
  refine neA (fun w=>eq_ty x0.result y0.result) ?_
  by_cases hrr:x0.result=y0.result
  ·rw [decide_eq_true hrr]
   refine brf ?_
   refine again (ih2 _ _ _ _ (by omega) ⟨rfl,rfl,rfl,trivial⟩ rfl ⟨i+1,rfl,lst1 (inc hil),by omega,fun j t' x' t0' x0' hj ht' hx' h0' hx0'' => ?_,(B67.trans B713).trans B14⟩)
   rw [h0] at h0';obtain rfl:=Option.some.inj h0'
   rw [hx0'] at hx0'';obtain rfl:=Option.some.inj hx0''
   rcases Nat.lt_or_ge j i with q | q
   ·exact hAi j t' x' t0 x0 q ht' hx' h0 hx0'
   ·obtain rfl:j=i:=by omega
    rw [ht] at ht';obtain rfl:=Option.some.inj ht'
    rw [hy0'] at hx';obtain rfl:=Option.some.inj hx'
    exact ⟨hpp.symm,hrr.symm⟩
  ·rw [decide_eq_false hrr]
   refine brt ?_
   rw [chkE_no (bad fun q=>hrr q.2.symm)]
   exact rt1 ⟨rfl,B014⟩
 ·rw [decide_eq_false hpp]
  refine spn (.agg (encTy x0.result).toArray) ?_
  refine spn (.agg (encTy x0.result).toArray) ?_
  refine spn (.bool false) ?_
  refine brt ?_
  rw [chkE_no (bad fun q=>hpp q.1.symm)]
  exact rt1 ⟨rfl,B014⟩
end Go.Proofs.YtdjkoljonlcemaaGreat

/- Walks: the targets of a selector; what a valid module is; Check, in the program. -/
namespace Go.Proofs.YtdjkoljonlcemaaGreat
open Eng Go.RowKit
def mmD (m:Mod) (t:Int):MM:=(m.methods[t.toNat]?).getD ⟨⟨#[]⟩,0,[],[],⟨0,0⟩,[]⟩
def alkB (m:Mod) (t t0:Int):Bool:=decide ((mmD m t).result=(mmD m t0).result)&&decide ((mmD m t).params=(mmD m t0).params)
theorem mmD_at {m:Mod} {j:Nat} {x:MM} (h:m.methods[j]? = some x):mmD m (j:Int)=x:=by unfold mmD;rw [Int.toNat_natCast,h];rfl
set_option maxHeartbeats 1000000 in
theorem k_alike1 (m:Mod) (a:MA) (j j0 b b5:Nat) (tr:List Int) (at':Option Addr) (ct:Nat) (w:World) (hx:Box w b 191 (modcells m a)) (hx5:w.cell? ⟨b5,0,none⟩=some (.slice at' tr.length ct)) (hS:Sl eInt T w at' tr) (h0:tr[0]? = some (j0:Int)) (hj:j<m.methods.length) (hj0:j0<m.methods.length) (hM:MdR T w m a) :
  Ret Tryz.prog 178 #[I j,.pointer (some ⟨b,0,none⟩),.pointer (some ⟨b5,0,none⟩)] w fun v w'=>v = .bool (!alkB m j j0)/\Bl w w':=by
 have lb:=hx.lt
 have lb5:=cell_lt hx5
 have hbig:=hM.mth.big
 have htl:0<tr.length:=(List.getElem?_eq_some_iff.1 h0).1
 obtain ⟨t0,b8,o8,cs8,h0',e8,s8,hA8,rfl⟩:=at_some hS (i:=0) htl
 obtain rfl:t0=(j0:Int):=by rw [h0] at h0';exact (Option.some.inj h0').symm
 obtain ⟨x0,b9,o9,cs9,hx0,e9,s9,hA9,a10,c10,a11,c11,a12,c12,rfl,f1,f2,f3,_⟩:=at_some hM.mth (i:=j) hj
 obtain ⟨y0,b9',o9',cs9',hy0,e9',s9',hA9',a10',c10',a11',c11',a12',c12',rfl,g1,g2,g3,_⟩:=at_some hM.mth (i:=j0) hj0
 obtain ⟨rfl,rfl⟩:b9=b9'/\o9=o9':=by rw [e9] at e9';simpa using e9'
 have lb8:=cell_lt (hA8 0 _ rfl)
 have lb9:=cell_lt (hA9 0 _ rfl)
 have lb9':=cell_lt (hA9' 0 _ rfl)
 refine entr (vs:=[I j,.pointer (some ⟨b,0,none⟩),.pointer (some ⟨b5,0,none⟩)]) [0,1,2,4,5,6] tabok Tryz.func178 (by kernel_rfl) ?_
 refine cut [5,6] [] (fun vals w'=>∃ b13 b14,vals=[.pointer (some ⟨b13,0,none⟩),.pointer (some ⟨b14,0,none⟩)]/\Bl w w'/\Box w' b13 45 (mmcells x0 a10 c10 a11 c11 a12 c12)/\Box w' b14 45 (mmcells y0 a10' c10' a11' c11' a12' c12')) (fun jo => ?_) ?_
 ·refine dhb (· < w.heap.size) (.row [0,1,2,3,4,5,6,7,8,9,10,11,12,13] (.two 14 (.row [15,16,17] .done) 15 (.row [14,16,17] .done))) fun w8 k8 => ?_
  have B8:=k8.bl
  refine ld ((k8.box hx).cell rfl) ?_ (hm:=lb)
  rw [e9]
  refine ix (j:=j) ?_
  refine lda (hA9.bl B8) ?_ (hm:=lb9)
  refine ld ((k8.box hx).cell rfl) ?_ (hm:=lb)
  refine ld (Bl.cl B8 hx5) ?_ (hm:=lb5)
  rw [e8]
  refine ix (j:=0) ?_ (hb:=by omega)
  refine ld (hA8.bl B8 0 _ rfl) ?_ (hm:=lb8)
  rw [e9]
  refine ix (j:=j0) ?_
  refine lda (hA9'.bl B8) ?_ (hm:=lb9')
  refine bt ?_ ?_
  ·refine al fun b13 w9 k9 => ?_
   refine al fun b14 w10 k10 => ?_
   have y9:=k9.blk
   have y10:=k10.blk
   have z9:=k9.size
   have z10:=k10.size
   have z8:=B8.size
   have v13:=Bl.box k10.bl k9.box
   have v14:=k10.box
   refine sta (cs':=mmcells x0 a10 c10 a11 c11 a12 c12) v13 (fun w11 k11 x11 => ?_) (hm:=wrB (by show ¬b13<_;omega))
   refine sta (cs':=mmcells y0 a10' c10' a11' c11' a12' c12') (k11.box v14 (by omega)) (fun w12 k12 x12 => ?_) (hm:=wrB (by show ¬b14<_;omega))
   refine jo ⟨b13,b14,rfl,?_,k12.box x11 (by omega),x12⟩
   exact Below.trans (Below.trans (B8.trans (k9.bl.trans k10.bl)) (k11.below (by omega))) (k12.below (by omega))
  ·refine al fun b14 w9 k9 => ?_
   refine al fun b13 w10 k10 => ?_
   have y9:=k9.blk
   have y10:=k10.blk
   have z9:=k9.size
   have z10:=k10.size
   have z8:=B8.size
   have v14:=Bl.box k10.bl k9.box
   have v13:=k10.box
   refine sta (cs':=mmcells x0 a10 c10 a11 c11 a12 c12) v13 (fun w11 k11 x11 => ?_) (hm:=wrB (by show ¬b13<_;omega))
   refine sta (cs':=mmcells y0 a10' c10' a11' c11' a12' c12') (k11.box v14 (by omega)) (fun w12 k12 x12 => ?_) (hm:=wrB (by show ¬b14<_;omega))
   refine jo ⟨b13,b14,rfl,?_,k12.box x11 (by omega),x12⟩
   exact Below.trans (Below.trans (B8.trans (k9.bl.trans k10.bl)) (k11.below (by omega))) (k12.below (by omega))
 rintro vals w13 ⟨b13,b14,rfl,B13,x13,x14⟩
 refine lda (At.left (cs:=encTy x0.result) x13.at.tail.tail.tail.tail) ?_
 refine lda (At.left (cs:=encTy y0.result) x14.at.tail.tail.tail.tail) ?_
 refine neA (fun w=>eq_ty x0.result y0.result) ?_
 have ea:alkB m j j0=(decide (x0.result=y0.result)&&decide (x0.params=y0.params)):=by unfold alkB;rw [mmD_at hx0,mmD_at hy0]
 rw [ea]
 by_cases hrr:x0.result=y0.result
 ·rw [decide_eq_true hrr]
  refine ldg (fun _=>x13.cell rfl) ?_
  refine ldg (fun _=>x14.cell rfl) ?_
  refine spt (.bool false) ?_ (hb:=by first | rfl | (simp;done) | (simp;omega))
  refine cl (l_EqualT x0.params y0.params a10 a10' c10 c10' w13 (f1.bl B13) (g1.bl B13)) ?_
  rintro _ w14 ⟨rfl,B14⟩
  exact rt1 ⟨rfl,B13.trans B14⟩
 ·rw [decide_eq_false hrr]
  refine ldg (fun _=>x13.cell rfl) ?_
  refine ldg (fun _=>x14.cell rfl) ?_
  refine spn (.bool false) ?_ (hb:=by first | rfl | (simp;done) | (simp;omega))
  exact rt1 ⟨rfl,B13⟩
theorem alk_any {m:Mod} {s:Nat} (htr:∀ t∈trgM m s,0<=t/\t<m.methods.length):((trgM m s).all fun t=>alkB m t ((trgM m s).getD 0 0))=true↔AlkP m s:=by
 have key:∀ t∈trgM m s,∀ x,m.methods[t.toNat]? = some x->mmD m t=x:=fun t ht x hx=>by unfold mmD;rw [hx];rfl
 rw [List.all_eq_true]
 constructor
 ·intro h t ht u hu x y hx hy
  have h1:=h t ht
  have h2:=h u hu
  unfold alkB at h1 h2
  simp only [Bool.and_eq_true,decide_eq_true_eq] at h1 h2
  rw [key t ht x hx] at h1
  rw [key u hu y hy] at h2
  exact ⟨h1.2.trans h2.2.symm,h1.1.trans h2.1.symm⟩
 ·intro h t ht
  have h0:(trgM m s).getD 0 0∈trgM m s:=by
   cases hl:trgM m s with
   | nil=>rw [hl] at ht;cases ht
   | cons z l=>exact List.mem_cons_self ..
  obtain ⟨x,hx⟩:=some_of_lt (l:=m.methods) (k:=t.toNat) (by have:=htr t ht;omega)
  obtain ⟨y,hy⟩:=some_of_lt (l:=m.methods) (k:=((trgM m s).getD 0 0).toNat) (by have:=htr _ h0;omega)
  obtain ⟨e1,e2⟩:=h t ht _ h0 x y hx hy
  unfold alkB
  rw [key t ht x hx,key _ h0 y hy,e1,e2];simp
theorem k_alike (m:Mod) (a:MA) (s:Nat) (hT:∀ c∈m.classes,s<c.table.length) (htr:∀ t∈trgM m s,0<=t/\t<m.methods.length) (w:World) (hM:MdR T w m a) :
  Ret Tryz.prog 113 #[.agg (modcells m a).toArray,I s] w fun v w'=>(∃ b,v = .bool b/\(b=true↔AlkP m s))/\Bl w w':=by
 have hbig:=hM.cls.big
 refine entr (vs:=[.agg (modcells m a).toArray,I s]) [0,1,2,4,5] tabok Tryz.func113 (by kernel_rfl) ?_
 refine bx (cs:=modcells m a) fun b1 w1 k1 => ?_
 have x1:=k1.box
 refine lda x1.at ?_
 refine cl (k_targets m a s hT w1 (hM.bl k1.bl)) ?_ (hm:=fun _ _ r=>by obtain ⟨_,_,_,_,hB⟩:=r;exact mdW_bl hB)
 rintro _ w2 ⟨a2,c2,rfl,O2,B2⟩
 have hlen:=trg_len (m:=m) s
 refine al fun b5 w3 k3 => ?_
 refine st k3.box fun w4 k4 x4 => ?_
 have B24:=k3.wr k4
 have O4:=O2.bl B24
 have B4:=(k1.bl.trans B2).trans B24
 have y4:=Bl.box (B2.trans B24) x1
 have S4:Sl eInt T w4 a2 (trgM m s):=owp_sl O4 (by omega) fun _ _=>trivial
 refine ld (x4.cell rfl) ?_
 refine cl (ContainsFunc_int (trgM m s) a2 c2 178 [.pointer (some ⟨b1,0,none⟩),.pointer (some ⟨b5,0,none⟩)] (fun t => !alkB m t ((trgM m s).getD 0 0)) T w4 S4 fun t cs ht w' kk hr => ?_) ?_
 ·obtain rfl:cs=encInt t:=hr
  have h0:(trgM m s)[0]? = some ((trgM m s).getD 0 0):=by
   cases hl:trgM m s with
   | nil=>rw [hl] at ht;cases ht
   | cons z l=>rfl
  have h0m:=List.mem_of_getElem? h0
  obtain ⟨j,hj⟩:=Int.eq_ofNat_of_zero_le (htr t ht).1
  obtain ⟨j0,hj0⟩:=Int.eq_ofNat_of_zero_le (htr _ h0m).1
  have r1:=(htr t ht).2
  have r2:=(htr _ h0m).2
  rw [hj0] at h0 r2 ⊢
  subst hj
  exact k_alike1 m a j j0 b1 b5 (trgM m s) a2 c2 w' (Bl.box kk y4) ((Bl.box kk x4).cell rfl) (S4.bl kk) h0 (by omega) (by omega) (hM.bl (B4.trans kk))
 rintro _ w5 ⟨rfl,B5⟩
 refine rt1 ⟨⟨(trgM m s).all fun t=>alkB m t ((trgM m s).getD 0 0),congrArg Value.bool ?_,alk_any htr⟩,B4.trans B5⟩
 rw [List.all_eq_not_any_not]
end Go.Proofs.YtdjkoljonlcemaaGreat

/- Walks: Check of modules, in the program. -/
namespace Go.Proofs.YtdjkoljonlcemaaGreat
open Eng Go.RowKit
set_option maxHeartbeats 1000000 in
theorem k_valid (m:Mod) (a:MA) (w:World) (hM:MdR T w m a):Ret Tryz.prog 78 #[.agg (modcells m a).toArray] w fun v w'=>(∃ b,v = .bool b/\(b=true↔ModP m))/\Bl w w':=by
 have q1:=hM.cls.big
 have q2:=hM.sta.big
 have q3:=hM.mth.big
 have no:(ModP m->False)->(false=true↔ModP m):=fun h=>⟨(fun q=>(by cases q)),fun q=>(h q).elim⟩
 refine entr (vs:=[.agg (modcells m a).toArray]) [0,1,2,3,4,5,6,7,8,37,40,41,42,58,62,63,64,69,73,74,75,80,83,84,85,90] tabok Tryz.func78 (by kernel_rfl) ?_
 refine bx (cs:=modcells m a) fun b1 w1 k1 => ?_
 refine lda k1.box.at ?_
 refine al fun b3 w2 h2 => ?_
 refine sta (cs':=modcells m a) h2.box fun w3 k3 x3 => ?_
 have B13:=h2.wr k3
 have B3:=k1.bl.trans B13
 have y3:=Bl.box B13 k1.box
 refine ld (x3.cell rfl) ?_
 refine ldg (fun _=>x3.cell rfl) ?_
 refine ldg (fun _=>x3.cell rfl) ?_
 refine ldg (fun _=>x3.cell rfl) ?_
 by_cases hA:10<(m.classes.length:Int)∨16<(m.methods.length:Int)∨m.sels<0∨16<m.sels
 ·refine spn (.agg (modcells m a).toArray) ?_ (hb:=by first | rfl | (simp;done) | (simp;omega))
  refine ldg (fun _=>x3.cell rfl) ?_
  refine spn (.bool false) ?_ (hb:=by first | rfl | (simp;done) | (simp;omega))
  refine brt ?_ (hp:=by first | rfl | (simp;done) | (simp;omega))
  exact rt1 ⟨⟨false,rfl,no fun q=>by have:=q.cl;have:=q.ml;have:=q.z0;have:=q.z1;omega⟩,B3⟩
 refine spt (.agg (modcells m a).toArray) ?_ (hb:=by first | rfl | (simp;done) | (simp;omega))
 refine lda y3.at ?_
 refine ldg (fun _=>x3.cell rfl) ?_
 refine spt (.bool false) ?_ (hb:=by first | rfl | (simp;done) | (simp;omega))
 refine cl (k_areTypes m a m.statics a.a2 a.c2 10 w3 (hM.bl B3).sta (by omega)) ?_
 rintro _ w4 ⟨rfl,B34⟩
 have B4:=B3.trans B34
 have x4:=Bl.box B34 x3
 have y4:=Bl.box B34 y3
 obtain ⟨t1,et1⟩:∃ t,(decide ((m.statics.length:Int)<=10)&&m.statics.all fun t=>ityp m t 1)=t:=⟨_,rfl⟩
 rw [et1]
 cases t1 with
 | false =>
  refine brt ?_ (hp:=by first | rfl | (simp;done) | (simp;omega))
  exact rt1 ⟨⟨false,rfl,no fun q=>by rw [List.all_eq_true.2 q.sta,decide_eq_true (show (m.statics.length:Int)<=10 by have:=q.sl;omega)] at et1;cases et1⟩,B4⟩
 | true =>
 simp only [Bool.and_eq_true,decide_eq_true_eq] at et1
 refine brf ?_ (hp:=by first | rfl | (simp;done) | (simp;omega))
 refine ld (x4.cell rfl) ?_
 refine lpk m.methods.length 41 [] [(1,.pointer (some ⟨b1,0,none⟩)),(3,.pointer (some ⟨b3,0,none⟩)),(40,I m.methods.length)] (fun k vals w'=>vals=[]/\(∀ (i:Nat) y,i<k->m.methods[i]? = some y -> -1<=y.cls/\y.cls<m.classes.length)/\w4=w') ⟨rfl,fun i y h=>by omega,rfl⟩ ?_
 rintro k vals _ hk ⟨rfl,hR,rfl⟩ ih
 by_cases hlt:k<m.methods.length
 ·refine brT ?_
  obtain ⟨y,b,o,cs,hy,e2,_,hAt,a5,c5,a6,c6,a7,c7,rfl,_⟩:=at_some (hM.bl B4).mth hlt
  refine ld (x4.cell rfl) ?_
  rw [e2]
  refine ix ?_
  refine ld (hAt 1 _ rfl) ?_
  refine ldg (fun _=>x4.cell rfl) ?_
  by_cases hB:y.cls < -1∨(m.classes.length:Int)<=y.cls
  ·refine brt ?_ (hp:=by first | rfl | (simp;done) | (simp;omega))
   exact rt1 ⟨⟨false,rfl,no fun q=>by have:=(q.mth k y hy).c1;have:=(q.mth k y hy).c2;omega⟩,B4⟩
  ·refine brf ?_ (hp:=by first | rfl | (simp;done) | (simp;omega))
   refine ih hlt ⟨rfl,fun i z hi hz => ?_,rfl⟩
   rcases Nat.lt_or_ge i k with q | q
   ·exact hR i z q hz
   ·obtain rfl:i=k:=by omega
    rw [hy] at hz;obtain rfl:=Option.some.inj hz;omega
 refine brF ?_
 clear ih
 have hC:∀ y∈m.methods,-1<=y.cls:=fun y hy=>by
  obtain ⟨i,hi⟩:=List.mem_iff_getElem?.1 hy
  exact (hR i y (by have:=(List.getElem?_eq_some_iff.1 hi).1;omega) hi).1
 refine ld (x4.cell rfl) ?_
 refine lpk (vals:=[]) m.classes.length 63 [] [(1,.pointer (some ⟨b1,0,none⟩)),(3,.pointer (some ⟨b3,0,none⟩)),(62,I m.classes.length)] (fun k vals w'=>vals=[]/\(∀ (i:Nat) x,i<k->m.classes[i]? = some x->ClsP m i x)/\Bl w4 w') ⟨rfl,fun i y h=>by omega,Bl.refl _⟩ ?_
 clear hk hR hlt
 rintro k vals w5 hk ⟨rfl,hP,B45⟩ ih
 have x5:=Bl.box B45 x4
 have y5:=Bl.box B45 y4
 have B5:=B4.trans B45
 by_cases hlt:k<m.classes.length
 ·refine brT ?_
  obtain ⟨c,hc⟩:=some_of_lt hlt
  refine lda y5.at ?_
  refine cl (k_class m a k c w5 (hM.bl B5) hc hP (by omega) (by omega) (by omega) (by omega)) ?_ (hm:=fun _ _ r=>mdW_bl r.2)
  rintro _ w6 ⟨⟨b,rfl,hb⟩,B6⟩
  cases b with
  | false =>
   refine brt ?_ (hp:=by first | rfl | (simp;done) | (simp;omega))
   exact rt1 ⟨⟨false,rfl,no fun q=>by have:=hb.2 (q.cls k c hc);cases this⟩,B5.trans B6⟩
  | true =>
   refine brf ?_ (hp:=by first | rfl | (simp;done) | (simp;omega))
   refine ih hlt ⟨rfl,fun i z hi hz => ?_,B45.trans B6⟩
   rcases Nat.lt_or_ge i k with q | q
   ·exact hP i z q hz
   ·obtain rfl:i=k:=by omega
    rw [hc] at hz;obtain rfl:=Option.some.inj hz;exact hb.1 rfl
 refine brF ?_
 clear ih
 have hP':∀ (k:Nat) x,m.classes[k]? = some x->ClsP m k x:=fun i x hx=>hP i x (by have:=(List.getElem?_eq_some_iff.1 hx).1;omega) hx
 have hT:∀ c∈m.classes,(c.table.length:Int)=m.sels:=fun c hc=>by
  obtain ⟨i,hi⟩:=List.mem_iff_getElem?.1 hc
  exact (hP' i c hi).tl
 refine ld (x5.cell rfl) ?_
 refine lpk (vals:=[]) m.methods.length 74 [] [(1,.pointer (some ⟨b1,0,none⟩)),(3,.pointer (some ⟨b3,0,none⟩)),(73,I m.methods.length)] (fun k vals w'=>vals=[]/\(∀ (i:Nat) x,i<k->m.methods[i]? = some x->MthP m i x)/\Bl w5 w') ⟨rfl,fun i y h=>by omega,Bl.refl _⟩ ?_
 clear hk hP hlt
 rintro k vals w6 hk ⟨rfl,hMt,B56⟩ ih
 have x6:=Bl.box B56 x5
 have y6:=Bl.box B56 y5
 have B6:=B5.trans B56
 by_cases hlt:k<m.methods.length
 ·refine brT ?_
  obtain ⟨x,hx⟩:=some_of_lt hlt
  refine lda y6.at ?_
  refine cl (k_method m a k x w6 (hM.bl B6) hx (by omega) (by omega) hC hT) ?_ (hm:=fun _ _ r=>mdW_bl r.2)
  rintro _ w7 ⟨⟨b,rfl,hb⟩,B7⟩
  cases b with
  | false =>
   refine brt ?_ (hp:=by first | rfl | (simp;done) | (simp;omega))
   exact rt1 ⟨⟨false,rfl,no fun q=>by have:=hb.2 (q.mth k x hx);cases this⟩,B6.trans B7⟩
  | true =>
   refine brf ?_ (hp:=by first | rfl | (simp;done) | (simp;omega))
   refine ih hlt ⟨rfl,fun i z hi hz => ?_,B56.trans B7⟩
   rcases Nat.lt_or_ge i k with q | q
   ·exact hMt i z q hz
   ·obtain rfl:i=k:=by omega
    rw [hx] at hz;obtain rfl:=Option.some.inj hz;exact hb.1 rfl
 refine brF ?_
 clear ih
 have hMt':∀ (k:Nat) x,m.methods[k]? = some x->MthP m k x:=fun i x hx=>hMt i x (by have:=(List.getElem?_eq_some_iff.1 hx).1;omega) hx
 clear hMt hk
 obtain ⟨n,hn⟩:=Int.eq_ofNat_of_zero_le (show 0<=m.sels by omega)
 refine ld (x6.cell rfl) ?_
 refine lpk (vals:=[]) n 84 [] [(1,.pointer (some ⟨b1,0,none⟩)),(83,I m.sels)] (fun s vals w'=>vals=[]/\(∀ i:Nat,i<s->AlkP m i)/\Bl w6 w') ⟨rfl,fun i h=>by omega,Bl.refl _⟩ ?_
 rintro s vals w7 hs ⟨rfl,hAl,B67⟩ ih
 have y7:=Bl.box B67 y6
 have B7:=B6.trans B67
 by_cases hsl:s<n
 rotate_left
 ·refine brF ?_ (hp:=by omega)
  exact rt1 ⟨⟨true,rfl,⟨fun _=>⟨by omega,by omega,by omega,by omega,by omega,hP',List.all_eq_true.1 et1.2,hMt',fun s' h=>hAl s' (by omega)⟩,fun _=>rfl⟩⟩,B7⟩
 refine brT ?_ (hp:=by omega)
 have htr:∀ t∈trgM m s,0<=t/\t<m.methods.length:=fun t ht=>by
  obtain ⟨h0,c,hc,e⟩:=mem_trg.1 ht
  obtain ⟨k,hk⟩:=List.mem_iff_getElem?.1 hc
  cases hs:c.table[s]? with
  | none=>rw [List.getD_eq_getElem?_getD,hs] at e;simp at e;omega
  | some n =>
   rw [List.getD_eq_getElem?_getD,hs] at e
   simp only [Option.getD_some] at e
   subst e
   exact ⟨h0,((hP' k c hk).tb s n hs).hi⟩
 refine lda y7.at ?_
 refine cl (k_alike m a s (fun c hc=>by have:=hT c hc;omega) htr w7 (hM.bl B7)) ?_ (hm:=fun _ _ r=>mdW_bl r.2)
 rintro _ w8 ⟨⟨b,rfl,hb⟩,B8⟩
 cases b with
 | false =>
  refine brt ?_ (hp:=by first | rfl | (simp;done) | (simp;omega))
  exact rt1 ⟨⟨false,rfl,no fun q=>by have:=hb.2 (q.alk s (by omega));cases this⟩,B7.trans B8⟩
 | true =>
  refine brf ?_ (hp:=by first | rfl | (simp;done) | (simp;omega))
  refine ih hsl ⟨rfl,fun i hi => ?_,B67.trans B8⟩
  rcases Nat.lt_or_ge i s with q | q
  ·exact hAl i q
  ·obtain rfl:i=s:=by omega
   exact hb.1 rfl
theorem k_Check (m:Mod) (a:MA) (w:World) (hM:MdR T w m a):Ret Tryz.prog 46 #[.agg (modcells m a).toArray] w fun v w'=>v=I (mchkE m)/\Bl w w':=by
 refine entr (vs:=[.agg (modcells m a).toArray]) [0,1,2,6] tabok Tryz.func46 (by kernel_rfl) ?_
 refine bx (cs:=modcells m a) fun b1 w1 k1 => ?_
 refine lda k1.box.at ?_
 refine bd (cs:=modcells m a) ?_
 refine cl (k_valid m a w1 (hM.bl k1.bl)) ?_ (hm:=fun _ _ r=>mdW_bl r.2)
 rintro _ w2 ⟨⟨b,rfl,hb⟩,B2⟩
 cases b with
 | false =>
  refine brt ?_ (hp:=by first | rfl | (simp;done) | (simp;omega))
  rw [chkE_no fun q=>by have:=hb.2 q;cases this]
  exact rt1 ⟨rfl,k1.bl.trans B2⟩
 | true =>
  refine brf ?_ (hp:=by first | rfl | (simp;done) | (simp;omega))
  rw [chkE_yes (hb.1 rfl)]
  exact rt1 ⟨rfl,k1.bl.trans B2⟩
end Go.Proofs.YtdjkoljonlcemaaGreat

/- Walks: what is asked of a module; Below and Common, in the program and in the document. -/
namespace Go.Proofs.YtdjkoljonlcemaaGreat
open Eng Go.RowKit
noncomputable def askE (m:Mod) (n:Int) (ix:List Int):Int:=if mchkE m=0/\∀ i∈ix,0<=i/\i<n then 0 else 1
theorem chkE_cases (m:Mod):mchkE m=0∨mchkE m=1:=by
 by_cases h:ModP m
 ·exact .inl (chkE_yes h)
 ·exact .inr (chkE_no h)
theorem modP_of {m:Mod} (h:mchkE m=0):ModP m:=Classical.byContradiction fun q=>by rw [chkE_no q] at h;cases h
theorem ask_yes {m:Mod} {n:Int} {ix:List Int} (h:askE m n ix=0):mchkE m=0/\∀ i∈ix,0<=i/\i<n:=by
 unfold askE at h
 split at h
 ·rename_i q;exact q
 ·cases h
theorem ask_cases (m:Mod) (n:Int) (ix:List Int):askE m n ix=0∨askE m n ix=1:=by
 unfold askE
 split
 ·exact .inl rfl
 ·exact .inr rfl
theorem k_asked1 (x n:Int) (b:Nat) (w:World) (hx:w.cell? ⟨b,0,none⟩=some (I n)):Ret Tryz.prog 108 #[I x,.pointer (some ⟨b,0,none⟩)] w fun v w'=>v = .bool (decide (x<0)||decide (n<=x))/\Bl w w':=by
 refine entr (vs:=[I x,.pointer (some ⟨b,0,none⟩)]) [0,1,3] tabok Tryz.func108 (by kernel_rfl) ?_
 refine ldg (fun _=>hx) ?_
 exact rt1 ⟨rfl,Bl.refl _⟩
theorem k_asked (m:Mod) (a:MA) (n:Int) (ix:List Int) (ai:Option Addr) (ci:Nat) (w:World) (hM:MdR T w m a) (hS:Sl eInt T w ai ix) :
  Ret Tryz.prog 69 #[.agg (modcells m a).toArray,I n,.slice ai ix.length ci] w fun v w'=>v=I (askE m n ix)/\Bl w w':=by
 refine entr (vs:=[.agg (modcells m a).toArray,I n,.slice ai ix.length ci]) [0,1,2,3,4,6,14] tabok Tryz.func69 (by kernel_rfl) ?_
 refine bx (cs:=modcells m a) fun b1 w1 k1 => ?_
 refine bx (cs:=[I n]) fun b2 w2 k2 => ?_
 have B2:=k1.bl.trans k2.bl
 refine lda (Bl.box k2.bl k1.box).at ?_
 refine cl (k_Check m a w2 (hM.bl B2)) ?_
 rintro _ w3 ⟨rfl,B23⟩
 have B3:=B2.trans B23
 by_cases h0:mchkE m=0
 rotate_left
 ·refine spn (.bool false) ?_ (hb:=by first | (simp;done) | (simp;exact h0))
  refine brt ?_ (hp:=by first | (simp;done) | (simp;exact h0))
  have:askE m n ix=1:=by unfold askE;rw [if_neg fun q=>h0 q.1]
  rw [this]
  exact rt1 ⟨rfl,B3⟩
 refine spt (.bool false) ?_ (hb:=by first | (simp;done) | (simp;exact h0))
 refine cl (ContainsFunc_int ix ai ci 108 [.pointer (some ⟨b2,0,none⟩)] (fun x=>decide (x<0)||decide (n<=x)) T w3 (hS.bl B3) fun x cs hx w' kk hr => ?_) ?_
 ·obtain rfl:cs=encInt x:=hr
  exact k_asked1 x n b2 w' ((Bl.box (B23.trans kk) k2.box).cell rfl)
 rintro _ w4 ⟨rfl,B34⟩
 rw [h0]
 cases hb:ix.any fun x=>decide (x<0)||decide (n<=x) with
 | true =>
  refine brt ?_
  obtain ⟨x,hx,hx2⟩:=List.any_eq_true.1 hb
  have:askE m n ix=1:=by
   unfold askE;rw [if_neg fun q => ?_]
   have:=q.2 x hx
   simp only [Bool.or_eq_true,decide_eq_true_eq] at hx2
   omega
  rw [this]
  exact rt1 ⟨rfl,B3.trans B34⟩
 | false =>
  refine brf ?_
  have:askE m n ix=0:=by
   unfold askE
   refine if_pos ⟨h0,fun x hx => ?_⟩
   have:=List.any_eq_false.1 hb x hx
   simp only [Bool.or_eq_true,decide_eq_true_eq] at this
   omega
  rw [this]
  exact rt1 ⟨rfl,B3.trans B34⟩
theorem r5_within (m:Mod) (a:MA) (i n:Int) (w:World) (hM:MdR T w m a):Ret Tryz.prog 62 #[.agg (modcells m a).toArray,I i,I n] w fun v w'=>v=I (askE m n [i])/\Bl w w':=by
 refine entr (vs:=[.agg (modcells m a).toArray,I i,I n]) [0,1,2,3,6,7,20] tabok Tryz.func62 (by kernel_rfl) ?_
 refine bx (cs:=modcells m a) fun b1 w1 k1 => ?_
 refine lda k1.box.at ?_
 refine cl (r5_Check m a w1 (hM.bl k1.bl)) ?_
 rintro _ w2 ⟨rfl,B2⟩
 by_cases h0:mchkE m=0
 ·rw [h0]
  by_cases hi:0<=i/\i<n
  ·refine brf ?_ (hp:=by first | rfl | (simp;done) | (simp;omega))
   have:askE m n [i]=0:=by unfold askE;rw [if_pos ⟨h0,by simpa using hi⟩]
   rw [this]
   exact rt1 ⟨rfl,k1.bl.trans B2⟩
  ·refine brt ?_ (hp:=by first | rfl | (simp;done) | (simp;omega))
   have:askE m n [i]=1:=by unfold askE;rw [if_neg fun q=>hi (q.2 i (by simp))]
   rw [this]
   exact rt1 ⟨rfl,k1.bl.trans B2⟩
 ·refine brf ?_ (hp:=by first | (simp;done) | (simp;exact h0) | (rw [decide_eq_false h0];simp))
  have h1:=(chkE_cases m).resolve_left h0
  have:askE m n [i]=1:=by unfold askE;rw [if_neg fun q=>h0 q.1]
  rw [this,h1]
  exact rt1 ⟨rfl,k1.bl.trans B2⟩
noncomputable def blwB (m:Mod) (x y:Int):Bool:=decide (askE m m.classes.length [x,y]=0)&&decide (y∈upM m x)
theorem two_ints {w w':World} {b:Nat} {x y:Int} (h:New w b 3 [I x,I y] w'):Sl eInt T w' (some ⟨b,0,none⟩) [x,y] :=
 owp_sl (l:=[x,y]) (enc:=encInt) (sz:=1) (Ow.made (n:=2) h rfl (by omega)) (by simp) fun _ _=>trivial
theorem one_int {w w':World} {b:Nat} {x:Int} (h:New w b 3 [I x] w'):Sl eInt T w' (some ⟨b,0,none⟩) [x] :=
 owp_sl (l:=[x]) (enc:=encInt) (sz:=1) (Ow.made (n:=1) h rfl (by omega)) (by simp) fun _ _=>trivial
theorem k_Below (m:Mod) (a:MA) (x y:Int) (w:World) (hM:MdR T w m a):Ret Tryz.prog 131 #[.agg (modcells m a).toArray,I x,I y] w fun v w'=>v = .tuple #[.bool (blwB m x y),I (askE m m.classes.length [x,y])]/\Bl w w':=by
 have q1:=hM.cls.big
 refine entr (vs:=[.agg (modcells m a).toArray,I x,I y]) [0,1,2,3,6,7,8,18] tabok Tryz.func131 (by kernel_rfl) ?_
 refine bx (cs:=modcells m a) fun b1 w1 k1 => ?_
 refine lda k1.box.at ?_
 refine ld (k1.box.cell rfl) ?_
 refine bs (cs:=[I x,I y]) fun b2 w2 k2 => ?_
 have B2:=k1.bl.trans k2.bl
 refine cl (k_asked m a m.classes.length [x,y] _ 2 w2 (hM.bl B2) (two_ints k2)) ?_
 rintro _ w3 ⟨rfl,B3⟩
 have B03:=B2.trans B3
 by_cases h0:askE m m.classes.length [x,y]=0
 ·refine brF ?_ (hp:=by exact fun h=>h h0)
  obtain ⟨hm,hi⟩:=ask_yes h0
  have P:=modP_of hm
  have hx:=hi x (by simp)
  have hy:=hi y (by simp)
  refine lda (Bl.box (k2.bl.trans B3) k1.box).at ?_
  refine bd (cs:=modcells m a) ?_
  refine cl (k_above m a P.desc x y hx.2 (by omega) hy.1 w3 (hM.bl B03)) ?_
  rintro _ w4 ⟨rfl,B4⟩
  have e:blwB m x y=decide (y∈upM m x):=by unfold blwB;rw [decide_eq_true h0,Bool.true_and]
  rw [e,h0]
  exact rt2 ⟨rfl,B03.trans B4⟩
 ·refine brT ?_ (hp:=h0)
  have e:blwB m x y=false:=by unfold blwB;rw [decide_eq_false h0,Bool.false_and]
  rw [e]
  exact rt2 ⟨rfl,B03⟩
end Go.Proofs.YtdjkoljonlcemaaGreat

/- What roots need of a module (reach), as a least closed set; a search that goes deep first finds it. No program stands here. -/
namespace Go.Proofs.YtdjkoljonlcemaaGreat
open Eng Go.RowKit
def tcl (t:Ty):List Int:=if t.kind=2∨t.kind=4 then [t.cls] else []
def locM (x:MM):List Ty:=(if 0<=x.cls then [⟨2,x.cls⟩] else [])++x.params++x.locals
def insC (i:Ins):List Int:=if i.op=12 then tcl ⟨i.a,i.b⟩ else if i.op=14∨i.op=24 then [i.a] else if i.op=16 then [i.b] else []
def insS (i:Ins):List Int:=if i.op=22∨i.op=23 then [i.a] else []
def needC (x:MM):List Int:=(locM x++[x.result]).flatMap tcl++x.code.flatMap insC
def needS (x:MM):List Int:=x.code.flatMap insS
def sucC (m:Mod) (c:Int):List Int:=((m.classes[c.toNat]?).map fun x=>(if 0<=x.super then [x.super] else [])++x.fields.flatMap tcl).getD []
def staC (m:Mod) (i:Int):List Int:=((m.statics[i.toNat]?).map tcl).getD []
inductive Nd where
 | m (n:Int)
 | c (n:Int)
 | s (n:Int)
deriving DecidableEq
def mths (m:Mod) (k:Int):MM:=(m.methods[k.toNat]?).getD ⟨⟨#[]⟩,-1,[],[],⟨0,0⟩,[]⟩
def suc (m:Mod):Nd->List Nd
 | .m k=>(needC (mths m k)).map .c++(needS (mths m k)).map .s++(calM m k.toNat).map .m
 | .c c=>(sucC m c).map .c
 | .s i=>(staC m i).map .c
inductive Rch (m:Mod) (R:Nd->Prop):Nd->Prop
 | root {x:Nd} (h:R x):Rch m R x
 | step {x y:Nd} (h:Rch m R x) (hy:y∈suc m x):Rch m R y
theorem Rch.mono {m:Mod} {R R':Nd->Prop} (h:∀ x,R x->R' x) {x:Nd} (k:Rch m R x):Rch m R' x:=by
 induction k with
 | root q=>exact .root (h _ q)
 | step _ hy ih=>exact .step ih hy
theorem Rch.trans {m:Mod} {R R':Nd->Prop} (h:∀ x,R x->Rch m R' x) {x:Nd} (k:Rch m R x):Rch m R' x:=by
 induction k with
 | root q=>exact h _ q
 | step _ hy ih=>exact .step ih hy
structure Dfs (m:Mod) (R V V':Nd->Prop):Prop where
 mono:∀ x,V x->V' x
 new:∀ x,V' x->V x∨Rch m R x
 cl:∀ x,V' x->¬V x->∀ y∈suc m x,V' y
 has:∀ x,R x->V' x
theorem Dfs.trans {m:Mod} {R R' V V1 V2:Nd->Prop} (h:Dfs m R V V1) (k:Dfs m R' V1 V2):Dfs m (fun x=>R x∨R' x) V V2 :=
 ⟨fun x q=>k.mono x (h.mono x q),fun x q=>by
  rcases k.new x q with q | q
  ·exact (h.new x q).imp id (Rch.mono fun _ => .inl)
  ·exact .inr (q.mono fun _ => .inr),fun x q hV y hy=>by
  by_cases h1:V1 x
  ·exact k.mono y (h.cl x h1 hV y hy)
  ·exact k.cl x q h1 y hy,fun x q=>by
  rcases q with q | q
  ·exact k.mono x (h.has x q)
  ·exact k.has x q⟩
theorem Dfs.node {m:Mod} {n:Nd} {V V':Nd->Prop} (h:Dfs m (· ∈ suc m n) (fun x=>V x∨x=n) V'):Dfs m (· = n) V V' :=
 ⟨fun x q=>h.mono x (.inl q),fun x q=>by
  rcases h.new x q with (q | rfl) | q
  ·exact .inl q
  ·exact .inr (.root rfl)
  ·exact .inr (Rch.trans (R':=(· = n)) (fun y hy => .step (.root rfl) hy) q),fun x q hV y hy=>by
  by_cases h1:x=n
  ·subst h1;exact h.has y hy
  ·exact h.cl x q (fun e=>e.elim hV h1) y hy,fun x q=>by subst q;exact h.mono _ (.inr rfl)⟩
theorem mths_at {m:Mod} {k:Nat} {x:MM} (h:m.methods[k]? = some x):mths m (k:Int)=x:=by unfold mths;rw [Int.toNat_natCast,h];rfl
theorem codeE_val {l:List Ins} (h:codeE l false=0):∀ i∈l,validI i false=true:=code_all h
noncomputable def sel (n:Nat) (p:Int->Prop):List Int:=by
 classical exact ((List.range n).map fun i:Nat=>(i:Int)).filter fun i=>decide (p i)
end Go.Proofs.YtdjkoljonlcemaaGreat

/- A pass through a method's code, as functions. No program stands here. -/
namespace Go.Proofs.YtdjkoljonlcemaaGreat
open Eng Go.RowKit
structure Brv where
 op:Int
 beg:List Ty
 fst:List Ty
 mid:Bool
structure VS where
 st:List Ty
 op:List Brv
def intT:Ty:=⟨1,0⟩
def noT:Ty:=⟨0,0⟩
def tryB (b:Brv):Bool:=decide (b.op=33) && !b.mid
def bseR:List Brv->Nat
 | []=>0
 | b::o=>if tryB b=true then b.beg.length else bseR o
def bseV (o:List Brv):Nat:=bseR o.reverse
def fitB (m:Mod) (t u:Ty):Bool:=if t.kind=2/\u.kind=2 then decide (u.cls∈upM m t.cls) else decide (t=u)
def tgtV (m:Mod) (i:Ins):Option Int:=if i.op=25 then some i.a else (trgM m i.a.toNat).head?
def parM (m:Mod) (n:Int):List Ty:=((m.methods[n.toNat]?).map fun x=>x.params).getD []
def resM (m:Mod) (n:Int):Ty:=((m.methods[n.toNat]?).map fun x=>x.result).getD noT
def parV (m:Mod) (i:Ins):List Ty:=match tgtV m i with
 | none=>[]
 | some n=>(if i.op=25 then [] else [⟨2,-1⟩])++parM m n
def resV (m:Mod) (i:Ins):Ty:=match tgtV m i with
 | none=>noT
 | some n=>resM m n
def cntT:List (Nat×Nat):=[(0,0),(0,1),(0,1),(1,0),(1,0),(1,2),(2,1),(2,1),(2,1),(2,1),(2,1),(2,1),(0,1),(1,1),(0,1),(0,1),(0,1),(1,1),(2,0),(2,1),(3,0),(1,1),(0,1),(1,0),(1,1),(0,0),(0,0),(1,0),(0,0),(1,0),(1,0),(0,0),(0,0),(0,0),(0,0),(0,0)]
def takV (m:Mod) (i:Ins):Nat:=if i.op=25∨i.op=26 then (parV m i).length else (cntT.getD i.op.toNat (0,0)).1
def putV (m:Mod) (i:Ins):Nat:=if i.op=25∨i.op=26 then (if (resV m i).kind=0 then 0 else 1) else (cntT.getD i.op.toNat (0,0)).2
def fldA (m:Mod) (n:Int):List Ty:=((m.classes[n.toNat]?).map fun x=>x.fields).getD []
def staA (m:Mod) (n:Int):Ty:=(m.statics[n.toNat]?).getD noT
def arrT (t:Ty):Prop:=t.kind=3∨t.kind=4
instance (t:Ty):Decidable (arrT t):=by unfold arrT;infer_instance
def elmV (t:Ty):Ty:=if t.kind=4 then ⟨2,t.cls⟩ else intT
def fitL (m:Mod):List Ty->List Ty->Bool
 | t::l,u::r=>fitB m t u&&fitL m l r
 | _,[]=>true
 | [],_::_=>false
def hasS (m:Mod) (c s:Int):Bool:=decide (0<=((m.classes[c.toNat]?).map fun x=>x.table.getD s.toNat (-1)).getD (-1))
def reqV (m:Mod) (loc:List Ty) (i:Ins) (t u v:Ty):Option Ty :=
 if i.op=1 then some intT
 else if i.op=2 then loc[i.a.toNat]?
 else if i.op=3 then (match loc[i.a.toNat]? with
  | some x=>if fitB m t x=true then some noT else none
  | none=>none)
 else if i.op=5 then some t
 else if 6<=i.op/\i.op<=11 then (if t=intT/\u=intT then some intT else none)
 else if i.op=12 then some ⟨i.a,i.b⟩
 else if i.op=13 then (if t=intT then none else some intT)
 else if i.op=14 then some ⟨2,i.a⟩
 else if i.op=15 then some ⟨3,0⟩
 else if i.op=16 then some ⟨4,i.b⟩
 else if i.op=17 then (if t.kind=2 then (fldA m t.cls)[i.a.toNat]? else none)
 else if i.op=18 then (match (if t.kind=2 then (fldA m t.cls)[i.a.toNat]? else none) with
  | some x=>if fitB m u x=true then some noT else none
  | none=>none)
 else if i.op=19 then (if arrT t/\u=intT then some (elmV t) else none)
 else if i.op=20 then (if arrT t/\u=intT/\fitB m v (elmV t)=true then some noT else none)
 else if i.op=21 then (if arrT t then some intT else none)
 else if i.op=22 then some (staA m i.a)
 else if i.op=23 then (if fitB m t (staA m i.a)=true then some noT else none)
 else if i.op=24 then (if t.kind=2/\(i.a∈upM m t.cls∨t.cls∈upM m i.a) then some ⟨2,i.a⟩ else none)
 else if i.op=27∨i.op=29 then (if t=intT then some noT else none)
 else if i.op=30 then (if t=intT/\loc[i.b.toNat]? = some intT then some noT else none)
 else some noT
def calV (m:Mod) (i:Ins) (l:List Ty):Option Ty:=match tgtV m i with
 | none=>none
 | some n=>if i.op=25 then (if fitL m l (parM m n)=true then some (resM m n) else none)
  else (if (l.getD 0 noT).kind=2/\hasS m (l.getD 0 noT).cls i.a=true/\fitL m l.tail (parM m n)=true then some (resM m n) else none)
def pshV (m:Mod) (loc:List Ty) (i:Ins) (l:List Ty):Option Ty :=
 if i.op=25∨i.op=26 then calV m i l else reqV m loc i (l.getD 0 noT) (l.getD 1 noT) (l.getD 2 noT)
def badV (σ:VS) (n k:Nat):Prop:=σ.st.length<n+bseV σ.op∨12<σ.st.length-n+k
instance (σ:VS) (n k:Nat):Decidable (badV σ n k):=by unfold badV;infer_instance
def opnB (i:Ins):Bool:=decide (29<=i.op)&&decide (i.op<=33)
def midV (σ:VS):Option VS:=match σ.op.getLast? with
 | none=>none
 | some b=>some ⟨b.beg,σ.op.dropLast++[⟨b.op,b.beg,σ.st,true⟩]⟩
def endV (σ:VS):Option VS:=match σ.op.getLast? with
 | none=>none
 | some b=>if σ.st=(if b.mid=true then b.fst else b.beg) then some ⟨σ.st,σ.op.dropLast⟩ else none
def stkV (m:Mod) (loc:List Ty) (σ:VS) (i:Ins):Option (List Ty) :=
 if badV σ (takV m i) (putV m i) then none else match pshV m loc i (σ.st.drop (σ.st.length-takV m i)) with
 | none=>none
 | some t=>some (σ.st.take (σ.st.length-takV m i)++List.replicate (putV m i) t)
def stpV (m:Mod) (loc:List Ty) (σ:VS) (i:Ins):Option VS :=
 if i.op=34 then midV σ else if i.op=35 then endV σ else match stkV m loc σ i with
 | none=>none
 | some l=>some ⟨l,if opnB i=true then σ.op++[⟨i.op,l,[],false⟩] else σ.op⟩
def runV (m:Mod) (loc:List Ty):VS->List Ins->Option VS
 | σ,[]=>some σ
 | σ,i::l=>match stpV m loc σ i with
  | none=>none
  | some τ=>runV m loc τ l
def enoV (m:Mod) (r:Ty) (σ:VS):Bool:=if r.kind=0 then decide (σ.st=[]) else match σ.st with
 | [t]=>fitB m t r
 | _=>false
def mokV (m:Mod) (x:MM):Bool:=match runV m (locM x) ⟨[],[]⟩ x.code with
 | none=>false
 | some σ=>enoV m x.result σ
open Classical in
noncomputable def verE (m:Mod):Int:=if ModP m/\∀ x∈m.methods,mokV m x=true then 0 else 1
theorem runV_snoc {m:Mod} {loc:List Ty} {i:Ins}:∀ {l:List Ins} {σ:VS},runV m loc σ (l++[i])=(runV m loc σ l).bind fun τ=>stpV m loc τ i
 | [],σ=>by
  simp only [List.nil_append,runV,Option.bind_some]
  cases stpV m loc σ i <;> rfl
 | j::l,σ=>by
  simp only [List.cons_append,runV]
  cases h:stpV m loc σ j with
  | none=>rfl
  | some τ=>exact runV_snoc (l:=l)
theorem runV_none {m:Mod} {loc:List Ty}:∀ {l l':List Ins} {σ:VS},runV m loc σ l=none->runV m loc σ (l++l')=none
 | [],_,_,h=>by cases h
 | i::l,l',σ,h=>by
  simp only [List.cons_append,runV] at h ⊢
  cases hs:stpV m loc σ i with
  | none=>rfl
  | some τ=>rw [hs] at h;exact runV_none (l:=l) h
theorem bseV_snoc {o:List Brv} {b:Brv}:bseV (o++[b])=if tryB b=true then b.beg.length else bseV o:=by
 unfold bseV
 rw [List.reverse_append];rfl
def tyA (m:Mod) (t:Ty):Prop:=ityp m t 1=true
theorem tyA_int {m:Mod}:tyA m intT:=by simp [tyA,ityp,intT]
theorem tyA_cls {m:Mod} {t:Ty} (h:tyA m t) (hk:t.kind=2∨t.kind=4):0<=t.cls/\t.cls<m.classes.length:=by
 unfold tyA ityp at h
 rw [if_pos hk] at h
 simp only [Bool.and_eq_true,decide_eq_true_eq] at h
 exact h
theorem tyA_mk {m:Mod} {k c:Int} (hk:k=2∨k=4) (h0:0<=c) (h1:c<m.classes.length):tyA m ⟨k,c⟩:=by
 unfold tyA ityp
 rw [if_pos hk];simp [h0,h1]
structure BrI (m:Mod) (n:Nat) (b:Brv):Prop where
 bt:∀ t∈b.beg,tyA m t
 bl:b.beg.length<=12
 bn:n<=b.beg.length
 ft:∀ t∈b.fst,tyA m t
 fl:b.fst.length<=12
 fn:b.mid=true->n<=b.fst.length
def BrsI (m:Mod) (o:List Brv):Prop:=∀ k b,o[k]? = some b->BrI m (bseV (o.take k)) b
structure VInv (m:Mod) (σ:VS):Prop where
 ty:∀ t∈σ.st,tyA m t
 le:σ.st.length<=12
 bs:bseV σ.op<=σ.st.length
 br:BrsI m σ.op
theorem VInv.nil (m:Mod):VInv m ⟨[],[]⟩:=⟨by simp,by simp,Nat.le_refl _,fun k b h=>by simp at h⟩
theorem brsI_snoc {m:Mod} {o:List Brv} {b:Brv} (h:BrsI m o) (hb:BrI m (bseV o) b):BrsI m (o++[b]):=by
 intro k c hc
 rcases Nat.lt_or_ge k o.length with hlt | hge
 ·rw [List.getElem?_append_left hlt] at hc
  rw [List.take_append_of_le_length (by omega)]
  exact h k c hc
 ·rw [List.getElem?_append_right hge] at hc
  rcases Nat.eq_zero_or_pos (k-o.length) with h0 | h0
  ·rw [h0] at hc
   simp only [List.getElem?_cons_zero,Option.some.injEq] at hc
   subst hc
   have:k=o.length:=by omega
   subst this
   rw [List.take_left']
   ·exact hb
   ·rfl
  ·rw [show k-o.length=(k-o.length-1)+1 by omega] at hc
   simp at hc
theorem brsI_init {m:Mod} {o:List Brv} {b:Brv} (h:BrsI m (o++[b])):BrsI m o/\BrI m (bseV o) b:=by
 refine ⟨fun k c hc => ?_,?_⟩
 ·have hlt:=(List.getElem?_eq_some_iff.1 hc).1
  have:=h k c (by rw [List.getElem?_append_left hlt];exact hc)
  rwa [List.take_append_of_le_length (by omega)] at this
 ·have:=h o.length b (by simp)
  rwa [List.take_left' rfl] at this
theorem last_split {α:Type} {o:List α} {b:α} (h:o.getLast? = some b):o=o.dropLast++[b]:=by
 have hne:o≠[]:=by rintro rfl;simp at h
 rw [List.getLast?_eq_some_getLast hne] at h
 simp only [Option.some.injEq] at h
 rw [<-h];exact (List.dropLast_concat_getLast hne).symm
theorem mid_inv {m:Mod} {σ τ:VS} (I:VInv m σ) (h:midV σ=some τ):VInv m τ:=by
 unfold midV at h
 cases hl:σ.op.getLast? with
 | none=>rw [hl] at h;cases h
 | some b =>
  rw [hl] at h
  simp only [Option.some.injEq] at h
  subst h
  have e:=last_split hl
  generalize σ.op.dropLast=o at e
  have hB:=I.br;have hb:=I.bs
  rw [e] at hB hb
  obtain ⟨h1,h2⟩:=brsI_init hB
  rw [bseV_snoc] at hb
  have hbo:bseV o<=σ.st.length:=by
   split at hb
   ·exact Nat.le_trans h2.bn hb
   ·exact hb
  refine ⟨h2.bt,h2.bl,?_,brsI_snoc h1 ⟨h2.bt,h2.bl,h2.bn,I.ty,I.le,fun _=>hbo⟩⟩
  show bseV (o++[⟨b.op,b.beg,σ.st,true⟩])<=_
  rw [bseV_snoc,if_neg (by simp [tryB])]
  exact h2.bn
theorem end_inv {m:Mod} {σ τ:VS} (I:VInv m σ) (h:endV σ=some τ):VInv m τ:=by
 unfold endV at h
 cases hl:σ.op.getLast? with
 | none=>rw [hl] at h;cases h
 | some b =>
  rw [hl] at h
  have e:=last_split hl
  generalize hd:σ.op.dropLast=o at e h
  have hB:=I.br
  rw [e] at hB
  obtain ⟨h1,h2⟩:=brsI_init hB
  change (if σ.st=(if b.mid=true then b.fst else b.beg) then some (VS.mk σ.st o) else none)=some τ at h
  by_cases hs:σ.st=(if b.mid=true then b.fst else b.beg)
  ·rw [if_pos hs] at h
   simp only [Option.some.injEq] at h
   subst h
   refine ⟨I.ty,I.le,?_,h1⟩
   show bseV o<=σ.st.length
   rw [hs]
   split
   ·rename_i hm;exact h2.fn hm
   ·exact h2.bn
  ·rw [if_neg hs] at h;cases h
end Go.Proofs.YtdjkoljonlcemaaGreat

/- What holds between two instructions of a verified method; brackets. No program stands here. -/
namespace Go.Proofs.YtdjkoljonlcemaaGreat
open Eng Go.RowKit
variable {m:Mod} {k:Nat} {x:MM} {i:Ins}
structure InsP (m:Mod) (loc:List Ty) (i:Ins):Prop where
 P:ModP m
 lt:∀ t∈loc,tyA m t
 ll:loc.length<=10
 op0:0<=i.op
 op1:i.op<36
 va:inR i.a (rngs.getD i.op.toNat (0,0)).1 false=true
 vb:inR i.b (rngs.getD i.op.toNat (0,0)).2 false=true
 nu:i.op=12->i.a=3->i.b=0
 opr:oprB m m.methods.length i=true
theorem oprB_mono {k n:Nat} (h:k<=n) (ho:oprB m k i=true):oprB m n i=true:=by
 unfold oprB at ho ⊢
 split at ho
 ·rename_i q;rw [if_pos q];exact ho
 rename_i q1;rw [if_neg q1]
 split at ho
 ·rename_i q;rw [if_pos q];exact ho
 rename_i q2;rw [if_neg q2]
 split at ho
 ·rename_i q;rw [if_pos q];exact ho
 rename_i q3;rw [if_neg q3]
 split at ho
 ·rename_i q;rw [if_pos q];exact ho
 rename_i q4;rw [if_neg q4]
 split at ho
 ·rename_i q;rw [if_pos q]
  simp only [Bool.and_eq_true,decide_eq_true_eq] at ho ⊢
  exact ⟨by omega,ho.2⟩
 rename_i q5;rw [if_neg q5]
 split at ho
 ·rename_i q;rw [if_pos q]
  simp only [Bool.and_eq_true,decide_eq_true_eq,List.all_eq_true] at ho ⊢
  exact ⟨ho.1,fun t ht=>by have:=ho.2 t ht;omega⟩
 rename_i q6;rw [if_neg q6]
theorem locM_ty (P:ModP m) (hx:m.methods[k]? = some x):∀ t∈locM x,tyA m t:=by
 have q:=P.mth k x hx
 intro t ht
 unfold locM at ht
 rcases List.mem_append.1 ht with ht | ht
 ·rcases List.mem_append.1 ht with ht | ht
  ·split at ht
   ·rename_i h0
    rw [List.mem_singleton.1 ht]
    exact tyA_mk (.inl rfl) h0 q.c2
   ·cases ht
  ·exact q.pt t ht
 ·exact q.lt t ht
theorem locM_len (P:ModP m) (hx:m.methods[k]? = some x):(locM x).length<=10:=by
 have:=(P.mth k x hx).ll
 unfold locM
 simp only [List.length_append]
 split at this
 ·rename_i h;rw [if_pos h];simp only [List.length_cons,List.length_nil];omega
 ·rename_i h;rw [if_neg h];simp only [List.length_nil];omega
theorem insP_of (P:ModP m) (hx:m.methods[k]? = some x) (hi:i∈x.code):InsP m (locM x) i:=by
 have q:=P.mth k x hx
 have hk:=(List.getElem?_eq_some_iff.1 hx).1
 have hv:=codeE_val q.cd i hi
 unfold validI at hv
 simp only [Bool.and_eq_true,Bool.or_eq_true,decide_eq_true_eq] at hv
 obtain ⟨⟨⟨⟨h1,h2⟩,h3⟩,h4⟩,h5⟩:=hv
 refine ⟨P,locM_ty P hx,locM_len P hx,h1,h2,h3,h4,fun e1 e2 => ?_,oprB_mono (by omega) (q.op i hi)⟩
 rcases h5 with (h5 | h5) | h5
 ·exact absurd e1 h5
 ·exact absurd e2 h5
 ·exact h5
variable {loc:List Ty}
theorem inR_lo {n:Int} {r:Nat} (hr:r≠1) (h:inR n r false=true):0<=n:=by
 unfold inR at h
 rw [if_neg hr] at h
 split at h
 ·simp only [Bool.and_eq_true,decide_eq_true_eq] at h;omega
 ·split at h
  ·simp only [Bool.and_eq_true,decide_eq_true_eq] at h;omega
  ·split at h <;> (simp only [Bool.and_eq_true,decide_eq_true_eq] at h;omega)
theorem InsP.a0 (h:InsP m loc i) (hn:i.op≠1):0<=i.a:=by
 refine inR_lo (fun e=>hn ?_) h.va
 have h0:=h.op0;have h1:=h.op1
 obtain ⟨n,hn⟩:=Int.eq_ofNat_of_zero_le h0
 rw [hn] at e h1 ⊢
 have h1:n<36:=by omega
 have:∀ n:Fin 36,(rngs.getD n.1 (0,0)).1=1->n.1=1:=by decide
 have:=this ⟨n,h1⟩ (by simpa using e)
 simp only at this
 omega
theorem InsP.b0 (h:InsP m loc i):0<=i.b:=by
 refine inR_lo (fun e => ?_) h.vb
 have h0:=h.op0;have h1:=h.op1
 obtain ⟨n,hn⟩:=Int.eq_ofNat_of_zero_le h0
 rw [hn] at e h1
 have h1:n<36:=by omega
 have:∀ n:Fin 36,(rngs.getD n.1 (0,0)).2≠1:=by decide
 exact this ⟨n,h1⟩ (by simpa using e)
theorem InsP.cls (h:InsP m loc i) (hn:i.op=14∨i.op=24):i.a<m.classes.length:=by
 have:=h.opr
 unfold oprB at this
 rw [if_neg (by omega),if_pos hn] at this
 exact of_decide_eq_true this
theorem InsP.clb (h:InsP m loc i) (hn:i.op=16∨i.op=12/\i.a≠3):i.b<m.classes.length:=by
 have:=h.opr
 unfold oprB at this
 rcases hn with hn | ⟨hn,h3⟩
 ·rw [if_neg (by omega),if_neg (by omega),if_pos hn] at this
  exact of_decide_eq_true this
 ·rw [if_pos hn,decide_eq_false h3,Bool.false_or] at this
  exact of_decide_eq_true this
theorem InsP.sta (h:InsP m loc i) (hn:i.op=22∨i.op=23):i.a<m.statics.length:=by
 have:=h.opr
 unfold oprB at this
 rw [if_neg (by omega),if_neg (by omega),if_neg (by omega),if_pos hn] at this
 exact of_decide_eq_true this
theorem InsP.call (h:InsP m loc i) (hn:i.op=25):i.a<m.methods.length/\mcl m i.a = -1:=by
 have:=h.opr
 unfold oprB at this
 rw [if_neg (by omega),if_neg (by omega),if_neg (by omega),if_neg (by omega),if_pos hn] at this
 simpa using this
theorem InsP.send (h:InsP m loc i) (hn:i.op=26):i.a<m.sels/\∀ t∈trgM m i.a.toNat,t<m.methods.length:=by
 have:=h.opr
 unfold oprB at this
 rw [if_neg (by omega),if_neg (by omega),if_neg (by omega),if_neg (by omega),if_neg (by omega),if_pos hn] at this
 simpa using this
theorem InsP.kind (h:InsP m loc i) (hn:i.op=12):2<=i.a/\i.a<=4:=by
 have:=h.va
 rw [hn] at this
 have e:(rngs.getD (12:Int).toNat (0,0)).1=3:=rfl
 rw [e] at this
 simpa [inR] using this
theorem staA_ty (P:ModP m) {n:Int} (h0:0<=n) (h1:n<m.statics.length):∃ t,m.statics[n.toNat]? = some t/\staA m n=t/\tyA m t:=by
 obtain ⟨t,ht⟩:=some_of_lt (l:=m.statics) (k:=n.toNat) (by omega)
 exact ⟨t,ht,by unfold staA;rw [ht];rfl,P.sta t (List.mem_of_getElem? ht)⟩
theorem fldA_at {n:Nat} {c:MC} (h:m.classes[n]? = some c):fldA m (n:Int)=c.fields:=by unfold fldA;rw [Int.toNat_natCast,h];rfl
theorem fldA_ty (P:ModP m) {n:Int} {j:Nat} {t:Ty} (h:(fldA m n)[j]? = some t):tyA m t:=by
 unfold fldA at h
 cases hc:m.classes[n.toNat]? with
 | none=>rw [hc] at h;simp at h
 | some c=>rw [hc] at h;exact (P.cls _ c hc).ft t (List.mem_of_getElem? h)
theorem InsP.tgt (h:InsP m loc i) (hn:i.op=25∨i.op=26) {n:Int} (ht:tgtV m i=some n):0<=n/\n<m.methods.length:=by
 unfold tgtV at ht
 rcases hn with hn | hn
 ·rw [if_pos hn] at ht
  simp only [Option.some.injEq] at ht
  have:=(h.call hn).1;have:=h.a0 (by omega);omega
 ·rw [if_neg (by omega)] at ht
  have hm:=List.mem_of_head? ht
  exact h.P.trg hm
theorem resM_ty (P:ModP m) {n:Int} (h0:0<=n) (h1:n<m.methods.length):∃ x,m.methods[n.toNat]? = some x/\resM m n=x.result/\parM m n=x.params:=by
 obtain ⟨x,hx⟩:=some_of_lt (l:=m.methods) (k:=n.toNat) (by omega)
 exact ⟨x,hx,by unfold resM;rw [hx];rfl,by unfold parM;rw [hx];rfl⟩
theorem ityp_up {t:Ty} (h:ityp m t 0=true) (hk:t.kind≠0):tyA m t:=by
 unfold tyA
 unfold ityp at h ⊢
 split at h
 ·rename_i q;rw [if_pos q];exact h
 ·rename_i q1
  rw [if_neg q1]
  split at h
  ·rename_i q;rw [if_pos q]
   simp only [Bool.and_eq_true,decide_eq_true_eq] at h ⊢
   exact ⟨by omega,h.2⟩
  ·cases h
theorem req_ty (h:InsP m loc i) {t u v r:Ty} (ht:i.op=5∨i.op=19->tyA m t) (hr:reqV m loc i t u v=some r) (hp:0<(cntT.getD i.op.toNat (0,0)).2):tyA m r:=by
 have h1:=h.op0;have h2:=h.op1
 obtain ⟨n,hn⟩:=Int.eq_ofNat_of_zero_le h1
 have hlt:n<36:=by omega
 have hset:∀ n:Fin 36,0<(cntT.getD n.1 (0,0)).2->n.1=1∨n.1=2∨n.1=5∨(6<=n.1/\n.1<=11)∨n.1=12∨n.1=13∨n.1=14∨n.1=15∨n.1=16∨n.1=17∨n.1=19∨n.1=21∨n.1=22∨n.1=24:=by decide
 have hs:=hset ⟨n,hlt⟩ (by rw [hn] at hp;simpa using hp)
 simp only at hs
 unfold reqV at hr
 rcases hs with e | e | e | e | e | e | e | e | e | e | e | e | e | e
 ·rw [if_pos (by omega)] at hr
  cases hr;exact tyA_int
 ·rw [if_neg (by omega),if_pos (by omega)] at hr
  exact h.lt r (List.mem_of_getElem? hr)
 ·rw [if_neg (by omega),if_neg (by omega),if_neg (by omega),if_pos (by omega)] at hr
  cases hr;exact ht (.inl (by omega))
 ·rw [if_neg (by omega),if_neg (by omega),if_neg (by omega),if_neg (by omega),if_pos (by omega)] at hr
  split at hr <;> cases hr
  exact tyA_int
 ·rw [if_neg (by omega),if_neg (by omega),if_neg (by omega),if_neg (by omega),if_neg (by omega),if_pos (by omega)] at hr
  cases hr
  have hk:=h.kind (by omega)
  have hb:=h.b0
  by_cases h3:i.a=3
  ·have:=h.nu (by omega) h3
   unfold tyA ityp
   rw [h3,this];rfl
  ·exact tyA_mk (by omega) hb (h.clb (.inr ⟨by omega,h3⟩))
 ·rw [if_neg (by omega),if_neg (by omega),if_neg (by omega),if_neg (by omega),if_neg (by omega),if_neg (by omega),if_pos (by omega)] at hr
  split at hr <;> cases hr
  exact tyA_int
 ·rw [if_neg (by omega),if_neg (by omega),if_neg (by omega),if_neg (by omega),if_neg (by omega),if_neg (by omega),if_neg (by omega),if_pos (by omega)] at hr
  cases hr
  exact tyA_mk (.inl rfl) (h.a0 (by omega)) (h.cls (by omega))
 ·rw [if_neg (by omega),if_neg (by omega),if_neg (by omega),if_neg (by omega),if_neg (by omega),if_neg (by omega),if_neg (by omega),if_neg (by omega),if_pos (by omega)] at hr
  cases hr
  rfl
 ·rw [if_neg (by omega),if_neg (by omega),if_neg (by omega),if_neg (by omega),if_neg (by omega),if_neg (by omega),if_neg (by omega),if_neg (by omega),if_neg (by omega),if_pos (by omega)] at hr
  cases hr
  exact tyA_mk (.inr rfl) h.b0 (h.clb (.inl (by omega)))
 ·rw [if_neg (by omega),if_neg (by omega),if_neg (by omega),if_neg (by omega),if_neg (by omega),if_neg (by omega),if_neg (by omega),if_neg (by omega),if_neg (by omega),if_neg (by omega),if_pos (by omega)] at hr
  split at hr
  ·exact fldA_ty h.P hr
  ·cases hr
 ·rw [if_neg (by omega),if_neg (by omega),if_neg (by omega),if_neg (by omega),if_neg (by omega),if_neg (by omega),if_neg (by omega),if_neg (by omega),if_neg (by omega),if_neg (by omega),if_neg (by omega),if_neg (by omega),if_pos (by omega)] at hr
  split at hr <;> cases hr
  unfold elmV
  split
  ·rename_i h4
   obtain ⟨q1,q2⟩:=tyA_cls (ht (.inr (by omega))) (.inr h4)
   exact tyA_mk (.inl rfl) q1 q2
  ·exact tyA_int
 ·rw [if_neg (by omega),if_neg (by omega),if_neg (by omega),if_neg (by omega),if_neg (by omega),if_neg (by omega),if_neg (by omega),if_neg (by omega),if_neg (by omega),if_neg (by omega),if_neg (by omega),if_neg (by omega),if_neg (by omega),if_neg (by omega),if_pos (by omega)] at hr
  split at hr <;> cases hr
  exact tyA_int
 ·rw [if_neg (by omega),if_neg (by omega),if_neg (by omega),if_neg (by omega),if_neg (by omega),if_neg (by omega),if_neg (by omega),if_neg (by omega),if_neg (by omega),if_neg (by omega),if_neg (by omega),if_neg (by omega),if_neg (by omega),if_neg (by omega),if_neg (by omega),if_pos (by omega)] at hr
  cases hr
  obtain ⟨t,_,e1,e2⟩:=staA_ty h.P (h.a0 (by omega)) (h.sta (by omega))
  rw [e1];exact e2
 ·rw [if_neg (by omega),if_neg (by omega),if_neg (by omega),if_neg (by omega),if_neg (by omega),if_neg (by omega),if_neg (by omega),if_neg (by omega),if_neg (by omega),if_neg (by omega),if_neg (by omega),if_neg (by omega),if_neg (by omega),if_neg (by omega),if_neg (by omega),if_neg (by omega),if_neg (by omega),if_pos (by omega)] at hr
  split at hr <;> cases hr
  exact tyA_mk (.inl rfl) (h.a0 (by omega)) (h.cls (by omega))
end Go.Proofs.YtdjkoljonlcemaaGreat

/- Walks: the law's weight of modules. -/
namespace Go.Proofs.YtdjkoljonlcemaaGreat
open Eng Go.RowKit
end Go.Proofs.YtdjkoljonlcemaaGreat

/- Walks: what all units declare. -/
namespace Go.Proofs.YtdjkoljonlcemaaGreat
open Eng Go.RowKit
structure Nc (b:Nat) (w w':World):Prop where
 os:w'.os=w.os
 tape:w'.tape=w.tape
 output:w'.output=w.output
 size:w.heap.size<=w'.heap.size
 blk:∀ i,i<w.heap.size->i≠b->w'.heap[i]? = w.heap[i]?
theorem Nc.nb {b:Nat} {w w':World} (h:Nc b w w'):Nb b w w':=⟨h.size,h.blk⟩
theorem Nc.of_bl {b:Nat} {w w':World} (h:Bl w w'):Nc b w w':=⟨h.os,h.tape,h.output,h.size,fun i hi _=>h.block i hi⟩
theorem Nc.trans {b:Nat} {w w1 w2:World} (h:Nc b w w1) (k:Nc b w1 w2):Nc b w w2:=⟨k.os.trans h.os,k.tape.trans h.tape,k.output.trans h.output,Nat.le_trans h.size k.size,fun i hi hne=>(k.blk i (Nat.lt_of_lt_of_le hi h.size) hne).trans (h.blk i hi hne)⟩
theorem Nc.bl {b:Nat} {w w1 w2:World} (h:Nc b w w1) (k:Bl w1 w2):Nc b w w2:=h.trans (Nc.of_bl k)
structure RowsD (w:World) (base:Nat) (M:Mp Rs):Prop where
 ow:∀ k r,getM M k=some r->OwP 1 encStr w base 9 r.a r.c r.l
 ne:∀ k k' r r',getM M k=some r->getM M k'=some r'->k≠k'->∀ g,r.a=some ⟨g,0,none⟩->r'.a≠some ⟨g,0,none⟩
theorem RowsD.nil (w:World) (base:Nat):RowsD w base []:=⟨fun _ _ h=>(by cases h),fun _ _ _ _ h=>(by cases h)⟩
theorem RowsD.bl {w w':World} {base:Nat} {M:Mp Rs} (h:RowsD w base M) (k:Bl w w'):RowsD w' base M:=⟨fun x r hr=>(h.ow x r hr).bl k,h.ne⟩
variable {w0 w w':World} {b:Nat} {u:Value} {m1 m2 m3 m4 m5 m6:Nat} {D:Dcl} {M:Mp Rs} {N:Nat}
end Go.Proofs.YtdjkoljonlcemaaGreat

/- Walks: what all units declare, the program. -/
namespace Go.Proofs.YtdjkoljonlcemaaGreat
open Eng Go.RowKit
end Go.Proofs.YtdjkoljonlcemaaGreat

/- Walks: whether all that units name is declared. -/
namespace Go.Proofs.YtdjkoljonlcemaaGreat
open Eng Go.RowKit
variable {w:World} {b:Nat} {us:List Unt} {D:Dcl}
end Go.Proofs.YtdjkoljonlcemaaGreat

/- Walks: the linker runs. -/
namespace Go.Proofs.YtdjkoljonlcemaaGreat
open Eng Go.RowKit
theorem Eng.Box.get {w:World} {b:Nat} {t:TypeId} {cs:List Value} (h:Box w b t cs) (o:Nat):w.cell? ⟨b,o,none⟩=cs[o]? := by
 unfold Box at h
 simp [World.cell?,h]
variable {w0 w w':World} {b b1:Nat} {us:List Unt} {U:Value} {m1 m2 m3 m4 m5 m6:Nat} {o1 o2 o3 o4 ly:Value}
structure LayW (b:Nat) (us:List Unt) (l:List ByteArray) (ly:Nat) (Y:Mp Rs) (w:World):Prop where
 is:MapIs encR w ly Y
 at':∀ p∈l,∃ r,getM Y p=some r/\r.l=lay us p/\Sl eStr (· ≠ b) w r.a r.l
 only:∀ q r,getM Y q=some r->q∈l
structure RunW (b:Nat) (us:List Unt) (w:World):Prop where
 lnk:Lnk w b us (decl us)
 oc:∃ l a c,ordC us=some l/\w.cell? ⟨b,7,none⟩=some (.slice a l.length c)/\Sl eStr (· ≠ b) w a l
 os:∃ a c,w.cell? ⟨b,8,none⟩=some (.slice a (sortL (keysM (decl us).statics)).length c)/\Sl eStr (· ≠ b) w a (sortL (keysM (decl us).statics))
 om:∃ l a c,ordM us=some l/\w.cell? ⟨b,9,none⟩=some (.slice a l.length c)/\Sl eStr (· ≠ b) w a l
 oz:∃ a c,w.cell? ⟨b,10,none⟩=some (.slice a (sortL (keysM (decl us).named)).length c)/\Sl eStr (· ≠ b) w a (sortL (keysM (decl us).named))
 ly:∃ l m Y,ordC us=some l/\w.cell? ⟨b,11,none⟩=some (.map (some m))/\LayW b us l m Y w
end Go.Proofs.YtdjkoljonlcemaaGreat

/- Walks: the linker runs, the program. -/
namespace Go.Proofs.YtdjkoljonlcemaaGreat
open Eng Go.RowKit
variable {w0 w w':World} {b b1:Nat} {us:List Unt} {U:Value} {m1 m2 m3 m4 m5 m6:Nat} {o1 o2 o3 o4 ly:Value}
end Go.Proofs.YtdjkoljonlcemaaGreat

/- Walks: the linker resolves types, fields, tables. -/
namespace Go.Proofs.YtdjkoljonlcemaaGreat
open Eng Go.RowKit
structure RunO (b:Nat) (us:List Unt) (O:Ords) (w:World):Prop where
 lnk:Lnk w b us (decl us)
 oc:∃ a c,w.cell? ⟨b,7,none⟩=some (.slice a O.oc.length c)/\Sl eStr (· ≠ b) w a O.oc
 os:∃ a c,w.cell? ⟨b,8,none⟩=some (.slice a O.os.length c)/\Sl eStr (· ≠ b) w a O.os
 om:∃ a c,w.cell? ⟨b,9,none⟩=some (.slice a O.om.length c)/\Sl eStr (· ≠ b) w a O.om
 oz:∃ a c,w.cell? ⟨b,10,none⟩=some (.slice a O.oz.length c)/\Sl eStr (· ≠ b) w a O.oz
 ly:∃ m Y,w.cell? ⟨b,11,none⟩=some (.map (some m))/\LayW b us O.oc m Y w
theorem RunW.o {b:Nat} {us:List Unt} {w:World} (h:RunW b us w):RunO b us (ordsL us) w:=by
 obtain ⟨l1,a1,c1,e1,h1,s1⟩:=h.oc
 obtain ⟨l2,a2,c2,e2,h2,s2⟩:=h.om
 obtain ⟨l3,m,Y,e3,h3,y⟩:=h.ly
 have q1:(ordsL us).oc=l1:=by unfold ordsL;rw [e1];rfl
 have q2:(ordsL us).om=l2:=by unfold ordsL;rw [e2];rfl
 have q3:(ordsL us).oc=l3:=by unfold ordsL;rw [e3];rfl
 exact ⟨h.lnk,⟨a1,c1,by rw [q1];exact h1,by rw [q1];exact s1⟩,h.os,⟨a2,c2,by rw [q2];exact h2,by rw [q2];exact s2⟩,h.oz,⟨m,Y,h3,by rw [q3];exact y⟩⟩
variable {w w':World} {b:Nat} {us:List Unt} {O:Ords}
theorem LayW.bl {l:List ByteArray} {m:Nat} {Y:Mp Rs} (h:LayW b us l m Y w) (k:Bl w w'):LayW b us l m Y w' :=
 ⟨h.is.bl k,fun p hp=>by obtain ⟨r,h1,h2,h3⟩:=h.at' p hp;exact ⟨r,h1,h2,h3.bl k⟩,h.only⟩
theorem RunO.bl (h:RunO b us O w) (k:Bl w w'):RunO b us O w':=by
 obtain ⟨a1,c1,h1,s1⟩:=h.oc
 obtain ⟨a2,c2,h2,s2⟩:=h.os
 obtain ⟨a3,c3,h3,s3⟩:=h.om
 obtain ⟨a4,c4,h4,s4⟩:=h.oz
 obtain ⟨m,Y,h5,y⟩:=h.ly
 exact ⟨h.lnk.bl k,⟨a1,c1,k.cl h1,s1.bl k⟩,⟨a2,c2,k.cl h2,s2.bl k⟩,⟨a3,c3,k.cl h3,s3.bl k⟩,⟨a4,c4,k.cl h4,s4.bl k⟩,⟨m,Y,k.cl h5,y.bl k⟩⟩
end Go.Proofs.YtdjkoljonlcemaaGreat

/- Walks: the linker resolves fields, tables, instructions. -/
namespace Go.Proofs.YtdjkoljonlcemaaGreat
open Eng Go.RowKit
variable {w w':World} {b:Nat} {us:List Unt} {O:Ords}
end Go.Proofs.YtdjkoljonlcemaaGreat

/- Walks: the linker resolves instructions. -/
namespace Go.Proofs.YtdjkoljonlcemaaGreat
open Eng Go.RowKit
variable {w w':World} {b:Nat} {us:List Unt} {O:Ords}
theorem LayW.get {l:List ByteArray} {m:Nat} {Y:Mp Rs} (h:LayW b us l m Y w) (q:ByteArray):∃ a c,((getM Y q).map encR).getD (encR ⟨none,0,[]⟩) = .slice a (layA us l q).length c/\Sl eStr (· ≠ b) w a (layA us l q):=by
 unfold layA
 by_cases hq:q∈l
 ·obtain ⟨r,h1,h2,h3⟩:=h.at' q hq
  rw [if_pos (by simpa [hasB] using hq),h1,<-h2]
  exact ⟨r.a,r.c,rfl,h3⟩
 ·rw [if_neg (by simpa [hasB] using hq)]
  cases hg:getM Y q with
  | some r=>exact absurd (h.only q r hg) hq
  | none=>exact ⟨none,0,rfl,Sl.nil ..⟩
end Go.Proofs.YtdjkoljonlcemaaGreat

/- Walks: the linker builds its module. -/
namespace Go.Proofs.YtdjkoljonlcemaaGreat
open Eng Go.RowKit
variable {w w':World} {b:Nat} {us:List Unt} {O:Ords}
theorem Nc.box {b c:Nat} {w w':World} (h:Nc b w w') {t:TypeId} {cs:List Value} (hb:Box w c t cs) (hne:c≠b):Box w' c t cs:=by unfold Box;rw [h.blk c hb.lt hne];exact hb
end Go.Proofs.YtdjkoljonlcemaaGreat

/- Walks: link.Link. -/
namespace Go.Proofs.YtdjkoljonlcemaaGreat
open Eng Go.RowKit
variable {w w':World} {b:Nat} {us:List Unt} {O:Ords}
end Go.Proofs.YtdjkoljonlcemaaGreat

/- Walks: the law's sanity test, its weight of units. -/
namespace Go.Proofs.YtdjkoljonlcemaaGreat
open Eng Go.RowKit
end Go.Proofs.YtdjkoljonlcemaaGreat

/- Walks: the document's Common; the law LinkClasses. -/
namespace Go.Proofs.YtdjkoljonlcemaaGreat
open Eng Go.RowKit
end Go.Proofs.YtdjkoljonlcemaaGreat

/- Walks: the law LinkClasses. -/
namespace Go.Proofs.YtdjkoljonlcemaaGreat
open Eng Go.RowKit
end Go.Proofs.YtdjkoljonlcemaaGreat

/- Walks: Dispatch and Targets, in the program and in the document. -/
namespace Go.Proofs.YtdjkoljonlcemaaGreat
open Eng Go.RowKit
def entM (m:Mod) (c s:Int):Int:=((m.classes[c.toNat]?).map fun x=>x.table.getD s.toNat (-1)).getD (-1)
def dspOk (m:Mod) (c s:Int):Prop:=askE m m.classes.length [c]=0/\askE m m.sels [s]=0
open Classical in
noncomputable def dspV (m:Mod) (c s:Int):Int:=if dspOk m c s/\0<=entM m c s then entM m c s else 0
open Classical in
noncomputable def dspE (m:Mod) (c s:Int):Int:=if dspOk m c s then (if 0<=entM m c s then 0 else 3) else 1
theorem dsp_bad {m:Mod} {c s:Int} (h:¬dspOk m c s):dspV m c s=0/\dspE m c s=1:=by
 unfold dspV dspE
 rw [if_neg h,if_neg fun q=>h q.1]
 exact ⟨rfl,rfl⟩
theorem dsp_yes {m:Mod} {c s:Int} (h:dspOk m c s) (h0:0<=entM m c s):dspV m c s=entM m c s/\dspE m c s=0:=by
 unfold dspV dspE
 rw [if_pos h,if_pos h0,if_pos ⟨h,h0⟩]
 exact ⟨rfl,rfl⟩
theorem dsp_no {m:Mod} {c s:Int} (h:dspOk m c s) (h0:¬0<=entM m c s):dspV m c s=0/\dspE m c s=3:=by
 unfold dspV dspE
 rw [if_pos h,if_neg h0,if_neg fun q=>h0 q.2]
 exact ⟨rfl,rfl⟩
theorem ask_one {m:Mod} {n x:Int} (h:askE m n [x]=0):ModP m/\0<=x/\x<n:=by
 obtain ⟨h1,h2⟩:=ask_yes h
 exact ⟨modP_of h1,h2 x (by simp)⟩
theorem ask_n {m:Mod} {n:Int} {l:List Int} (h:¬askE m n l=0):askE m n l=1:=(ask_cases m n l).resolve_left h
theorem ent_at {m:Mod} {c s:Nat} {x:MC} (hx:m.classes[c]? = some x):entM m c s=x.table.getD s (-1):=by
 unfold entM
 rw [Int.toNat_natCast,Int.toNat_natCast,hx];rfl
theorem r5_Dispatch (m:Mod) (a:MA) (c s:Int) (w:World) (hM:MdR T w m a):Ret Tryz.prog 199 #[.agg (modcells m a).toArray,I c,I s] w fun v w'=>v = .tuple #[I (dspV m c s),I (dspE m c s)]/\Bl w w':=by
 have q1:=hM.cls.big
 refine entr (vs:=[.agg (modcells m a).toArray,I c,I s]) [0,1,2,3,6,7,8,16,23,34] tabok Tryz.func199 (by kernel_rfl) ?_
 refine bx (cs:=modcells m a) fun b1 w1 k1 => ?_
 refine lda k1.box.at ?_
 refine ld (k1.box.cell rfl) ?_
 refine cl (r5_within m a c m.classes.length w1 (hM.bl k1.bl)) ?_
 rintro _ w2 ⟨rfl,B12⟩
 have B2:=k1.bl.trans B12
 have x2:=Bl.box B12 k1.box
 by_cases h1:askE m m.classes.length [c]=0
 rotate_left
 ·rw [ask_n h1]
  refine brf ?_
  refine brt ?_
  obtain ⟨e1,e2⟩:=dsp_bad (m:=m) (c:=c) (s:=s) fun q=>h1 q.1
  rw [e1,e2]
  exact rt2 ⟨rfl,B2⟩
 rw [h1]
 refine brt ?_
 refine lda x2.at ?_
 refine ld (x2.cell rfl) ?_
 refine cl (r5_within m a s m.sels w2 (hM.bl B2)) ?_
 rintro _ w3 ⟨rfl,B23⟩
 have B3:=B2.trans B23
 have x3:=Bl.box B23 x2
 by_cases h2:askE m m.sels [s]=0
 rotate_left
 ·rw [ask_n h2]
  refine brt ?_
  obtain ⟨e1,e2⟩:=dsp_bad (m:=m) (c:=c) (s:=s) fun q=>h2 q.2
  rw [e1,e2]
  exact rt2 ⟨rfl,B3⟩
 rw [h2]
 refine brf ?_
 obtain ⟨P,c0,c1⟩:=ask_one h1
 obtain ⟨_,s0,s1⟩:=ask_one h2
 obtain ⟨c,rfl⟩:=Int.eq_ofNat_of_zero_le c0
 obtain ⟨s,rfl⟩:=Int.eq_ofNat_of_zero_le s0
 obtain ⟨x,b,o,cs,hx,e2,_,hAt,a3,c3,a4,c4,rfl,_,hF,_⟩:=at_some (hM.bl B3).cls (i:=c) (by omega)
 have hT:=(P.cls c x hx).tl
 obtain ⟨n,b6,o6,cs6,hn,e5,_,hA6,rfl⟩:=at_some hF (i:=s) (by omega)
 have en:entM m c s=n:=by rw [ent_at hx,List.getD_eq_getElem?_getD,hn];rfl
 refine ld (x3.cell rfl) ?_
 rw [e2]
 refine ix ?_
 refine ld (hAt 3 _ rfl) ?_
 rw [e5]
 refine ix ?_
 refine ld (hA6 0 _ rfl) ?_
 by_cases h0:0<=n
 ·refine brF ?_
  refine ld (x3.cell rfl) ?_
  rw [e2]
  refine ix ?_
  refine ld (hAt 3 _ rfl) ?_
  rw [e5]
  refine ix ?_
  refine ld (hA6 0 _ rfl) ?_
  obtain ⟨e1,e2⟩:=dsp_yes (m:=m) (c:=c) (s:=s) ⟨h1,h2⟩ (by rw [en];exact h0)
  rw [e1,e2,en]
  exact rt2 ⟨rfl,B3⟩
 ·refine brT ?_
  obtain ⟨e1,e2⟩:=dsp_no (m:=m) (c:=c) (s:=s) ⟨h1,h2⟩ (by rw [en];exact h0)
  rw [e1,e2]
  exact rt2 ⟨rfl,B3⟩
open Classical in
noncomputable def tgtL (m:Mod) (s:Int):List Int:=if askE m m.sels [s]=0 then trgM m s.toNat else []
theorem k_Targets (m:Mod) (a:MA) (s:Int) (w:World) (hM:MdR T w m a):Ret Tryz.prog 161 #[.agg (modcells m a).toArray,I s] w fun v w'=>∃ a c,v = .tuple #[.slice a (tgtL m s).length c,I (askE m m.sels [s])]/\Sl eInt T w' a (tgtL m s)/\Bl w w':=by
 have q1:=hM.cls.big
 refine entr (vs:=[.agg (modcells m a).toArray,I s]) [0,1,2,4,5,6,14] tabok Tryz.func161 (by kernel_rfl) ?_
 refine bx (cs:=modcells m a) fun b1 w1 k1 => ?_
 refine lda k1.box.at ?_
 refine ld (k1.box.cell rfl) ?_
 refine bs (cs:=[I s]) fun b2 w2 k2 => ?_
 have B2:=k1.bl.trans k2.bl
 refine cl (k_asked m a m.sels [s] _ 1 w2 (hM.bl B2) (one_int k2)) ?_
 rintro _ w3 ⟨rfl,B23⟩
 have B3:=B2.trans B23
 have x3:=Bl.box (k2.bl.trans B23) k1.box
 by_cases h1:askE m m.sels [s]=0
 rotate_left
 ·have e:tgtL m s=[]:=if_neg h1
  rw [ask_n h1,e]
  refine brt ?_
  exact rt2 ⟨none,0,rfl,Sl.nil ..,B3⟩
 have e:tgtL m s=trgM m s.toNat:=if_pos h1
 rw [h1,e]
 refine brf ?_
 obtain ⟨P,s0,s1⟩:=ask_one h1
 obtain ⟨s,rfl⟩:=Int.eq_ofNat_of_zero_le s0
 refine lda x3.at ?_
 have hT:∀ c∈m.classes,s<c.table.length:=fun c hc=>by
  obtain ⟨k,hk⟩:=List.mem_iff_getElem?.1 hc
  have:=(P.cls k c hk).tl
  omega
 refine cl (k_targets m a s hT w3 (hM.bl B3)) ?_ (hm:=fun _ _ r=>by obtain ⟨_,_,_,_,hB⟩:=r;exact mdW_bl hB)
 rintro _ w4 ⟨a4,c4,rfl,O4,B34⟩
 have hl:=trg_len (m:=m) s
 exact rt2 ⟨a4,c4,rfl,owp_sl O4 (by omega) fun _ _=>trivial,B3.trans B34⟩
theorem r5_Targets (m:Mod) (a:MA) (s:Int) (w:World) (hM:MdR T w m a):Ret Tryz.prog 198 #[.agg (modcells m a).toArray,I s] w fun v w'=>∃ a c,v = .tuple #[.slice a (tgtL m s).length c,I (askE m m.sels [s])]/\Sl eInt T w' a (tgtL m s)/\Bl w w':=by
 have q1:=hM.cls.big
 refine entr (vs:=[.agg (modcells m a).toArray,I s]) [0,1,2,4,5,6,13] tabok Tryz.func198 (by kernel_rfl) ?_
 refine bx (cs:=modcells m a) fun b1 w1 k1 => ?_
 refine lda k1.box.at ?_
 refine ld (k1.box.cell rfl) ?_
 refine cl (r5_within m a s m.sels w1 (hM.bl k1.bl)) ?_
 rintro _ w3 ⟨rfl,B13⟩
 have B3:=k1.bl.trans B13
 have x3:=Bl.box B13 k1.box
 by_cases h1:askE m m.sels [s]=0
 rotate_left
 ·have e:tgtL m s=[]:=if_neg h1
  rw [ask_n h1,e]
  refine brt ?_
  exact rt2 ⟨none,0,rfl,Sl.nil ..,B3⟩
 have e:tgtL m s=trgM m s.toNat:=if_pos h1
 rw [h1,e]
 refine brf ?_
 obtain ⟨P,s0,s1⟩:=ask_one h1
 obtain ⟨s,rfl⟩:=Int.eq_ofNat_of_zero_le s0
 refine lda x3.at ?_
 have hT:∀ c∈m.classes,s<c.table.length:=fun c hc=>by
  obtain ⟨k,hk⟩:=List.mem_iff_getElem?.1 hc
  have:=(P.cls k c hk).tl
  omega
 refine cl (r5_targets m a s hT w3 (hM.bl B3)) ?_ (hm:=fun _ _ r=>by obtain ⟨_,_,_,_,hB⟩:=r;exact mdW_bl hB)
 rintro _ w4 ⟨a4,c4,rfl,O4,B34⟩
 exact rt2 ⟨a4,c4,rfl,O4.sub fun _ _=>trivial,B3.trans B34⟩
end Go.Proofs.YtdjkoljonlcemaaGreat

/- Walks: Locals and Calls, in the program and in the document. -/
namespace Go.Proofs.YtdjkoljonlcemaaGreat
open Eng Go.RowKit
def selfM (x:MM):List Ty:=if 0<=x.cls then [⟨2,x.cls⟩] else []
theorem selfM_len (x:MM):(selfM x).length<=1:=by unfold selfM;split <;> simp
set_option maxHeartbeats 1000000 in
theorem k_locals (x:MM) (a1:Option Addr) (c1:Nat) (a2:Option Addr) (c2:Nat) (a3:Option Addr) (c3:Nat) (w:World) (h1:Sl eTy T w a1 x.params) (h2:Sl eTy T w a2 x.locals) :
  Ret Tryz.prog 70 #[.agg (mmcells x a1 c1 a2 c2 a3 c3).toArray] w fun v w'=>∃ a c,v = .slice a (locM x).length c/\OwP 2 encTy w' w.heap.size 42 a c (locM x)/\Bl w w':=by
 have g1:=h1.big
 have g2:=h2.big
 have g3:=selfM_len x
 refine entr (vs:=[.agg (mmcells x a1 c1 a2 c2 a3 c3).toArray]) [0,1,2,3,6] tabok Tryz.func70 (by kernel_rfl) ?_
 refine bx (cs:=mmcells x a1 c1 a2 c2 a3 c3) fun b1 w1 k1 => ?_
 have z1:=k1.size
 have y1:=k1.blk
 refine ld (k1.box.cell rfl) ?_
 refine jn [3] [(1,.pointer (some ⟨b1,0,none⟩))] (fun vals w'=>∃ a c,vals=[.slice a (selfM x).length c]/\OwP 2 encTy w' w1.heap.size 42 a c (selfM x)/\Bl w1 w') (fun h go => ?_) (fun h go => ?_) ?_
 ·have h0:0<=x.cls:=of_decide_eq_true h
  have e:selfM x=[⟨2,x.cls⟩]:=if_pos h0
  refine ld (k1.box.cell rfl) ?_
  refine bd (cs:=[I 2,I x.cls]) ?_
  refine bs (cs:=[I 2,I x.cls]) fun b5 w5 k5 => ?_
  have z5:=k5.size
  refine apl (enc:=encTy) (base:=w1.heap.size) (l0:=[]) (l1:=[⟨2,x.cls⟩]) (Ow.nil ..) (.inr ⟨b5,0,rfl,k5.box.at⟩) (by omega) fun a7 c7 w7 O7 A7 _ => ?_
  rw [<-e] at O7
  refine go ⟨a7,c7,by rw [e],O7,Below.trans k5.bl (A7.below (by omega) fun g hg=>by cases hg)⟩
 ·have h0:¬0<=x.cls:=of_decide_eq_false h
  have e:selfM x=[]:=if_neg h0
  refine go ⟨none,0,by rw [e],by rw [e];exact Ow.nil ..,Bl.refl _⟩
 rintro _ w5 ⟨a5,c5,rfl,O5,B15⟩
 have x5:=Bl.box B15 k1.box
 have z5:=B15.size
 refine dh (fun i=>i=b1) [0,1,2,4,5,3,6,7] fun w6 k6 => ?_
 have x6:=k6.box x5
 have B6:=(k1.bl.trans B15).trans k6.bl
 have O6:=O5.bl k6.bl
 have z6:=k6.bl.size
 refine ld (x6.cell rfl) ?_ (hm:=rfl)
 refine ld (x6.cell rfl) ?_ (hm:=rfl)
 refine apl (l0:=selfM x) (l1:=x.params) O6 (src_of (h1.bl B6)) (by omega) (fun a7 c7 w7 O7 A7 F7 => ?_) (hm:=apS fun g hg q=>by have:=(O6.lt hg).1;omega)
 have z7:=A7.size
 have D7:Below w.heap.size w w7:=Below.trans B6 (A7.below (by omega) fun g hg=>by have:=(O6.lt hg).1;omega)
 have L7:Sl eTy (· < w.heap.size) w7 a2 x.locals:=(Sl.lt (by decide) h2).kp (Below.kp D7)
 refine apl (l0:=selfM x++x.params) (l1:=x.locals) O7 (src_of L7) (by omega) (fun a8 c8 w8 O8 A8 F8 => ?_) (hm:=apS fun g hg q=>by have:=(O7.lt hg).1;omega)
 refine rt1 ⟨a8,c8,rfl,O8.base (by omega),Below.trans D7 (A8.below (by omega) fun g hg=>by have:=(O7.lt hg).1;omega)⟩
open Classical in
noncomputable def locL (m:Mod) (k:Int):List Ty:=if askE m m.methods.length [k]=0 then locM (mths m k) else []
theorem k_LocalsF (m:Mod) (a:MA) (k:Int) (w:World) (hM:MdR T w m a):Ret Tryz.prog 40 #[.agg (modcells m a).toArray,I k] w fun v w'=>∃ a c,v = .tuple #[.slice a (locL m k).length c,I (askE m m.methods.length [k])]/\OwP 2 encTy w' w.heap.size 42 a c (locL m k)/\Bl w w':=by
 have q1:=hM.mth.big
 refine entr (vs:=[.agg (modcells m a).toArray,I k]) [0,1,2,4,5,6,15] tabok Tryz.func40 (by kernel_rfl) ?_
 refine bx (cs:=modcells m a) fun b1 w1 k1 => ?_
 refine lda k1.box.at ?_
 refine ld (k1.box.cell rfl) ?_
 refine bs (cs:=[I k]) fun b2 w2 k2 => ?_
 have B2:=k1.bl.trans k2.bl
 refine cl (k_asked m a m.methods.length [k] _ 1 w2 (hM.bl B2) (one_int k2)) ?_
 rintro _ w3 ⟨rfl,B23⟩
 have B3:=B2.trans B23
 have x3:=Bl.box (k2.bl.trans B23) k1.box
 by_cases h1:askE m m.methods.length [k]=0
 rotate_left
 ·have e:locL m k=[]:=if_neg h1
  rw [ask_n h1,e]
  refine brt ?_
  exact rt2 ⟨none,0,rfl,Ow.nil ..,B3⟩
 have e:locL m k=locM (mths m k):=if_pos h1
 rw [h1,e]
 refine brf ?_
 obtain ⟨P,c0,c1⟩:=ask_one h1
 obtain ⟨k,rfl⟩:=Int.eq_ofNat_of_zero_le c0
 obtain ⟨x,b,o,cs,hx,e2,_,hAt,a1,d1,a2,d2,a3,d3,rfl,f1,f2,_⟩:=at_some (hM.bl B3).mth (i:=k) (by omega)
 rw [mths_at hx]
 refine ld (x3.cell rfl) ?_
 rw [e2]
 refine ix ?_
 refine lda hAt ?_
 refine cl (k_locals x a1 d1 a2 d2 a3 d3 w3 f1 f2) ?_ (hm:=fun _ _ r=>by obtain ⟨_,_,_,_,hB⟩:=r;exact mdW_bl hB)
 rintro _ w4 ⟨a4,c4,rfl,O4,B34⟩
 exact rt2 ⟨a4,c4,rfl,O4.base B3.size,B3.trans B34⟩
set_option maxHeartbeats 1000000 in
theorem r5_Locals (m:Mod) (a:MA) (k:Int) (w:World) (hM:MdR T w m a):Ret Tryz.prog 35 #[.agg (modcells m a).toArray,I k] w fun v w'=>∃ a c,v = .tuple #[.slice a (locL m k).length c,I (askE m m.methods.length [k])]/\OwP 2 encTy w' w.heap.size 42 a c (locL m k)/\Bl w w':=by
 have q1:=hM.mth.big
 refine entr (vs:=[.agg (modcells m a).toArray,I k]) [0,1,2,4,5,6,7,8,16,25] tabok Tryz.func35 (by kernel_rfl) ?_
 refine bx (cs:=modcells m a) fun b1 w1 k1 => ?_
 refine lda k1.box.at ?_
 refine ld (k1.box.cell rfl) ?_
 refine cl (r5_within m a k m.methods.length w1 (hM.bl k1.bl)) ?_
 rintro _ w3 ⟨rfl,B13⟩
 have B3:=k1.bl.trans B13
 have x3:=Bl.box B13 k1.box
 by_cases h1:askE m m.methods.length [k]=0
 rotate_left
 ·have e:locL m k=[]:=if_neg h1
  rw [ask_n h1,e]
  refine brt ?_
  exact rt2 ⟨none,0,rfl,Ow.nil ..,B3⟩
 have e:locL m k=locM (mths m k):=if_pos h1
 rw [h1,e]
 refine brf ?_
 obtain ⟨P,c0,c1⟩:=ask_one h1
 obtain ⟨k,rfl⟩:=Int.eq_ofNat_of_zero_le c0
 obtain ⟨x,b,o,cs,hx,e2,_,hAt,a1,d1,a2,d2,a3,d3,rfl,f1,f2,_⟩:=at_some (hM.bl B3).mth (i:=k) (by omega)
 rw [mths_at hx]
 have g1:=f1.big
 have g2:=f2.big
 have g3:=selfM_len x
 refine ld (x3.cell rfl) ?_
 rw [e2]
 refine ix ?_
 refine lda hAt ?_
 refine al fun b4 w4 k4 => ?_
 refine sta (cs':=mmcells x a1 d1 a2 d2 a3 d3) k4.box fun w5 k5 x5 => ?_
 have B35:=k4.wr k5
 have y4:=k4.blk
 have z5:=B35.size
 have l5:=x5.lt
 refine ld (x5.cell rfl) ?_
 refine jn [8] [(7,.pointer (some ⟨b4,0,none⟩))] (fun vals w'=>∃ a c,vals=[.slice a (selfM x).length c]/\OwP 2 encTy w' w5.heap.size 42 a c (selfM x)/\Bl w5 w') (fun h go => ?_) (fun h go => ?_) ?_
 ·have h0:0<=x.cls:=of_decide_eq_true h
  have e:selfM x=[⟨2,x.cls⟩]:=if_pos h0
  refine ld (x5.cell rfl) ?_
  refine bd (cs:=[I 2,I x.cls]) ?_
  refine bs (cs:=[I 2,I x.cls]) fun b5 w6 k6 => ?_
  have z6:=k6.size
  refine apl (enc:=encTy) (base:=w5.heap.size) (l0:=[]) (l1:=[⟨2,x.cls⟩]) (Ow.nil ..) (.inr ⟨b5,0,rfl,k6.box.at⟩) (by omega) fun a7 c7 w7 O7 A7 _ => ?_
  rw [<-e] at O7
  refine go ⟨a7,c7,by rw [e],O7,Below.trans k6.bl (A7.below (by omega) fun g hg=>by cases hg)⟩
 ·have h0:¬0<=x.cls:=of_decide_eq_false h
  have e:selfM x=[]:=if_neg h0
  refine go ⟨none,0,by rw [e],by rw [e];exact Ow.nil ..,Bl.refl _⟩
 rintro _ w6 ⟨a5,c5,rfl,O5,B56⟩
 have x6:=Bl.box B56 x5
 have z6:=B56.size
 refine dh (fun i=>i=b4) [0,1,2,4,5,3,6,7,8] fun w7 k7 => ?_
 have x7:=k7.box x6
 have B37:=(B35.trans B56).trans k7.bl
 have O6:=O5.bl k7.bl
 have z7:=k7.bl.size
 refine ld (x7.cell rfl) ?_ (hm:=rfl)
 refine ld (x7.cell rfl) ?_ (hm:=rfl)
 refine apl (l0:=selfM x) (l1:=x.params) O6 (src_of (f1.bl B37)) (by omega) (fun a7 c7 w8 O7 A7 F7 => ?_) (hm:=apS fun g hg q=>by have:=(O6.lt hg).1;omega)
 have z8:=A7.size
 have D7:Below w3.heap.size w3 w8:=Below.trans B37 (A7.below (by omega) fun g hg=>by have:=(O6.lt hg).1;omega)
 have L7:Sl eTy (· < w3.heap.size) w8 a2 x.locals:=(Sl.lt (by decide) f2).kp (Below.kp D7)
 refine apl (l0:=selfM x++x.params) (l1:=x.locals) O7 (src_of L7) (by omega) (fun a8 c8 w9 O8 A8 F8 => ?_) (hm:=apS fun g hg q=>by have:=(O7.lt hg).1;omega)
 refine rt2 ⟨a8,c8,rfl,O8.base (by have:=B3.size;omega),B3.trans (Below.trans D7 (A8.below (by omega) fun g hg=>by have:=(O7.lt hg).1;omega))⟩
theorem codeE_len {l:List Ins} {p:Bool} (h:codeE l p=0):l.length<=120:=by
 unfold codeE at h
 split at h
 ·cases h
 ·omega
end Go.Proofs.YtdjkoljonlcemaaGreat
