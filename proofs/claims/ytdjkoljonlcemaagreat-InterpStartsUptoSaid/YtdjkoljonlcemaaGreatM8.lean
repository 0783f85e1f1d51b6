import Derived.Test.YtdjkoljonlcemaaGreatM2
import Derived.Test.YtdjkoljonlcemaaGreatM3
import Derived.ChangeKeysEq
import Derived.Test.YtdjkoljonlcemaaGreatM4
import Derived.Test.YtdjkoljonlcemaaGreatM7
/- The engine: a store of several cells into a row. -/
namespace Go.Proofs.YtdjkoljonlcemaaGreat.Eng
open Go Go.RowKit
theorem stvv {C:Cx} {s:St} {w:World} {md:Option Md} {ops:Array Oper} {T:TypeId} {x y:Operand} {ty:TypeId} {pos:String} {af:Array Edge} {g:Option (Nat×Bool)} {rest:List Oper} {k:List Item} {l:Env} {c:CEnv} {tk:TK} {sz:Nat} {ag:Bool} {zr:List Value} {b o:Nat} {t:TypeId} {vs cs:List Value}
  (hb:Box w b t cs) (h:∀ w',Wr w b w'->Box w' b t (ovl cs o vs)->Wk C (.reg md ops rest k l c) w')
  (hs:adv C.tab C.n C.ks 400 s = .opn md ops ⟨none,.store T x y,ty,pos,af,g⟩ rest k l c []:=by rfl) (ht:C.tab.at T=some ⟨tk,sz,ag,zr⟩:=by rfl)
  (hx:evc l c [] x=some (.pointer (some ⟨b,o,none⟩)):=by rfl) (hy:evc l c [] y=some (.agg vs.toArray):=by rfl) (hv:vs.all Value.oneCell'=true:=by rfl) (hl:vs.length=sz:=by rfl)
  (ho:o+vs.length<=cs.length:=by omega) (hm:∀ w',Wr w b w'->mdW md w w':=by intros;exact True.intro) (hnt:notT md=true:=by rfl):Wk C s w :=
 op_unit (okW_of rfl hnt) (hm _ (setCells_ok hb).1) (w':=setCells w b o vs) (fun hT a hA=>by
  have hz:=(ti_agg (tab_at hT ht) w).2
  simp only [execOp,evc_ok hA.k hA.kc.c (p:=[]) trivial hx,evc_ok hA.k hA.kc.c (p:=[]) trivial hy,Instr.storeAt,Instr.sureAddr]
  refine (run_bind_ok (P:=C.P) (x:=()) (w':=setCells w b o vs) ?_).trans rfl
  show (storeVar T ⟨b,o,none⟩ (.agg vs.toArray)).run C.P w=_
  unfold storeVar
  rw [run_bind_ok hz,if_neg (by simp [Value.cells,hl])]
  exact storeCells_run (vs:=vs) (i:=0) hb ho hv)
  (h _ (setCells_ok hb).1 (setCells_ok (o:=o) (vs:=vs) hb).2) hs rfl
theorem ovl_shift:∀ (vs y l:List Value) (o:Nat),ovl (y++l) (y.length+o) vs=y++ovl l o vs
 | [],_,_,_=>rfl
 | v::vs,y,l,o=>by
  simp only [ovl]
  rw [List.set_append_right _ _ (by omega),show y.length+o-y.length=o by omega,Nat.add_assoc]
  exact ovl_shift vs y _ (o+1)
theorem ovl_head:∀ (vs y l:List Value),vs.length=y.length->ovl (y++l) 0 vs=vs++l
 | [],[],_,_=>rfl
 | v::vs,u::y,l,h=>by
  have e:=ovl_shift vs [v] (y++l) 0
  have e2:=ovl_head vs y l (by simpa using h)
  simp only [ovl,List.cons_append,List.set_cons_zero]
  simp only [List.cons_append,List.nil_append,List.length_cons,List.length_nil] at e
  rw [e2] at e
  exact e
 | [],_::_,_,h=>by simp at h
 | _::_,[],_,h=>by simp at h
theorem ovl_flat {sz:Nat} {vs:List Value} (hv:vs.length=sz):∀ {xs:List (List Value)} (_:∀ c∈xs,c.length=sz) {k:Nat},k<xs.length->ovl xs.flatten (k*sz) vs=(xs.set k vs).flatten
 | [],_,k,hk=>by simp at hk
 | y::l,h,0,_=>by
  rw [Nat.zero_mul,List.flatten_cons,ovl_head _ _ _ (by rw [hv,h y (List.mem_cons_self ..)])];rfl
 | y::l,h,k+1,hk=>by
  have hy:=h y (List.mem_cons_self ..)
  have ih:=ovl_flat hv (xs:=l) (fun c hc=>h c (List.mem_cons_of_mem _ hc)) (k:=k) (by simpa using hk)
  rw [List.flatten_cons,show (k+1)*sz=y.length+k*sz by rw [hy,Nat.succ_mul];omega,ovl_shift,ih];rfl
theorem take_ovl':∀ {vs l:List Value} {o n:Nat},(ovl l o vs).take n=ovl (l.take n) o vs
 | [],_,_,_=>rfl
 | v::vs,l,o,n=>by simp only [ovl];rw [take_ovl',List.take_set]
end Go.Proofs.YtdjkoljonlcemaaGreat.Eng

/- The engine: a pointer against nil; two bools; two pairs of numbers. -/
namespace Go.Proofs.YtdjkoljonlcemaaGreat
open Go Go.RowKit Eng
def isPtrD (P:Program) (T:Nat):Bool:=match P.underlying T with
 | some (.pointer _)=>true
 | _=>false
theorem eql_pnil {P:Program} {w:World} {t:TypeId} {p:Option Addr} (h:isPtrD P t=true):(binOp .eql t (.pointer p) (.pointer none)).run P w = .ok (.bool p.isNone) w:=by
 unfold isPtrD at h
 split at h
 ·rename_i e hu
  have h1:∀ d:Nat,(Op.equalIn (d+1) t (.pointer p) (.pointer none)).run P w = .ok p.isNone w:=fun d=>by
   cases p <;> simp [Op.equalIn,run_underlying hu]
  have h2:(Op.equal t (.pointer p) (.pointer none)).run P w = .ok p.isNone w:=h1 9999
  simp [binOp,h2]
 ·cases h
theorem Eng.pnl {C:Cx} {s:St} {w:World} {md:Option Md} {ops:Array Oper} {T T':TypeId} {x y:Operand} {d:Nat} {ty:TypeId} {pos:String} {af:Array Edge} {g:Option (Nat×Bool)} {rest:List Oper} {k:List Item} {l:Env} {c:CEnv} {p:Option Addr}
  (h:Wk C (.reg md ops rest k ((d,.bool p.isNone)::l) c) w)
  (hs:adv C.tab C.n C.ks 400 s = .opn md ops ⟨some d,.binOp .eql T x y T',ty,pos,af,g⟩ rest k l c []:=by rfl) (hx:evc l c [] x=some (.pointer p):=by rfl) (hy:evc l c [] y=some (.pointer none):=by rfl) (ht:isPtrD C.P T=true:=by kernel_rfl) (hf:fresh d l c []=true:=by rfl):Wk C s w :=
 rd (p:=[]) (fun _ _ hA hp w' _=>by
  simp only [execOp,evc_ok hA.k hA.kc.c hp hx,evc_ok hA.k hA.kc.c hp hy]
  exact run_bind_ok (run_bind_ok (show (eqGuard .eql T x y (.pointer p) (.pointer none)).run C.P w' = .ok () w' from rfl) |>.trans (eql_pnil ht)) |>.trans rfl) h hs rfl hf (okR_no rfl)
def isBoolD (P:Program) (T:Nat):Bool:=match P.underlying T with
 | some .bool=>true
 | _=>false
theorem neq_bool {P:Program} {w:World} {t:TypeId} {a b:Bool} (h:isBoolD P t=true):(binOp .neq t (.bool a) (.bool b)).run P w = .ok (.bool (!(a == b))) w:=by
 unfold isBoolD at h
 split at h
 ·rename_i hu
  have h1:∀ d:Nat,(Op.equalIn (d+1) t (.bool a) (.bool b)).run P w = .ok (a == b) w:=fun d=>by simp [Op.equalIn,run_underlying hu]
  have h2:(Op.equal t (.bool a) (.bool b)).run P w = .ok (a == b) w:=h1 9999
  simp [binOp,h2]
 ·cases h
theorem Eng.nbl {C:Cx} {s:St} {w:World} {md:Option Md} {ops:Array Oper} {T T':TypeId} {x y:Operand} {d:Nat} {ty:TypeId} {pos:String} {af:Array Edge} {g:Option (Nat×Bool)} {rest:List Oper} {k:List Item} {l:Env} {c:CEnv} {a b:Bool}
  (h:Wk C (.reg md ops rest k ((d,.bool (!(a == b)))::l) c) w)
  (hs:adv C.tab C.n C.ks 400 s = .opn md ops ⟨some d,.binOp .neq T x y T',ty,pos,af,g⟩ rest k l c []:=by rfl) (hx:evc l c [] x=some (.bool a):=by rfl) (hy:evc l c [] y=some (.bool b):=by rfl) (ht:isBoolD C.P T=true:=by kernel_rfl) (hf:fresh d l c []=true:=by rfl):Wk C s w :=
 rd (p:=[]) (fun _ _ hA hp w' _=>by
  simp only [execOp,evc_ok hA.k hA.kc.c hp hx,evc_ok hA.k hA.kc.c hp hy]
  exact run_bind_ok (run_bind_ok (show (eqGuard .neq T x y (.bool a) (.bool b)).run C.P w' = .ok () w' from rfl) |>.trans (neq_bool ht)) |>.trans rfl) h hs rfl hf (okR_no rfl)
theorem eq_pair (a b c d:Int) (w:World):(Op.equalIn 10000 46 (.agg [I a,I b].toArray) (.agg [I c,I d].toArray)).run Tryz.prog w = .ok (decide (a=c/\b=d)) w:=by
 obtain ⟨i,hi⟩:∃ i,(Tryz.prog).info? 3=some i:=Option.isSome_iff_exists.1 (by kernel_rfl)
 have hc:(Tryz.prog).cellsOf 3=1:=by kernel_rfl
 rw [run_equalIn_array w 9999 (n:=2) (e:=3) _ _ (by kernel_rfl) hi,hc]
 show (Op.eqItems 9999 3 1 _ _ [0,1]).run _ w=_
 simp only [Op.eqItems]
 rw [run_bind_ok (part_cell ti_i (v:=I a) rfl),run_bind_ok (part_cell ti_i (v:=I c) rfl),run_bind_ok (eq_i (d:=9998) a c)]
 by_cases p:a=c
 ·rw [if_neg (by simp [p]),run_bind_ok (part_cell ti_i (v:=I b) rfl),run_bind_ok (part_cell ti_i (v:=I d) rfl),run_bind_ok (eq_i (d:=9998) b d)]
  by_cases q:b=d <;> simp [p,q]
 ·rw [if_pos (by simp [p])]
  simp [p]
theorem Eng.holds_pre {a:Act} {q:Path}:∀ {pre:Path},holds a (pre++q)->holds a q
 | [],h=>h
 | (_,_)::_,h=>holds_pre h.2
theorem Eng.spnP {C:Cx} {s:St} {w:World} {md:Option Md} {ops:Array Oper} {o:Oper} {rest:List Oper} {k:List Item} {l:Env} {c:CEnv} {gt:Bool} {d:Nat} (pre:Path) (gs:Nat) (gb:Bool) (q:Path) (u:Value)
  (h2:Wk C (.reg md ops rest k l ((d,pre++(gs,gb)::q,u)::c)) w)
  (hs:adv C.tab C.n C.ks 400 s = .opn md ops o rest k l c (pre++(gs,gb)::q):=by rfl) (hg:evc l c q (.tmp gs)=some (.bool gt):=by rfl) (hd:o.dst=some d:=by rfl) (hf:fresh d l c (pre++(gs,gb)::q)=true:=by rfl) (hb:gt=(!gb):=by first | rfl | simp_all):Wk C s w:=by
 refine by_adv hs ⟨fun ht hfn hdk a hA hw => ?_⟩
 have hn:¬holds a (pre++(gs,gb)::q):=fun hp=>by
  have hq:=holds_pre hp
  have e1:a.tmps.getD gs undef = .bool gt:=evc_ok hA.k hA.kc.c (p:=q) hq.2 hg
  have e2:=hq.1
  rw [e1] at e2
  rw [hb] at e2
  cases gb <;> cases e2
 rw [hd] at hdk
 refine listS_skip (fun hc=>hn (hw.1 hc)) ?_
 rw [hd]
 exact h2.run ht hfn _ ((ok_put (v:=u) (u:=undef) (p:=pre++(gs,gb)::q) hA hdk hf).2 (by simp) (fun hh=>(hn hh).elim) (fun _=>rfl))
theorem Eng.spt3 {C:Cx} {s:St} {w:World} {md:Option Md} {ops:Array Oper} {o:Oper} {rest:List Oper} {k:List Item} {l:Env} {c:CEnv} {g1 g2 g3:Nat} {b1 b2 b3 t1 t2 t3:Bool} {d:Nat}
  (h1:Wk C (.opn md ops o rest k (bools [(g1,b1),(g2,b2),(g3,b3)] (settleL [(g1,b1),(g2,b2),(g3,b3)] c l)) (settleC [(g1,b1),(g2,b2),(g3,b3)] c) []) w)
  (hs:adv C.tab C.n C.ks 400 s = .opn md ops o rest k l c [(g1,b1),(g2,b2),(g3,b3)]:=by rfl) (hg3:evc l c [] (.tmp g3)=some (.bool t3):=by rfl) (hg2:evc l c [(g3,b3)] (.tmp g2)=some (.bool t2):=by rfl) (hg1:evc l c [(g2,b2),(g3,b3)] (.tmp g1)=some (.bool t1):=by rfl) (hd:o.dst=some d:=by rfl) (hf:fresh d l c [(g1,b1),(g2,b2),(g3,b3)]=true:=by rfl) (e3:t3=b3:=by first | rfl | simp_all) (e2:t2=b2:=by first | rfl | simp_all) (e1:t1=b1:=by first | rfl | simp_all):Wk C s w:=by
 refine by_adv hs ⟨fun ht hfn hdk a hA hw => ?_⟩
 have p3:holds a [(g3,b3)]:=⟨(show a.tmps.getD g3 undef = .bool t3 from evc_ok hA.k hA.kc.c (p:=[]) trivial hg3).trans (by rw [e3]),trivial⟩
 have p2:holds a [(g2,b2),(g3,b3)]:=⟨(show a.tmps.getD g2 undef = .bool t2 from evc_ok hA.k hA.kc.c (p:=[(g3,b3)]) p3 hg2).trans (by rw [e2]),p3⟩
 have hp:holds a [(g1,b1),(g2,b2),(g3,b3)]:=⟨(show a.tmps.getD g1 undef = .bool t1 from evc_ok hA.k hA.kc.c (p:=[(g2,b2),(g3,b3)]) p2 hg1).trans (by rw [e1]),p2⟩
 refine h1.run ht hfn hdk a ⟨hA.size,hA.defers,bools_ok hp (settleL_ok hp hA.kc hA.k),fun d q v hm=>hA.kc d q v (settleC_mem hm)⟩ ?_
 exact ⟨fun _=>trivial,fun _=>hw.2 hp⟩
end Go.Proofs.YtdjkoljonlcemaaGreat

/- Walk: a world of the program is made. -/
namespace Go.Proofs.YtdjkoljonlcemaaGreat
open Eng Go.RowKit
abbrev wip (m:Mod) (A:MA) (pl c st jb:Value) (mh ms:Value):List Value:=[.slice A.a1 m.classes.length A.c1,.slice A.a2 m.statics.length A.c2,.slice A.a3 m.methods.length A.c3,I m.sels,pl,c,st,jb,.slice none 0 0,mh,ms,I 1001]
abbrev wiz:List Value:=[I 0,I 0,I 0,I 0,I 0,I 0,I 0,I 0,I 0,I 0,I 0,I 0]
structure WI (w:World) (m:Mod) (A:MA) (b:Nat):Prop where
 md:MdR (· < b) w m A
 bx:∃ (pl st mh ms:Value) (bc oc:Nat) (lk:List Value),Box w b 71 (wip m A pl (.pointer (some ⟨bc,oc,none⟩)) st (.slice none 0 0) mh ms++lk)/\lk.length=12
set_option maxHeartbeats 8000000 in
theorem i_New (m:Mod) (a:MA) (w:World) (hM:MdR T w m a):Ret Tryz.prog 10 #[.agg (modcells m a).toArray,I 2,I 0] w fun v w' =>
  ((verE m=0/\∃ A b,v = .tuple #[ptr b,I 0]/\w.heap.size<=b/\WI w' m A b)∨(verE m≠0/\v = .tuple #[.pointer none,I 1]))/\Bl w w':=by
 have q1:=hM.mth.big
 have q2:=hM.sta.big
 have hML:=hM.lt
 refine entr (vs:=[.agg (modcells m a).toArray,I 2,I 0]) [0,1,2,3,6,7,8,9,12,13,14,16,17,35,43,44,54,55,56,57,75,76,77] tabok Tryz.func10 (by kernel_rfl) ?_
 refine bx (cs:=modcells m a) fun b1 w1 k1 => ?_
 have y1:=k1.blk;have s1:=k1.size
 refine cl (Zr.k_cyc w1) ?_
 rintro _ w2 ⟨⟨bc,oc,rfl⟩,B2⟩
 have x12:=Bl.box B2 k1.box
 have B02:=k1.bl.trans B2
 refine lda x12.at ?_
 refine cl (v_Module m a w2 (hM.bl B02)) ?_
 rintro _ w3 ⟨at',pl,er,rfl,he,B3⟩
 have B03:=B02.trans B3
 have x13:=Bl.box B3 x12
 by_cases h0:er=0
 rotate_left
 ·refine brt ?_ (hp:=by simp [h0])
  exact rt2 ⟨.inr ⟨fun z=>h0 (he.2 z),rfl⟩,B03⟩
 refine brf ?_ (hp:=by simp [h0])
 have hv:=he.1 h0
 have P:ModP m:=by
  unfold verE at hv
  split at hv
  ·rename_i q;exact q.1
  ·cases hv
 refine lda x13.at ?_
 refine cl (i_clone m a w3 (hM.bl B03)) ?_
 rintro _ w4 ⟨A,rfl,hA,B4⟩
 refine mm fun b5 w5 k5 => ?_
 refine mm fun b6 w6 k6 => ?_
 refine bd (cs:=wip m A (.slice none 0 0) (.pointer (some ⟨bc,oc,none⟩)) (.slice none 0 0) (.slice none 0 0) (.map (some b5)) (.map (some b6))++wiz) ?_
 refine bx (cs:=wip m A (.slice none 0 0) (.pointer (some ⟨bc,oc,none⟩)) (.slice none 0 0) (.slice none 0 0) (.map (some b5)) (.map (some b6))++wiz) fun b7 w7 k7 => ?_
 have B47:=(k5.bl.trans k6.bl).trans k7.bl
 have B07:=(B03.trans B4).trans B47
 have y7:=k7.blk
 have z4:=(k5.bl.trans k6.bl).size
 have z04:=(B03.trans B4).size
 have l13:=x13.lt
 have z34:=B4.size
 have hA7:MdR (· < b7) w7 m A:=(hA.bl B47).sub fun i (hi:i<w4.heap.size)=>by show i<b7;omega
 refine lpk 6 43 [] [(3,ptr b1),(13,ptr b7)] (fun j vals w'=>vals=[]/\∃ lk:List Value,Box w' b7 71 (wip m A (.slice none 0 0) (.pointer (some ⟨bc,oc,none⟩)) (.slice none 0 0) (.slice none 0 0) (.map (some b5)) (.map (some b6))++lk)/\lk.length=12/\Bl w w'/\MdR (· < b7) w' m A/\Box w' b1 26 (modcells m a)) ⟨rfl,wiz,k7.box,rfl,B07,hA7,Bl.box (B4.trans B47) x13⟩ ?_
 clear hA hA7
 rintro j vals w8 hj ⟨rfl,lk,xw,hlk,B8,hA,x18⟩ ih
 by_cases hlt:j<6
 ·refine brT ?_
  refine ixa (j:=j) ?_
  refine stx xw (fun w9 k9 x9 => ?_) (ho:=by rw [List.length_append,hlk];show 0+12+j*2<12+12;omega)
  refine ih hlt ⟨rfl,lk.set (j*2) (I (-1)),?_,by rw [List.length_set];exact hlk,Below.trans B8 (k9.below (by omega)),hA.kp (k9.kp fun i (hi:i<b7)=>by omega),k9.box x18 (by omega)⟩
  have e:(wip m A (.slice none 0 0) (.pointer (some ⟨bc,oc,none⟩)) (.slice none 0 0) (.slice none 0 0) (.map (some b5)) (.map (some b6))++lk).set (0+12+j*2) (I (-1))=wip m A (.slice none 0 0) (.pointer (some ⟨bc,oc,none⟩)) (.slice none 0 0) (.slice none 0 0) (.map (some b5)) (.map (some b6))++lk.set (j*2) (I (-1)):=by
   rw [List.set_append_right _ _ (by show 12<=0+12+j*2;omega)]
   congr 2
   show 0+12+j*2-12=_
   omega
  rw [<-e];exact x9
 refine brF ?_
 clear ih
 refine ld (x18.cell rfl) ?_
 refine lpk m.statics.length 56 [] [(3,ptr b1),(13,ptr b7),(54,.slice a.a2 m.statics.length a.c2),(55,I m.statics.length)] (fun j vals w'=>vals=[]/\∃ (sa:Option Addr) (sc:Nat) (ys:List Value),Box w' b7 71 (wip m A (.slice none 0 0) (.pointer (some ⟨bc,oc,none⟩)) (.slice sa j sc) (.slice none 0 0) (.map (some b5)) (.map (some b6))++lk)/\Ow w' (b7+1) 78 2 sa j sc ys/\Bl w w'/\MdR (· < b7) w' m A/\Box w' b1 26 (modcells m a)) ⟨rfl,none,0,[],xw,Ow.nil ..,B8,hA,x18⟩ ?_
 clear xw B8 hA x18
 rintro j vals w8 hj ⟨rfl,sa,sc,ys,xw,Os,B8,hA,x18⟩ ih
 by_cases hlt:j<m.statics.length
 ·refine brT ?_
  obtain ⟨t,b,o,_,ht,eb,_,hAt,rfl⟩:=at_some (hM.bl B8).sta hlt
  rw [eb]
  refine ix (j:=j) ?_
  refine lda hAt ?_
  refine al fun b9 w9 k9 => ?_
  refine sta (cs':=encTy t) k9.box fun w10 k10 x10 => ?_
  have B810:Bl w8 w10:=k9.wr k10
  have y9:=k9.blk
  have hsa:∀ g,sa=some ⟨g,0,none⟩->b7+1<=g/\g<w8.heap.size:=fun g hg=>Os.lt hg
  have lw:=xw.lt
  refine dht 3 (fun k=>sa≠some ⟨k,0,none⟩) (List.range 10) fun w11 k11 => ?_
  have B811:=B810.trans k11.bl
  refine ld ((Bl.box B811 xw).cell rfl) ?_ (hm:=fun z=>by have:=hsa _ z;omega)
  refine lda (k11.box x10).at ?_ (hm:=fun z=>by have:=hsa _ z;omega)
  refine cl (i_isRef t w11) ?_ (hm:=fun _ _ r=>mdW_bl r.2)
  rintro _ w12 ⟨rfl,B12⟩
  refine bd (cs:=[I 0,.bool (decide (2<=t.kind))]) ?_
  refine bs (cs:=[I 0,.bool (decide (2<=t.kind))]) fun b13 w13 k13 => ?_
  have B813:=(B811.trans B12).trans k13.bl
  have z813:=B813.size
  refine ap (Os.bl B813) (.inr ⟨b13,0,rfl,k13.box.at⟩) (by omega) (fun a14 c14 w14 O14 A14 f14 => ?_) (hm:=by exact apS fun g hg (q:sa≠some ⟨g,0,none⟩)=>q hg)
  have x14:=A14.box (Bl.box B813 xw) (fun z=>by have:=hsa _ z;omega)
  refine stx x14 (fun w15 k15 x15 => ?_) (ho:=by rw [List.length_append];show 0+6<12+_;omega)
  have f14':∀ g,a14=some ⟨g,0,none⟩->b7+1<=g:=fun g hg=>(O14.lt hg).1
  refine ih hlt ⟨rfl,a14,c14,_,x15,O14.wr k15 fun g hg=>by have:=f14' g hg;omega,?_,?_,?_⟩ (hsub:=by rw [eb];repeat (first | exact True.intro | (refine ⟨rfl,?_⟩)))
  ·exact Below.trans (Below.trans (B8.trans B813) (A14.below (B8.trans B813).size fun g hg=>by have:=hsa g hg;omega)) (k15.below (by omega))
  ·exact ((hA.bl B813).kp (A14.kp.sub fun i (hi:i<b7) z=>by have:=hsa _ z;omega)).kp (k15.kp fun i (hi:i<b7)=>by omega)
  ·exact k15.box (A14.box (Bl.box B813 x18) fun z=>by have:=hsa _ z;omega) (by omega)
 refine brF ?_
 clear ih
 obtain rfl:j=m.statics.length:=by omega
 refine ld (x18.cell rfl) ?_
 refine lpk m.methods.length 76 [] [(3,ptr b1),(13,ptr b7),(75,I m.methods.length)] (fun j vals w'=>vals=[]/\∃ (pa:Option Addr) (pc:Nat) (ys:List Value),Box w' b7 71 (wip m A (.slice pa j pc) (.pointer (some ⟨bc,oc,none⟩)) (.slice sa m.statics.length sc) (.slice none 0 0) (.map (some b5)) (.map (some b6))++lk)/\Ow w' (b7+1) 104 1 pa j pc ys/\Bl w w'/\MdR (· < b7) w' m A/\Box w' b1 26 (modcells m a)) ⟨rfl,none,0,[],xw,Ow.nil ..,B8,hA,x18⟩ ?_
 clear xw B8 hA x18 Os
 rintro j vals w8 hj ⟨rfl,pa,pc,ys,xw,Os,B8,hA,x18⟩ ih
 have lw:=xw.lt
 by_cases hlt:j<m.methods.length
 ·refine brT ?_
  have hsa:∀ g,pa=some ⟨g,0,none⟩->b7+1<=g/\g<w8.heap.size:=fun g hg=>Os.lt hg
  refine dht 3 (fun k=>pa≠some ⟨k,0,none⟩) (List.range 14) fun w11 k11 => ?_
  have hM11:=hML.bl (B8.trans k11.bl)
  obtain ⟨x,bm,om,cm,hx,em,hSm,hAm,a1,c1,a2,c2,a3,c3,rfl,f1,f2,f3,_⟩:=at_some hM11.mth hlt
  have hSm':bm<w.heap.size:=hSm
  refine ld ((k11.box xw).cell rfl) ?_ (hm:=fun z=>by have:=hsa _ z;omega)
  refine ld ((k11.box x18).cell rfl) ?_ (hm:=fun z=>by have:=hsa _ z;omega)
  rw [em]
  refine ix (j:=j) ?_
  refine ld (hAm 6 _ rfl) ?_ (hm:=fun z=>by have:=hsa _ z;omega)
  refine cl (i_places x.code a3 c3 _ w11 f3 (P.mth j x hx).cd) ?_ (hm:=fun _ _ r=>mdW_bl r.2)
  rintro _ w12 ⟨⟨p1,p2,p3,rfl⟩,B12⟩
  refine bs (cs:=[.slice p1 p2 p3]) fun b13 w13 k13 => ?_
  have B813:=(k11.bl.trans B12).trans k13.bl
  have z813:=B813.size
  refine ap (Os.bl B813) (.inr ⟨b13,0,rfl,k13.box.at⟩) (by omega) (fun a14 c14 w14 O14 A14 f14 => ?_) (hm:=by exact apS fun g hg (q:pa≠some ⟨g,0,none⟩)=>q hg)
  have x14:=A14.box (Bl.box B813 xw) (fun z=>by have:=hsa _ z;omega)
  refine stx x14 (fun w15 k15 x15 => ?_) (ho:=by rw [List.length_append];show 0+4<12+_;omega)
  have f14':∀ g,a14=some ⟨g,0,none⟩->b7+1<=g:=fun g hg=>(O14.lt hg).1
  refine ih hlt ⟨rfl,a14,c14,_,x15,O14.wr k15 fun g hg=>by have:=f14' g hg;omega,?_,?_,?_⟩
  ·exact Below.trans (Below.trans (B8.trans B813) (A14.below (B8.trans B813).size fun g hg=>by have:=hsa g hg;omega)) (k15.below (by omega))
  ·exact ((hA.bl B813).kp (A14.kp.sub fun i (hi:i<b7) z=>by have:=hsa _ z;omega)).kp (k15.kp fun i (hi:i<b7)=>by omega)
  ·exact k15.box (A14.box (Bl.box B813 x18) fun z=>by have:=hsa _ z;omega) (by omega)
 refine brF ?_
 exact rt2 ⟨.inl ⟨hv,A,b7,rfl,by omega,hA,_,_,_,_,bc,oc,lk,xw,hlk⟩,B8⟩
end Go.Proofs.YtdjkoljonlcemaaGreat

/- Walks: the document's verifier, its small functions. -/
namespace Go.Proofs.YtdjkoljonlcemaaGreat
open Eng Go.RowKit
theorem d_SameTypes (l m:List Ty) (a1 a2:Option Addr) (c1 c2:Nat) (w:World) (h1:Sl eTy T w a1 l) (h2:Sl eTy T w a2 m):Ret Tryz.prog 139 #[.slice a1 l.length c1,.slice a2 m.length c2] w fun v w'=>v = .bool (decide (l=m))/\Bl w w':=by
 refine entr (vs:=[.slice a1 l.length c1,.slice a2 m.length c2]) [0,1,4,5,10,14,25] tabok Tryz.func139 (by kernel_rfl) ?_
 have hb1:=h1.big
 have hb2:=h2.big
 refine br (fun h => ?_) (fun h => ?_)
 ·exact rt1 ⟨vb (same_len (of_decide_eq_true h)).symm,Bl.refl _⟩
 have hl:=Classical.not_not.1 (of_decide_eq_false h)
 refine lpk l.length 5 [] [(0,.slice a1 l.length c1),(1,.slice a2 m.length c2)] (fun k vals w'=>vals=[]/\l.take k=m.take k/\Bl w w') ⟨rfl,rfl,Bl.refl _⟩ ?_
 rintro k vals w2 hk ⟨rfl,ha,hB⟩ ih
 by_cases hlt:k<l.length
 ·refine brT ?_
  obtain ⟨x,b,o,cs,hx,rfl,_,hAt,rfl⟩:=at_some (h1.bl hB) hlt
  obtain ⟨y,b',o',cs',hy,rfl,_,hAt',rfl⟩:=at_some (h2.bl hB) (i:=k) (by omega)
  refine dh T (List.range 9) fun w8 h8 => ?_
  have hC:=hAt.bl h8.bl
  have hC':=hAt'.bl h8.bl
  refine ix ?_
  refine lda hC ?_ (hm:=trivial)
  refine ix ?_
  refine lda hC' ?_ (hm:=trivial)
  refine neA (fun w=>eq_ty x y) ?_
  refine br (fun h => ?_) (fun h => ?_)
  ·exact rt1 ⟨vb (same_no hx hy (fun e=>by rw [decide_eq_true e] at h;cases h)).symm,hB.trans h8.bl⟩
  ·exact ih hlt ⟨rfl,same_go hx hy (Classical.byContradiction fun e=>by rw [decide_eq_false e] at h;cases h) ha,hB.trans h8.bl⟩
 refine brF ?_
 exact rt1 ⟨vb (same_end hl ha (by omega)).symm,hB⟩
theorem d_Integer (w:World):Ret Tryz.prog 142 #[] w fun v w'=>v = .agg #[I 1,I 0]/\Bl w w':=by
 refine entr (vs:=[]) [0] tabok Tryz.func142 (by kernel_rfl) ?_
 refine al fun b w1 h1 => ?_
 refine bd ?_
 refine sta h1.box fun w2 h2 x2 => ?_
 exact rtc x2.at ⟨rfl,h1.wr h2⟩
theorem d_copied (l:List Ty) (a:Option Addr) (cap:Nat) (S:Nat->Prop) (w:World) (hS:Sl eTy S w a l) :
  Ret Tryz.prog 59 #[.slice a l.length cap] w fun v w'=>∃ a' cap',v = .slice a' l.length cap'/\OwP 2 encTy w' w.heap.size 42 a' cap' l/\Bl w w':=by
 have hbig:=hS.big
 refine entr (vs:=[.slice a l.length cap]) [0,2] tabok Tryz.func59 (by kernel_rfl) ?_
 refine bs (cs:=[]) fun b1 w1 h1 => ?_
 refine apl (enc:=encTy) (base:=w.heap.size) (l0:=[]) (l1:=l) (Ow.base (Ow.made (n:=0) h1 rfl (by omega)) (by rw [h1.blk];exact Nat.le_refl _)) (src_of (hS.bl h1.bl)) (by rw [h1.size];omega) (fun a' cap' w2 hO hA hf => ?_)
 exact rt1 ⟨a',cap',rfl,hO,bl_ap h1.bl hA fun g hg=>by
  simp only [Option.some.injEq,Addr.mk.injEq,and_true] at hg
  rw [<-hg,h1.blk];exact Nat.le_refl _⟩
theorem d_above (m:Mod) (a:MA) {kk:Nat} (hd:Desc m kk) (x y:Int) (hx:x<kk) (hx0 : -1<=x) (w:World) (hM:MdR T w m a) :
  Ret Tryz.prog 145 #[.agg (modcells m a).toArray,I x,I y] w fun v w'=>v = .bool (decide (y∈upM m x))/\Bl w w':=by
 have hbig:=hM.cls.big
 have hdl:=hd.1
 refine entr (vs:=[.agg (modcells m a).toArray,I x,I y]) [0,1,2,3,6,8,11] tabok Tryz.func145 (by kernel_rfl) ?_
 refine bx (cs:=modcells m a) fun b1 w1 k1 => ?_
 have x1:=k1.box
 refine lp (vals:=[I x]) [1] [(2,I y),(3,.pointer (some ⟨b1,0,none⟩))] (fun n vals w'=>∃ z:Int,vals=[I z]/\w'=w1 /\ -1<=z/\z<kk/\n=(z+1).toNat/\(y∈upM m x↔y∈upM m z)) ⟨rfl,rfl,trivial⟩ ⟨x,rfl,rfl,hx0,hx,rfl,Iff.rfl⟩ ?_
 rintro n _ _ ⟨z,rfl,rfl,hz0,hzk,rfl,hzy⟩ ih
 refine br (fun h => ?_) (fun h => ?_)
 ·have h':0<=z:=by simpa using h
  obtain ⟨j,rfl⟩:=Int.eq_ofNat_of_zero_le h'
  refine br (fun h2 => ?_) (fun h2 => ?_)
  ·have e:(j:Int)=y:=by simpa using h2
   exact rt1 ⟨congrArg Value.bool (decide_eq_true (hzy.2 (e▸upM_self h'))).symm,k1.bl⟩
  have hne:¬(j:Int)=y:=by simpa using h2
  obtain ⟨c,b,o,cs,hc,e2,_,hAt,a1,c1,a2,c2,rfl,_⟩:=at_some (hM.bl k1.bl).cls (i:=j) (by omega)
  refine ld (x1.cell rfl) ?_
  rw [e2]
  refine ix ?_
  refine ld (hAt 1 _ rfl) ?_
  have hs:=sup_lt hd h' hzk
  rw [mem_step hd h' hzk hne] at hzy
  rw [supM_at hc] at hs hzy
  exact again (ih (c.super+1).toNat _ [I c.super] _ (by omega) ⟨rfl,rfl,trivial⟩ rfl ⟨c.super,rfl,rfl,hs.1,by omega,rfl,hzy⟩)
 ·have hz:z<0:=by
   have:¬0<=z:=by simpa using h
   omega
  rw [upM_neg hz] at hzy
  exact rt1 ⟨congrArg Value.bool (decide_eq_false (fun q=>by have:=hzy.1 q;cases this)).symm,k1.bl⟩
theorem d_fits (m:Mod) (a:MA) (t u:Ty) (w:World) (P:ModP m) (hM:MdR T w m a) (ht:clsA m t):Ret Tryz.prog 96 #[.agg (modcells m a).toArray,.agg (encTy t).toArray,.agg (encTy u).toArray] w fun v w'=>v = .bool (fitB m t u)/\Bl w w':=by
 refine entr (vs:=[.agg (modcells m a).toArray,.agg (encTy t).toArray,.agg (encTy u).toArray]) [0,1,2,3,4,5,6,14] tabok Tryz.func96 (by kernel_rfl) ?_
 refine bx (cs:=modcells m a) fun b1 w1 k1 => ?_
 refine bx (cs:=encTy t) fun b2 w2 k2 => ?_
 refine bx (cs:=encTy u) fun b3 w3 k3 => ?_
 have B3:=(k1.bl.trans k2.bl).trans k3.bl
 have x1:=Bl.box (k2.bl.trans k3.bl) k1.box
 have x2:=Bl.box k3.bl k2.box
 refine ld (x2.cell rfl) ?_
 refine ldg (fun _=>k3.box.cell rfl) ?_
 by_cases hk:t.kind=2/\u.kind=2
 ·refine brt ?_ (hp:=by simp [hk])
  refine lda x1.at ?_
  refine ld (x2.cell rfl) ?_
  refine ld (k3.box.cell rfl) ?_
  have q:=ht hk.1
  refine cl (d_above m a P.desc t.cls u.cls q.2 (by omega) w3 (hM.bl B3)) ?_
  rintro _ w4 ⟨rfl,B4⟩
  have e:fitB m t u=decide (u.cls∈upM m t.cls):=by unfold fitB;rw [if_pos hk]
  rw [e]
  exact rt1 ⟨rfl,B3.trans B4⟩
 ·refine brf ?_ (hp:=by simp;omega)
  refine lda x2.at ?_
  refine lda k3.box.at ?_
  refine eqA (fun w=>eq_ty t u) ?_
  have e:fitB m t u=decide (t=u):=by unfold fitB;rw [if_neg hk]
  rw [e]
  exact rt1 ⟨rfl,B3⟩
end Go.Proofs.YtdjkoljonlcemaaGreat

/- Walks: the document's pass as it lies; what a call takes and gives. -/
namespace Go.Proofs.YtdjkoljonlcemaaGreat
open Eng Go.RowKit
abbrev pkc (X:CX):List Value:=[.slice X.a.a1 X.m.classes.length X.a.c1,.slice X.a.a2 X.m.statics.length X.a.c2,.slice X.a.a3 X.m.methods.length X.a.c3,I X.m.sels,.slice X.la X.loc.length X.lc,.slice X.sa X.st.length X.sc,.slice X.oa X.ops.length X.oc]
structure PkR (w:World) (X:CX):Prop where
 box:Box w X.b 158 (pkc X)
 lo:MdR (· < X.b) w X.m X.a
 ll:Sl eTy (· < X.b) w X.la X.loc
 st:Sl eTy X.S w X.sa X.st
 op:OwC eBr (fun i=>i≠X.b/\X.G i) w (X.b+1) 224 X.oa X.oc X.ops
 cap:X.st.length<=X.sc
 gn:∀ i,w.heap.size<=i->X.G i
 gb:∀ i,i<X.b->X.G i
theorem PkR.low {w:World} {X:CX} (h:PkR w X) {i:Nat} (hi:i<X.b):X.S i:=⟨Nat.ne_of_lt hi,fun z=>by have:=h.op.lt z;omega,h.gb _ hi⟩
theorem PkR.mod {w:World} {X:CX} (h:PkR w X):MdR X.S w X.m X.a:=h.lo.sub fun _ hi=>h.low hi
theorem PkR.loc {w:World} {X:CX} (h:PkR w X):Sl eTy X.S w X.la X.loc:=h.ll.sub fun _ hi=>h.low hi
theorem PkR.bl {w w':World} {X:CX} (h:PkR w X) (k:Bl w w'):PkR w' X:=⟨Bl.box k h.box,h.lo.bl k,h.ll.bl k,h.st.bl k,h.op.bl k,h.cap,fun i hi=>h.gn i (Nat.le_trans k.size hi),h.gb⟩
theorem PkR.T {w:World} {X:CX} (h:PkR w X):MdR T w X.m X.a:=h.lo.sub fun _ _=>trivial
theorem PkR.modAt {w:World} {X:CX} (h:PkR w X):At w X.b 0 (modcells X.m X.a):=fun j v hj=>by
 have hlt:j<4:=(List.getElem?_eq_some_iff.1 hj).1
 refine h.box.at j v ?_
 rw [<-hj]
 match j,hlt with
 | 0,_=>rfl
 | 1,_=>rfl
 | 2,_=>rfl
 | 3,_=>rfl
theorem PkR.beside {w w':World} {b:Nat} {m:Mod} {a:MA} {la:Option Addr} {lc:Nat} {loc:List Ty} {oa:Option Addr} {oc:Nat} {ops:List Brv} {sa:Option Addr} {sc:Nat} {st:List Ty} {ta a':Option Addr}
  (h:PkR w ⟨b,m,a,la,lc,loc,oa,oc,ops,sa,sc,st,fun g=>ta≠some ⟨g,0,none⟩⟩) (A:Ap w ta w') (ht:∀ g,ta=some ⟨g,0,none⟩->b+1<=g/\oa≠some ⟨g,0,none⟩) (hf:∀ g,a'=some ⟨g,0,none⟩->ta=some ⟨g,0,none⟩∨w.heap.size<=g) (hl:∀ g,a'=some ⟨g,0,none⟩->b+1<=g/\g<w'.heap.size) :
  PkR w' ⟨b,m,a,la,lc,loc,oa,oc,ops,sa,sc,st,fun g=>a'≠some ⟨g,0,none⟩⟩:=by
 have kA:Kp (fun i=>ta≠some ⟨i,0,none⟩) w w':=A.kp
 have kl:Kp (· < b) w w':=kA.sub fun j (hj:j<b) z=>by have:=(ht j z).1;omega
 obtain ⟨xs,g1,g2,g3,g4⟩:=h.op.row
 refine ⟨A.box h.box (fun z=>by have:=(ht _ z).1;exact absurd this (by show ¬b+1<=b;omega)),h.lo.kp kl,h.ll.kp kl,((sl_live h.st).kp (kA.sub fun j hj=>hj.1.2.2)).sub fun j hj=>⟨hj.1.1,hj.1.2.1,fun z => ?_⟩,⟨xs,g1,g2,g3.same fun g hg=>A.block g (g3.lt hg).2 fun z=>(ht g z).2 hg,fun i cs y hi hy=>eBr.sub (fun q hq=>⟨⟨hq.1.1,fun z => ?_⟩,hq.2.1,Nat.lt_of_lt_of_le hq.2.2 A.size⟩) (eBr.kp (kA.sub fun q hq=>hq.1.2) (g4 i cs y hi hy))⟩,h.cap,fun i hi z => ?_,fun i hi z => ?_⟩
 ·rcases hf j z with q | q
  ·exact hj.1.2.2 q
  ·omega
 ·rcases hf q z with r | r
  ·exact hq.1.2 r
  ·have:=hq.2.2;omega
 ·have:=(hl i z).2;omega
 ·have:=(hl i z).1
  have hi':i<b:=hi
  omega
theorem tgtL_eq {m:Mod} {loc:List Ty} {i:Ins} (ip:InsP m loc i) (q26:i.op=26):tgtL m i.a=trgM m i.a.toNat:=by
 unfold tgtL askE
 rw [if_pos]
 refine if_pos ⟨chkE_yes ip.P,fun j hj => ?_⟩
 rw [List.mem_singleton.1 hj];exact ⟨ip.a0 (by omega),(ip.send q26).1⟩
variable {w:World} {X:CX} {i:Ins}
theorem d_result (h:PkR w X) (ip:InsP X.m X.loc i) (ho:i.op=25∨i.op=26):Ret Tryz.prog 140 #[ptr X.b,.agg (encIns i).toArray] w fun v w'=>v = .agg (encTy (resV X.m i)).toArray/\Bl w w':=by
 refine entr (vs:=[ptr X.b,.agg (encIns i).toArray]) [0,1,3,4,5,9,32] tabok Tryz.func140 (by kernel_rfl) ?_
 refine bx (cs:=encIns i) fun b1 w1 k1 => ?_
 refine al fun b2 w2 k2 => ?_
 have B2:=k1.bl.trans k2.bl
 have x1:=Bl.box k2.bl k1.box
 have h2:=h.bl B2
 have z1:=k1.blk;have z2:=k2.blk;have z0:=k1.bl.size
 refine ld (x1.cell rfl) ?_
 by_cases q25:i.op=25
 ·refine brT ?_ (hp:=q25)
  have hlt:=(ip.call q25).1
  obtain ⟨n,hn'⟩:=Int.eq_ofNat_of_zero_le (ip.a0 (by omega))
  refine dht 1 T (List.range 10) fun w3 k3 => ?_
  have h3:=h2.bl k3.bl
  have hsb:=h3.lo.mth.big
  obtain ⟨x,b',o',cs',hx,e1,hS',hA',a1,c1,a2,c2,a3,c3,rfl,f1,f2,f3,_⟩:=at_some h3.lo.mth (i:=n) (by omega)
  refine ld (h3.box.cell rfl) ?_ (hm:=trivial)
  refine ld ((k3.box x1).cell rfl) ?_ (hm:=trivial)
  rw [e1,hn']
  refine ix (j:=n) ?_
  refine lda (At.left (cs:=encTy x.result) hA'.tail.tail.tail.tail) ?_ (hm:=trivial)
  refine sta (k3.box k2.box) fun w4 k4 x4 => ?_
  have er:resV X.m i=x.result:=by
   unfold resV tgtV
   rw [if_pos q25]
   simp only [resM,hn',Int.toNat_natCast,hx,Option.map_some,Option.getD_some]
  rw [er]
  exact rtc x4.at ⟨rfl,Below.trans (B2.trans k3.bl) (k4.below (by omega))⟩
 refine brF ?_ (hp:=q25)
 have q26:i.op=26:=by omega
 have et:=tgtL_eq ip q26
 have hl10:=trg_len (m:=X.m) i.a.toNat
 have hc10:=ip.P.cl
 refine dh T (List.range 12) fun w3 k3 => ?_
 have h3:=h2.bl k3.bl
 refine lda h3.modAt ?_ (hm:=trivial)
 refine ld ((k3.box x1).cell rfl) ?_ (hm:=trivial)
 refine cl (r5_Targets X.m X.a i.a w3 h3.T) ?_ (hm:=fun _ _ r=>by obtain ⟨_,_,_,_,hB⟩:=r;exact mdW_bl hB)
 rintro _ w4 ⟨at',ct,rfl,hT,B4⟩
 rw [et] at hT ⊢
 have B24:=k3.bl.trans B4
 have h4:=h2.bl B24
 cases ht:trgM X.m i.a.toNat with
 | nil =>
  refine brt ?_
  refine bd ?_
  refine sta (Bl.box B24 k2.box) fun w5 k5 x5 => ?_
  have er:resV X.m i=noT:=by unfold resV tgtV;rw [if_neg q25,ht];rfl
  rw [er]
  exact rtc x5.at ⟨rfl,Below.trans (B2.trans B24) (k5.below (by omega))⟩
 | cons n r =>
  have hn:n∈trgM X.m i.a.toNat:=by rw [ht];exact List.mem_cons_self ..
  obtain ⟨g0,g1⟩:=ip.P.trg hn
  obtain ⟨k,rfl⟩:=Int.eq_ofNat_of_zero_le g0
  rw [ht] at hT
  refine brf ?_ (hp:=by simp;omega)
  refine dht 1 T (List.range 11) fun w5 k5 => ?_
  have h5:=h4.bl k5.bl
  have hsb:=h5.lo.mth.big
  obtain ⟨x,b',o',cs',hx,e1,hS',hA',a1,c1,a2,c2,a3,c3,rfl,f1,f2,f3,_⟩:=at_some h5.lo.mth (i:=k) (by omega)
  obtain ⟨v,bv,ov,cv,hv,e2,_,hAv,rfl⟩:=at_some (hT.bl k5.bl) (i:=0) (by simp)
  have ev:v=(k:Int):=by simpa using hv.symm
  subst ev
  refine ld (h5.box.cell rfl) ?_ (hm:=trivial)
  rw [e2]
  refine ix (j:=0) ?_ (hb:=Nat.succ_pos _)
  refine ld (hAv 0 _ rfl) ?_ (hm:=trivial)
  rw [e1]
  refine ix (j:=k) ?_
  refine lda (At.left (cs:=encTy x.result) hA'.tail.tail.tail.tail) ?_ (hm:=trivial)
  refine sta (k5.box (Bl.box B24 k2.box)) fun w6 k6 x6 => ?_
  have er:resV X.m i=x.result:=by
   unfold resV tgtV
   rw [if_neg q25,ht]
   simp only [List.head?_cons,resM,Int.toNat_natCast,hx,Option.map_some,Option.getD_some]
  rw [er]
  exact rtc x6.at ⟨rfl,Below.trans ((B2.trans B24).trans k5.bl) (k6.below (by omega))⟩
end Go.Proofs.YtdjkoljonlcemaaGreat

/- Walks: what a call takes, in the document's pass; the innermost try. -/
namespace Go.Proofs.YtdjkoljonlcemaaGreat
open Eng Go.RowKit
variable {w:World} {X:CX} {i:Ins}
theorem d_arguments (h:PkR w X) (ip:InsP X.m X.loc i) (ho:i.op=25∨i.op=26):Ret Tryz.prog 141 #[ptr X.b,.agg (encIns i).toArray] w fun v w'=>∃ a c,v = .slice a (parV X.m i).length c/\Sl eTy T w' a (parV X.m i)/\Bl w w':=by
 refine entr (vs:=[ptr X.b,.agg (encIns i).toArray]) [0,1,3,4,5,9,32] tabok Tryz.func141 (by kernel_rfl) ?_
 refine bx (cs:=encIns i) fun b1 w1 k1 => ?_
 have B1:=k1.bl
 have h1:=h.bl B1
 refine ld (k1.box.cell rfl) ?_
 by_cases q25:i.op=25
 ·refine brT ?_ (hp:=q25)
  have hlt:=(ip.call q25).1
  obtain ⟨n,hn'⟩:=Int.eq_ofNat_of_zero_le (ip.a0 (by omega))
  refine dh T (List.range 11) fun w3 k3 => ?_
  have h3:=h1.bl k3.bl
  have hsb:=h3.lo.mth.big
  obtain ⟨x,b',o',cs',hx,e1,hS',hA',a1,c1,a2,c2,a3,c3,rfl,f1,f2,f3,_⟩:=at_some h3.lo.mth (i:=n) (by omega)
  refine ld (h3.box.cell rfl) ?_ (hm:=trivial)
  refine ld ((k3.box k1.box).cell rfl) ?_ (hm:=trivial)
  rw [e1,hn']
  refine ix (j:=n) ?_
  refine ld (hA' 2 _ rfl) ?_ (hm:=trivial)
  have er:parV X.m i=x.params:=by
   unfold parV tgtV
   rw [if_pos q25]
   simp only [parM,hn',Int.toNat_natCast,hx,Option.map_some,Option.getD_some,q25,if_true,List.nil_append]
  rw [er]
  exact rt1 ⟨a1,c1,rfl,f1.sub fun _ _=>trivial,B1.trans k3.bl⟩
 refine brF ?_ (hp:=q25)
 have q26:i.op=26:=by omega
 have et:=tgtL_eq ip q26
 have hl10:=trg_len (m:=X.m) i.a.toNat
 have hc10:=ip.P.cl
 refine dh T (List.range 12) fun w3 k3 => ?_
 have h3:=h1.bl k3.bl
 refine lda h3.modAt ?_ (hm:=trivial)
 refine ld ((k3.box k1.box).cell rfl) ?_ (hm:=trivial)
 refine cl (r5_Targets X.m X.a i.a w3 h3.T) ?_ (hm:=fun _ _ r=>by obtain ⟨_,_,_,_,hB⟩:=r;exact mdW_bl hB)
 rintro _ w4 ⟨at',ct,rfl,hT,B4⟩
 rw [et] at hT ⊢
 have B24:=k3.bl.trans B4
 have h4:=h1.bl B24
 cases ht:trgM X.m i.a.toNat with
 | nil =>
  refine brt ?_
  have er:parV X.m i=[]:=by unfold parV tgtV;rw [if_neg q25,ht];rfl
  rw [er]
  exact rt1 ⟨none,0,rfl,Sl.nil ..,B1.trans B24⟩
 | cons n r =>
  have hn:n∈trgM X.m i.a.toNat:=by rw [ht];exact List.mem_cons_self ..
  obtain ⟨g0,g1⟩:=ip.P.trg hn
  obtain ⟨k,rfl⟩:=Int.eq_ofNat_of_zero_le g0
  rw [ht] at hT
  refine brf ?_ (hp:=by simp;omega)
  refine dh T [0,2,3,4,5,6,7,8,9,10,11,12,1,13,14] fun w5 k5 => ?_
  have h5:=h4.bl k5.bl
  have hsb:=h5.lo.mth.big
  obtain ⟨x,b',o',cs',hx,e1,hS',hA',a1,c1,a2,c2,a3,c3,rfl,f1,f2,f3,_⟩:=at_some h5.lo.mth (i:=k) (by omega)
  obtain ⟨v,bv,ov,cv,hv,e2,_,hAv,rfl⟩:=at_some (hT.bl k5.bl) (i:=0) (by simp)
  have ev:v=(k:Int):=by simpa using hv.symm
  subst ev
  have M:=ip.P.mth k x hx
  have hp4:=M.pl
  refine bd (cs:=encTy ⟨2,-1⟩) ?_
  refine ld (h5.box.cell rfl) ?_ (hm:=trivial)
  rw [e2]
  refine ix (j:=0) ?_ (hb:=Nat.succ_pos _)
  refine ld (hAv 0 _ rfl) ?_ (hm:=trivial)
  rw [e1]
  refine ix (j:=k) ?_
  refine ld (hA' 2 _ rfl) ?_ (hm:=trivial)
  refine bs (cs:=encTy ⟨2,-1⟩) fun b6 w6 k6 => ?_
  have f6:=f1.bl k6.bl
  refine apf (n:=1) (xs:=encTy ⟨2,-1⟩) (.inr ⟨b6,0,rfl,k6.box.at⟩) rfl (src_of f6) (fun a7 c7 w7 hc hS hbl hfr => ?_) (hl:=flat_length (enc:=encTy) (sz:=2) (fun _=>rfl) x.params) (h1:=by rw [List.all_flatMap,List.all_eq_true];exact fun x _=>rfl) (hm:=fun _ q=>mdW_bl q)
  have er:parV X.m i=⟨2,-1⟩::x.params:=by
   unfold parV tgtV
   rw [if_neg q25,ht]
   simp only [List.head?_cons,parM,Int.toNat_natCast,hx,Option.map_some,Option.getD_some,q25,if_false]
   rfl
  rw [er]
  have hsl:Sl eTy T w7 a7 ((⟨2,-1⟩:Ty)::x.params):=src_sl (sz:=2) (enc:=encTy) (h:=fun _=>rfl) (by rw [List.length_cons,Nat.add_comm];exact hS) (by rw [List.length_cons];omega) (fun _ _ _=>trivial)
  refine rt1 ⟨a7,c7,?_,hsl,(((B1.trans B24).trans k5.bl).trans k6.bl).trans hbl⟩
  rw [List.length_cons,Nat.add_comm]
end Go.Proofs.YtdjkoljonlcemaaGreat

/- Walk: how many an instruction takes and pushes, in the document's pass (printed by tools/genjd.py). -/
namespace Go.Proofs.YtdjkoljonlcemaaGreat
open Eng Go.RowKit
variable {w:World} {X:CX} {i:Ins}
set_option maxHeartbeats 4000000 in
theorem d_counts (h:PkR w X) (ip:InsP X.m X.loc i) (hb:i.op<34):Ret Tryz.prog 93 #[ptr X.b,.agg (encIns i).toArray] w fun v w'=>v = .tuple #[I (takV X.m i),I (putV X.m i)]/\Bl w w':=by
 have hop0:=ip.op0
 refine entr (vs:=[ptr X.b,.agg (encIns i).toArray]) [0,1,3,4,5,6,8,9,17,24,26,34,39,41,43,50] tabok Tryz.func93 (by kernel_rfl) ?_
 refine bx (cs:=encIns i) fun b1 w1 k1 => ?_
 have h1:=h.bl k1.bl
 refine ld (k1.box.cell rfl) ?_
 by_cases q1:i.op=1
 ·refine brT ?_ (hp:=q1)
  refine brT ?_ (hp:=q1)
  have e1:takV X.m i=0:=by rw [(tak_of (by omega)).1,q1];rfl
  have e2:putV X.m i=1:=by rw [(tak_of (by omega)).2,q1];rfl
  rw [e1,e2]
  exact rt2 ⟨rfl,k1.bl⟩
 refine brF ?_ (hp:=q1)
 by_cases q2:i.op=2
 ·refine brT ?_ (hp:=q2)
  refine brT ?_ (hp:=q2)
  have e1:takV X.m i=0:=by rw [(tak_of (by omega)).1,q2];rfl
  have e2:putV X.m i=1:=by rw [(tak_of (by omega)).2,q2];rfl
  rw [e1,e2]
  exact rt2 ⟨rfl,k1.bl⟩
 refine brF ?_ (hp:=q2)
 by_cases q12:i.op=12
 ·refine brT ?_ (hp:=q12)
  refine brT ?_ (hp:=q12)
  have e1:takV X.m i=0:=by rw [(tak_of (by omega)).1,q12];rfl
  have e2:putV X.m i=1:=by rw [(tak_of (by omega)).2,q12];rfl
  rw [e1,e2]
  exact rt2 ⟨rfl,k1.bl⟩
 refine brF ?_ (hp:=q12)
 by_cases q14:i.op=14
 ·refine brT ?_ (hp:=q14)
  refine brT ?_ (hp:=q14)
  have e1:takV X.m i=0:=by rw [(tak_of (by omega)).1,q14];rfl
  have e2:putV X.m i=1:=by rw [(tak_of (by omega)).2,q14];rfl
  rw [e1,e2]
  exact rt2 ⟨rfl,k1.bl⟩
 refine brF ?_ (hp:=q14)
 by_cases q15:i.op=15
 ·refine brT ?_ (hp:=q15)
  refine brT ?_ (hp:=q15)
  have e1:takV X.m i=0:=by rw [(tak_of (by omega)).1,q15];rfl
  have e2:putV X.m i=1:=by rw [(tak_of (by omega)).2,q15];rfl
  rw [e1,e2]
  exact rt2 ⟨rfl,k1.bl⟩
 refine brF ?_ (hp:=q15)
 by_cases q16:i.op=16
 ·refine brT ?_ (hp:=q16)
  refine brT ?_ (hp:=q16)
  have e1:takV X.m i=0:=by rw [(tak_of (by omega)).1,q16];rfl
  have e2:putV X.m i=1:=by rw [(tak_of (by omega)).2,q16];rfl
  rw [e1,e2]
  exact rt2 ⟨rfl,k1.bl⟩
 refine brF ?_ (hp:=q16)
 by_cases q22:i.op=22
 ·refine brT ?_ (hp:=q22)
  have e1:takV X.m i=0:=by rw [(tak_of (by omega)).1,q22];rfl
  have e2:putV X.m i=1:=by rw [(tak_of (by omega)).2,q22];rfl
  rw [e1,e2]
  exact rt2 ⟨rfl,k1.bl⟩
 refine brF ?_ (hp:=q22)
 by_cases q3:i.op=3
 ·refine brT ?_ (hp:=q3)
  refine brT ?_ (hp:=q3)
  have e1:takV X.m i=1:=by rw [(tak_of (by omega)).1,q3];rfl
  have e2:putV X.m i=0:=by rw [(tak_of (by omega)).2,q3];rfl
  rw [e1,e2]
  exact rt2 ⟨rfl,k1.bl⟩
 refine brF ?_ (hp:=q3)
 by_cases q4:i.op=4
 ·refine brT ?_ (hp:=q4)
  refine brT ?_ (hp:=q4)
  have e1:takV X.m i=1:=by rw [(tak_of (by omega)).1,q4];rfl
  have e2:putV X.m i=0:=by rw [(tak_of (by omega)).2,q4];rfl
  rw [e1,e2]
  exact rt2 ⟨rfl,k1.bl⟩
 refine brF ?_ (hp:=q4)
 by_cases q23:i.op=23
 ·refine brT ?_ (hp:=q23)
  refine brT ?_ (hp:=q23)
  have e1:takV X.m i=1:=by rw [(tak_of (by omega)).1,q23];rfl
  have e2:putV X.m i=0:=by rw [(tak_of (by omega)).2,q23];rfl
  rw [e1,e2]
  exact rt2 ⟨rfl,k1.bl⟩
 refine brF ?_ (hp:=q23)
 by_cases q27:i.op=27
 ·refine brT ?_ (hp:=q27)
  refine brT ?_ (hp:=q27)
  have e1:takV X.m i=1:=by rw [(tak_of (by omega)).1,q27];rfl
  have e2:putV X.m i=0:=by rw [(tak_of (by omega)).2,q27];rfl
  rw [e1,e2]
  exact rt2 ⟨rfl,k1.bl⟩
 refine brF ?_ (hp:=q27)
 by_cases q29:i.op=29
 ·refine brT ?_ (hp:=q29)
  refine brT ?_ (hp:=q29)
  have e1:takV X.m i=1:=by rw [(tak_of (by omega)).1,q29];rfl
  have e2:putV X.m i=0:=by rw [(tak_of (by omega)).2,q29];rfl
  rw [e1,e2]
  exact rt2 ⟨rfl,k1.bl⟩
 refine brF ?_ (hp:=q29)
 by_cases q30:i.op=30
 ·refine brT ?_ (hp:=q30)
  have e1:takV X.m i=1:=by rw [(tak_of (by omega)).1,q30];rfl
  have e2:putV X.m i=0:=by rw [(tak_of (by omega)).2,q30];rfl
  rw [e1,e2]
  exact rt2 ⟨rfl,k1.bl⟩
 refine brF ?_ (hp:=q30)
 by_cases q5:i.op=5
 ·refine brT ?_ (hp:=q5)
  have e1:takV X.m i=1:=by rw [(tak_of (by omega)).1,q5];rfl
  have e2:putV X.m i=2:=by rw [(tak_of (by omega)).2,q5];rfl
  rw [e1,e2]
  exact rt2 ⟨rfl,k1.bl⟩
 refine brF ?_ (hp:=q5)
 by_cases q6:i.op=6
 ·refine brT ?_ (hp:=q6)
  refine brT ?_ (hp:=q6)
  have e1:takV X.m i=2:=by rw [(tak_of (by omega)).1,q6];rfl
  have e2:putV X.m i=1:=by rw [(tak_of (by omega)).2,q6];rfl
  rw [e1,e2]
  exact rt2 ⟨rfl,k1.bl⟩
 refine brF ?_ (hp:=q6)
 by_cases q7:i.op=7
 ·refine brT ?_ (hp:=q7)
  refine brT ?_ (hp:=q7)
  have e1:takV X.m i=2:=by rw [(tak_of (by omega)).1,q7];rfl
  have e2:putV X.m i=1:=by rw [(tak_of (by omega)).2,q7];rfl
  rw [e1,e2]
  exact rt2 ⟨rfl,k1.bl⟩
 refine brF ?_ (hp:=q7)
 by_cases q8:i.op=8
 ·refine brT ?_ (hp:=q8)
  refine brT ?_ (hp:=q8)
  have e1:takV X.m i=2:=by rw [(tak_of (by omega)).1,q8];rfl
  have e2:putV X.m i=1:=by rw [(tak_of (by omega)).2,q8];rfl
  rw [e1,e2]
  exact rt2 ⟨rfl,k1.bl⟩
 refine brF ?_ (hp:=q8)
 by_cases q9:i.op=9
 ·refine brT ?_ (hp:=q9)
  refine brT ?_ (hp:=q9)
  have e1:takV X.m i=2:=by rw [(tak_of (by omega)).1,q9];rfl
  have e2:putV X.m i=1:=by rw [(tak_of (by omega)).2,q9];rfl
  rw [e1,e2]
  exact rt2 ⟨rfl,k1.bl⟩
 refine brF ?_ (hp:=q9)
 by_cases q10:i.op=10
 ·refine brT ?_ (hp:=q10)
  refine brT ?_ (hp:=q10)
  have e1:takV X.m i=2:=by rw [(tak_of (by omega)).1,q10];rfl
  have e2:putV X.m i=1:=by rw [(tak_of (by omega)).2,q10];rfl
  rw [e1,e2]
  exact rt2 ⟨rfl,k1.bl⟩
 refine brF ?_ (hp:=q10)
 by_cases q11:i.op=11
 ·refine brT ?_ (hp:=q11)
  refine brT ?_ (hp:=q11)
  have e1:takV X.m i=2:=by rw [(tak_of (by omega)).1,q11];rfl
  have e2:putV X.m i=1:=by rw [(tak_of (by omega)).2,q11];rfl
  rw [e1,e2]
  exact rt2 ⟨rfl,k1.bl⟩
 refine brF ?_ (hp:=q11)
 by_cases q19:i.op=19
 ·refine brT ?_ (hp:=q19)
  have e1:takV X.m i=2:=by rw [(tak_of (by omega)).1,q19];rfl
  have e2:putV X.m i=1:=by rw [(tak_of (by omega)).2,q19];rfl
  rw [e1,e2]
  exact rt2 ⟨rfl,k1.bl⟩
 refine brF ?_ (hp:=q19)
 by_cases q13:i.op=13
 ·refine brT ?_ (hp:=q13)
  refine brT ?_ (hp:=q13)
  have e1:takV X.m i=1:=by rw [(tak_of (by omega)).1,q13];rfl
  have e2:putV X.m i=1:=by rw [(tak_of (by omega)).2,q13];rfl
  rw [e1,e2]
  exact rt2 ⟨rfl,k1.bl⟩
 refine brF ?_ (hp:=q13)
 by_cases q17:i.op=17
 ·refine brT ?_ (hp:=q17)
  refine brT ?_ (hp:=q17)
  have e1:takV X.m i=1:=by rw [(tak_of (by omega)).1,q17];rfl
  have e2:putV X.m i=1:=by rw [(tak_of (by omega)).2,q17];rfl
  rw [e1,e2]
  exact rt2 ⟨rfl,k1.bl⟩
 refine brF ?_ (hp:=q17)
 by_cases q21:i.op=21
 ·refine brT ?_ (hp:=q21)
  refine brT ?_ (hp:=q21)
  have e1:takV X.m i=1:=by rw [(tak_of (by omega)).1,q21];rfl
  have e2:putV X.m i=1:=by rw [(tak_of (by omega)).2,q21];rfl
  rw [e1,e2]
  exact rt2 ⟨rfl,k1.bl⟩
 refine brF ?_ (hp:=q21)
 by_cases q24:i.op=24
 ·refine brT ?_ (hp:=q24)
  have e1:takV X.m i=1:=by rw [(tak_of (by omega)).1,q24];rfl
  have e2:putV X.m i=1:=by rw [(tak_of (by omega)).2,q24];rfl
  rw [e1,e2]
  exact rt2 ⟨rfl,k1.bl⟩
 refine brF ?_ (hp:=q24)
 by_cases q18:i.op=18
 ·refine brT ?_ (hp:=q18)
  have e1:takV X.m i=2:=by rw [(tak_of (by omega)).1,q18];rfl
  have e2:putV X.m i=0:=by rw [(tak_of (by omega)).2,q18];rfl
  rw [e1,e2]
  exact rt2 ⟨rfl,k1.bl⟩
 refine brF ?_ (hp:=q18)
 by_cases q20:i.op=20
 ·refine brT ?_ (hp:=q20)
  have e1:takV X.m i=3:=by rw [(tak_of (by omega)).1,q20];rfl
  have e2:putV X.m i=0:=by rw [(tak_of (by omega)).2,q20];rfl
  rw [e1,e2]
  exact rt2 ⟨rfl,k1.bl⟩
 refine brF ?_ (hp:=q20)
 by_cases q25:i.op=25
 ·refine brT ?_ (hp:=q25)
  refine brT ?_ (hp:=q25)
  refine lda k1.box.at ?_
  refine cl (d_result h1 ip (by omega)) ?_
  rintro _ w2 ⟨rfl,B2⟩
  have h2:=h1.bl B2
  have x2:=Bl.box B2 k1.box
  have e1:takV X.m i=(parV X.m i).length:=if_pos (by omega)
  have e2:putV X.m i=if (resV X.m i).kind=0 then 0 else 1:=if_pos (by omega)
  refine fd (cs:=encTy (resV X.m i)) 0 ?_
  by_cases q0:(resV X.m i).kind=0
  ·refine brf ?_ (hp:=by simp [q0])
   refine lda x2.at ?_
   refine cl (d_arguments h2 ip (by omega)) ?_
   rintro _ w3 ⟨a3,c3,rfl,hS,B3⟩
   rw [e1,e2,if_pos q0]
   exact rt2 ⟨rfl,(k1.bl.trans B2).trans B3⟩
  ·refine brt ?_ (hp:=by simp [q0])
   refine lda x2.at ?_
   refine cl (d_arguments h2 ip (by omega)) ?_
   rintro _ w3 ⟨a3,c3,rfl,hS,B3⟩
   rw [e1,e2,if_neg q0]
   exact rt2 ⟨rfl,(k1.bl.trans B2).trans B3⟩
 refine brF ?_ (hp:=q25)
 by_cases q26:i.op=26
 ·refine brT ?_ (hp:=q26)
  refine lda k1.box.at ?_
  refine cl (d_result h1 ip (by omega)) ?_
  rintro _ w2 ⟨rfl,B2⟩
  have h2:=h1.bl B2
  have x2:=Bl.box B2 k1.box
  have e1:takV X.m i=(parV X.m i).length:=if_pos (by omega)
  have e2:putV X.m i=if (resV X.m i).kind=0 then 0 else 1:=if_pos (by omega)
  refine fd (cs:=encTy (resV X.m i)) 0 ?_
  by_cases q0:(resV X.m i).kind=0
  ·refine brf ?_ (hp:=by simp [q0])
   refine lda x2.at ?_
   refine cl (d_arguments h2 ip (by omega)) ?_
   rintro _ w3 ⟨a3,c3,rfl,hS,B3⟩
   rw [e1,e2,if_pos q0]
   exact rt2 ⟨rfl,(k1.bl.trans B2).trans B3⟩
  ·refine brt ?_ (hp:=by simp [q0])
   refine lda x2.at ?_
   refine cl (d_arguments h2 ip (by omega)) ?_
   rintro _ w3 ⟨a3,c3,rfl,hS,B3⟩
   rw [e1,e2,if_neg q0]
   exact rt2 ⟨rfl,(k1.bl.trans B2).trans B3⟩
 refine brF ?_ (hp:=q26)
 have hop':i.op=0∨i.op=28∨i.op=31∨i.op=32∨i.op=33:=by omega
 have e1:takV X.m i=0/\putV X.m i=0:=by
  rw [(tak_of (by omega)).1,(tak_of (by omega)).2]
  rcases hop' with q | q | q | q | q <;> (rw [q];exact ⟨rfl,rfl⟩)
 rw [e1.1,e1.2]
 exact rt2 ⟨rfl,k1.bl⟩
end Go.Proofs.YtdjkoljonlcemaaGreat

/- Walks: the innermost try, the ends of brackets, the end of the code, in the document's pass. -/
namespace Go.Proofs.YtdjkoljonlcemaaGreat
open Eng Go.RowKit
theorem OwC.put {α:Type} {E:El α} {R:Nat->Prop} {w:World} {base e cap g:Nat} {l:List α} (h:OwC E R w base e (some ⟨g,0,none⟩) cap l) {k:Nat} (hk:k<l.length) :
  ∃ cur,Box w g e cur/\0+k*E.sz+E.sz<=cur.length/\∀ (w':World) (cs:List Value) (x:α),cs.length=E.sz->Wr w g w'->Box w' g e (ovl cur (0+k*E.sz) cs) ->
   E.rel (fun b=>R b/\(some ⟨g,0,none⟩:Option Addr)≠some ⟨b,0,none⟩/\b<w.heap.size) w cs x->OwC E R w' base e (some ⟨g,0,none⟩) cap (l.set k x):=by
 obtain ⟨xs,h1,h2,h3,h4⟩:=h.row
 obtain ⟨cs0,hbx,ht,hl,hcap,mk⟩:=h3.block
 refine ⟨cs0,hbx,?_,fun w' cs x hcs kw hb hr => ?_⟩
 ·rw [hl,Nat.zero_add,<-Nat.succ_mul]
  exact Nat.mul_le_mul_right _ (by omega)
 have hkp:Kp (fun b=>R b/\(some ⟨g,0,none⟩:Option Addr)≠some ⟨b,0,none⟩/\b<w.heap.size) w w':=kw.kp fun j hj z=>hj.2.1 (by rw [z])
 have hsz:w'.heap.size=w.heap.size:=kw.size
 have hO:=mk w' _ hb (by rw [ovl_length])
 have hlen:(l.set k x).length=l.length:=List.length_set
 refine ⟨xs.set k cs,by rw [List.length_set,List.length_set,h1],fun c hc => ?_,?_,fun j c y hj hy => ?_⟩
 ·rcases List.mem_or_eq_of_mem_set hc with q | rfl
  ·exact h2 c q
  ·exact hcs
 ·rw [hlen,<-ovl_flat hcs h2 (by omega),<-ht,<-take_ovl']
  rw [Nat.zero_add] at hO
  exact hO
 ·rcases Nat.decEq j k with q | q
  ·rw [List.getElem?_set_ne (fun z=>q z.symm)] at hj hy
   exact E.sub (fun b hb=>⟨hb.1,hb.2.1,by rw [hsz];exact hb.2.2⟩) (E.kp hkp (h4 j c y hj hy))
  ·subst q
   rw [List.getElem?_set_self (by omega)] at hj
   rw [List.getElem?_set_self hk] at hy
   simp only [Option.some.injEq] at hj hy
   subst hj hy
   exact E.sub (fun b hb=>⟨hb.1,hb.2.1,by rw [hsz];exact hb.2.2⟩) (E.kp hkp hr)
variable {w:World} {X:CX} {i:Ins}
theorem d_base (h:PkR w X) (hbig:X.ops.length<=120):Ret Tryz.prog 94 #[ptr X.b] w fun v w'=>v=I (bseV X.ops)/\w'=w:=by
 have ew:IntKind.i64.wrap ((X.ops.length:Int)-1)=(X.ops.length:Int)-1:=by rw [IntKind.wrap_i64];omega
 refine entr (vs:=[ptr X.b]) [0,2,3,11,33] tabok Tryz.func94 (by kernel_rfl) ?_
 refine ld (h.box.cell rfl) ?_
 refine lp (vals:=[I (IntKind.i64.wrap ((X.ops.length:Int)-1))]) [3] [(0,ptr X.b)] (fun n vals w'=>n<=X.ops.length/\vals=[I ((n:Int)-1)]/\w'=w/\bseV X.ops=bseV (X.ops.take n)) ⟨rfl,trivial⟩ ⟨Nat.le_refl _,by rw [ew],rfl,by rw [List.take_length]⟩ ?_
 rintro n _ _ ⟨hn,rfl,rfl,hb⟩ ih
 refine br (fun q => ?_) (fun q => ?_)
 ·have q':(0:Int)<=(n:Int)-1:=by simpa using q
  obtain ⟨k,rfl⟩:∃ k,n=k+1:=⟨n-1,by omega⟩
  have ek:((k+1:Nat):Int)-1=(k:Int):=by omega
  obtain ⟨b,hkb⟩:=some_of_lt (l:=X.ops) (k:=k) (by omega)
  obtain ⟨g,cs,eo,hg1,hg2,hA,a1,c1,a2,c2,rfl,hb1,hb2,hc1,hc2⟩:=h.op.elt hkb
  have hx:=h.box
  simp only [pkc,eo] at hx
  refine ld (hx.cell rfl) ?_
  refine ix (j:=k) ?_ (hij:=ek)
  refine ld (hA 0 _ rfl) ?_
  refine ldg (fun _=>hx.cell rfl) ?_
  refine ixg (j:=k) (fun _=>by show k<X.ops.length;omega) ?_ (hij:=ek)
  refine ldg (fun _=>hA 3 _ rfl) ?_
  have et:X.ops.take (k+1)=X.ops.take k++[b]:=take_succ_some hkb
  rw [et,bseV_snoc] at hb
  by_cases ht:tryB b=true
  ·have ht':=ht
   simp only [tryB,Bool.and_eq_true,decide_eq_true_eq,Bool.not_eq_true'] at ht'
   refine brt ?_ (hp:=by simp [ht'.1,ht'.2])
   refine ld (hx.cell rfl) ?_
   refine ix (j:=k) ?_ (hij:=ek)
   refine ld (hA 1 _ rfl) ?_
   rw [hb,if_pos ht]
   exact rt1 ⟨rfl,rfl⟩
  ·have ht':=ht
   simp only [tryB,Bool.and_eq_true,decide_eq_true_eq,Bool.not_eq_true',not_and,Bool.not_eq_false] at ht'
   refine brf ?_ (hp:=by by_cases q33:b.op=33 <;> simp [q33,ht'])
   rw [if_neg ht] at hb
   refine again (ih k _ [I ((k:Int)-1)] _ (by omega) ⟨rfl,trivial⟩ ?_ ⟨by omega,rfl,rfl,hb⟩)
   have e3:IntKind.i64.wrap (((k+1:Nat):Int)-1-1)=(k:Int)-1:=by rw [IntKind.wrap_i64];omega
   rw [<-e3];rfl
 ·have hn0:n=0:=by
   have:¬(0:Int)<=(n:Int)-1:=by simpa using q
   omega
  subst hn0
  rw [hb]
  exact rt1 ⟨rfl,rfl⟩
def StpD (X:CX) (w:World) (i:Ins) (e':Int) (w':World):Prop :=
 Chg X.wt w w'/\((e'=0/\∃ oa oc ops sa sc st,PkR w' (X.set oa oc ops sa sc st)/\(∀ g,oa=some ⟨g,0,none⟩->X.oa=some ⟨g,0,none⟩∨w.heap.size<=g)/\stpV X.m X.loc ⟨X.st,X.ops⟩ i=some ⟨st,ops⟩) ∨
  (e'≠0/\stpV X.m X.loc ⟨X.st,X.ops⟩ i=none))
set_option maxHeartbeats 4000000 in
theorem d_closes (h:PkR w X) (ho:i.op=34∨i.op=35) (hne:X.ops≠[]) (hbig:X.ops.length<=120):Ret Tryz.prog 92 #[ptr X.b,.agg (encIns i).toArray] w fun v w'=>∃ e',v=I e'/\StpD X w i e' w':=by
 obtain ⟨b,hlb⟩:∃ b,X.ops.getLast? = some b:=by
  cases hq:X.ops.getLast? with
  | none=>rw [List.getLast?_eq_none_iff] at hq;exact absurd hq hne
  | some b=>exact ⟨b,rfl⟩
 have hpos:0<X.ops.length:=List.length_pos_iff.2 hne
 have hk:X.ops[X.ops.length-1]? = some b:=by rw [<-hlb,List.getLast?_eq_getElem?]
 have ew:IntKind.i64.wrap ((X.ops.length:Int)-1)=((X.ops.length-1:Nat):Int):=by rw [IntKind.wrap_i64];omega
 have hXb:=h.box.lt
 refine entr (vs:=[ptr X.b,.agg (encIns i).toArray]) [0,1,3,4,5,6,7,23,47,57,64] tabok Tryz.func92 (by kernel_rfl) ?_
 refine bx (cs:=encIns i) fun b1 w1 k1 => ?_
 have h1:=h.bl k1.bl
 obtain ⟨g,cs,eo,hg1,hg2,hA,a1,c1,a2,c2,rfl,hb1,hb2,hc1,hc2⟩:=h1.op.elt hk
 have hx1:=h1.box
 refine ld (hx1.cell rfl) ?_
 refine ld (hx1.cell rfl) ?_
 rw [eo]
 refine ix (j:=X.ops.length-1) ?_ (hi:=by exact congrArg (fun z=>some (Value.int .i64 z)) ew)
 refine lda hA ?_
 refine al fun b2 w2 k2 => ?_
 refine sta (cs':=brc b a1 c1 a2 c2) k2.box fun w3 k3 x3 => ?_
 have B13:Bl w1 w3:=k2.wr k3
 have B3:=k1.bl.trans B13
 have h3:=h.bl B3
 have y1:=k1.blk;have y2:=k2.blk
 have z1:=k1.bl.size
 have x31:=Bl.box B13 k1.box
 refine ld (x31.cell rfl) ?_
 by_cases q34:i.op=34
 ·refine brT ?_ (hp:=q34)
  refine ld (h3.box.cell rfl) ?_
  refine cl (d_copied X.st X.sa X.sc X.S w3 h3.st) ?_
  rintro _ w4 ⟨a4,c4,rfl,O4,B4⟩
  have hsb:=h3.st.big
  refine st (Bl.box B4 x3) fun w5 k5 x5 => ?_
  refine st x5 fun w6 k6 x6 => ?_
  have B36:Below w.heap.size w3 w6:=((B4.mono B3.size).trans (k5.below (by omega))).trans (k6.below (by omega))
  have B06:Bl w w6:=Below.trans B3 B36
  refine dht 1 T (List.range 7) fun w7 k7 => ?_
  have B07:=B06.trans k7.bl
  have h7:=h.bl B07
  have x7:=k7.box x6
  refine ld (h7.box.cell rfl) ?_ (hm:=trivial)
  refine lda x7.at ?_ (hm:=trivial)
  rw [eo]
  refine ix (j:=X.ops.length-1) ?_ (hi:=by exact congrArg (fun z=>some (Value.int .i64 z)) ew)
  have op7:=h7.op
  rw [eo] at op7
  obtain ⟨cur,hbx,hcl,mk⟩:=op7.put (k:=X.ops.length-1) (by omega)
  refine stvv hbx (fun w8 k8 x8 => ?_) (ho:=by exact hcl)
  have s2:=k2.size;have s3:=k3.size;have z4:=B4.size;have s5:=k5.size;have s6:=k6.size
  have B17:Bl w1 w7:=Bl.trans (Below.trans (Below.trans (B13.trans B4) (k5.below (by omega))) (k6.below (by omega))) k7.bl
  have hoa:∀ q,X.oa=some ⟨q,0,none⟩->X.b+1<=q/\q<w.heap.size:=fun q hq=>h.op.lt hq
  have O7:OwP 2 encTy w7 w3.heap.size 42 a4 c4 X.st:=((O4.wr k5 fun q hq=>by have:=(O4.lt hq).1;omega).wr k6 fun q hq=>by have:=(O4.lt hq).1;omega).bl k7.bl
  have hb':eBr.rel (fun q=>(q≠X.b/\X.G q)/\(some ⟨g,0,none⟩:Option Addr)≠some ⟨q,0,none⟩/\q<w7.heap.size) w7 (brc ⟨b.op,b.beg,X.st,true⟩ a1 c1 a4 c4) ⟨b.op,b.beg,X.st,true⟩:=by
   refine ⟨a1,c1,a4,c4,rfl,(hb1.bl B17).sub fun q hq=>⟨hq.1,by rw [<-eo];exact hq.2.1,Nat.lt_of_lt_of_le hq.2.2 B17.size⟩,owp_sl O7 hsb fun q hq => ?_,hc1,O4.capn.1⟩
   obtain ⟨q1,q2⟩:=O7.lt hq
   refine ⟨⟨by omega,h.gn _ (by omega)⟩,fun z => ?_,q2⟩
   simp only [Option.some.injEq,Addr.mk.injEq,and_true] at z
   omega
  have OC8:=mk w8 _ ⟨b.op,b.beg,X.st,true⟩ rfl k8 x8 hb'
  rw [<-eo] at OC8
  have x68:=k8.box x7 (by omega)
  have hX8:=k8.box h7.box (by omega)
  refine ld (x68.cell rfl) ?_
  have k18:Kp (fun q=>X.oa≠some ⟨q,0,none⟩) w7 w8:=k8.kp fun q hq z=>hq (by rw [z];exact eo)
  refine cl (d_copied b.beg a1 c1 (fun q=>X.oa≠some ⟨q,0,none⟩) w8 (((hb1.bl B17).sub fun q hq=>hq.2.1).kp k18)) ?_
  rintro _ w9 ⟨a9,c9,rfl,O9,B9⟩
  refine st (Bl.box B9 hX8) fun w10 k10 x10 => ?_
  have z7:=B07.size;have s8:=k8.size
  have kl78:Kp (· < X.b) w7 w8:=k18.sub fun j (hj:j<X.b) z=>by have:=(hoa _ z).1;omega
  have kl10:Kp (· < X.b) w9 w10:=k10.kp fun _ hi=>Nat.ne_of_lt hi
  have hs9:Sl eTy X.S w9 a9 b.beg:=owp_sl O9 hb1.big fun j hj=>by
   have q:=(O9.lt hj).1
   exact ⟨by omega,fun z=>by have:=(hoa _ z).2;omega,h.gn _ (by omega)⟩
  have cw:Chg X.wt w w10:=(((B07.chg _).trans (k8.chg (.inr eo))).trans (B9.chg _)).trans (k10.chg (.inl rfl))
  have es:=set_last (x:=(⟨b.op,b.beg,X.st,true⟩:Brv)) hlb
  have hlen:(X.ops.dropLast++[(⟨b.op,b.beg,X.st,true⟩:Brv)]).length=X.ops.length:=by rw [<-es,List.length_set]
  refine rt1 ⟨0,rfl,cw,.inl ⟨rfl,X.oa,X.oc,X.ops.dropLast++[(⟨b.op,b.beg,X.st,true⟩:Brv)],a9,c9,b.beg,⟨?_,((h7.lo.kp kl78).bl B9).kp kl10,((h7.ll.kp kl78).bl B9).kp kl10,hs9.kp (k10.kp fun _ hi=>hi.1),by rw [<-es];exact (OC8.bl B9).wr k10 (Nat.lt_succ_self _) fun _ hi=>hi.1,O9.capn.1,fun i hi=>h.gn i (Nat.le_trans cw.size hi),h.gb⟩,fun g hg => .inl hg,?_⟩⟩
  ·have ec:pkc (X.set X.oa X.oc (X.ops.dropLast++[(⟨b.op,b.beg,X.st,true⟩:Brv)]) a9 c9 b.beg)=pkc ⟨X.b,X.m,X.a,X.la,X.lc,X.loc,X.oa,X.oc,X.ops.dropLast++[(⟨b.op,b.beg,X.st,true⟩:Brv)],a9,c9,b.beg,X.G⟩:=rfl
   rw [ec]
   simp only [pkc,hlen]
   rw [eo] at x10 ⊢
   exact x10
  ·unfold stpV
   rw [if_pos q34]
   unfold midV
   simp only [hlb]
 ·refine brF ?_ (hp:=q34)
  have q35:i.op=35:=by omega
  have ee:stpV X.m X.loc ⟨X.st,X.ops⟩ i=if X.st=(if b.mid=true then b.fst else b.beg) then some ⟨X.st,X.ops.dropLast⟩ else none:=by
   unfold stpV
   rw [if_neg (by omega),if_pos q35]
   unfold endV
   simp only [hlb]
  refine ld (x3.cell rfl) ?_
  refine ld (x3.cell rfl) ?_
  refine jn [7] [(0,ptr X.b),(5,.int .i64 (IntKind.i64.wrap ((X.ops.length:Int)-1)))] (fun vals w'=>∃ wa wc,vals=[.slice wa (if b.mid=true then b.fst else b.beg).length wc]/\w'=w3/\Sl eTy T w3 wa (if b.mid=true then b.fst else b.beg)) (fun q go => ?_) (fun q go => ?_) ?_
  ·refine ld (x3.cell rfl) ?_
   exact go ⟨a2,c2,by rw [if_pos q],rfl,by rw [if_pos q];exact (hb2.bl B13).sub fun _ _=>trivial⟩
  ·exact go ⟨a1,c1,by rw [if_neg (by rw [q];decide)],rfl,by rw [if_neg (by rw [q];decide)];exact (hb1.bl B13).sub fun _ _=>trivial⟩
  rintro _ w4 ⟨wa,wc,rfl,e4,hw⟩
  subst e4
  refine ld (h3.box.cell rfl) ?_
  have hwb:=hw.big
  have hsb:=h3.st.big
  by_cases hl:X.st.length=(if b.mid=true then b.fst else b.beg).length
  ·refine brF ?_
   refine ld (h3.box.cell rfl) ?_
   refine cl (d_SameTypes X.st _ X.sa wa X.sc wc w4 (h3.st.sub fun _ _=>trivial) hw) ?_
   rintro _ w5 ⟨rfl,B5⟩
   by_cases hs:X.st=(if b.mid=true then b.fst else b.beg)
   ·refine brf ?_ (hp:=by simp [<-hs])
    have h5:=h3.bl B5
    have hcp:X.ops.length<=X.oc:=by
     obtain ⟨xs,h1⟩:=h5.op.ow
     exact h1.capn.1
    refine ld (h5.box.cell rfl) ?_
    refine sl 0 (X.ops.length-1) ?_ (h2:=by exact ⟨_,congrArg _ ew⟩)
    rw [add_zero_a,Nat.sub_zero,Nat.sub_zero]
    refine st h5.box fun w7 k7 x7 => ?_
    have hlt:(X.ops.take (X.ops.length-1)).length=X.ops.length-1:=by rw [List.length_take];omega
    have k67:Kp X.S w5 w7:=k7.kp fun _ hi=>hi.1
    have kl67:Kp (· < X.b) w5 w7:=k7.kp fun _ hi=>Nat.ne_of_lt hi
    have cw:Chg X.wt w w7:=((B3.trans B5).chg _).trans (k7.chg (.inl rfl))
    refine rt1 ⟨0,rfl,cw,.inl ⟨rfl,X.oa,X.oc,X.ops.take (X.ops.length-1),X.sa,X.sc,X.st,⟨?_,h5.lo.kp kl67,h5.ll.kp kl67,h5.st.kp k67,(h5.op.wr k7 (Nat.lt_succ_self _) fun _ hi=>hi.1).cut _ (Nat.sub_le ..),h5.cap,fun i hi=>h5.gn i (by rw [<-k7.size];exact hi),h5.gb⟩,fun g hg => .inl hg,?_⟩⟩
    ·have ec:pkc (X.set X.oa X.oc (X.ops.take (X.ops.length-1)) X.sa X.sc X.st)=pkc ⟨X.b,X.m,X.a,X.la,X.lc,X.loc,X.oa,X.oc,X.ops.take (X.ops.length-1),X.sa,X.sc,X.st,X.G⟩:=rfl
     rw [ec]
     simp only [pkc,hlt]
     exact x7
    ·rw [ee,if_pos hs,<-List.dropLast_eq_take]
   ·refine brt ?_ (hp:=by simp [hs])
    exact rt1 ⟨11,rfl,(B3.trans B5).chg _,.inr ⟨by decide,by rw [ee,if_neg hs]⟩⟩
  ·refine brT ?_
   exact rt1 ⟨12,rfl,B3.chg _,.inr ⟨by decide,by rw [ee,if_neg (fun z=>hl (by rw [<-z]))]⟩⟩
end Go.Proofs.YtdjkoljonlcemaaGreat

/- Walks: what an instruction pushes that looks into an object or an array, in the document's pass. -/
namespace Go.Proofs.YtdjkoljonlcemaaGreat
open Eng Go.RowKit
variable {w:World} {X:CX} {i:Ins}
def PshQ (o:Option Ty) (v:Value):Prop:=∃ t b,v = .tuple #[.agg (encTy t).toArray,.bool b]/\(b=true->o=some t)/\(b=false->o=none)
theorem PshQ.yes {o:Option Ty} {t:Ty} (h:o=some t):PshQ o (.tuple #[.agg (encTy t).toArray,.bool true]):=⟨t,true,rfl,fun _=>h,fun q=>by cases q⟩
theorem PshQ.no {o:Option Ty} {t:Ty} (h:o=none):PshQ o (.tuple #[.agg (encTy t).toArray,.bool false]):=⟨t,false,rfl,(fun q=>by cases q),fun _=>h⟩
theorem PshQ.want {o:Option Ty} {t:Ty} {c:Bool} (h:o=if c=true then some t else none):PshQ o (.tuple #[.agg (encTy t).toArray,.bool c]) :=
 ⟨t,c,rfl,fun q=>by rw [h,if_pos q],fun q=>by rw [h,if_neg (by rw [q];decide)]⟩
theorem getD_some {α:Type} {l:List α} {j:Nat} {x d:α} (h:l[j]? = some x):l.getD j d=x:=by rw [List.getD_eq_getElem?_getD,h];rfl
set_option maxHeartbeats 4000000 in
theorem d_reference (h:PkR w X) (ip:InsP X.m X.loc i) (ho:(17<=i.op/\i.op<=21)∨i.op=24) {l:List Ty} {a:Option Addr} {cap:Nat} (hl:l.length=takV X.m i) (hS:Sl eTy T w a l) (hty:∀ t∈l,tyA X.m t) :
  Ret Tryz.prog 143 #[ptr X.b,.agg (encIns i).toArray,.slice a l.length cap] w fun v w'=>PshQ (pshV X.m X.loc i l) v/\Bl w w':=by
 have etk:takV X.m i=(cntT.getD i.op.toNat (0,0)).1:=(tak_of (by omega)).1
 have hl1:1<=l.length:=by
  rw [hl,etk]
  have:i.op=17∨i.op=18∨i.op=19∨i.op=20∨i.op=21∨i.op=24:=by omega
  rcases this with q | q | q | q | q | q <;> (rw [q];decide)
 obtain ⟨t,b0,o0,_,ht,rfl,_,hA0,rfl⟩:=at_some hS (i:=0) (by omega)
 have hg:=getD_some (d:=noT) ht
 have tyt:=hty t (List.mem_of_getElem? ht)
 have hlb:=hS.big
 have ea:=ip.a0 (by omega)
 obtain ⟨n,hn⟩:=Int.eq_ofNat_of_zero_le ea
 have e0:pshV X.m X.loc i l=reqV X.m X.loc i t (l.getD 1 noT) (l.getD 2 noT):=by unfold pshV;rw [if_neg (by omega),hg]
 refine entr (vs:=[ptr X.b,.agg (encIns i).toArray,.slice (some ⟨b0,o0,none⟩) l.length cap]) [0,1,2,4,6,7,8,9,14,15,35,51,71,96,107,111,139,157,161] tabok Tryz.func143 (by kernel_rfl) ?_
 refine bx (cs:=encIns i) fun b1 w1 k1 => ?_
 refine al fun b2 w2 k2 => ?_
 have B2:=k1.bl.trans k2.bl
 refine ix (j:=0) ?_
 refine lda (hA0.bl B2) ?_
 refine al fun b3 w3 k3 => ?_
 refine sta (cs':=encTy t) k3.box fun w4 k4 x4 => ?_
 have B24:Bl w2 w4:=k3.wr k4
 have B4:=B2.trans B24
 have h4:=h.bl B4
 have x1:=Bl.box (k2.bl.trans B24) k1.box
 have x2:=Bl.box B24 k2.box
 have y1:=k1.blk;have y2:=k2.blk;have y3:=k3.blk;have s2:=k2.size;have s1:=k1.size;have hXb:=h.box.lt
 have z1:=k1.bl.size;have z2:=k2.bl.size
 refine ld (x1.cell rfl) ?_
 have hcls:t.kind=2->∃ k x,t.cls=(k:Nat)/\X.m.classes[k]? = some x:=fun q=>by
  obtain ⟨c0,c1⟩:=tyA_cls tyt (.inl q)
  obtain ⟨k,hk⟩:=Int.eq_ofNat_of_zero_le c0
  obtain ⟨x,hx⟩:=some_of_lt (l:=X.m.classes) (k:=k) (by omega)
  exact ⟨k,x,hk,hx⟩
 by_cases q17:i.op=17
 ·refine brT ?_ (hp:=q17)
  have ef:pshV X.m X.loc i l=fldO X.m t i.a:=by rw [e0];unfold reqV;simp only [q17];rfl
  refine dh T (List.range 19) fun w5 k5 => ?_
  have h5:=h4.bl k5.bl
  have x45:=k5.box x4
  refine ld (x45.cell rfl) ?_ (hm:=trivial)
  by_cases q:t.kind=2
  ·obtain ⟨k,x,hk,hx⟩:=hcls q
   have hkl:=(List.getElem?_eq_some_iff.1 hx).1
   have hcb:=h5.mod.cls.big
   obtain ⟨x',bc,oc,cs,hx',e1,hSc,hA,a3,c3,a4,c4,rfl,hF,hTb,_,_⟩:=at_some h5.mod.cls (i:=k) (by have:=(List.getElem?_eq_some_iff.1 hx).1;omega)
   obtain rfl:x'=x:=Option.some.inj (hx'.symm.trans hx)
   have hfb:=hF.big
   have ef2:fldO X.m t n=x'.fields[n]? := by unfold fldO;rw [if_pos q,hk,fldA_at hx,Int.toNat_natCast]
   refine spt (.bool false) ?_ (hb:=by first | (simp [q];done) | (simp;omega))
   refine ld ((k5.box x1).cell rfl) ?_ (hm:=trivial)
   refine spt (.bool false) ?_
   refine ld (h5.box.cell rfl) ?_ (hm:=trivial)
   refine spt (.bool false) ?_
   refine ld (x45.cell rfl) ?_ (hm:=trivial)
   refine spt (.bool false) ?_
   rw [hk,e1]
   refine ix (j:=k) ?_
   refine spt (.bool false) ?_
   refine ld (hA 2 _ rfl) ?_ (hm:=trivial)
   by_cases hlt:n<x'.fields.length
   ·refine brf ?_ (hp:=by first | (simp [q,hn];done) | (simp [q,hn];omega))
    obtain ⟨y,b',o',cs',hy,e1',hS',hA',rfl⟩:=at_some hF hlt
    refine dht 2 T (List.range 14) fun w6 k6 => ?_
    have h6:=h5.bl k6.bl
    refine ld (h6.box.cell rfl) ?_ (hm:=trivial)
    refine ld ((k6.box x45).cell rfl) ?_ (hm:=trivial)
    rw [hk,e1]
    refine ix (j:=k) ?_
    refine ld (hA.bl k6.bl 2 _ rfl) ?_ (hm:=trivial)
    refine ld ((k6.box (k5.box x1)).cell rfl) ?_ (hm:=trivial)
    rw [e1',hn]
    refine ix (j:=n) ?_
    refine lda (hA'.bl k6.bl) ?_ (hm:=trivial)
    refine sta (k6.box (k5.box x2)) fun w7 k7 x7 => ?_
    rw [hn] at ef
    exact rtc2 x7.at ⟨.yes (by rw [ef,ef2,hy]),Below.trans ((B4.trans k5.bl).trans k6.bl) (k7.below (by omega))⟩
   ·refine brt ?_ (hp:=by first | (simp [q,hn];done) | (simp [q,hn];omega))
    refine bd ?_
    refine sta (k5.box x2) fun w7 k7 x7 => ?_
    rw [hn] at ef
    exact rtc2 (cs:=encTy noT) x7.at ⟨.no (by rw [ef,ef2,List.getElem?_eq_none (by omega)]),Below.trans (B4.trans k5.bl) (k7.below (by omega))⟩
  ·have ef2:fldO X.m t i.a=none:=if_neg q
   refine spn (I 0) ?_ (hb:=by first | (simp [q];done) | (simp;omega))
   refine spn (.slice none 0 0) ?_ (hb:=by first | (simp [q];done) | (simp;omega))
   refine spn (I 0) ?_ (hb:=by first | (simp [q];done) | (simp;omega))
   refine spn (ptr 0) ?_ (hb:=by first | (simp [q];done) | (simp;omega))
   refine spn (.slice none 0 0) ?_ (hb:=by first | (simp [q];done) | (simp;omega))
   refine brt ?_ (hp:=by first | (simp [q];done) | (simp [q];omega))
   refine bd ?_
   refine sta (k5.box x2) fun w7 k7 x7 => ?_
   exact rtc2 (cs:=encTy noT) x7.at ⟨.no (by rw [ef,ef2]),Below.trans (B4.trans k5.bl) (k7.below (by omega))⟩
 refine brF ?_ (hp:=q17)
 by_cases q18:i.op=18
 ·refine brT ?_ (hp:=q18)
  have hl2:2<=l.length:=by rw [hl,etk,q18];decide
  obtain ⟨u,b0',o0',_,hu,eb,_,hA1,rfl⟩:=at_some hS (i:=1) (by omega)
  simp only [Option.some.injEq,Addr.mk.injEq,and_true] at eb
  obtain ⟨rfl,rfl⟩:=eb
  have hg1:=getD_some (d:=noT) hu
  have tyu:=hty u (List.mem_of_getElem? hu)
  have ef:pshV X.m X.loc i l=match fldO X.m t i.a with
   | some x=>if fitB X.m u x=true then some noT else none
   | none=>none:=by rw [e0];unfold reqV;simp only [q18,hg1];rfl
  refine dh T (List.range 19) fun w5 k5 => ?_
  have h5:=h4.bl k5.bl
  have x45:=k5.box x4
  refine ld (x45.cell rfl) ?_ (hm:=trivial)
  by_cases q:t.kind=2
  ·obtain ⟨k,x,hk,hx⟩:=hcls q
   have hkl:=(List.getElem?_eq_some_iff.1 hx).1
   have hcb:=h5.mod.cls.big
   obtain ⟨x',bc,oc,cs,hx',e1,hSc,hA,a3,c3,a4,c4,rfl,hF,hTb,_,_⟩:=at_some h5.mod.cls (i:=k) (by have:=(List.getElem?_eq_some_iff.1 hx).1;omega)
   obtain rfl:x'=x:=Option.some.inj (hx'.symm.trans hx)
   have hfb:=hF.big
   have ef2:fldO X.m t n=x'.fields[n]? := by unfold fldO;rw [if_pos q,hk,fldA_at hx,Int.toNat_natCast]
   refine spt (.bool false) ?_ (hb:=by first | (simp [q];done) | (simp;omega))
   refine ld ((k5.box x1).cell rfl) ?_ (hm:=trivial)
   refine spt (.bool false) ?_
   refine ld (h5.box.cell rfl) ?_ (hm:=trivial)
   refine spt (.bool false) ?_
   refine ld (x45.cell rfl) ?_ (hm:=trivial)
   refine spt (.bool false) ?_
   rw [hk,e1]
   refine ix (j:=k) ?_
   refine spt (.bool false) ?_
   refine ld (hA 2 _ rfl) ?_ (hm:=trivial)
   by_cases hlt:n<x'.fields.length
   ·refine brf ?_ (hp:=by first | (simp [q,hn];done) | (simp [q,hn];omega))
    obtain ⟨y,b',o',cs',hy,e1',hS',hA',rfl⟩:=at_some hF hlt
    refine dhx 2 T (List.range 23) fun w6 k6 => ?_
    have h6:=h5.bl k6.bl
    refine bd (cs:=encTy noT) ?_
    refine lda h6.modAt ?_ (hm:=trivial)
    refine ix (j:=1) ?_
    refine lda (hA1.bl ((B4.trans k5.bl).trans k6.bl)) ?_ (hm:=trivial)
    refine ld (h6.box.cell rfl) ?_ (hm:=trivial)
    refine ld ((k6.box x45).cell rfl) ?_ (hm:=trivial)
    rw [hk,e1]
    refine ix (j:=k) ?_
    refine ld (hA.bl k6.bl 2 _ rfl) ?_ (hm:=trivial)
    refine ld ((k6.box (k5.box x1)).cell rfl) ?_ (hm:=trivial)
    rw [e1',hn]
    refine ix (j:=n) ?_
    refine lda (hA'.bl k6.bl) ?_ (hm:=trivial)
    refine cl (d_fits X.m X.a u y w6 ip.P h6.T (tyA_clsA tyu)) ?_ (hm:=fun _ _ r=>mdW_bl r.2)
    rintro _ w7 ⟨rfl,B7⟩
    refine sta (Bl.box B7 (k6.box (k5.box x2))) fun w8 k8 x8 => ?_
    rw [hn] at ef
    refine rtc2 x8.at ⟨.want ?_,Below.trans (((B4.trans k5.bl).trans k6.bl).trans B7) (k8.below (by omega))⟩
    rw [ef,ef2,hy]
   ·refine brt ?_ (hp:=by first | (simp [q,hn];done) | (simp [q,hn];omega))
    refine bd ?_
    refine sta (k5.box x2) fun w7 k7 x7 => ?_
    rw [hn] at ef
    exact rtc2 (cs:=encTy noT) x7.at ⟨.no (by rw [ef,ef2,List.getElem?_eq_none (by omega)]),Below.trans (B4.trans k5.bl) (k7.below (by omega))⟩
  ·have ef2:fldO X.m t i.a=none:=if_neg q
   refine spn (I 0) ?_ (hb:=by first | (simp [q];done) | (simp;omega))
   refine spn (.slice none 0 0) ?_ (hb:=by first | (simp [q];done) | (simp;omega))
   refine spn (I 0) ?_ (hb:=by first | (simp [q];done) | (simp;omega))
   refine spn (ptr 0) ?_ (hb:=by first | (simp [q];done) | (simp;omega))
   refine spn (.slice none 0 0) ?_ (hb:=by first | (simp [q];done) | (simp;omega))
   refine brt ?_ (hp:=by first | (simp [q];done) | (simp [q];omega))
   refine bd ?_
   refine sta (k5.box x2) fun w7 k7 x7 => ?_
   exact rtc2 (cs:=encTy noT) x7.at ⟨.no (by rw [ef,ef2]),Below.trans (B4.trans k5.bl) (k7.below (by omega))⟩
 refine brF ?_ (hp:=q18)
 by_cases q21:i.op=21
 ·refine brT ?_ (hp:=q21)
  have ef:pshV X.m X.loc i l=if arrT t then some intT else none:=by rw [e0];unfold reqV;simp only [q21];rfl
  refine dh (fun j=>j≠b2) [1,2,3,0,4,5,6,7,8,9,10] fun w5 k5 => ?_
  refine ld ((k5.box x4).cell rfl) ?_ (hm:=by exact (by omega:b3≠b2))
  refine cl (d_Integer w5) ?_ (hm:=fun _ _ r=>mdW_bl r.2)
  rintro _ w6 ⟨rfl,B6⟩
  have B46:=k5.bl.trans B6
  refine ldg (fun _=>(Bl.box B46 x4).cell rfl) ?_ (hm:=by exact (by omega:b3≠b2))
  refine sta (Bl.box B46 x2) (fun w7 k7 x7 => ?_) (hm:=by exact wrS (fun z=>z rfl))
  refine rtc2 (cs:=encTy intT) x7.at ⟨.want ?_,Below.trans (B4.trans B46) (k7.below (by omega))⟩
  rw [ef]
  unfold arrT
  by_cases q3:t.kind=3 <;> by_cases q4:t.kind=4 <;> simp [q3,q4]
 refine brF ?_ (hp:=q21)
 by_cases q24:i.op=24
 ·refine brT ?_ (hp:=q24)
  have hc24:=ip.cls (.inr q24)
  have ef:pshV X.m X.loc i l=if t.kind=2/\(i.a∈upM X.m t.cls∨t.cls∈upM X.m i.a) then some ⟨2,i.a⟩ else none:=by rw [e0];unfold reqV;simp only [q24];rfl
  refine ld (x4.cell rfl) ?_
  by_cases q:t.kind=2
  ·obtain ⟨c0,c1⟩:=tyA_cls tyt (.inl q)
   refine brF ?_ (hp:=by simp [q])
   refine dh (fun j=>j≠b2) (List.range 25) fun w5 k5 => ?_
   have h5:=h4.bl k5.bl
   refine ld ((k5.box x1).cell rfl) ?_ (hm:=by exact (by omega:b1≠b2))
   refine bd (cs:=encTy ⟨2,i.a⟩) ?_
   refine lda h5.modAt ?_ (hm:=by exact (by omega:X.b≠b2))
   refine ld ((k5.box x1).cell rfl) ?_ (hm:=by exact (by omega:b1≠b2))
   refine ld ((k5.box x4).cell rfl) ?_ (hm:=by exact (by omega:b3≠b2))
   refine cl (d_above X.m X.a ip.P.desc i.a t.cls hc24 (by omega) w5 h5.T) ?_ (hm:=fun _ _ r=>mdW_bl r.2)
   rintro _ w6 ⟨rfl,B6⟩
   have h6:=h5.bl B6
   have B46:=k5.bl.trans B6
   by_cases q1:t.cls∈upM X.m i.a
   ·refine spn (.agg #[]) ?_ (hb:=by simp [q1])
    refine spn (I 0) ?_ (hb:=by simp [q1])
    refine spn (I 0) ?_ (hb:=by simp [q1])
    refine spn (.bool false) ?_ (hb:=by simp [q1])
    refine sta (Bl.box B46 x2) (fun w7 k7 x7 => ?_) (hm:=by exact wrS (fun z=>z rfl))
    refine rtc2 (cs:=encTy ⟨2,i.a⟩) x7.at ⟨.want ?_,Below.trans (B4.trans B46) (k7.below (by omega))⟩
    rw [ef];simp [q,q1]
   ·refine spt (.agg #[]) ?_ (hb:=by simp [q1])
    refine lda h6.modAt ?_ (hm:=by exact (by omega:X.b≠b2))
    refine spt (.bool false) ?_
    refine ld ((Bl.box B46 x4).cell rfl) ?_ (hm:=by exact (by omega:b3≠b2))
    refine spt (.bool false) ?_
    refine ld ((Bl.box B46 x1).cell rfl) ?_ (hm:=by exact (by omega:b1≠b2))
    refine spt (.bool false) ?_
    refine cl (d_above X.m X.a ip.P.desc t.cls i.a c1 (by omega) w6 h6.T) ?_ (hm:=fun _ _ r=>mdW_bl r.2)
    rintro _ w7 ⟨rfl,B7⟩
    refine sta (Bl.box (B46.trans B7) x2) (fun w8 k8 x8 => ?_) (hm:=by exact wrS (fun z=>z rfl))
    refine rtc2 (cs:=encTy ⟨2,i.a⟩) x8.at ⟨.want ?_,Below.trans ((B4.trans B46).trans B7) (k8.below (by omega))⟩
    rw [ef];simp [q,q1]
  ·refine brT ?_ (hp:=q)
   refine bd ?_
   refine sta x2 fun w7 k7 x7 => ?_
   exact rtc2 (cs:=encTy noT) x7.at ⟨.no (by rw [ef,if_neg (fun z=>q z.1)]),Below.trans B4 (k7.below (by omega))⟩
 refine brF ?_ (hp:=q24)
 clear hcls
 have hl2:2<=l.length:=by
  rw [hl,etk]
  have:i.op=19∨i.op=20:=by omega
  rcases this with q | q <;> (rw [q];decide)
 obtain ⟨u,b0',o0',_,hu,eb,_,hA1,rfl⟩:=at_some hS (i:=1) (by omega)
 simp only [Option.some.injEq,Addr.mk.injEq,and_true] at eb
 obtain ⟨rfl,rfl⟩:=eb
 have hg1:=getD_some (d:=noT) hu
 refine cl (d_Integer w4) ?_
 rintro _ w5 ⟨rfl,B5⟩
 have B45:=B4.trans B5
 refine al fun b6 w6 k6 => ?_
 refine sta (cs':=encTy intT) k6.box fun w7 k7 x7 => ?_
 have B67:Bl w5 w7:=k6.wr k7
 have B07:=B45.trans B67
 have B47:=B5.trans B67
 have y6:=k6.blk
 have z45:=B45.size
 refine ld ((Bl.box B47 x4).cell rfl) ?_
 refine jn [] [(0,ptr X.b),(2,.slice (some ⟨b0,o0,none⟩) l.length cap),(4,ptr b1),(6,ptr b2),(8,ptr b3),(9,ptr b6)] (fun vals w'=>vals=[]/\Bl w w'/\Bl w4 w'/\Box w' b6 42 (encTy (elmV t))) (fun q go => ?_) (fun q go => ?_) ?_
 ·have q4:t.kind=4:=by simpa using q
  refine ld ((Bl.box B47 x4).cell rfl) ?_
  refine bd (cs:=encTy ⟨2,t.cls⟩) ?_
  refine sta (cs':=encTy ⟨2,t.cls⟩) x7 fun w8 k8 x8 => ?_
  refine go ⟨rfl,Below.trans B07 (k8.below (by omega)),Below.trans B47 (k8.below (by have:=B5.size;omega)),?_⟩
  unfold elmV;rw [if_pos q4];exact x8
 ·have q4:¬t.kind=4:=by simpa using q
  refine go ⟨rfl,B07,B47,?_⟩
  unfold elmV;rw [if_neg q4];exact x7
 rintro _ w8 ⟨rfl,B08,B48,x8⟩
 have x48:=Bl.box B48 x4
 refine dh T (List.range 15) fun w9 k9 => ?_
 have B09:=B08.trans k9.bl
 have x49:=k9.box x48
 refine ld (x49.cell rfl) ?_ (hm:=trivial)
 refine ldg (fun _=>x49.cell rfl) ?_ (hm:=trivial)
 by_cases qa:arrT t
 ·refine spt (.bool false) ?_ (hb:=by unfold arrT at qa;rcases qa with q | q <;> simp [q])
  refine ix (j:=1) ?_
  refine spt (.bool false) ?_
  refine lda (hA1.bl B09) ?_ (hm:=trivial)
  refine spt (.bool false) ?_
  refine cl (d_Integer w9) ?_ (hm:=fun _ _ r=>mdW_bl r.2)
  rintro _ w10 ⟨rfl,B10⟩
  refine spt (.bool false) ?_
  refine neA (b:=encTy intT) (fun w=>eq_ty u intT) ?_
  have B010:=B09.trans B10
  by_cases qu:u=intT
  ·refine brf ?_ (hp:=by unfold arrT at qa;rcases qa with q | q <;> simp [q,qu])
   have x110:=Bl.box ((B48.trans k9.bl).trans B10) x1
   have x210:=Bl.box ((B48.trans k9.bl).trans B10) x2
   refine ld (x110.cell rfl) ?_
   by_cases q19:i.op=19
   ·refine brT ?_ (hp:=q19)
    have ef:pshV X.m X.loc i l=some (elmV t):=by rw [e0];unfold reqV;simp only [q19,hg1];show (if arrT t/\u=intT then some (elmV t) else none)=_;exact if_pos ⟨qa,qu⟩
    refine lda (Bl.box (k9.bl.trans B10) x8).at ?_
    refine sta x210 fun w11 k11 x11 => ?_
    exact rtc2 (cs:=encTy (elmV t)) x11.at ⟨.yes ef,Below.trans B010 (k11.below (by omega))⟩
   ·refine brF ?_ (hp:=q19)
    have q20:i.op=20:=by omega
    have hl3:3<=l.length:=by rw [hl,etk,q20];decide
    obtain ⟨v,b0',o0',_,hv,eb,_,hA2,rfl⟩:=at_some hS (i:=2) (by omega)
    simp only [Option.some.injEq,Addr.mk.injEq,and_true] at eb
    obtain ⟨rfl,rfl⟩:=eb
    have hg2:=getD_some (d:=noT) hv
    have tyv:=hty v (List.mem_of_getElem? hv)
    have ef:pshV X.m X.loc i l=if fitB X.m v (elmV t)=true then some noT else none:=by
     rw [e0];unfold reqV;simp only [q20,hg1,hg2]
     show (if arrT t/\u=intT/\fitB X.m v (elmV t)=true then some noT else none)=_
     simp [qa,qu]
    refine dhx 2 T (List.range 10) fun w11 k11 => ?_
    have B011:=B010.trans k11.bl
    have h11:=h.bl B011
    refine bd (cs:=encTy noT) ?_
    refine lda h11.modAt ?_ (hm:=trivial)
    refine ix (j:=2) ?_
    refine lda (hA2.bl B011) ?_ (hm:=trivial)
    refine lda (Bl.box ((k9.bl.trans B10).trans k11.bl) x8).at ?_ (hm:=trivial)
    refine cl (d_fits X.m X.a v (elmV t) w11 ip.P h11.T (tyA_clsA tyv)) ?_ (hm:=fun _ _ r=>mdW_bl r.2)
    rintro _ w12 ⟨rfl,B12⟩
    refine sta (Bl.box (k11.bl.trans B12) x210) fun w13 k13 x13 => ?_
    exact rtc2 (cs:=encTy noT) x13.at ⟨.want ef,Below.trans (B011.trans B12) (k13.below (by omega))⟩
  ·refine brt ?_ (hp:=by unfold arrT at qa;rcases qa with q | q <;> simp [q,qu])
   refine bd ?_
   refine sta (Bl.box ((B48.trans k9.bl).trans B10) x2) fun w11 k11 x11 => ?_
   refine rtc2 (cs:=encTy noT) x11.at ⟨.no ?_,Below.trans B010 (k11.below (by omega))⟩
   rw [e0];unfold reqV
   have q1:i.op=19∨i.op=20:=by omega
   rcases q1 with q1 | q1
   ·simp only [q1,hg1]
    show (if arrT t/\u=intT then some (elmV t) else none)=none
    exact if_neg fun z=>qu z.2
   ·simp only [q1,hg1]
    show (if arrT t/\u=intT/\fitB X.m (l.getD 2 noT) (elmV t)=true then some noT else none)=none
    exact if_neg fun z=>qu z.2.1
 ·have qa':¬t.kind=3/\¬t.kind=4:=⟨fun z=>qa (.inl z),fun z=>qa (.inr z)⟩
  refine spn (ptr 0) ?_ (hb:=by simp [qa'.1,qa'.2])
  refine spn (.agg #[]) ?_ (hb:=by simp [qa'.1,qa'.2])
  refine spn (.agg #[]) ?_ (hb:=by simp [qa'.1,qa'.2])
  refine spn (.bool false) ?_ (hb:=by simp [qa'.1,qa'.2])
  refine brt ?_ (hp:=by simp [qa'.1,qa'.2])
  refine bd ?_
  refine sta (Bl.box (B48.trans k9.bl) x2) fun w11 k11 x11 => ?_
  refine rtc2 (cs:=encTy noT) x11.at ⟨.no ?_,Below.trans B09 (k11.below (by omega))⟩
  rw [e0];unfold reqV
  have q1:i.op=19∨i.op=20:=by omega
  rcases q1 with q1 | q1
  ·simp only [q1]
   show (if arrT t/\l.getD 1 noT=intT then some (elmV t) else none)=none
   exact if_neg fun z=>qa z.1
  ·simp only [q1]
   show (if arrT t/\l.getD 1 noT=intT/\fitB X.m (l.getD 2 noT) (elmV t)=true then some noT else none)=none
   exact if_neg fun z=>qa z.1
end Go.Proofs.YtdjkoljonlcemaaGreat

/- Walk: what a call gives, in the document's pass. -/
namespace Go.Proofs.YtdjkoljonlcemaaGreat
open Eng Go.RowKit
variable {w:World} {X:CX} {i:Ins}
theorem dsp_has {m:Mod} (P:ModP m) {c s:Int} (hc:0<=c/\c<m.classes.length) (hs:0<=s/\s<m.sels):dspE m c s=if hasS m c s=true then 0 else 3:=by
 have ok:dspOk m c s:=by
  unfold dspOk askE
  refine ⟨if_pos ⟨chkE_yes P,fun j hj => ?_⟩,if_pos ⟨chkE_yes P,fun j hj => ?_⟩⟩
  ·rw [List.mem_singleton.1 hj];exact hc
  ·rw [List.mem_singleton.1 hj];exact hs
 unfold dspE
 rw [if_pos ok]
 have e:hasS m c s=decide (0<=entM m c s):=rfl
 rw [e]
 by_cases h:0<=entM m c s <;> simp [h]
theorem fitL_pre {m:Mod}:∀ {p q l:List Ty},fitL m l (p++q)=true->fitL m l p=true
 | [],_,l,_=>fitL_nil l
 | u::p,q,[],h=>by simp [fitL] at h
 | u::p,q,t::l,h=>by
  simp only [List.cons_append,fitL,Bool.and_eq_true] at h ⊢
  exact ⟨h.1,fitL_pre h.2⟩
set_option maxHeartbeats 4000000 in
theorem d_called (h:PkR w X) (ip:InsP X.m X.loc i) (ho:i.op=25∨i.op=26) {l:List Ty} {a:Option Addr} {cap:Nat} (hl:l.length=takV X.m i) (hS:Sl eTy T w a l) (hty:∀ t∈l,tyA X.m t) :
  Ret Tryz.prog 144 #[ptr X.b,.agg (encIns i).toArray,.slice a l.length cap] w fun v w'=>PshQ (pshV X.m X.loc i l) v/\Bl w w':=by
 have etk:takV X.m i=(parV X.m i).length:=if_pos ho
 have e0:pshV X.m X.loc i l=calV X.m i l:=if_pos ho
 have hlb:=hS.big
 refine entr (vs:=[ptr X.b,.agg (encIns i).toArray,.slice a l.length cap]) [0,1,2,4,6,7,8,9,11,12,18,28,45,51,67] tabok Tryz.func144 (by kernel_rfl) ?_
 refine bx (cs:=encIns i) fun b1 w1 k1 => ?_
 refine al fun b2 w2 k2 => ?_
 have B2:=k1.bl.trans k2.bl
 have h2:=h.bl B2
 have x1:=Bl.box k2.bl k1.box
 have y1:=k1.blk;have y2:=k2.blk
 have z1:=k1.bl.size;have z2:=k2.bl.size
 refine lda x1.at ?_
 refine cl (d_arguments h2 ip ho) ?_
 rintro _ w3 ⟨aa,ac,rfl,hA,B3⟩
 have B03:=B2.trans B3
 have hab:=hA.big
 refine ld ((Bl.box B3 x1).cell rfl) ?_
 obtain ⟨mo,hmo⟩:∃ mo:Nat,mo=if i.op=26 then 1 else 0:=⟨_,rfl⟩
 refine jn [9] [(0,ptr X.b),(2,.slice a l.length cap),(4,ptr b1),(6,ptr b2),(8,.slice aa (parV X.m i).length ac)] (fun vals w'=>vals=[I mo]/\Bl w3 w'/\(i.op=26->(∃ n,tgtV X.m i=some n)/\(l.getD 0 noT).kind=2/\hasS X.m (l.getD 0 noT).cls i.a=true)) (fun q go => ?_) (fun q go => ?_) ?_
 ·have q26:i.op=26:=by simpa using q
  have hm1:mo=1:=by rw [hmo,if_pos q26]
  cases ht:tgtV X.m i with
  | none =>
   have ep:parV X.m i=[]:=by unfold parV;rw [ht]
   refine spn (ptr 0) ?_ (hb:=by simp [ep])
   refine spn (I 0) ?_ (hb:=by simp [ep])
   refine brt ?_ (hp:=by simp [ep])
   refine bd ?_
   refine sta (Bl.box B3 k2.box) fun w4 k4 x4 => ?_
   refine rtc2 (cs:=encTy noT) x4.at ⟨.no ?_,Below.trans B03 (k4.below (by omega))⟩
   rw [e0];unfold calV;rw [ht]
  | some n =>
   have ep:parV X.m i=⟨2,-1⟩::parM X.m n:=by unfold parV;rw [ht];simp only [if_neg (show ¬i.op=25 by omega)];rfl
   have hl1:1<=l.length:=by rw [hl,etk,ep,List.length_cons];omega
   obtain ⟨t,b0,o0,_,ht0,rfl,_,hA0,rfl⟩:=at_some hS (i:=0) (by omega)
   have hg:=getD_some (d:=noT) ht0
   have tyt:=hty t (List.mem_of_getElem? ht0)
   refine spt (.bool false) ?_ (hb:=by first | (simp [ep];done) | (simp [ep];omega))
   refine ix (j:=0) ?_
   refine spt (.bool false) ?_
   refine ld (hA0.bl B03 0 _ rfl) ?_
   by_cases qk:t.kind=2
   ·obtain ⟨c0,c1⟩:=tyA_cls tyt (.inl qk)
    have hsl:=(ip.send q26).1
    have ea:=ip.a0 (by omega)
    refine brf ?_ (hp:=by first | (simp [ep,qk];done) | (simp [ep,qk];omega))
    refine dh T (List.range 16) fun w4 k4 => ?_
    have B04:=B03.trans k4.bl
    have h4:=h.bl B04
    refine lda h4.modAt ?_ (hm:=trivial)
    refine ix (j:=0) ?_
    refine ld (hA0.bl B04 1 _ rfl) ?_ (hm:=trivial)
    refine ld ((k4.box (Bl.box B3 x1)).cell rfl) ?_ (hm:=trivial)
    refine cl (r5_Dispatch X.m X.a t.cls i.a w4 h4.T) ?_ (hm:=fun _ _ r=>mdW_bl r.2)
    rintro _ w5 ⟨rfl,B5⟩
    have ed:=dsp_has ip.P ⟨c0,c1⟩ ⟨ea,hsl⟩
    by_cases qh:hasS X.m t.cls i.a=true
    ·rw [if_pos qh] at ed
     refine brf ?_ (hp:=by simp [ed])
     refine go ⟨by rw [hm1],k4.bl.trans B5,fun _=>⟨⟨n,ht⟩,by rw [hg];exact ⟨qk,qh⟩⟩⟩
    ·rw [if_neg qh] at ed
     refine brt ?_ (hp:=by simp [ed])
     refine bd ?_
     refine sta (Bl.box ((B3.trans k4.bl).trans B5) k2.box) fun w6 k6 x6 => ?_
     refine rtc2 (cs:=encTy noT) x6.at ⟨.no ?_,Below.trans (B04.trans B5) (k6.below (by omega))⟩
     rw [e0];unfold calV;rw [ht]
     simp only [if_neg (show ¬i.op=25 by omega),hg]
     exact if_neg fun z=>qh z.2.1
   ·refine brt ?_ (hp:=by simp [ep,qk])
    refine bd ?_
    refine sta (Bl.box B3 k2.box) fun w4 k4 x4 => ?_
    refine rtc2 (cs:=encTy noT) x4.at ⟨.no ?_,Below.trans B03 (k4.below (by omega))⟩
    rw [e0];unfold calV;rw [ht]
    simp only [if_neg (show ¬i.op=25 by omega),hg]
    exact if_neg fun z=>qk z.1
 ·have q26:¬i.op=26:=by simpa using q
  have hm0:mo=0:=by rw [hmo,if_neg q26]
  exact go ⟨by rw [hm0],Bl.refl _,fun z=>absurd z q26⟩
 rintro _ w4 ⟨rfl,B34,hrcv⟩
 obtain ⟨n,ht⟩:∃ n,tgtV X.m i=some n:=by
  rcases ho with q | q
  ·exact ⟨i.a,by unfold tgtV;rw [if_pos q]⟩
  ·exact (hrcv q).1
 obtain ⟨pre,ep,hpl⟩:∃ pre:List Ty,parV X.m i=pre++parM X.m n/\pre.length=mo:=by
  unfold parV;rw [ht,hmo]
  rcases ho with q | q
  ·exact ⟨[],by simp only [if_pos q],by rw [if_neg (by omega)];rfl⟩
  ·exact ⟨[⟨2,-1⟩],by simp only [if_neg (show ¬i.op=25 by omega)],by rw [if_pos q];rfl⟩
 have eal:(parV X.m i).length=mo+(parM X.m n).length:=by rw [ep,List.length_append,hpl]
 have B04:=B03.trans B34
 refine lp (vals:=[I (mo:Nat)]) [12] [(0,ptr X.b),(2,.slice a l.length cap),(4,ptr b1),(6,ptr b2),(8,.slice aa (parV X.m i).length ac)] (fun q vals w'=>∃ j:Nat,vals=[I ((mo+j:Nat):Int)]/\q=(parM X.m n).length-j/\j<=(parM X.m n).length/\fitL X.m (l.drop mo) ((parM X.m n).take j)=true/\Bl w4 w') ⟨rfl,rfl,rfl,rfl,rfl,trivial⟩ ⟨0,rfl,rfl,Nat.zero_le _,fitL_nil _,Bl.refl _⟩ ?_
 rintro _ _ w5 ⟨j,rfl,rfl,hj,hfit,B45⟩ ih
 have B05:=B04.trans B45
 by_cases hlt:j<(parM X.m n).length
 ·refine brT ?_
  obtain ⟨u,hu⟩:=some_of_lt hlt
  have hu':(parV X.m i)[mo+j]? = some u:=by rw [ep,List.getElem?_append_right (by omega),hpl,Nat.add_sub_cancel_left];exact hu
  obtain ⟨u',b9,o9,_,hu2,rfl,_,hA9,rfl⟩:=at_some hA (i:=mo+j) (by omega)
  obtain rfl:u'=u:=Option.some.inj (hu2.symm.trans hu')
  obtain ⟨t,b0,o0,_,ht0,rfl,_,hA0,rfl⟩:=at_some hS (i:=mo+j) (by omega)
  have tyt:=hty t (List.mem_of_getElem? ht0)
  have hd:(l.drop mo)[j]? = some t:=by rw [List.getElem?_drop];exact ht0
  have etk':(parM X.m n).take (j+1)=(parM X.m n).take j++[u']:=take_succ_some hu
  have el':((parM X.m n).take j).length=j:=by rw [List.length_take];omega
  have ef:fitL X.m (l.drop mo) ((parM X.m n).take (j+1))=fitB X.m t u':=by rw [etk',fitL_snoc,hfit,el',hd];rfl
  refine dh T (List.range 14) fun w6 k6 => ?_
  have B06:=B05.trans k6.bl
  have h6:=h.bl B06
  refine lda h6.modAt ?_ (hm:=trivial)
  refine ix (j:=mo+j) ?_
  refine lda (hA0.bl B06) ?_ (hm:=trivial)
  refine ix (j:=mo+j) ?_
  refine lda (hA9.bl ((B34.trans B45).trans k6.bl)) ?_ (hm:=trivial)
  refine cl (d_fits X.m X.a t u' w6 ip.P h6.T (tyA_clsA tyt)) ?_ (hm:=fun _ _ r=>mdW_bl r.2)
  rintro _ w7 ⟨rfl,B7⟩
  by_cases qf:fitB X.m t u'=true
  ·refine brf ?_ (hp:=by simp [qf])
   have ew:IntKind.i64.wrap (((mo+j:Nat):Int)+1)=((mo+(j+1):Nat):Int):=by rw [IntKind.wrap_i64];omega
   refine again (ih _ _ [I ((mo+(j+1):Nat):Int)] _ (by omega) ⟨rfl,rfl,rfl,rfl,rfl,trivial⟩ ?_ ⟨j+1,rfl,rfl,by omega,by rw [ef];exact qf,(B45.trans k6.bl).trans B7⟩)
   rw [<-ew];rfl
  ·refine brt ?_ (hp:=by simp [qf])
   refine bd ?_
   refine sta (Bl.box ((((B3.trans B34).trans B45).trans k6.bl).trans B7) k2.box) fun w8 k8 x8 => ?_
   refine rtc2 (cs:=encTy noT) x8.at ⟨.no ?_,Below.trans (B06.trans B7) (k8.below (by omega))⟩
   have hno:¬fitL X.m (l.drop mo) (parM X.m n)=true:=by
    intro z
    have e2:(parM X.m n)=(parM X.m n).take (j+1)++(parM X.m n).drop (j+1):=(List.take_append_drop _ _).symm
    rw [e2] at z
    exact qf (by rw [<-ef];exact fitL_pre z)
   rw [e0];unfold calV;rw [ht]
   rcases ho with q | q
   ·have hm0:mo=0:=by rw [hmo,if_neg (by omega)]
    rw [hm0] at hno
    simp only [if_pos q]
    exact if_neg hno
   ·have hm1:mo=1:=by rw [hmo,if_pos q]
    rw [hm1,List.drop_one] at hno
    simp only [if_neg (show ¬i.op=25 by omega)]
    exact if_neg fun z=>hno z.2.2
 ·refine brF ?_
  obtain rfl:j=(parM X.m n).length:=by omega
  rw [List.take_length] at hfit
  have h5:=h.bl B05
  have x15:=Bl.box ((B3.trans B34).trans B45) x1
  refine lda x15.at ?_
  refine cl (d_result h5 ip ho) ?_
  rintro _ w6 ⟨rfl,B6⟩
  refine sta (Bl.box (((B3.trans B34).trans B45).trans B6) k2.box) fun w7 k7 x7 => ?_
  refine rtc2 (cs:=encTy (resV X.m i)) x7.at ⟨.yes ?_,Below.trans (B05.trans B6) (k7.below (by omega))⟩
  have er:resV X.m i=resM X.m n:=by unfold resV;rw [ht]
  rw [e0,er];unfold calV;rw [ht]
  rcases ho with q | q
  ·have hm0:mo=0:=by rw [hmo,if_neg (by omega)]
   rw [hm0] at hfit
   simp only [if_pos q]
   exact if_pos hfit
  ·have hm1:mo=1:=by rw [hmo,if_pos q]
   rw [hm1,List.drop_one] at hfit
   obtain ⟨_,r1,r2⟩:=hrcv q
   simp only [if_neg (show ¬i.op=25 by omega)]
   exact if_pos ⟨r1,r2,hfit⟩
end Go.Proofs.YtdjkoljonlcemaaGreat

/- Walk: the type that an instruction pushes, in the document's pass (printed by tools/genjh.py). -/
namespace Go.Proofs.YtdjkoljonlcemaaGreat
open Eng Go.RowKit
variable {w:World} {X:CX} {i:Ins}
set_option maxHeartbeats 8000000 in
theorem d_pushed (h:PkR w X) (ip:InsP X.m X.loc i) (hop:i.op<34) {l:List Ty} {a:Option Addr} {cap:Nat} (hl:l.length=takV X.m i) (hS:Sl eTy T w a l) (hty:∀ t∈l,tyA X.m t) :
  Ret Tryz.prog 95 #[ptr X.b,.agg (encIns i).toArray,.slice a l.length cap] w fun v w'=>PshQ (pshV X.m X.loc i l) v/\Bl w w':=by
 have hop0:=ip.op0
 have hlb:=hS.big
 have ell:=ip.ll
 have etk:¬(i.op=25∨i.op=26)->takV X.m i=(cntT.getD i.op.toNat (0,0)).1:=fun q=>if_neg q
 have e0:¬(i.op=25∨i.op=26)->pshV X.m X.loc i l=reqV X.m X.loc i (l.getD 0 noT) (l.getD 1 noT) (l.getD 2 noT):=fun q=>if_neg q
 have el1:∀ k:Nat,i.op=k->k≠25->k≠26->l.length=(cntT.getD k (0,0)).1:=fun k q q1 q2=>by rw [hl,etk (by omega),q];rfl
 refine entr (vs:=[ptr X.b,.agg (encIns i).toArray,.slice a l.length cap]) [0,1,2,4,6,7,9,10,13,22,32,61,66,86,90,97,105,110,113,118,129,149,158,188,201] tabok Tryz.func95 (by kernel_rfl) ?_
 refine bx (cs:=encIns i) fun b1 w1 k1 => ?_
 refine al fun b2 w2 k2 => ?_
 have B2:=k1.bl.trans k2.bl
 have h2:=h.bl B2
 have x1:=Bl.box k2.bl k1.box
 have x2:=k2.box
 have y1:=k1.blk;have y2:=k2.blk
 have z1:=k1.bl.size;have z2:=k2.bl.size;have s1:=k1.size;have hXb:=h.box.lt
 refine ld (x1.cell rfl) ?_
 by_cases q1:i.op=1
 ·refine brT ?_ (hp:=q1)
  have ep:pshV X.m X.loc i l=some intT:=by rw [e0 (by omega)];unfold reqV;simp only [q1];rfl
  refine cl (d_Integer w2) ?_
  rintro _ w3 ⟨rfl,B3⟩
  refine sta (Bl.box B3 x2) fun w4 k4 x4 => ?_
  exact rtc2 (cs:=encTy intT) x4.at ⟨.yes ep,Below.trans (B2.trans B3) (k4.below (by omega))⟩
 refine brF ?_ (hp:=q1)
 by_cases q2:i.op=2
 ·refine brT ?_ (hp:=q2)
  have ep:pshV X.m X.loc i l=X.loc[i.a.toNat]? := by rw [e0 (by omega)];unfold reqV;simp only [q2];rfl
  obtain ⟨n,hn⟩:=Int.eq_ofNat_of_zero_le (ip.a0 (by omega))
  rw [hn,Int.toNat_natCast] at ep
  refine dh T (List.range 8) fun w3 k3 => ?_
  have B3:=B2.trans k3.bl
  have h3:=h.bl B3
  refine ld ((k3.box x1).cell rfl) ?_ (hm:=trivial)
  refine ld (h3.box.cell rfl) ?_ (hm:=trivial)
  by_cases hlt:n<X.loc.length
  ·refine brF ?_ (hp:=by omega)
   refine dht 2 T (List.range 8) fun w4 k4 => ?_
   have B4:=B3.trans k4.bl
   have h4:=h.bl B4
   obtain ⟨t,b5,o5,_,ht,e5,_,hA,rfl⟩:=at_some h4.ll hlt
   refine ld (h4.box.cell rfl) ?_ (hm:=trivial)
   refine ld ((k4.box (k3.box x1)).cell rfl) ?_ (hm:=trivial)
   rw [e5,hn]
   refine ix (j:=n) ?_
   refine lda hA ?_ (hm:=trivial)
   refine sta (k4.box (k3.box x2)) fun w5 k5 x5 => ?_
   exact rtc2 (cs:=encTy t) x5.at ⟨.yes (by rw [ep,ht]),Below.trans B4 (k5.below (by omega))⟩
  ·refine brT ?_ (hp:=by omega)
   refine bd ?_
   refine sta (k3.box x2) fun w5 k5 x5 => ?_
   exact rtc2 (cs:=encTy noT) x5.at ⟨.no (by rw [ep,List.getElem?_eq_none (by omega)]),Below.trans B3 (k5.below (by omega))⟩
 refine brF ?_ (hp:=q2)
 by_cases q3:i.op=3
 ·refine brT ?_ (hp:=q3)
  have hl1:=el1 3 q3 (by decide) (by decide)
  change l.length=1 at hl1
  obtain ⟨n,hn⟩:=Int.eq_ofNat_of_zero_le (ip.a0 (by omega))
  obtain ⟨t,b00,o00,_,ht,eb0,_,hA0,rfl⟩:=at_some hS (i:=0) (by omega)
  have g0:=getD_some (d:=noT) ht
  have tyt:=hty t (List.mem_of_getElem? ht)
  have lb0:=cell_lt (hA0 0 _ rfl)
  subst eb0
  have ep:pshV X.m X.loc i l=match X.loc[i.a.toNat]? with
   | some x=>if fitB X.m t x=true then some noT else none
   | none=>none:=by rw [e0 (by omega)];unfold reqV;simp only [q3,g0];rfl
  rw [hn,Int.toNat_natCast] at ep
  refine dh (fun j=>j≠b2) (List.range 29) fun w3 k3 => ?_
  have B3:=B2.trans k3.bl
  have h3:=h.bl B3
  refine bd (cs:=encTy noT) ?_
  refine ld ((k3.box x1).cell rfl) ?_ (hm:=by exact (show _≠b2 by omega))
  refine ld (h3.box.cell rfl) ?_ (hm:=by exact (show _≠b2 by omega))
  by_cases hlt:n<X.loc.length
  ·obtain ⟨u,b5,o5,_,hu,e5,l5,hA,rfl⟩:=at_some h3.ll hlt
   refine spt (.agg #[]) ?_ (hb:=by simp [hn];omega)
   refine lda h3.modAt ?_ (hm:=by exact (show _≠b2 by omega))
   refine spt (.agg #[]) ?_
   refine ix (j:=0) ?_
   refine spt (.agg #[]) ?_
   refine lda (hA0.bl B3) ?_ (hm:=by exact (show _≠b2 by omega))
   refine spt (.agg #[]) ?_
   refine ld (h3.box.cell rfl) ?_ (hm:=by exact (show _≠b2 by omega))
   refine spt (.agg #[]) ?_
   refine ld ((k3.box x1).cell rfl) ?_ (hm:=by exact (show _≠b2 by omega))
   refine spt (.agg #[]) ?_
   rw [e5,hn]
   refine ix (j:=n) ?_
   refine spt (.agg #[]) ?_
   refine lda hA ?_ (hm:=by exact (show _≠b2 by omega))
   refine spt (.agg #[]) ?_
   refine cl (d_fits X.m X.a t u w3 ip.P h3.T (tyA_clsA tyt)) ?_ (hm:=fun _ _ r=>mdW_bl r.2)
   rintro _ w4 ⟨rfl,B4⟩
   refine sta (Bl.box B4 (k3.box x2)) (fun w5 k5 x5 => ?_) (hm:=by exact wrS (fun z=>z rfl))
   refine rtc2 (cs:=encTy noT) x5.at ⟨.want ?_,Below.trans (B3.trans B4) (k5.below (by omega))⟩
   rw [ep,hu]
   have:(n:Int)<X.loc.length:=by omega
   simp [this]
  ·refine spn (.agg #[]) ?_ (hb:=by simp [hn];omega)
   refine spn (ptr 0) ?_ (hb:=by simp [hn];omega)
   refine spn (.agg #[]) ?_ (hb:=by simp [hn];omega)
   refine spn (.slice none 0 0) ?_ (hb:=by simp [hn];omega)
   refine spn (I 0) ?_ (hb:=by simp [hn];omega)
   refine spn (ptr 0) ?_ (hb:=by simp [hn];omega)
   refine spn (.agg #[]) ?_ (hb:=by simp [hn];omega)
   refine spn (.bool false) ?_ (hb:=by simp [hn];omega)
   refine sta (k3.box x2) (fun w5 k5 x5 => ?_) (hm:=by exact wrS (fun z=>z rfl))
   refine rtc2 (cs:=encTy noT) x5.at ⟨.want ?_,Below.trans B3 (k5.below (by omega))⟩
   rw [ep,List.getElem?_eq_none (by omega)]
   simp
 refine brF ?_ (hp:=q3)
 by_cases q5:i.op=5
 ·refine brT ?_ (hp:=q5)
  have hl1:=el1 5 q5 (by decide) (by decide)
  change l.length=1 at hl1
  obtain ⟨t,b00,o00,_,ht,eb0,_,hA0,rfl⟩:=at_some hS (i:=0) (by omega)
  have g0:=getD_some (d:=noT) ht
  have tyt:=hty t (List.mem_of_getElem? ht)
  have lb0:=cell_lt (hA0 0 _ rfl)
  subst eb0
  have ep:pshV X.m X.loc i l=some t:=by rw [e0 (by omega)];unfold reqV;simp only [q5,g0];rfl
  refine ix (j:=0) ?_
  refine lda (hA0.bl B2) ?_
  refine sta x2 fun w5 k5 x5 => ?_
  exact rtc2 (cs:=encTy t) x5.at ⟨.yes ep,Below.trans B2 (k5.below (by omega))⟩
 refine brF ?_ (hp:=q5)
 refine jn [66] [(0,ptr X.b),(2,.slice a l.length cap),(4,ptr b1),(6,ptr b2),(9,I i.op)] (fun vals w'=>∃ b,vals=[.bool b]/\(b=true↔6<=i.op/\i.op<=11)/\w2=w') (fun q go => ?_) (fun q6 go => ?_) ?_
 ·exact go ⟨decide (i.op=6),rfl,by have q':=of_decide_eq_true q;simp only [decide_eq_true_eq];omega,rfl⟩
 ·refine br (fun q => ?_) (fun q7 => ?_)
  ·exact go ⟨decide (i.op=7),rfl,by have q':=of_decide_eq_true q;simp only [decide_eq_true_eq];omega,rfl⟩
  refine br (fun q => ?_) (fun q8 => ?_)
  ·exact go ⟨decide (i.op=8),rfl,by have q':=of_decide_eq_true q;simp only [decide_eq_true_eq];omega,rfl⟩
  refine br (fun q => ?_) (fun q9 => ?_)
  ·exact go ⟨decide (i.op=9),rfl,by have q':=of_decide_eq_true q;simp only [decide_eq_true_eq];omega,rfl⟩
  refine br (fun q => ?_) (fun q10 => ?_)
  ·exact go ⟨decide (i.op=10),rfl,by have q':=of_decide_eq_true q;simp only [decide_eq_true_eq];omega,rfl⟩
  exact go ⟨decide (i.op=11),rfl,by have p6:=of_decide_eq_false q6;have p7:=of_decide_eq_false q7;have p8:=of_decide_eq_false q8;have p9:=of_decide_eq_false q9;have p10:=of_decide_eq_false q10;simp only [decide_eq_true_eq];omega,rfl⟩
 rintro _ _ ⟨bb,rfl,hbb,rfl⟩
 by_cases q6:6<=i.op/\i.op<=11
 ·refine brt ?_ (hp:=hbb.2 q6)
  have hl1:l.length=2:=by
   rw [hl,etk (by omega)]
   have:i.op=6∨i.op=7∨i.op=8∨i.op=9∨i.op=10∨i.op=11:=by omega
   rcases this with q | q | q | q | q | q <;> (rw [q];rfl)
  obtain ⟨t,b00,o00,_,ht,eb0,_,hA0,rfl⟩:=at_some hS (i:=0) (by omega)
  have g0:=getD_some (d:=noT) ht
  have tyt:=hty t (List.mem_of_getElem? ht)
  have lb0:=cell_lt (hA0 0 _ rfl)
  subst eb0
  obtain ⟨u,b01,o01,_,hu,eb1,_,hA1,rfl⟩:=at_some hS (i:=1) (by omega)
  have g1:=getD_some (d:=noT) hu
  have tyu:=hty u (List.mem_of_getElem? hu)
  have lb1:=cell_lt (hA1 0 _ rfl)
  simp only [Option.some.injEq,Addr.mk.injEq,and_true] at eb1
  obtain ⟨rfl,rfl⟩:=eb1
  have ep:pshV X.m X.loc i l=if t=intT/\u=intT then some intT else none:=by
   rw [e0 (by omega)];unfold reqV
   rw [if_neg (by omega),if_neg (by omega),if_neg (by omega),if_neg (by omega),if_pos q6,g0,g1]
  refine dh (fun j=>j≠b2) [1,2,3,0,4,5,6,7,8,9,10,11,12,13,14] fun w3 k3 => ?_
  have B3:=B2.trans k3.bl
  refine ix (j:=0) ?_
  refine lda (hA0.bl B3) ?_ (hm:=by exact (show _≠b2 by omega))
  refine cl (d_Integer w3) ?_ (hm:=fun _ _ r=>mdW_bl r.2)
  rintro _ w4 ⟨rfl,B4⟩
  refine cl (d_Integer w4) ?_ (hm:=fun _ _ r=>mdW_bl r.2)
  rintro _ w5 ⟨rfl,B5⟩
  refine eqA (b:=encTy intT) (fun w=>eq_ty t intT) ?_
  have B35:=B4.trans B5
  by_cases qt:t=intT
  ·refine spt (.agg #[]) ?_ (hb:=by simp [qt])
   refine ix (j:=1) ?_
   refine spt (.agg #[]) ?_
   refine lda (hA1.bl (B3.trans B35)) ?_ (hm:=by exact (show _≠b2 by omega))
   refine spt (.agg #[]) ?_
   refine cl (d_Integer w5) ?_ (hm:=fun _ _ r=>mdW_bl r.2)
   rintro _ w6 ⟨rfl,B6⟩
   refine spt (.agg #[]) ?_
   refine eqA (b:=encTy intT) (fun w=>eq_ty u intT) ?_
   refine sta (Bl.box (B35.trans B6) (k3.box x2)) (fun w7 k7 x7 => ?_) (hm:=by exact wrS (fun z=>z rfl))
   refine rtc2 (cs:=encTy intT) x7.at ⟨.want ?_,Below.trans ((B3.trans B35).trans B6) (k7.below (by omega))⟩
   rw [ep];simp [qt]
  ·refine spn (ptr 0) ?_ (hb:=by simp [qt])
   refine spn (.agg #[]) ?_ (hb:=by simp [qt])
   refine spn (.agg #[]) ?_ (hb:=by simp [qt])
   refine spn (.bool false) ?_ (hb:=by simp [qt])
   refine sta (Bl.box B35 (k3.box x2)) (fun w7 k7 x7 => ?_) (hm:=by exact wrS (fun z=>z rfl))
   refine rtc2 (cs:=encTy intT) x7.at ⟨.want ?_,Below.trans (B3.trans B35) (k7.below (by omega))⟩
   rw [ep];simp [qt]
 refine brf ?_ (hp:=by cases bb with | true=>exact absurd (hbb.1 rfl) q6 | false=>rfl)
 by_cases q12:i.op=12
 ·refine brT ?_ (hp:=q12)
  have ep:pshV X.m X.loc i l=some ⟨i.a,i.b⟩:=by rw [e0 (by omega)];unfold reqV;simp only [q12];rfl
  refine ld (x1.cell rfl) ?_
  by_cases q3':i.a=3
  ·refine brT ?_ (hp:=q3')
   refine bd (cs:=[I 3,I 0]) ?_
   refine sta x2 fun w5 k5 x5 => ?_
   refine rtc2 (cs:=encTy ⟨3,0⟩) x5.at ⟨.yes ?_,Below.trans B2 (k5.below (by omega))⟩
   rw [ep,q3',ip.nu q12 q3']
  ·refine brF ?_ (hp:=q3')
   refine ld (x1.cell rfl) ?_
   refine ld (x1.cell rfl) ?_
   refine bd (cs:=encTy ⟨i.a,i.b⟩) ?_
   refine sta x2 fun w5 k5 x5 => ?_
   exact rtc2 (cs:=encTy ⟨i.a,i.b⟩) x5.at ⟨.yes ep,Below.trans B2 (k5.below (by omega))⟩
 refine brF ?_ (hp:=q12)
 by_cases q13:i.op=13
 ·refine brT ?_ (hp:=q13)
  have hl1:=el1 13 q13 (by decide) (by decide)
  change l.length=1 at hl1
  obtain ⟨t,b00,o00,_,ht,eb0,_,hA0,rfl⟩:=at_some hS (i:=0) (by omega)
  have g0:=getD_some (d:=noT) ht
  have tyt:=hty t (List.mem_of_getElem? ht)
  have lb0:=cell_lt (hA0 0 _ rfl)
  subst eb0
  have ep:pshV X.m X.loc i l=if t=intT then none else some intT:=by rw [e0 (by omega)];unfold reqV;simp only [q13,g0];rfl
  refine dh (fun j=>j≠b2) [1,2,3,0,4,5,6,7] fun w3 k3 => ?_
  have B3:=B2.trans k3.bl
  refine ix (j:=0) ?_
  refine lda (hA0.bl B3) ?_ (hm:=by exact (show _≠b2 by omega))
  refine cl (d_Integer w3) ?_ (hm:=fun _ _ r=>mdW_bl r.2)
  rintro _ w4 ⟨rfl,B4⟩
  refine cl (d_Integer w4) ?_ (hm:=fun _ _ r=>mdW_bl r.2)
  rintro _ w5 ⟨rfl,B5⟩
  refine neA (b:=encTy intT) (fun w=>eq_ty t intT) ?_
  refine sta (Bl.box (B4.trans B5) (k3.box x2)) (fun w7 k7 x7 => ?_) (hm:=by exact wrS (fun z=>z rfl))
  refine rtc2 (cs:=encTy intT) x7.at ⟨.want ?_,Below.trans ((B3.trans B4).trans B5) (k7.below (by omega))⟩
  rw [ep]
  by_cases qt:t=intT <;> simp [qt]
 refine brF ?_ (hp:=q13)
 by_cases q14:i.op=14
 ·refine brT ?_ (hp:=q14)
  have ep:pshV X.m X.loc i l=some ⟨2,i.a⟩:=by rw [e0 (by omega)];unfold reqV;simp only [q14];rfl
  refine ld (x1.cell rfl) ?_
  refine bd (cs:=encTy ⟨2,i.a⟩) ?_
  refine sta x2 fun w5 k5 x5 => ?_
  exact rtc2 (cs:=encTy ⟨2,i.a⟩) x5.at ⟨.yes ep,Below.trans B2 (k5.below (by omega))⟩
 refine brF ?_ (hp:=q14)
 by_cases q15:i.op=15
 ·refine brT ?_ (hp:=q15)
  have ep:pshV X.m X.loc i l=some ⟨3,0⟩:=by rw [e0 (by omega)];unfold reqV;simp only [q15];rfl
  refine bd (cs:=[I 3,I 0]) ?_
  refine sta x2 fun w5 k5 x5 => ?_
  exact rtc2 (cs:=encTy ⟨3,0⟩) x5.at ⟨.yes ep,Below.trans B2 (k5.below (by omega))⟩
 refine brF ?_ (hp:=q15)
 by_cases q16:i.op=16
 ·refine brT ?_ (hp:=q16)
  have ep:pshV X.m X.loc i l=some ⟨4,i.b⟩:=by rw [e0 (by omega)];unfold reqV;simp only [q16];rfl
  refine ld (x1.cell rfl) ?_
  refine bd (cs:=encTy ⟨4,i.b⟩) ?_
  refine sta x2 fun w5 k5 x5 => ?_
  exact rtc2 (cs:=encTy ⟨4,i.b⟩) x5.at ⟨.yes ep,Below.trans B2 (k5.below (by omega))⟩
 refine brF ?_ (hp:=q16)
 by_cases q22:i.op=22
 ·refine brT ?_ (hp:=q22)
  have ep:pshV X.m X.loc i l=some (staA X.m i.a):=by rw [e0 (by omega)];unfold reqV;simp only [q22];rfl
  obtain ⟨s,hs,es,tys⟩:=staA_ty ip.P (ip.a0 (by omega)) (ip.sta (by omega))
  obtain ⟨n,hn⟩:=Int.eq_ofNat_of_zero_le (ip.a0 (by omega))
  rw [hn,Int.toNat_natCast] at hs
  have hsl:=(List.getElem?_eq_some_iff.1 hs).1
  refine dht 2 T (List.range 9) fun w3 k3 => ?_
  have B3:=B2.trans k3.bl
  have h3:=h.bl B3
  have hsb:=h3.mod.sta.big
  obtain ⟨s',b5,o5,_,hs',e5,l5,hA,rfl⟩:=at_some h3.lo.sta hsl
  obtain rfl:s'=s:=Option.some.inj (hs'.symm.trans hs)
  refine ld (h3.box.cell rfl) ?_ (hm:=trivial)
  refine ld ((k3.box x1).cell rfl) ?_ (hm:=trivial)
  rw [e5,hn]
  refine ix (j:=n) ?_
  refine lda hA ?_ (hm:=trivial)
  refine sta (k3.box x2) fun w5 k5 x5 => ?_
  exact rtc2 (cs:=encTy s') x5.at ⟨.yes (by rw [ep,es]),Below.trans B3 (k5.below (by omega))⟩
 refine brF ?_ (hp:=q22)
 by_cases q23:i.op=23
 ·refine brT ?_ (hp:=q23)
  have hl1:=el1 23 q23 (by decide) (by decide)
  change l.length=1 at hl1
  obtain ⟨t,b00,o00,_,ht,eb0,_,hA0,rfl⟩:=at_some hS (i:=0) (by omega)
  have g0:=getD_some (d:=noT) ht
  have tyt:=hty t (List.mem_of_getElem? ht)
  have lb0:=cell_lt (hA0 0 _ rfl)
  subst eb0
  have ep:pshV X.m X.loc i l=if fitB X.m t (staA X.m i.a)=true then some noT else none:=by rw [e0 (by omega)];unfold reqV;simp only [q23,g0];rfl
  obtain ⟨s,hs,es,tys⟩:=staA_ty ip.P (ip.a0 (by omega)) (ip.sta (by omega))
  obtain ⟨n,hn⟩:=Int.eq_ofNat_of_zero_le (ip.a0 (by omega))
  rw [hn,Int.toNat_natCast] at hs
  have hsl:=(List.getElem?_eq_some_iff.1 hs).1
  refine dh (fun j=>j≠b2) (List.range 20) fun w3 k3 => ?_
  have B3:=B2.trans k3.bl
  have h3:=h.bl B3
  have hsb:=h3.mod.sta.big
  obtain ⟨s',b5,o5,_,hs',e5,l5,hA,rfl⟩:=at_some h3.lo.sta hsl
  obtain rfl:s'=s:=Option.some.inj (hs'.symm.trans hs)
  refine bd (cs:=encTy noT) ?_
  refine lda h3.modAt ?_ (hm:=by exact (show _≠b2 by omega))
  refine ix (j:=0) ?_
  refine lda (hA0.bl B3) ?_ (hm:=by exact (show _≠b2 by omega))
  refine ld (h3.box.cell rfl) ?_ (hm:=by exact (show _≠b2 by omega))
  refine ld ((k3.box x1).cell rfl) ?_ (hm:=by exact (show _≠b2 by omega))
  rw [e5,hn]
  refine ix (j:=n) ?_
  refine lda hA ?_ (hm:=by exact (show _≠b2 by omega))
  refine cl (d_fits X.m X.a t s' w3 ip.P h3.T (tyA_clsA tyt)) ?_ (hm:=fun _ _ r=>mdW_bl r.2)
  rintro _ w4 ⟨rfl,B4⟩
  refine sta (Bl.box B4 (k3.box x2)) (fun w5 k5 x5 => ?_) (hm:=by exact wrS (fun z=>z rfl))
  exact rtc2 (cs:=encTy noT) x5.at ⟨.want (by rw [ep,es]),Below.trans (B3.trans B4) (k5.below (by omega))⟩
 refine brF ?_ (hp:=q23)
 refine jn [149] [(0,ptr X.b),(2,.slice a l.length cap),(4,ptr b1),(6,ptr b2),(9,I i.op)] (fun vals w'=>∃ b,vals=[.bool b]/\(b=true↔i.op=27∨i.op=29)/\w2=w') (fun q go => ?_) (fun q27 go => ?_) ?_
 ·exact go ⟨decide (i.op=27),rfl,by have q':=of_decide_eq_true q;simp only [decide_eq_true_eq];omega,rfl⟩
 ·exact go ⟨decide (i.op=29),rfl,by have p27:=of_decide_eq_false q27;simp only [decide_eq_true_eq];omega,rfl⟩
 rintro _ _ ⟨bb,rfl,hbb,rfl⟩
 by_cases q27:i.op=27∨i.op=29
 ·refine brt ?_ (hp:=hbb.2 q27)
  have hl1:l.length=1:=by
   rw [hl,etk (by omega)]
   rcases q27 with q | q <;> (rw [q];rfl)
  obtain ⟨t,b00,o00,_,ht,eb0,_,hA0,rfl⟩:=at_some hS (i:=0) (by omega)
  have g0:=getD_some (d:=noT) ht
  have tyt:=hty t (List.mem_of_getElem? ht)
  have lb0:=cell_lt (hA0 0 _ rfl)
  subst eb0
  have ep:pshV X.m X.loc i l=if t=intT then some noT else none:=by
   rw [e0 (by omega)];unfold reqV
   rcases q27 with q | q <;> (simp only [q,g0];rfl)
  refine dh (fun j=>j≠b2) (List.range 8) fun w3 k3 => ?_
  have B3:=B2.trans k3.bl
  refine bd (cs:=encTy noT) ?_
  refine ix (j:=0) ?_
  refine lda (hA0.bl B3) ?_ (hm:=by exact (show _≠b2 by omega))
  refine cl (d_Integer w3) ?_ (hm:=fun _ _ r=>mdW_bl r.2)
  rintro _ w5 ⟨rfl,B5⟩
  refine eqA (b:=encTy intT) (fun w=>eq_ty t intT) ?_
  refine sta (Bl.box B5 (k3.box x2)) (fun w7 k7 x7 => ?_) (hm:=by exact wrS (fun z=>z rfl))
  refine rtc2 (cs:=encTy noT) x7.at ⟨.want ?_,Below.trans (B3.trans B5) (k7.below (by omega))⟩
  rw [ep];simp
 refine brf ?_ (hp:=by cases bb with | true=>exact absurd (hbb.1 rfl) q27 | false=>rfl)
 by_cases q30:i.op=30
 ·refine brT ?_ (hp:=q30)
  have hl1:=el1 30 q30 (by decide) (by decide)
  change l.length=1 at hl1
  obtain ⟨t,b00,o00,_,ht,eb0,_,hA0,rfl⟩:=at_some hS (i:=0) (by omega)
  have g0:=getD_some (d:=noT) ht
  have tyt:=hty t (List.mem_of_getElem? ht)
  have lb0:=cell_lt (hA0 0 _ rfl)
  subst eb0
  have ep:pshV X.m X.loc i l=if t=intT/\X.loc[i.b.toNat]? = some intT then some noT else none:=by rw [e0 (by omega)];unfold reqV;simp only [q30,g0];rfl
  obtain ⟨n,hn⟩:=Int.eq_ofNat_of_zero_le ip.b0
  rw [hn,Int.toNat_natCast] at ep
  refine dh (fun j=>j≠b2) (List.range 30) fun w3 k3 => ?_
  have B3:=B2.trans k3.bl
  refine bd (cs:=encTy noT) ?_
  refine ix (j:=0) ?_
  refine lda (hA0.bl B3) ?_ (hm:=by exact (show _≠b2 by omega))
  refine cl (d_Integer w3) ?_ (hm:=fun _ _ r=>mdW_bl r.2)
  rintro _ w5 ⟨rfl,B5⟩
  have B05:=B3.trans B5
  have h5:=h.bl B05
  have x15:=Bl.box B5 (k3.box x1)
  refine eqA (b:=encTy intT) (fun w=>eq_ty t intT) ?_
  by_cases qt:t=intT
  ·refine spt (.agg #[]) ?_ (hb:=by simp [qt])
   refine ld (x15.cell rfl) ?_ (hm:=by exact (show _≠b2 by omega))
   refine spt (.agg #[]) ?_
   refine ld (h5.box.cell rfl) ?_ (hm:=by exact (show _≠b2 by omega))
   by_cases hlt:n<X.loc.length
   ·obtain ⟨u,b6,o6,_,hu,e6,l6,hA,rfl⟩:=at_some h5.ll hlt
    refine spt (.agg #[]) ?_ (hb:=by simp [qt,hn];omega)
    refine ld (h5.box.cell rfl) ?_ (hm:=by exact (show _≠b2 by omega))
    refine spt (.agg #[]) ?_
    refine ld (x15.cell rfl) ?_ (hm:=by exact (show _≠b2 by omega))
    refine spt (.agg #[]) ?_
    rw [e6,hn]
    refine ix (j:=n) ?_
    refine spt (.agg #[]) ?_
    refine lda hA ?_ (hm:=by exact (show _≠b2 by omega))
    refine spt (.agg #[]) ?_
    refine cl (d_Integer w5) ?_ (hm:=fun _ _ r=>mdW_bl r.2)
    rintro _ w6 ⟨rfl,B6⟩
    refine spt (.agg #[]) ?_
    refine eqA (b:=encTy intT) (fun w=>eq_ty u intT) ?_
    refine sta (Bl.box (B5.trans B6) (k3.box x2)) (fun w7 k7 x7 => ?_) (hm:=by exact wrS (fun z=>z rfl))
    refine rtc2 (cs:=encTy noT) x7.at ⟨.want ?_,Below.trans (B05.trans B6) (k7.below (by omega))⟩
    rw [ep,hu];simp [qt]
   ·refine spn (.slice none 0 0) ?_ (hb:=by simp [qt,hn];omega)
    refine spn (I 0) ?_ (hb:=by simp [qt,hn];omega)
    refine spn (ptr 0) ?_ (hb:=by simp [qt,hn];omega)
    refine spn (.agg #[]) ?_ (hb:=by simp [qt,hn];omega)
    refine spn (.agg #[]) ?_ (hb:=by simp [qt,hn];omega)
    refine spn (.bool false) ?_ (hb:=by simp [qt,hn];omega)
    refine sta (Bl.box B5 (k3.box x2)) (fun w7 k7 x7 => ?_) (hm:=by exact wrS (fun z=>z rfl))
    refine rtc2 (cs:=encTy noT) x7.at ⟨.want ?_,Below.trans B05 (k7.below (by omega))⟩
    rw [ep,List.getElem?_eq_none (by omega)];simp
  ·refine spn (I 0) ?_ (hb:=by simp [qt])
   refine spn (.slice none 0 0) ?_ (hb:=by simp [qt])
   refine spn (.slice none 0 0) ?_ (hb:=by simp [qt])
   refine spn (I 0) ?_ (hb:=by simp [qt])
   refine spn (ptr 0) ?_ (hb:=by simp [qt])
   refine spn (.agg #[]) ?_ (hb:=by simp [qt])
   refine spn (.agg #[]) ?_ (hb:=by simp [qt])
   refine spn (.bool false) ?_ (hb:=by simp [qt])
   refine sta (Bl.box B5 (k3.box x2)) (fun w7 k7 x7 => ?_) (hm:=by exact wrS (fun z=>z rfl))
   refine rtc2 (cs:=encTy noT) x7.at ⟨.want ?_,Below.trans B05 (k7.below (by omega))⟩
   rw [ep];simp [qt]
 refine brF ?_ (hp:=q30)
 refine jn [188] [(0,ptr X.b),(2,.slice a l.length cap),(4,ptr b1),(6,ptr b2),(9,I i.op)] (fun vals w'=>∃ b,vals=[.bool b]/\(b=true↔(17<=i.op/\i.op<=21)∨i.op=24)/\w2=w') (fun q go => ?_) (fun q17 go => ?_) ?_
 ·exact go ⟨decide (i.op=17),rfl,by have q':=of_decide_eq_true q;simp only [decide_eq_true_eq];omega,rfl⟩
 ·refine br (fun q => ?_) (fun q18 => ?_)
  ·exact go ⟨decide (i.op=18),rfl,by have q':=of_decide_eq_true q;simp only [decide_eq_true_eq];omega,rfl⟩
  refine br (fun q => ?_) (fun q19 => ?_)
  ·exact go ⟨decide (i.op=19),rfl,by have q':=of_decide_eq_true q;simp only [decide_eq_true_eq];omega,rfl⟩
  refine br (fun q => ?_) (fun q20 => ?_)
  ·exact go ⟨decide (i.op=20),rfl,by have q':=of_decide_eq_true q;simp only [decide_eq_true_eq];omega,rfl⟩
  refine br (fun q => ?_) (fun q21 => ?_)
  ·exact go ⟨decide (i.op=21),rfl,by have q':=of_decide_eq_true q;simp only [decide_eq_true_eq];omega,rfl⟩
  exact go ⟨decide (i.op=24),rfl,by have p17:=of_decide_eq_false q17;have p18:=of_decide_eq_false q18;have p19:=of_decide_eq_false q19;have p20:=of_decide_eq_false q20;have p21:=of_decide_eq_false q21;simp only [decide_eq_true_eq];omega,rfl⟩
 rintro _ _ ⟨bb,rfl,hbb,rfl⟩
 by_cases q17:(17<=i.op/\i.op<=21)∨i.op=24
 ·refine brt ?_ (hp:=hbb.2 q17)
  refine lda x1.at ?_
  refine cl (d_reference (cap:=cap) h2 ip q17 hl (hS.bl B2) hty) ?_
  rintro _ w3 ⟨⟨t,bl,rfl,p1,p2⟩,B3⟩
  refine sta (Bl.box B3 x2) fun w4 k4 x4 => ?_
  exact rtc2 (cs:=encTy t) x4.at ⟨⟨t,bl,rfl,p1,p2⟩,Below.trans (B2.trans B3) (k4.below (by omega))⟩
 refine brf ?_ (hp:=by cases bb with | true=>exact absurd (hbb.1 rfl) q17 | false=>rfl)
 refine jn [201] [(0,ptr X.b),(2,.slice a l.length cap),(4,ptr b1),(6,ptr b2),(9,I i.op)] (fun vals w'=>∃ b,vals=[.bool b]/\(b=true↔i.op=25∨i.op=26)/\w2=w') (fun q go => ?_) (fun q25 go => ?_) ?_
 ·exact go ⟨decide (i.op=25),rfl,by have q':=of_decide_eq_true q;simp only [decide_eq_true_eq];omega,rfl⟩
 ·exact go ⟨decide (i.op=26),rfl,by have p25:=of_decide_eq_false q25;simp only [decide_eq_true_eq];omega,rfl⟩
 rintro _ _ ⟨bb,rfl,hbb,rfl⟩
 by_cases q25:i.op=25∨i.op=26
 ·refine brt ?_ (hp:=hbb.2 q25)
  refine lda x1.at ?_
  refine cl (d_called (cap:=cap) h2 ip q25 hl (hS.bl B2) hty) ?_
  rintro _ w3 ⟨⟨t,bl,rfl,p1,p2⟩,B3⟩
  refine sta (Bl.box B3 x2) fun w4 k4 x4 => ?_
  exact rtc2 (cs:=encTy t) x4.at ⟨⟨t,bl,rfl,p1,p2⟩,Below.trans (B2.trans B3) (k4.below (by omega))⟩
 refine brf ?_ (hp:=by cases bb with | true=>exact absurd (hbb.1 rfl) q25 | false=>rfl)
 refine bd ?_
 refine sta x2 fun w4 k4 x4 => ?_
 refine rtc2 (cs:=encTy noT) x4.at ⟨.yes ?_,Below.trans B2 (k4.below (by omega))⟩
 rw [e0 q25]
 have q:i.op=0∨i.op=4∨i.op=28∨i.op=31∨i.op=32∨i.op=33:=by omega
 unfold reqV
 rcases q with q | q | q | q | q | q <;> (simp only [q];rfl)
end Go.Proofs.YtdjkoljonlcemaaGreat

/- Walks: a step of the document's pass, and the end of the code. -/
namespace Go.Proofs.YtdjkoljonlcemaaGreat
open Eng Go.RowKit
variable {w:World} {X:CX} {i:Ins}
theorem tak_le (ip:InsP X.m X.loc i):takV X.m i<=1000/\putV X.m i<=2:=by
 have h0:=ip.op0;have h1:=ip.op1
 by_cases q:i.op=25∨i.op=26
 ·have e1:takV X.m i=(parV X.m i).length:=if_pos q
  have e2:putV X.m i=if (resV X.m i).kind=0 then 0 else 1:=if_pos q
  rw [e1,e2]
  refine ⟨?_,by split <;> omega⟩
  unfold parV
  cases ht:tgtV X.m i with
  | none=>simp
  | some n =>
   obtain ⟨n0,n1⟩:=ip.tgt q ht
   obtain ⟨x,hx,_,ep⟩:=resM_ty ip.P n0 n1
   have:=(ip.P.mth _ x hx).pl
   simp only [ep,List.length_append]
   split <;> simp <;> omega
 ·obtain ⟨e1,e2⟩:=tak_of (X:=X) q
  rw [e1,e2]
  obtain ⟨n,hn⟩:=Int.eq_ofNat_of_zero_le h0
  have hlt:n<36:=by omega
  have:∀ n:Fin 36,(cntT.getD n.1 (0,0)).1<=1000/\(cntT.getD n.1 (0,0)).2<=2:=by decide
  have:=this ⟨n,hlt⟩
  rw [hn];simpa using this
theorem StpD.bl {w1 w':World} {e':Int} (B:Bl w w1) (h:StpD X w1 i e' w'):StpD X w i e' w':=by
 obtain ⟨c,h⟩:=h
 refine ⟨(B.chg _).trans c,?_⟩
 rcases h with ⟨he,oa,oc,ops,sa,sc,st,h1,h2,h3⟩ | h
 ·exact .inl ⟨he,oa,oc,ops,sa,sc,st,h1,fun g hg=>(h2 g hg).imp id fun q=>Nat.le_trans B.size q,h3⟩
 ·exact .inr h
structure PkO (w:World) (X:CX) (w':World) (base:Nat) (sa:Option Addr) (sc:Nat) (st:List Ty):Prop where
 ch:Chg X.at w w'
 box:Box w' X.b 158 (pkc (X.put sa sc st))
 ow:OwP 2 encTy w' base 42 sa sc st
 le:base<=w'.heap.size
theorem Chg.apn {bs:Nat->Prop} {w w1 w2:World} {a:Option Addr} (h:Chg bs w w1) (A:Ap w1 a w2) (ha:∀ g,a=some ⟨g,0,none⟩->w.heap.size<=g):Chg bs w w2 :=
 ⟨A.os.trans h.os,A.tape.trans h.tape,A.output.trans h.output,Nat.le_trans h.size A.size,fun i hi hn=>(A.block i (Nat.lt_of_lt_of_le hi h.size) fun z=>by have:=ha i z;omega).trans (h.block i hi hn)⟩
theorem PkO.pk {w':World} {base:Nat} {sa:Option Addr} {sc:Nat} {st:List Ty} (h:PkR w X) (k:PkO w X w' base sa sc st) (hb:w.heap.size<=base) (hl:st.length<=4194304):PkR w' (X.put sa sc st):=by
 have hX:=h.box.lt
 have kl:Kp (· < X.b) w w':=k.ch.kp.sub fun _ hi=>Nat.ne_of_lt hi
 have hoa:∀ g,X.oa=some ⟨g,0,none⟩->X.b+1<=g/\g<w.heap.size:=fun g hg=>h.op.lt hg
 refine ⟨k.box,h.lo.kp kl,h.ll.kp kl,owp_sl k.ow hl fun g hg => ?_,h.op.chg k.ch (fun g hg q=>by have:=(hoa g hg).1;simp only [CX.at] at q;omega) fun _ hi=>hi.1,k.ow.capn.1,fun i hi=>h.gn i (Nat.le_trans k.ch.size hi),h.gb⟩
 have:=(k.ow.lt hg).1
 exact ⟨by show g≠X.b;omega,fun z=>by have:=(hoa g z).2;omega,h.gn _ (by omega)⟩
set_option maxHeartbeats 8000000 in
theorem d_step (h:PkR w X) (I':VInv X.m ⟨X.st,X.ops⟩) (ip:InsP X.m X.loc i) (hne:i.op=34∨i.op=35->X.ops≠[]) (hbig:X.ops.length<=120):Ret Tryz.prog 60 #[ptr X.b,.agg (encIns i).toArray] w fun v w'=>∃ e',v=I e'/\StpD X w i e' w':=by
 have hX:=h.box.lt
 have hop1:=ip.op1
 have hle:=I'.le
 simp only at hle
 obtain ⟨ht1,ht2⟩:=tak_le ip
 have hoa:∀ g,X.oa=some ⟨g,0,none⟩->X.b+1<=g/\g<w.heap.size:=fun g hg=>h.op.lt hg
 refine entr (vs:=[ptr X.b,.agg (encIns i).toArray]) [0,1,3,4,5,6,7,8,9,10,18,44,58,71,91] tabok Tryz.func60 (by kernel_rfl) ?_
 refine bx (cs:=encIns i) fun b1 w1 k1 => ?_
 have h1:=h.bl k1.bl
 have y1:=k1.blk;have s1:=k1.size
 refine ld (k1.box.cell rfl) ?_
 refine ldg (fun _=>k1.box.cell rfl) ?_
 by_cases q:i.op=34∨i.op=35
 ·refine brt ?_ (hp:=by rcases q with q | q <;> simp [q])
  refine lda k1.box.at ?_
  refine cl (d_closes h1 q (hne q) hbig) ?_
  rintro _ w2 ⟨e',rfl,hS⟩
  exact rt1 ⟨e',rfl,hS.bl k1.bl⟩
 have hq:¬i.op=34/\¬i.op=35:=⟨fun z=>q (.inl z),fun z=>q (.inr z)⟩
 refine brf ?_ (hp:=by simp [hq.1,hq.2])
 refine lda k1.box.at ?_
 refine cl (d_counts h1 ip (by omega)) ?_
 rintro _ w2 ⟨rfl,B2⟩
 have B02:=k1.bl.trans B2
 have h2:=h.bl B02
 have x12:=Bl.box B2 k1.box
 refine ld (h2.box.cell rfl) ?_
 refine cl (d_base h2 hbig) ?_
 rintro _ w3 ⟨rfl,e3⟩
 obtain rfl:=e3.symm
 have ew:IntKind.i64.wrap ((X.st.length:Int)-takV X.m i)=(X.st.length:Int)-takV X.m i:=by rw [IntKind.wrap_i64];omega
 have ew2:IntKind.i64.wrap ((X.st.length:Int)-takV X.m i+putV X.m i)=(X.st.length:Int)-takV X.m i+putV X.m i:=by rw [IntKind.wrap_i64];omega
 have key:(decide (IntKind.i64.wrap ((X.st.length:Int)-takV X.m i)<(bseV X.ops:Int))||decide (12<IntKind.i64.wrap (IntKind.i64.wrap ((X.st.length:Int)-takV X.m i)+putV X.m i)))=decide (badV ⟨X.st,X.ops⟩ (takV X.m i) (putV X.m i)):=by
  rw [ew,ew2,<-Bool.decide_or]
  refine decide_eq_decide.2 ?_
  unfold badV
  simp only
  omega
 have hno:stkV X.m X.loc ⟨X.st,X.ops⟩ i=none->stpV X.m X.loc ⟨X.st,X.ops⟩ i=none:=fun z=>by unfold stpV;rw [if_neg hq.1,if_neg hq.2,z]
 by_cases hb:badV ⟨X.st,X.ops⟩ (takV X.m i) (putV X.m i)
 ·refine brt ?_ (hp:=by rw [key];exact decide_eq_true hb)
  exact rt1 ⟨12,rfl,B02.chg _,.inr ⟨by decide,hno (by unfold stkV;exact if_pos hb)⟩⟩
 refine brf ?_ (hp:=by rw [key];exact decide_eq_false hb)
 have hlen:takV X.m i<=X.st.length:=by unfold badV at hb;simp only at hb;omega
 have hst12:X.st.length-takV X.m i+putV X.m i<=12:=by unfold badV at hb;simp only at hb;omega
 have hcap:=h.cap
 have el:IntKind.i64.wrap ((X.st.length:Int)-takV X.m i)=((X.st.length-takV X.m i:Nat):Int):=by rw [ew];omega
 have hd:(X.st.drop (X.st.length-takV X.m i)).length=X.st.length-(X.st.length-takV X.m i):=List.length_drop ..
 have hd2:(X.st.drop (X.st.length-takV X.m i)).length=takV X.m i:=by rw [hd];omega
 have hty:∀ t∈X.st.drop (X.st.length-takV X.m i),tyA X.m t:=fun t ht=>I'.ty t (List.mem_of_mem_drop ht)
 have hpsh:∀ (w5:World) (a5:Option Addr) (c5:Nat),Bl w w5->Sl eTy T w5 a5 (X.st.drop (X.st.length-takV X.m i))->Ret Tryz.prog 95 #[ptr X.b,.agg (encIns i).toArray,.slice a5 (X.st.drop (X.st.length-takV X.m i)).length c5] w5 fun v w'=>PshQ (pshV X.m X.loc i (X.st.drop (X.st.length-takV X.m i))) v/\Bl w5 w':=fun w5 a5 c5 B hS =>
  d_pushed (h.bl B) ip (by omega) hd2 hS hty
 refine cut [8,9] [(0,ptr X.b),(3,ptr b1),(6,I (putV X.m i)),(7,.int .i64 (IntKind.i64.wrap ((X.st.length:Int)-takV X.m i)))] (fun vals w'=>∃ b8 t bl,vals=[ptr b8,.bool bl]/\Box w' b8 42 (encTy t)/\w2.heap.size<=b8/\Bl w2 w' /\
   (bl=true->pshV X.m X.loc i (X.st.drop (X.st.length-takV X.m i))=some t)/\(bl=false->pshV X.m X.loc i (X.st.drop (X.st.length-takV X.m i))=none)) (fun go => ?_) ?_
 ·refine dhb (· < w2.heap.size) (.row [0,1,2,3,4,5,6,7] (.two 8 (.row [9,10,11,12,13,14] .done) 12 (.row [8,9,10,11,13,14] .done))) fun w4 k4 => ?_
  have z4:w4.heap.size=w2.heap.size:=by rw [k4.heap]
  have h4:=h2.bl k4.bl
  have x14:=k4.box x12
  have l14:=x14.lt
  have lX:=h4.box.lt
  refine lda x14.at ?_ (hm:=by show b1<_;omega)
  refine ld (h4.box.cell rfl) ?_ (hm:=by show X.b<_;omega)
  refine sl (X.st.length-takV X.m i) X.st.length ?_ (h1:=by exact ⟨_,congrArg _ el⟩)
  rw [<-hd]
  have S4:Sl eTy T w4 _ (X.st.drop (X.st.length-takV X.m i)):=(sl_from h4.st hcap (X.st.length-takV X.m i)).sub fun _ _=>trivial
  refine bt ?_ ?_
  ·refine cl (hpsh w4 _ _ (B02.trans k4.bl) S4) ?_ (hm:=fun _ _ r=>mdW_bl r.2)
   rintro _ w5 ⟨⟨t,bl,rfl,p1,p2⟩,B5⟩
   refine al fun b8 w6 k6 => ?_
   have y6:=k6.blk
   have z5:=B5.size
   refine sta (cs':=encTy t) k6.box (fun w7 k7 x7 => ?_) (hm:=wrB (by show ¬b8<_;omega))
   exact go ⟨b8,t,bl,rfl,x7,by omega,(k4.bl.trans B5).trans (k6.wr k7),p1,p2⟩
  ·refine al fun b8 w5 k5 => ?_
   have y5:=k5.blk
   have z5:=k5.size
   refine cl (hpsh w5 _ _ ((B02.trans k4.bl).trans k5.bl) (S4.bl k5.bl)) ?_ (hm:=fun _ _ r=>mdW_bl r.2)
   rintro _ w6 ⟨⟨t,bl,rfl,p1,p2⟩,B6⟩
   refine sta (cs':=encTy t) (Bl.box B6 k5.box) (fun w7 k7 x7 => ?_) (hm:=wrB (by show ¬b8<_;omega))
   exact go ⟨b8,t,bl,rfl,x7,by omega,Below.trans ((k4.bl.trans k5.bl).trans B6) (k7.below (by omega)),p1,p2⟩
 rintro _ w4 ⟨b8,t,bl,rfl,x8,hb8,B24,p1,p2⟩
 have B04:=B02.trans B24
 have h4:=h.bl B04
 have x14:=Bl.box B24 x12
 have l8:=x8.lt
 have l1:=x12.lt
 cases bl with
 | false =>
  refine brt ?_
  exact rt1 ⟨11,rfl,B04.chg _,.inr ⟨by decide,hno (by unfold stkV;rw [if_neg hb];simp only [p2 rfl])⟩⟩
 | true =>
  refine brf ?_
  have hp:=p1 rfl
  have hstk:stkV X.m X.loc ⟨X.st,X.ops⟩ i=some (X.st.take (X.st.length-takV X.m i)++List.replicate (putV X.m i) t):=by unfold stkV;rw [if_neg hb];simp only [hp]
  refine ld (h4.box.cell rfl) ?_
  refine sl 0 (X.st.length-takV X.m i) ?_ (h2:=by exact ⟨_,congrArg _ el⟩)
  rw [add_zero_a,Nat.sub_zero,Nat.sub_zero]
  have htk:(X.st.take (X.st.length-takV X.m i)).length=X.st.length-takV X.m i:=by rw [List.length_take];omega
  rw [<-htk]
  refine cl (d_copied (X.st.take (X.st.length-takV X.m i)) X.sa X.sc X.S w4 (sl_take h4.st _)) ?_
  rintro _ w5 ⟨a5,c5,rfl,O5,B5⟩
  refine st (h4.box |> Bl.box B5) fun w6 k6 x6 => ?_
  have c06:Chg X.at w w6:=((B04.trans B5).chg _).trans (k6.chg rfl)
  have hb5:∀ g,a5=some ⟨g,0,none⟩->w4.heap.size<=g:=fun g hg=>(O5.lt hg).1
  have z04:=B04.size;have z5:=B5.size
  have P6:PkO w X w6 w4.heap.size a5 c5 (X.st.take (X.st.length-takV X.m i)++List.replicate 0 t):=by
   rw [List.replicate_zero,List.append_nil]
   refine ⟨c06,?_,O5.wr k6 fun g hg z=>by have:=hb5 g hg;omega,by rw [k6.size];exact z5⟩
   exact x6
  refine lpk (putV X.m i) 10 [] [(0,ptr X.b),(3,ptr b1),(6,I (putV X.m i)),(8,ptr b8)] (fun j vals w'=>vals=[]/\∃ sa sc,PkO w X w' w4.heap.size sa sc (X.st.take (X.st.length-takV X.m i)++List.replicate j t)/\Box w' b8 42 (encTy t)/\Box w' b1 53 (encIns i)) ⟨rfl,a5,c5,P6,k6.box (Bl.box B5 x8) (by omega),k6.box (Bl.box B5 x14) (by omega)⟩ ?_
  rintro j vals w7 hj ⟨rfl,sa,sc,P7,x87,x17⟩ ih
  have hsl:(X.st.take (X.st.length-takV X.m i)++List.replicate j t).length=X.st.length-takV X.m i+j:=by rw [List.length_append,htk,List.length_replicate]
  by_cases hlt:j<putV X.m i
  ·refine brT ?_
   have hsa:∀ g,sa=some ⟨g,0,none⟩->w4.heap.size<=g:=fun g hg=>(P7.ow.lt hg).1
   refine dht 3 (fun k=>sa≠some ⟨k,0,none⟩) (List.range 8) fun w8 k8 => ?_
   have hX8:=k8.box P7.box
   refine ld (hX8.cell rfl) ?_ (hm:=fun z=>by have:=hsa _ z;omega)
   refine lda (k8.box x87).at ?_ (hm:=fun z=>by have:=hsa _ z;omega)
   refine bs (cs:=encTy t) fun b9 w9 k9 => ?_
   have B79:=k8.bl.trans k9.bl
   have z7:=P7.ch.size
   have z79:=B79.size
   have zz:w4.heap.size<=w9.heap.size:=Nat.le_trans P7.le z79
   refine apl (l1:=[t]) (P7.ow.bl B79) (.inr ⟨b9,0,rfl,k9.box.at⟩) zz (fun a10 c10 w10 O10 A10 f10 => ?_) (hm:=by exact apS fun g hg (q:sa≠some ⟨g,0,none⟩)=>q hg) (hb:=by rw [hsl,List.length_singleton];omega) (hn:=by rw [hsl,List.length_singleton];omega)
   have x10:=A10.box (Bl.box B79 P7.box) (fun z=>by have:=hsa _ z;omega)
   refine st x10 fun w11 k11 x11 => ?_
   have er:X.st.take (X.st.length-takV X.m i)++List.replicate j t++[t]=X.st.take (X.st.length-takV X.m i)++List.replicate (j+1) t:=by rw [List.append_assoc,<-List.replicate_succ']
   rw [er] at O10
   have f10':∀ g,a10=some ⟨g,0,none⟩->w4.heap.size<=g:=fun g hg=>(O10.lt hg).1
   refine ih hlt ⟨rfl,a10,c10,⟨((P7.ch.trans (B79.chg _)).apn A10 fun g hg=>Nat.le_trans z04 (hsa g hg)).trans (k11.chg rfl),?_,O10.wr k11 fun g hg z=>by have:=f10' g hg;omega,by rw [k11.size];exact Nat.le_trans zz A10.size⟩,k11.box (A10.box (Bl.box B79 x87) fun z=>by have:=hsa _ z;omega) (by omega),k11.box (A10.box (Bl.box B79 x17) fun z=>by have:=hsa _ z;omega) (by omega)⟩
   rw [er] at x11
   exact x11
  ·refine brF ?_
   obtain rfl:j=putV X.m i:=by omega
   obtain ⟨L,hL⟩:∃ L,L=X.st.take (X.st.length-takV X.m i)++List.replicate (putV X.m i) t:=⟨_,rfl⟩
   rw [<-hL] at P7 hstk hsl
   have h7:=P7.pk h z04 (by omega)
   have cw7:Chg X.wt w w7:=P7.ch.sub fun _ z => .inl z
   have estp:stpV X.m X.loc ⟨X.st,X.ops⟩ i=some ⟨L,if opnB i=true then X.ops++[⟨i.op,L,[],false⟩] else X.ops⟩:=by unfold stpV;rw [if_neg hq.1,if_neg hq.2,hstk]
   refine ld (x17.cell rfl) ?_
   refine ldg (fun _=>x17.cell rfl) ?_
   by_cases qo:29<=i.op/\i.op<=33
   ·have ho':opnB i=true:=by simp [opnB,qo.1,qo.2]
    rw [if_pos ho'] at estp
    refine brt ?_ (hp:=by simp [qo.1,qo.2])
    have hoX:∀ g,X.oa=some ⟨g,0,none⟩->b1≠g/\X.b≠g:=fun g hg=>by have:=hoa g hg;omega
    refine dht 3 (fun k=>X.oa≠some ⟨k,0,none⟩) (List.range 15) fun w8 k8 => ?_
    have h8:=h7.bl k8.bl
    have x18:=k8.box x17
    refine ld (h8.box.cell rfl) ?_ (hm:=fun z=>(hoX _ z).2 rfl)
    refine ld (x18.cell rfl) ?_ (hm:=fun z=>(hoX _ z).1 rfl)
    refine ld (h8.box.cell rfl) ?_ (hm:=fun z=>(hoX _ z).2 rfl)
    refine cl (d_copied L sa sc _ w8 h8.st) ?_ (hm:=fun _ _ r=>by obtain ⟨_,_,_,_,hB⟩:=r;exact mdW_bl hB)
    rintro _ w9 ⟨a9,c9,rfl,O9,B9⟩
    have h9:=h8.bl B9
    refine bd (cs:=brc ⟨i.op,L,[],false⟩ a9 c9 none 0) ?_
    refine bs (cs:=brc ⟨i.op,L,[],false⟩ a9 c9 none 0) fun b10 w10 k10 => ?_
    have h10:=h9.bl k10.bl
    obtain ⟨xs,g1,g2,g3,g4⟩:=h10.op.row
    have z7:=P7.ch.size;have z8:=k8.bl.size;have z9:=B9.size;have z10:=k10.size
    have l10:=h10.box.lt
    have hbig':(X.put sa sc L).ops.length<=120:=hbig
    refine ap g3 (.inr ⟨b10,0,rfl,k10.box.at⟩) (by have:=h10.box.lt;omega) (fun a11 c11 w11 O11 A11 f11 => ?_) (hm:=by exact apS fun g hg (q:X.oa≠some ⟨g,0,none⟩)=>q hg)
    have x11:=A11.box h10.box (fun z=>by have:X.b+1<=X.b:=(hoa _ z).1;omega)
    refine st x11 fun w12 k12 x12' => ?_
    have hf:∀ g,a11=some ⟨g,0,none⟩->X.b+1<=g:=fun g hg=>(O11.lt hg).1
    have hlen:(X.ops++[(⟨i.op,L,[],false⟩:Brv)]).length=X.ops.length+1:=by simp
    have kA:Kp (fun k=>X.oa≠some ⟨k,0,none⟩) w10 w11:=A11.kp
    have kl0:Kp (· < X.b) w10 w11:=kA.sub fun j (hj:j<X.b) z=>by have:=hoa j z;omega
    have kl1:Kp (· < X.b) w11 w12:=k12.kp fun _ hi=>Nat.ne_of_lt hi
    have kl:Kp (· < X.b) w10 w12:=fun b o v s x=>kl1 b o v s (kl0 b o v s x)
    have hst11:Sl eTy (fun j=>j≠X.b/\a11≠some ⟨j,0,none⟩/\X.G j) w11 sa L:=((sl_live h10.st).kp (kA.sub fun j hj=>hj.1.2.1)).sub fun j hj=>⟨hj.1.1,fun z=>by
     rcases f11 j z with q | q
     ·exact hj.1.2.1 q
     ·omega,hj.1.2.2⟩
    have OC:=OwC.push g1 g2 g4 O11 A11 f11 (x:=⟨i.op,L,[],false⟩) (cs:=brc ⟨i.op,L,[],false⟩ a9 c9 none 0) ?_
    ·have B710:=(k8.bl.trans B9).trans k10.bl
     have cw:Chg X.wt w w12:=((cw7.trans (B710.chg _)).trans (A11.chg fun g hg _ => .inr hg)).trans (k12.chg (.inl rfl))
     refine rt1 ⟨0,rfl,cw,.inl ⟨rfl,a11,c11,X.ops++[(⟨i.op,L,[],false⟩:Brv)],sa,sc,L,⟨?_,h10.lo.kp kl,h10.ll.kp kl,hst11.kp (k12.kp fun _ hi=>hi.1),OC.wr k12 (Nat.lt_succ_self _) fun _ hi=>hi.1,h10.cap,fun i hi=>h10.gn i (Nat.le_trans (Nat.le_trans A11.size (by rw [k12.size];exact Nat.le_refl _)) hi),h10.gb⟩,fun g hg=>(f11 g hg).imp id fun q=>by omega,estp⟩⟩
     have ec:pkc (X.set a11 c11 (X.ops++[(⟨i.op,L,[],false⟩:Brv)]) sa sc L)=pkc ⟨X.b,X.m,X.a,X.la,X.lc,X.loc,a11,c11,X.ops++[(⟨i.op,L,[],false⟩:Brv)],sa,sc,L,X.G⟩:=rfl
     rw [ec]
     simp only [pkc,hlen]
     exact x12'
    ·refine ⟨a9,c9,none,0,rfl,?_,Sl.nil ..,O9.capn.1,Nat.le_refl _⟩
     refine (owp_sl O9 (by omega) fun g hg => ?_).bl k10.bl
     have q:=O9.lt hg
     have q1:=q.1
     have q2:=q.2
     exact ⟨⟨by show g≠X.b;omega,h8.gn _ (by omega)⟩,fun z=>by have:=hoa g z;omega,by omega⟩
   ·have ho':¬opnB i=true:=by simpa [opnB] using qo
    rw [if_neg ho'] at estp
    refine brf ?_ (hp:=by by_cases q1:29<=i.op <;> simp [q1];omega)
    exact rt1 ⟨0,rfl,cw7,.inl ⟨rfl,X.oa,X.oc,X.ops,sa,sc,L,h7,fun g hg => .inl hg,estp⟩⟩
theorem d_ended (h:PkR w X) (r:Ty) (P:ModP X.m) (hty:∀ t∈X.st,tyA X.m t) (hr:clsA X.m r):Ret Tryz.prog 61 #[ptr X.b,.agg (encTy r).toArray] w fun v w'=>∃ e',v=I e'/\(e'=0↔enoV X.m r ⟨X.st,X.ops⟩=true)/\Bl w w':=by
 have hsb:=h.st.big
 refine entr (vs:=[ptr X.b,.agg (encTy r).toArray]) [0,1,3,4,5,8,15,32] tabok Tryz.func61 (by kernel_rfl) ?_
 refine bx (cs:=encTy r) fun b1 w1 k1 => ?_
 have h1:=h.bl k1.bl
 refine ld (k1.box.cell rfl) ?_
 by_cases q:r.kind=0
 ·refine brF ?_ (hp:=by simp [q])
  refine ld (h1.box.cell rfl) ?_
  have en:enoV X.m r ⟨X.st,X.ops⟩=decide (X.st=[]):=by unfold enoV;rw [if_pos q]
  by_cases hl:X.st.length=0
  ·refine brF ?_ (hp:=by omega)
   refine dh T (List.range 17) fun w2 k2 => ?_
   refine spn (.agg #[]) ?_
   refine spn (.slice none 0 0) ?_
   refine spn (ptr 0) ?_
   refine spn (.agg #[]) ?_
   refine spn (.agg #[]) ?_
   refine spn (.bool false) ?_
   refine brf ?_
   refine rt1 ⟨0,rfl,?_,k1.bl.trans k2.bl⟩
   rw [en];simp [List.eq_nil_of_length_eq_zero hl]
  ·refine brT ?_ (hp:=by omega)
   refine rt1 ⟨12,rfl,?_,k1.bl⟩
   rw [en]
   constructor
   ·intro z;cases z
   ·intro z;exact absurd (by rw [of_decide_eq_true z];rfl) hl
 ·refine brT ?_ (hp:=by simp [q])
  refine ld (h1.box.cell rfl) ?_
  by_cases hl:X.st.length=1
  ·obtain ⟨t,es⟩:=List.length_eq_one_iff.1 hl
   have en:enoV X.m r ⟨X.st,X.ops⟩=fitB X.m t r:=by unfold enoV;rw [if_neg q,es]
   refine brF ?_ (hp:=by omega)
   refine dh T (List.range 17) fun w2 k2 => ?_
   have B2:=k1.bl.trans k2.bl
   have h2:=h.bl B2
   obtain ⟨t',bt,ot,_,ht,et,_,hA,rfl⟩:=at_some h2.st (i:=0) (by omega)
   obtain rfl:t'=t:=by rw [es] at ht;simpa using ht.symm
   refine spt (.agg #[]) ?_
   refine lda h2.modAt ?_ (hm:=trivial)
   refine spt (.agg #[]) ?_
   refine ld (h2.box.cell rfl) ?_ (hm:=trivial)
   refine spt (.agg #[]) ?_
   rw [et]
   refine ix (j:=0) ?_
   refine spt (.agg #[]) ?_
   refine lda hA ?_ (hm:=trivial)
   refine spt (.agg #[]) ?_
   refine lda (k2.box k1.box).at ?_ (hm:=trivial)
   refine spt (.agg #[]) ?_
   refine cl (d_fits X.m X.a t' r w2 P h2.T (tyA_clsA (hty t' (by rw [es];exact List.mem_cons_self ..)))) ?_ (hm:=fun _ _ r=>mdW_bl r.2)
   rintro _ w3 ⟨rfl,B3⟩
   by_cases hf:fitB X.m t' r=true
   ·refine brf ?_ (hp:=by simp [hf])
    exact rt1 ⟨0,rfl,by rw [en];exact ⟨fun _=>hf,fun _=>rfl⟩,B2.trans B3⟩
   ·refine brt ?_ (hp:=by simp [hf])
    exact rt1 ⟨11,rfl,by rw [en];exact ⟨(fun z=>by cases z),fun z=>absurd z hf⟩,B2.trans B3⟩
  ·refine brT ?_ (hp:=by omega)
   refine rt1 ⟨12,rfl,?_,k1.bl⟩
   have en:enoV X.m r ⟨X.st,X.ops⟩=false:=by
    unfold enoV;rw [if_neg q]
    simp only
    split
    ·rename_i e;rw [e] at hl;exact absurd rfl hl
    ·rfl
   rw [en]
   exact ⟨(fun z=>by cases z),(fun z=>by cases z)⟩
end Go.Proofs.YtdjkoljonlcemaaGreat

/- Walks: the document's word on a method, and on a module. -/
namespace Go.Proofs.YtdjkoljonlcemaaGreat
open Eng Go.RowKit
def VMD (w0:World) (b b10:Nat) (m:Mod) (a:MA) (la:Option Addr) (lc:Nat) (x:MM) (cs10:List Value) (j:Nat) (vals:List Value) (w:World):Prop :=
 ∃ ta tc oa oc ops sa sc st xs,vals=[.slice ta j tc]/\PkR w ⟨b,m,a,la,lc,locM x,oa,oc,ops,sa,sc,st,fun g=>ta≠some ⟨g,0,none⟩⟩/\runV m (locM x) ⟨[],[]⟩ (x.code.take j)=some ⟨st,ops⟩/\VInv m ⟨st,ops⟩/\ops.length<=j /\
  (∃ d r,runB ((x.code.drop j).map (·.op)) (brkS ⟨st,ops⟩) d=some r)/\Ow w (b+1) 23 1 ta j tc xs/\(∀ g,ta=some ⟨g,0,none⟩->oa≠some ⟨g,0,none⟩)/\Bl w0 w/\Box w b10 45 cs10/\ta≠some ⟨b10,0,none⟩/\oa≠some ⟨b10,0,none⟩
set_option maxHeartbeats 4000000 in
theorem d_Method (m:Mod) (a:MA) (k:Nat) (x:MM) (w:World) (P:ModP m) (hx:m.methods[k]? = some x) (hM:MdR (· < w.heap.size) w m a) :
  Ret Tryz.prog 34 #[.agg (modcells m a).toArray,I k] w fun v w'=>∃ sa sn sc pl er,v = .tuple #[.slice sa sn sc,I pl,I er]/\(er=0↔mokV m x=true)/\Bl w w':=by
 have hMT:MdR T w m a:=hM.sub fun _ _=>trivial
 have hk:=(List.getElem?_eq_some_iff.1 hx).1
 have hml:=P.ml
 have M:=P.mth k x hx
 have h0:mchkE m=0:=chkE_yes P
 obtain ⟨hcl,d0,hrun0⟩:=code_runs M.cd
 refine entr (vs:=[.agg (modcells m a).toArray,I (k:Int)]) [0,1,2,4,5,6,7,9,10,11,12,13,14,28,48,67,83] tabok Tryz.func34 (by kernel_rfl) ?_
 refine bx (cs:=modcells m a) fun b1 w1 k1 => ?_
 refine lda k1.box.at ?_
 refine cl (r5_Check m a w1 (hMT.bl k1.bl)) ?_
 rintro _ w1' ⟨rfl,B1⟩
 have B01:=k1.bl.trans B1
 have x11:=Bl.box B1 k1.box
 refine ldg (fun _=>x11.cell rfl) ?_
 refine brf ?_ (hp:=by
  have q1:¬((k:Int)<0):=by omega
  have q2:¬((m.methods.length:Int)<=k):=by omega
  simp [h0,q1,q2])
 refine lda x11.at ?_
 refine cl (r5_Locals m a k w1' (hMT.bl B01)) ?_
 rintro _ w2 ⟨la,lc,rfl,OL,B2⟩
 rw [loc_at P hx] at OL ⊢
 have B02:=B01.trans B2
 have x1:=Bl.box B2 x11
 refine lda x1.at ?_
 refine bd (cs:=pkc ⟨0,m,a,la,lc,locM x,none,0,[],none,0,[],T⟩) ?_
 refine bx (cs:=pkc ⟨0,m,a,la,lc,locM x,none,0,[],none,0,[],T⟩) fun b3 w3 k3 => ?_
 have B03:=B02.trans k3.bl
 have y3:=k3.blk
 have z2:=B02.size
 have hM3:=hM.bl B03
 obtain ⟨x',bm,om,cm,hx',e1,hSm,hAm,a1,c1,a2,c2,a3,c3,rfl,f1,f2,f3,_⟩:=at_some hM.mth (i:=k) hk
 obtain rfl:x'=x:=Option.some.inj (hx'.symm.trans hx)
 have x13:=Bl.box k3.bl x1
 refine ld (x13.cell rfl) ?_
 rw [e1]
 refine ix (j:=k) ?_
 refine lda (hAm.bl B03) ?_
 refine al fun b10 w10 k10 => ?_
 refine sta (cs':=mmcells x' a1 c1 a2 c2 a3 c3) k10.box fun w11 k11 x11 => ?_
 have B311:Bl w3 w11:=k10.wr k11
 have y10:=k10.blk
 have z3:=k3.size
 have hC3:PkR w3 ⟨b3,m,a,la,lc,locM x',none,0,[],none,0,[],fun g=>(none:Option Addr)≠some ⟨g,0,none⟩⟩:=⟨k3.box,hM3.sub fun j hj=>by show j<b3;omega,(owp_sl (S:=fun j=>j<b3) OL (by have:=locM_len P hx;omega) (fun g hg=>by have:=(OL.lt hg).2;show g<b3;omega)).bl k3.bl,Sl.nil ..,OwC.nil ..,Nat.le_refl _,(fun i _ z=>by cases z),(fun i _ z=>by cases z)⟩
 refine lpk x'.code.length 12 [11] [(9,ptr b3),(10,ptr b10)] (VMD w b3 b10 m a la lc x' (mmcells x' a1 c1 a2 c2 a3 c3)) ⟨none,0,none,0,[],none,0,[],[],rfl,hC3.bl B311,rfl,VInv.nil m,Nat.le_refl _,⟨0,([],d0),hrun0⟩,Ow.nil ..,(fun g hg=>(by cases hg)),B03.trans B311,x11,(fun z=>by cases z),(fun z=>by cases z)⟩ ?_
 rintro j vals w4 hj ⟨ta,tc,oa,oc,ops,sa,sc,st',xs,rfl,h4,hrun,I4,hol,⟨d,r,hbr⟩,O4,hdis,B04,x10,nta,noa⟩ ih
 have l10:=x10.lt
 refine ld (x10.cell rfl) ?_
 by_cases hlt:j<x'.code.length
 ·refine brT ?_
  obtain ⟨i,bi,oi,ci,hi,e2,_,hAi,rfl⟩:=at_some (f3.bl B04) hlt
  have ip:=insP_of P hx (List.mem_of_getElem? hi)
  have hdrop:x'.code.drop j=i::x'.code.drop (j+1):=by
   obtain ⟨q,e⟩:=List.getElem?_eq_some_iff.1 hi
   rw [List.drop_eq_getElem_cons q,e]
  rw [hdrop,List.map_cons] at hbr
  obtain ⟨hne,hnx⟩:=brk_step (m:=m) (loc:=locM x') hbr
  refine ld (h4.box.cell rfl) ?_
  refine cl (d_copied st' sa sc _ w4 h4.st) ?_
  rintro _ w7 ⟨a7,c7,rfl,O7,B7⟩
  refine bs (cs:=[.slice a7 st'.length c7]) fun b8 w8 k8 => ?_
  have B48:=B7.trans k8.bl
  have h4b:b3<w4.heap.size:=h4.box.lt
  have z48:=B48.size
  refine ap (O4.bl B48) (.inr ⟨b8,0,rfl,k8.box.at⟩) (by show b3+1<=_;omega) (fun a9 c9 w9 O9 A9 f9 => ?_)
  have hta:∀ g,ta=some ⟨g,0,none⟩->b3+1<=g/\g<w4.heap.size:=fun g hg=>O4.lt hg
  have hoa:∀ g,oa=some ⟨g,0,none⟩->b3+1<=g/\g<w4.heap.size:=fun g hg=>h4.op.lt hg
  have h9:PkR w9 ⟨b3,m,a,la,lc,locM x',oa,oc,ops,sa,sc,st',fun g=>a9≠some ⟨g,0,none⟩⟩ :=
   (h4.bl B48).beside A9 (fun g hg=>⟨(hta g hg).1,hdis g hg⟩) f9 (fun g hg=>O9.lt hg)
  have x109:Box w9 b10 45 (mmcells x' a1 c1 a2 c2 a3 c3):=A9.box (Bl.box B48 x10) nta
  have B09:Bl w w9:=bl_ap (B04.trans B48) A9 fun g hg=>by have:=(hta g hg).1;omega
  have hd9:∀ g,a9=some ⟨g,0,none⟩->oa≠some ⟨g,0,none⟩:=fun g hg z=>by
   rcases f9 g hg with q | q
   ·exact hdis g q z
   ·have:=(hoa g z).2;omega
  have n9:a9≠some ⟨b10,0,none⟩:=fun z=>by
   rcases f9 _ z with q | q
   ·exact nta q
   ·omega
  refine ld (x109.cell rfl) ?_
  obtain ⟨i',bi',oi',ci',hi',e2',_,hAi',rfl⟩:=at_some (f3.bl B09) hlt
  obtain rfl:i=i':=Option.some.inj (hi.symm.trans hi')
  rw [e2']
  refine ix (j:=j) ?_
  refine lda hAi' ?_
  refine cl (d_step h9 I4 ip hne (by show ops.length<=120;omega)) ?_
  rintro _ w11' ⟨e',rfl,c11,hs⟩
  have htk:x'.code.take (j+1)=x'.code.take j++[i]:=by rw [List.take_add_one,hi];rfl
  have hrn:runV m (locM x') ⟨[],[]⟩ (x'.code.take (j+1))=stpV m (locM x') ⟨st',ops⟩ i:=by rw [htk,runV_snoc,hrun];rfl
  have B011:Bl w w11':=by
   refine Below.trans B09 ((c11.below (B:=w.heap.size) B09.size fun g hg => ?_))
   rcases hg with z | z
   ·have z':g=b3:=z
    omega
   ·have:=(hoa g z).1;omega
  rcases hs with ⟨rfl,oa',oc',ops',sa',sc',st2,h11,hf,hstp⟩ | ⟨he,hno⟩
  ·refine brf ?_
   obtain ⟨hlen,d',hbr'⟩:=hnx _ hstp
   refine ih hlt ⟨a9,c9,oa',oc',ops',sa',sc',st2,_,rfl,h11,hrn.trans hstp,stp_inv I4 ip hstp,by show ops'.length<=j+1;have:ops'.length<=ops.length+1:=hlen;omega,⟨d',r,hbr'⟩,O9.same fun g hg => ?_,fun g hg z => ?_,B011,c11.box x109 ?_,n9,fun z => ?_⟩
   ·refine c11.block g (O9.lt hg).2 fun z => ?_
    rcases z with z | z
    ·have:=(O9.lt hg).1
     have z':g=b3:=z
     omega
    ·exact hd9 g hg z
   ·rcases hf g z with q | q
    ·exact hd9 g hg q
    ·have:=(O9.lt hg).2;omega
   ·rintro (z | z)
    ·have z':b10=b3:=z
     omega
    ·exact noa z
   ·rcases hf _ z with q | q
    ·exact noa q
    ·have:=x109.lt;omega
  ·refine brt ?_ (hp:=by simp [he])
   refine rt3 ⟨_,_,_,_,_,rfl,?_,B011⟩
   have:mokV m x'=false:=by
    unfold mokV
    have e1:=runV_none (l':=x'.code.drop (j+1)) (hrn.trans hno)
    rw [List.take_append_drop] at e1
    rw [e1]
   rw [this]
   exact ⟨fun z=>absurd z he,fun z=>by cases z⟩
 ·refine brF ?_
  obtain rfl:j=x'.code.length:=by omega
  rw [List.take_length] at hrun
  refine ld (h4.box.cell rfl) ?_
  refine cl (d_copied st' sa sc _ w4 h4.st) ?_
  rintro _ w7 ⟨a7,c7,rfl,O7,B7⟩
  refine bs (cs:=[.slice a7 st'.length c7]) fun b8 w8 k8 => ?_
  have B48:=B7.trans k8.bl
  have h4b:b3<w4.heap.size:=h4.box.lt
  have z48:=B48.size
  refine ap (O4.bl B48) (.inr ⟨b8,0,rfl,k8.box.at⟩) (by show b3+1<=_;omega) (fun a9 c9 w9 O9 A9 f9 => ?_)
  have B09:Bl w w9:=bl_ap (B04.trans B48) A9 fun g hg=>by have:=O4.lt hg;omega
  have h9:PkR w9 ⟨b3,m,a,la,lc,locM x',oa,oc,ops,sa,sc,st',fun g=>a9≠some ⟨g,0,none⟩⟩ :=
   (h4.bl B48).beside A9 (fun g hg=>⟨(O4.lt hg).1,hdis g hg⟩) f9 (fun g hg=>O9.lt hg)
  have x109:Box w9 b10 45 (mmcells x' a1 c1 a2 c2 a3 c3):=A9.box (Bl.box B48 x10) nta
  refine lda (At.left (cs:=encTy x'.result) x109.at.tail.tail.tail.tail) ?_
  have hrc:clsA m x'.result:=fun q=>by
   have:=tyA_clsA (ityp_up M.rt (by omega)) q
   exact this
  refine cl (d_ended h9 x'.result P I4.ty hrc) ?_
  rintro _ w10 ⟨e',rfl,he,B10⟩
  have hmok:mokV m x'=enoV m x'.result ⟨st',ops⟩:=by unfold mokV;rw [hrun]
  by_cases h0':e'=0
  ·refine brf ?_ (hp:=by simp [h0'])
   exact rt3 ⟨_,_,_,_,_,rfl,by rw [hmok];exact ⟨fun _=>he.1 h0',fun _=>rfl⟩,B09.trans B10⟩
  ·refine brt ?_ (hp:=by simp [h0'])
   refine dh T (List.range 7) fun w12 k12 => ?_
   refine ld ((k12.box (Bl.box B10 x109)).cell rfl) ?_ (hm:=trivial)
   exact rt3 ⟨none,0,0,_,_,rfl,by rw [hmok];exact he,(B09.trans B10).trans k12.bl⟩
theorem d_Module (m:Mod) (a:MA) (w:World) (hM:MdR T w m a) :
  Ret Tryz.prog 32 #[.agg (modcells m a).toArray] w fun v w'=>∃ at' pl er,v = .tuple #[I at',I pl,I er]/\(er=0↔verE m=0)/\Bl w w':=by
 have q1:=hM.mth.big
 have hML:=hM.lt
 refine entr (vs:=[.agg (modcells m a).toArray]) [0,1,2,3,4,5,7,8,11,16,27] tabok Tryz.func32 (by kernel_rfl) ?_
 refine bx (cs:=modcells m a) fun b1 w1 k1 => ?_
 refine lda k1.box.at ?_
 refine cl (r5_Check m a w1 (hM.bl k1.bl)) ?_
 rintro _ w2 ⟨rfl,B2⟩
 have B02:=k1.bl.trans B2
 by_cases h0:mchkE m=0
 rotate_left
 ·refine brt ?_ (hp:=by simp [h0])
  refine rt3 ⟨0,0,1,rfl,⟨(fun z=>by cases z),(fun z => ?_)⟩,B02⟩
  unfold verE at z
  split at z
  ·rename_i q;exact absurd (chkE_yes q.1) h0
  ·cases z
 have P:=modP_of h0
 refine brf ?_ (hp:=by simp [h0])
 refine lpk m.methods.length 5 [] [(1,ptr b1)] (fun j vals w'=>vals=[]/\(∀ k x,k<j->m.methods[k]? = some x->mokV m x=true)/\Bl w1 w') ⟨rfl,fun k x hk=>by omega,B2⟩ ?_
 rintro j vals w3 hj ⟨rfl,hall,B3⟩ ih
 have B03:=k1.bl.trans B3
 have x13:=Bl.box B3 k1.box
 refine ld (x13.cell rfl) ?_
 by_cases hlt:j<m.methods.length
 ·refine brT ?_
  obtain ⟨x,hx⟩:=some_of_lt hlt
  refine lda x13.at ?_
  have z3:=B03.size
  refine cl (d_Method m a j x w3 P hx ((hML.bl B03).sub fun i hi=>by have:i<w.heap.size:=hi;show i<w3.heap.size;omega)) ?_
  rintro _ w4 ⟨sa,sn,sc,pl,er,rfl,hok,B4⟩
  by_cases he:er=0
  ·refine brf ?_ (hp:=by simp [he])
   refine ih hlt ⟨rfl,fun k y hk hy => ?_,B3.trans B4⟩
   rcases Nat.lt_or_ge k j with q | q
   ·exact hall k y q hy
   ·obtain rfl:k=j:=by omega
    obtain rfl:y=x:=Option.some.inj (hy.symm.trans hx)
    exact hok.1 he
  ·refine brt ?_ (hp:=by simp [he])
   refine rt3 ⟨j,pl,er,rfl,⟨(fun z=>absurd z he),(fun z => ?_)⟩,B03.trans B4⟩
   unfold verE at z
   split at z
   ·rename_i q;exact absurd (hok.2 (q.2 x (List.mem_of_getElem? hx))) he
   ·cases z
 ·refine brF ?_
  obtain rfl:j=m.methods.length:=by omega
  refine rt3 ⟨0,0,0,rfl,⟨(fun _ => ?_),(fun _=>rfl)⟩,B03⟩
  unfold verE
  refine if_pos ⟨P,fun x hx => ?_⟩
  obtain ⟨k,hk⟩:=List.mem_iff_getElem?.1 hx
  exact hall k x (List.getElem?_eq_some_iff.1 hk).1 hk
end Go.Proofs.YtdjkoljonlcemaaGreat

/- Walks: a world of the document is made. -/
namespace Go.Proofs.YtdjkoljonlcemaaGreat
open Eng Go.RowKit
abbrev w18c (m:Mod) (a:MA) (v1 v2 v3 v4 v5:Value):List Value:=[.slice a.a1 m.classes.length a.c1,.slice a.a2 m.statics.length a.c2,.slice a.a3 m.methods.length a.c3,I m.sels,v1,v2,v3,v4,v5,.slice none 0 0,.slice none 0 0]
structure W18 (S:Nat->Prop) (base:Nat) (w:World) (m:Mod) (a:MA) (b:Nat):Prop where
 md:MdR S w m a
 le:base<=b
 bx:∃ (v1:Value) (la:Option Addr) (lc:Nat) (v3 v4:Value) (xs:List Value),Box w b 91 (w18c m a v1 (.slice la m.methods.length lc) v3 v4 (.slice none 0 0))/\Ow w (b+1) 23 1 la m.methods.length lc xs/\∀ (k:Nat) (x:MM),m.methods[k]? = some x->∃ (p:Option Addr) (c:Nat),xs[k]? = some (Value.slice p (locM x).length c)
set_option maxHeartbeats 4000000 in
theorem d_New (m:Mod) (a:MA) (w:World) (hM:MdR T w m a):Ret Tryz.prog 11 #[.agg (modcells m a).toArray,I 2,I 0] w fun v w' =>
  ((verE m=0/\∃ b,v = .tuple #[ptr b,I 0]/\W18 (· < w.heap.size) w.heap.size w' m a b)∨(verE m≠0/\v = .tuple #[.pointer none,I 1]))/\Bl w w':=by
 have q1:=hM.mth.big
 have q2:=hM.sta.big
 have hML:=hM.lt
 refine entr (vs:=[.agg (modcells m a).toArray,I 2,I 0]) [0,1,2,3,6,7,10,11,12,13,14,15,18,27,35,48] tabok Tryz.func11 (by kernel_rfl) ?_
 refine bx (cs:=modcells m a) fun b1 w1 k1 => ?_
 refine lda k1.box.at ?_
 refine cl (d_Module m a w1 (hM.bl k1.bl)) ?_
 rintro _ w2 ⟨at',pl,er,rfl,he,B2⟩
 have B02:=k1.bl.trans B2
 have y1:=k1.blk
 by_cases h0:er=0
 rotate_left
 ·refine brt ?_ (hp:=by simp [h0])
  exact rt2 ⟨.inr ⟨fun z=>h0 (he.2 z),rfl⟩,B02⟩
 refine brf ?_ (hp:=by simp [h0])
 have hv:=he.1 h0
 have P:ModP m:=by
  unfold verE at hv
  split at hv
  ·rename_i q;exact q.1
  ·cases hv
 refine cl (Zr.k_r14 w2) ?_
 rintro _ w3 ⟨⟨bc,oc,rfl⟩,B3⟩
 have B03:=B02.trans B3
 have x13:=Bl.box (B2.trans B3) k1.box
 refine brf ?_
 refine dh T (List.range 9) fun w4 k4 => ?_
 have x14:=k4.box x13
 refine lda x14.at ?_ (hm:=trivial)
 refine ld (x14.cell rfl) ?_ (hm:=trivial)
 refine mk fun b5 w5 k5 => ?_
 refine bd (cs:=w18c m a (.slice none 0 0) (.slice none 0 0) (.pointer (some ⟨bc,oc,none⟩)) (.slice (some ⟨b5,0,none⟩) m.statics.length m.statics.length) (.slice none 0 0)) ?_
 refine bx (cs:=w18c m a (.slice none 0 0) (.slice none 0 0) (.pointer (some ⟨bc,oc,none⟩)) (.slice (some ⟨b5,0,none⟩) m.statics.length m.statics.length) (.slice none 0 0)) fun b6 w6 k6 => ?_
 have B36:=(k4.bl.trans k5.bl).trans k6.bl
 have B06:=B03.trans B36
 have y6:=k6.blk
 have l14:=x14.lt;have s5:=k5.size
 have z5:=(B03.trans (k4.bl.trans k5.bl)).size
 refine lpk m.methods.length 14 [] [(3,ptr b1),(13,ptr b6)] (fun j vals w'=>vals=[]/\∃ sa sc la lc xs ys,Box w' b6 91 (w18c m a (.slice sa j sc) (.slice la j lc) (.pointer (some ⟨bc,oc,none⟩)) (.slice (some ⟨b5,0,none⟩) m.statics.length m.statics.length) (.slice none 0 0)) /\
   Ow w' (b6+1) 86 1 sa j sc ys/\Ow w' (b6+1) 23 1 la j lc xs/\(∀ g,sa=some ⟨g,0,none⟩->la≠some ⟨g,0,none⟩)/\(∀ k x,k<j->m.methods[k]? = some x->∃ p c,xs[k]? = some (Value.slice p (locM x).length c))/\Bl w w'/\Box w' b1 26 (modcells m a))
  ⟨rfl,none,0,none,0,[],[],k6.box,Ow.nil ..,Ow.nil ..,(fun g hg=>(by cases hg)),(fun k x hk=>by omega),B06,Bl.box B36 x13⟩ ?_
 rintro j vals w7 hj ⟨rfl,sa,sc,la,lc,xs,ys,x67,Os,Ol,hdis,hxs,B07,x17⟩ ih
 have l6:=x67.lt
 have l1:=x17.lt
 refine ld (x17.cell rfl) ?_
 by_cases hlt:j<m.methods.length
 ·refine brT ?_
  obtain ⟨x,hx⟩:=some_of_lt hlt
  refine lda x17.at ?_
  have z7:=B07.size
  refine cl (d_Method m a j x w7 P hx ((hML.bl B07).sub fun i hi=>by have:i<w.heap.size:=hi;show i<w7.heap.size;omega)) ?_
  rintro _ w8 ⟨qa,qn,qc,pl',er',rfl,_,B8⟩
  have x18:=Bl.box B8 x17
  refine lda x18.at ?_
  refine cl (r5_Locals m a j w8 (hM.bl (B07.trans B8))) ?_
  rintro _ w9 ⟨pa,pc,rfl,OL,B9⟩
  rw [loc_at P hx] at OL ⊢
  have B79:=B8.trans B9
  have x69:=Bl.box B79 x67
  refine ld (x69.cell rfl) ?_
  refine bs (cs:=[.slice qa qn qc]) fun b10 w10 k10 => ?_
  have B710:=B79.trans k10.bl
  have z10:=B710.size
  have hsa:∀ g,sa=some ⟨g,0,none⟩->b6+1<=g/\g<w7.heap.size:=fun g hg=>Os.lt hg
  have hla:∀ g,la=some ⟨g,0,none⟩->b6+1<=g/\g<w7.heap.size:=fun g hg=>Ol.lt hg
  refine ap (Os.bl B710) (.inr ⟨b10,0,rfl,k10.box.at⟩) (by omega) (fun a11 c11 w11 O11 A11 f11 => ?_)
  have x611:=A11.box (Bl.box B710 x67) fun z=>by have:=(hsa _ z).1;omega
  refine st x611 fun w12 k12 x612 => ?_
  refine ld (x612.cell rfl) ?_
  refine bs (cs:=[.slice pa (locM x).length pc]) fun b13 w13 k13 => ?_
  have f11':∀ g,a11=some ⟨g,0,none⟩->b6+1<=g/\g<w11.heap.size:=fun g hg=>O11.lt hg
  have d11:∀ g,a11=some ⟨g,0,none⟩->la≠some ⟨g,0,none⟩:=fun g hg z=>by
   rcases f11 g hg with q | q
   ·exact hdis g q z
   ·have:=(hla g z).2;omega
  have Ol13:=(((Ol.bl B710).same fun g hg=>A11.block g (by have:=(hla g hg).2;omega) fun z=>hdis g z hg).wr k12 fun g hg=>by have:=(hla g hg).1;omega).bl k13.bl
  have Os13:=(O11.wr k12 fun g hg=>by have:=(f11' g hg).1;omega).bl k13.bl
  have z11:=A11.size;have z12:=k12.size;have z13:=k13.size
  refine ap Ol13 (.inr ⟨b13,0,rfl,k13.box.at⟩) (by omega) (fun a14 c14 w14 O14 A14 f14 => ?_)
  have x614:=A14.box (Bl.box k13.bl x612) fun z=>by have:=(hla _ z).1;omega
  refine st x614 fun w15 k15 x615 => ?_
  have f14':∀ g,a14=some ⟨g,0,none⟩->b6+1<=g/\g<w14.heap.size:=fun g hg=>O14.lt hg
  have hxl:xs.length=j:=by have:=Ol.len;omega
  refine ih hlt ⟨rfl,a11,c11,a14,c14,_,_,x615,(Os13.same fun g hg=>A14.block g (by have:=(f11' g hg).2;omega) fun z=>d11 g hg z).wr k15 fun g hg=>by have:=(f11' g hg).1;omega,O14.wr k15 fun g hg=>by have:=(f14' g hg).1;omega,fun g hg z => ?_,fun k y hk hy => ?_,?_,?_⟩
  ·rcases f14 g z with q | q
   ·exact d11 g hg q
   ·have:=(f11' g hg).2;omega
  ·rcases Nat.lt_or_ge k j with q | q
   ·obtain ⟨p,c,e⟩:=hxs k y q hy
    exact ⟨p,c,by rw [List.getElem?_append_left (by omega)];exact e⟩
   ·obtain rfl:k=j:=by omega
    obtain rfl:y=x:=Option.some.inj (hy.symm.trans hx)
    exact ⟨pa,pc,by rw [List.getElem?_append_right (by omega),hxl,Nat.sub_self];rfl⟩
  ·have a1:Bl w w11:=Below.trans (B07.trans B710) (A11.below (by have:=(B07.trans B710).size;omega) fun g hg=>by have:=(hsa g hg).1;omega)
   have a2:Bl w w13:=Bl.trans (Below.trans a1 (k12.below (by omega))) k13.bl
   exact Below.trans (Below.trans a2 (A14.below a2.size fun g hg=>by have:=(hla g hg).1;omega)) (k15.below (by omega))
  ·have e1:=A11.box (Bl.box B710 x17) fun z=>by have:=(hsa _ z).1;omega
   have e2:=Bl.box k13.bl (k12.box e1 (by omega))
   exact k15.box (A14.box e2 fun z=>by have:=(hla _ z).1;omega) (by omega)
 ·refine brF ?_
  obtain rfl:j=m.methods.length:=by omega
  exact rt2 ⟨.inl ⟨hv,b6,rfl,(hML.bl B07),by omega,_,la,lc,_,_,xs,x67,Ol,fun k x hx=>hxs k x (List.getElem?_eq_some_iff.1 hx).1 hx⟩,B07⟩
end Go.Proofs.YtdjkoljonlcemaaGreat

/- Walks: a job is started in the document's world. -/
namespace Go.Proofs.YtdjkoljonlcemaaGreat
open Eng Go.RowKit
def wordB (n:Int):Bool:=decide (-2147483648<=n)&&decide (n<=2147483647)
def staP (x:MM) (args:List Int):Prop:=x.cls = -1/\x.params.length=args.length/\(∀ t∈x.params,t.kind=1)/\∀ n∈args,wordB n=true
instance (x:MM) (args:List Int):Decidable (staP x args):=by unfold staP;infer_instance
def staE (m:Mod) (k:Int) (args:List Int):Int:=if 0<=k then (match m.methods[k.toNat]? with
 | some x=>if staP x args then 0 else 1
 | none=>1) else 1
theorem d_word (n:Int) (w:World):Ret Tryz.prog 23 #[I n] w fun v w'=>v = .bool (wordB n)/\w'=w:=by
 refine entr (vs:=[I n]) [0,2] tabok Tryz.func23 (by kernel_rfl) ?_
 exact rt1 ⟨rfl,rfl⟩
theorem mok_nil {m:Mod} {x:MM} (h:mokV m x=true) (hc:x.code=[]):x.result.kind=0:=by
 unfold mokV at h
 rw [hc] at h
 simp only [runV,enoV] at h
 split at h
 ·rename_i q;exact q
 ·simp at h
theorem ver_mok {m:Mod} (h:verE m=0):ModP m/\∀ x∈m.methods,mokV m x=true:=by
 unfold verE at h
 split at h
 ·rename_i q;exact q
 ·cases h
abbrev j18c (k:Int) (fr:Value) (lk:Value) (ov:Bool) (r:Int):List Value:=[I k,fr,.slice none 0 0,lk,.bool false,.bool ov,I r,I 0]
abbrev f18c (k:Int) (lo:Value):List Value:=[I k,I 0,lo,.slice none 0 0,.slice none 0 0]
theorem Chg.newer {bs bs':Nat->Prop} {w w1 w2:World} (h:Chg bs w w1) (k:Chg bs' w1 w2) (hb:∀ i,bs' i->bs i∨w.heap.size<=i):Chg bs w w2 :=
 ⟨k.os.trans h.os,k.tape.trans h.tape,k.output.trans h.output,Nat.le_trans h.size k.size,fun i hi hn=>(k.block i (Nat.lt_of_lt_of_le hi h.size) fun z=>(hb i z).elim hn fun q=>by omega).trans (h.block i hi hn)⟩
theorem Eng.Ow.only {w:World} {base e esz:Nat} {g cap:Nat} {xs:List Value} (h:Ow w base e esz (some ⟨g,0,none⟩) 1 cap xs):∃ cs:List Value,Box w g e (xs++cs)/\(xs++cs).length=cap*esz/\1<=cap /\
  ∀ (w':World) (ys:List Value),ys.length=xs.length->Box w' g e (ys++cs)->Ow w' base e esz (some ⟨g,0,none⟩) 1 cap ys:=by
 obtain ⟨cs,hb,ht,hl,hc,mk⟩:=h.block
 have hlen:=h.len
 have e1:cs=xs++cs.drop (1*esz):=by rw [<-ht,List.take_append_drop]
 refine ⟨cs.drop (1*esz),by rw [<-e1];exact hb,by rw [<-e1];exact hl,hc,fun w' ys hy hb' => ?_⟩
 have:=mk w' _ hb' (by rw [List.length_append,hy,<-List.length_append,<-e1])
 rw [List.take_left' (by rw [hy,hlen])] at this
 exact this
theorem set_app {xs cs:List Value} {i:Nat} {v:Value} (h:i<xs.length):(xs++cs).set i v=xs.set i v++cs:=List.set_append_left _ _ h
set_option maxHeartbeats 4000000 in
theorem d_enter (m:Mod) (a:MA) (b g base:Nat) (n:Nat) (x:MM) (args:List Int) (aa:Option Addr) (ac jc:Nat) (lk v1 v3 v4:Value) (la:Option Addr) (lc:Nat) (xs:List Value) (w:World)
  (hx:Box w b 91 (w18c m a v1 (.slice la m.methods.length lc) v3 v4 (.slice (some ⟨g,0,none⟩) 1 jc))) (hL:Ow w (b+1) 23 1 la m.methods.length lc xs) (hJ:Ow w base 95 8 (some ⟨g,0,none⟩) 1 jc (j18c n (.slice none 0 0) lk false 0))
  (hlk:lk.oneCell'=true) (hgl:la≠some ⟨g,0,none⟩) (hbg:b≠g) (hn:n<m.methods.length) (hxn:∃ p c,xs[n]? = some (.slice p (locM x).length c)) (hlo:args.length<=(locM x).length) (hll:(locM x).length<=10) {S:Nat->Prop} (hA:Sl eInt S w aa args) (hS:∀ i,S i->i≠g/\i<w.heap.size) :
  Ret Tryz.prog 24 #[ptr b,I 0,I n,.slice aa args.length ac] w fun _ w'=>∃ fa fc la nl base',Ow w' base 95 8 (some ⟨g,0,none⟩) 1 jc (j18c n (.slice fa 1 fc) lk false 0)/\Ow w' base' 121 5 fa 1 fc (f18c n (.slice la nl nl))/\w.heap.size<=base'/\Chg (· = g) w w':=by
 obtain ⟨p,c,hp⟩:=hxn
 have hg:=(hJ.lt rfl).2
 have hb:=hx.lt
 refine entr (vs:=[ptr b,I 0,I (n:Nat),.slice aa args.length ac]) [0,1,2,3,8,9,24] tabok Tryz.func24 (by kernel_rfl) ?_
 obtain ⟨gl,el⟩:∃ gl,la=some ⟨gl,0,none⟩:=by
  rcases hL.shape with ⟨_,z,_⟩ | ⟨gl,_,z,_⟩
  ·omega
  ·exact ⟨gl,z⟩
 refine ld (hx.cell rfl) ?_
 rw [el]
 refine ix (j:=n) ?_
 have hcell:w.cell? ⟨gl,0+n*1,none⟩=some (.slice p (locM x).length c):=by
  have:=hL.at el n _ hp
  rw [Nat.mul_one];exact this
 refine ld hcell ?_
 refine mk fun b5 w5 k5 => ?_
 refine bd (cs:=f18c n (.slice (some ⟨b5,0,none⟩) (locM x).length (locM x).length)) ?_
 refine al fun b6 w6 k6 => ?_
 refine sta (cs':=f18c n (.slice (some ⟨b5,0,none⟩) (locM x).length (locM x).length)) k6.box fun w7 k7 x7 => ?_
 have y5:=k5.blk;have y6:=k6.blk
 have z5:=k5.size;have z6:=k6.size
 have B57:Bl w5 w7:=k6.wr k7
 have B7:=k5.bl.trans B57
 refine lpk args.length 9 [] [(0,ptr b),(1,I 0),(3,.slice aa args.length ac),(8,ptr b6)] (fun j vals w'=>vals=[]/\Bl w w'/\(∃ cs,Box w' b5 3 cs/\cs.length=(locM x).length)/\Box w' b6 121 (f18c n (.slice (some ⟨b5,0,none⟩) (locM x).length (locM x).length))) ⟨rfl,B7,⟨_,Bl.box B57 k5.box,by rw [rep_length];simp⟩,x7⟩ ?_
 rintro j vals w8 hj ⟨rfl,B8,⟨cs,x5,hcs⟩,x6⟩ ih
 have z8:=B8.size
 by_cases hlt:j<args.length
 ·refine brT ?_
  refine dht 1 T (List.range 8) fun w9 k9 => ?_
  obtain ⟨q,bq,oq,_,hq,rfl,_,hAq,rfl⟩:=at_some ((hA.bl B8).bl k9.bl) hlt
  have x69:=k9.box x6
  refine ld (x69.cell rfl) ?_ (hm:=trivial)
  refine ix (j:=j) ?_
  refine ld (hAq 0 _ rfl) ?_ (hm:=trivial)
  refine ix (j:=j) ?_
  refine stx (k9.box x5) (fun w10 k10 x10 => ?_) (ho:=by omega)
  exact ih hlt ⟨rfl,Below.trans (B8.trans k9.bl) (k10.below (by omega)),⟨_,x10,by rw [List.length_set];exact hcs⟩,k10.box x69 (by omega)⟩
 ·refine brF ?_
  have hx8:=Bl.box B8 hx
  have hJ8:=hJ.bl B8
  refine dht 3 T (List.range 16) fun w9 k9 => ?_
  have hx9:=k9.box hx8
  have hJ9:=hJ8.bl k9.bl
  refine ld (hx9.cell rfl) ?_ (hm:=trivial)
  refine ld (hx9.cell rfl) ?_ (hm:=trivial)
  refine ix (j:=0) ?_
  refine ld (hJ9.at rfl 1 _ rfl) ?_ (hm:=trivial)
  refine lda (k9.box x6).at ?_ (hm:=trivial)
  refine bs (cs:=f18c n (.slice (some ⟨b5,0,none⟩) (locM x).length (locM x).length)) fun b10 w10 k10 => ?_
  have B910:=k9.bl.trans k10.bl
  refine ap (Ow.nil w10 w10.heap.size 121 5) (.inr ⟨b10,0,rfl,k10.box.at⟩) (Nat.le_refl _) (fun a11 c11 w11 O11 A11 f11 => ?_) (hm:=by exact apS fun g hg _=>by cases hg)
  have B11:Bl w10 w11:=A11.below (Nat.le_refl _) fun g hg=>by cases hg
  have B811:=B910.trans B11
  have hJ11:=hJ8.bl B811
  obtain ⟨cs',xg,hcl,hc1,mk'⟩:=hJ11.only
  refine ix (j:=0) ?_
  refine stx xg (fun w12 k12 x12 => ?_) (ho:=by rw [List.length_append];show 0+0*8+1<8+_;omega)
  rw [set_app (by show 0+0*8+1<8;omega)] at x12
  have B011:=B8.trans B811
  have z10:=k10.size
  have z9:=k9.bl.size
  refine en ⟨a11,c11,_,_,w10.heap.size,mk' w12 _ rfl x12,O11.wr k12 fun g' hg' => ?_,by omega,(B011.chg _).trans (k12.chg rfl)⟩
  have:=(O11.lt hg').1
  omega
set_option maxHeartbeats 4000000 in
theorem d_leave (m:Mod) (a:MA) (b g base base':Nat) (n:Nat) (x:MM) (jc fc nl:Nat) (lk v1 v2 v3 v4:Value) (fa la:Option Addr) (w:World) {S:Nat->Prop} (hM:MdR S w m a) (hmx:m.methods[n]? = some x)
  (hx:Box w b 91 (w18c m a v1 v2 v3 v4 (.slice (some ⟨g,0,none⟩) 1 jc))) (hJ:Ow w base 95 8 (some ⟨g,0,none⟩) 1 jc (j18c n (.slice fa 1 fc) lk false 0)) (hF:Ow w base' 121 5 fa 1 fc (f18c n (.slice la nl nl)))
  (hr:x.code=[]->x.result.kind=0):Ret Tryz.prog 25 #[ptr b,I 0] w fun _ w'=>Chg (· = g) w w':=by
 have hg:=(hJ.lt rfl).2
 have hb:=hx.lt
 have hn:=(List.getElem?_eq_some_iff.1 hmx).1
 have hmb:=hM.mth.big
 obtain ⟨gf,rfl⟩:∃ gf,fa=some ⟨gf,0,none⟩:=by
  rcases hF.shape with ⟨_,z,_⟩ | ⟨gf,_,z,_⟩
  ·omega
  ·exact ⟨gf,z⟩
 refine entr (vs:=[ptr b,I 0]) [0,1,4,5,6,7,19,46,50,78,96,103] tabok Tryz.func25 (by kernel_rfl) ?_
 refine ld (hx.cell rfl) ?_
 refine ix (j:=0) ?_
 refine lp (vals:=[]) (m:=0) [] [(0,ptr b),(1,I 0),(4,.pointer (some ⟨g,0+0*8,none⟩))] (fun _ vals w'=>vals=[]/\w=w') ⟨rfl,rfl,rfl,trivial⟩ ⟨rfl,rfl⟩ ?_
 rintro _ vals w' ⟨rfl,rfl⟩ ih
 refine ld (hJ.at rfl 1 _ rfl) ?_
 refine brT ?_ (hp:=by decide)
 refine dht 1 T (List.range 13) fun w1 k1 => ?_
 have hJ1:=hJ.bl k1.bl
 refine ld (hJ1.at rfl 1 _ rfl) ?_ (hm:=trivial)
 refine ld (hJ1.at rfl 1 _ rfl) ?_ (hm:=trivial)
 refine ix (j:=0) ?_
 refine lda (cs:=f18c n (.slice la nl nl)) ((hF.bl k1.bl).at rfl) ?_ (hm:=trivial)
 refine al fun b2 w2 k2 => ?_
 refine sta (cs':=f18c n (.slice la nl nl)) k2.box fun w3 k3 x3 => ?_
 have B3:Bl w w3:=k1.bl.trans (k2.wr k3)
 refine dht 1 T (List.range 10) fun w4 k4 => ?_
 have B4:=B3.trans k4.bl
 have hx4:=Bl.box B4 hx
 obtain ⟨x',bm,om,cm,hx',e1,hSm,hAm,a1,c1,a2,c2,a3,c3,rfl,f1,f2,f3,_⟩:=at_some (hM.bl B4).mth (i:=n) hn
 obtain rfl:x'=x:=Option.some.inj (hx'.symm.trans hmx)
 refine ld (hx4.cell rfl) ?_ (hm:=trivial)
 refine ld ((k4.box x3).cell rfl) ?_ (hm:=trivial)
 rw [e1]
 refine ix (j:=n) ?_
 refine lda hAm ?_ (hm:=trivial)
 refine al fun b5 w5 k5 => ?_
 refine sta (cs':=mmcells x' a1 c1 a2 c2 a3 c3) k5.box fun w6 k6 x6 => ?_
 have B46:Bl w4 w6:=k5.wr k6
 have B6:=B4.trans B46
 have x36:=Bl.box (k4.bl.trans B46) x3
 refine ld (x36.cell rfl) ?_
 refine ld (x6.cell rfl) ?_
 by_cases hc:x'.code.length=0
 rotate_left
 ·refine brT ?_ (hp:=by omega)
  exact rt (vs:=[]) (B6.chg _)
 refine brF ?_ (hp:=by omega)
 have hk:=hr (List.eq_nil_of_length_eq_zero hc)
 refine ld (x6.cell rfl) ?_
 refine brF ?_ (hp:=by omega)
 have hJ6:=hJ.bl B6
 refine dht 3 T (List.range 12) fun w7 k7 => ?_
 have hJ7:=hJ6.bl k7.bl
 refine ld (hJ7.at rfl 1 _ rfl) ?_ (hm:=trivial)
 refine ld (hJ7.at rfl 1 _ rfl) ?_ (hm:=trivial)
 refine sl 0 0 ?_
 rw [add_zero_a,Nat.sub_zero,Nat.sub_zero]
 obtain ⟨cs',xg,hcl,hc1,mk'⟩:=hJ7.only
 refine stx xg (fun w8 k8 x8 => ?_) (ho:=by rw [List.length_append];show 0+0*8+1<8+_;omega)
 have x68:=k8.box (Bl.box k7.bl x6) (by have:=k5.blk;have:=B4.size;omega)
 rw [set_app (by show 0+0*8+1<8;omega)] at x8
 refine ld (x8.cell rfl) ?_
 refine brT ?_ (hp:=by rfl)
 refine stx x8 (fun w9 k9 x9 => ?_) (ho:=by rw [List.length_append];show 0+0*8+5<8+_;omega)
 refine stx x9 (fun w10 k10 x10 => ?_) (ho:=by rw [List.length_set,List.length_append];show 0+0*8+4<8+_;omega)
 refine stx x10 (fun w11 k11 x11 => ?_) (ho:=by rw [List.length_set,List.length_set,List.length_append];show 0+0*8+6<8+_;omega)
 have x611:=k11.box (k10.box (k9.box x68 (by have:=k5.blk;have:=B4.size;omega)) (by have:=k5.blk;have:=B4.size;omega)) (by have:=k5.blk;have:=B4.size;omega)
 refine ld (x611.cell rfl) ?_
 refine brf ?_ (hp:=by simp [hk])
 exact rt (vs:=[]) ((((((B6.trans k7.bl).chg (· = g)).trans (k8.chg rfl)).trans (k9.chg rfl)).trans (k10.chg rfl)).trans (k11.chg rfl))
set_option maxHeartbeats 4000000 in
theorem d_Start (m:Mod) (a:MA) (b base:Nat) (k:Int) (args:List Int) (aa:Option Addr) (ac:Nat) (w:World) (hv:verE m=0) (h:W18 (· < base) base w m a b) (hA:Sl eInt (· < base) w aa args) (hl:args.length<=100) :
  Ret Tryz.prog 7 #[ptr b,I k,.slice aa args.length ac] w fun v w'=>v = .tuple #[I 0,I (staE m k args)]/\Chg (· = b) w w':=by
 obtain ⟨v1,la,lc,v3,v4,xs,hx,hO,hxs⟩:=h.bx
 obtain ⟨P,hmok⟩:=ver_mok hv
 have hle:=h.le
 have hb:=hx.lt
 have hmb:=h.md.mth.big
 refine entr (vs:=[ptr b,I k,.slice aa args.length ac]) [0,1,2,6,7,8,9,10,26,45,49,66,72] tabok Tryz.func7 (by kernel_rfl) ?_
 refine pnl ?_
 refine ldg (fun _=>hx.cell rfl) ?_
 by_cases hk:0<=k/\k<m.methods.length
 rotate_left
 ·refine brt ?_ (hp:=by simp;omega)
  have:staE m k args=1:=by
   unfold staE
   split
   ·rw [List.getElem?_eq_none (by omega)]
   ·rfl
  rw [this]
  exact rt2 ⟨rfl,Chg.refl _ _⟩
 refine brf ?_ (hp:=by simp;omega)
 obtain ⟨n,rfl⟩:=Int.eq_ofNat_of_zero_le hk.1
 obtain ⟨x,bm,om,cm,hmx,e1,hSm,hAm,a1,c1,a2,c2,a3,c3,rfl,f1,f2,f3,_⟩:=at_some h.md.mth (i:=n) (by omega)
 have M:=P.mth n x hmx
 have esta:staE m n args=if staP x args then 0 else 1:=by
  unfold staE
  rw [if_pos hk.1,Int.toNat_natCast,hmx]
 have hpl:=M.pl
 refine ld (hx.cell rfl) ?_
 rw [e1]
 refine ix (j:=n) ?_
 refine lda hAm ?_
 refine al fun b2 w2 k2 => ?_
 refine sta (cs':=mmcells x a1 c1 a2 c2 a3 c3) k2.box fun w3 k3 x3 => ?_
 have B3:Bl w w3:=k2.wr k3
 have y2:=k2.blk
 have z3:=B3.size
 have hx3:=Bl.box B3 hx
 refine ld (x3.cell rfl) ?_
 refine ldg (fun _=>x3.cell rfl) ?_
 by_cases hcl:x.cls = -1/\x.params.length=args.length
 rotate_left
 ·refine brt ?_ (hp:=by simp;omega)
  rw [esta,if_neg (fun z=>hcl ⟨z.1,z.2.1⟩)]
  exact rt2 ⟨rfl,B3.chg _⟩
 refine brf ?_ (hp:=by simp;omega)
 refine lpk args.length 9 [] [(0,ptr b),(1,I (n:Nat)),(2,.slice aa args.length ac),(8,ptr b2)] (fun j vals w'=>vals=[]/\w'=w3/\(∀ t∈x.params.take j,t.kind=1)/\∀ q∈args.take j,wordB q=true) ⟨rfl,rfl,by simp,by simp⟩ ?_
 rintro j vals w4 hj ⟨rfl,rfl,hp1,hp2⟩ ih
 by_cases hlt:j<args.length
 ·refine brT ?_
  obtain ⟨t,bt,ot,_,ht,e2,_,hAt,rfl⟩:=at_some (f1.bl B3) (i:=j) (by omega)
  obtain ⟨q,bq,oq,_,hq,rfl,_,hAq,rfl⟩:=at_some (hA.bl B3) hlt
  refine ld (x3.cell rfl) ?_
  rw [e2]
  refine ix (j:=j) ?_
  refine ld (hAt 0 _ rfl) ?_
  have et:=take_succ_some ht
  have eq:=take_succ_some hq
  by_cases hk1:t.kind=1
  ·refine spt (.bool false) ?_ (hb:=by simp [hk1])
   refine ix (j:=j) ?_
   refine spt (.bool false) ?_
   refine ld (hAq 0 _ rfl) ?_
   refine spt (.bool false) ?_
   refine cl (d_word q _) ?_
   rintro _ w5 ⟨rfl,rfl⟩
   by_cases hw:wordB q=true
   ·refine brf ?_ (hp:=by simp [hk1,hw])
    refine ih hlt ⟨rfl,rfl,fun u hu => ?_,fun u hu => ?_⟩
    ·rw [et] at hu
     rcases List.mem_append.1 hu with z | z
     ·exact hp1 u z
     ·rw [List.mem_singleton.1 z];exact hk1
    ·rw [eq] at hu
     rcases List.mem_append.1 hu with z | z
     ·exact hp2 u z
     ·rw [List.mem_singleton.1 z];exact hw
   ·refine brt ?_ (hp:=by simp [hk1,hw])
    rw [esta,if_neg (fun z=>hw (z.2.2.2 q (List.mem_of_getElem? hq)))]
    exact rt2 ⟨rfl,B3.chg _⟩
  ·refine spn (ptr 0) ?_ (hb:=by simp [hk1])
   refine spn (I 0) ?_ (hb:=by simp [hk1])
   refine spn (.bool false) ?_ (hb:=by simp [hk1])
   refine brt ?_ (hp:=by simp [hk1])
   rw [esta,if_neg (fun z=>hk1 (z.2.2.1 t (List.mem_of_getElem? ht)))]
   exact rt2 ⟨rfl,B3.chg _⟩
 refine brF ?_
 obtain rfl:j=args.length:=by omega
 rw [List.take_length] at hp2
 rw [show args.length=x.params.length by omega,List.take_length] at hp1
 have hsta:staP x args:=⟨hcl.1,hcl.2,hp1,hp2⟩
 rw [esta,if_pos hsta]
 refine ld (hx3.cell rfl) ?_
 refine brF ?_
 refine dht 3 T (List.range 10) fun w5 k5 => ?_
 have hx5:=k5.box hx3
 refine ld (hx5.cell rfl) ?_ (hm:=trivial)
 refine mk (m:=6) (n:=6) fun b6 w6 k6 => ?_
 refine bd (cs:=j18c n (.slice none 0 0) (.slice (some ⟨b6,0,none⟩) 6 6) false 0) ?_
 refine bs (cs:=j18c n (.slice none 0 0) (.slice (some ⟨b6,0,none⟩) 6 6) false 0) fun b7 w7 k7 => ?_
 refine ap (Ow.nil w7 w7.heap.size 95 8) (.inr ⟨b7,0,rfl,k7.box.at⟩) (Nat.le_refl _) (fun a8 c8 w8 O8 A8 f8 => ?_) (hm:=by exact apS fun g hg _=>by cases hg)
 have B78:Bl w7 w8:=A8.below (Nat.le_refl _) fun g hg=>by cases hg
 have B37:=(k5.bl.trans k6.bl).trans k7.bl
 have B08:=(B3.trans B37).trans B78
 obtain ⟨g,rfl⟩:∃ g,a8=some ⟨g,0,none⟩:=by
  rcases O8.shape with ⟨_,z,_⟩ | ⟨gf,_,z,_⟩
  ·omega
  ·exact ⟨gf,z⟩
 have hg:=O8.lt rfl
 have hx8:=Bl.box (B37.trans B78) hx3
 refine st hx8 fun w9 k9 x9 => ?_
 have zB:=(B3.trans B37).size
 have O9:=O8.wr k9 fun q hq=>by cases hq;omega
 have C9:Chg (· = b) w w9:=(B08.chg _).trans (k9.chg rfl)
 refine ld (x9.cell rfl) ?_
 have hOl:∀ q,la=some ⟨q,0,none⟩->b+1<=q/\q<w.heap.size:=fun q hq=>hO.lt hq
 have hL9:=(hO.bl B08).wr k9 fun q hq=>by have:=(hOl q hq).1;omega
 have hA9:=(hA.bl B08).kp (k9.kp (S:=(· < base)) fun i (hi:i<base)=>by omega)
 have hM9:=(h.md.bl B08).kp (k9.kp (S:=(· < base)) fun i (hi:i<base)=>by omega)
 have z9:=k9.size
 have hll:=locM_len P hmx
 have hlo:args.length<=(locM x).length:=by
  unfold locM
  simp only [List.length_append]
  omega
 refine cl (d_enter m a b g w7.heap.size n x args aa ac c8 (.slice (some ⟨b6,0,none⟩) 6 6) v1 v3 v4 la lc xs w9 x9 hL9 O9 rfl (fun z=>by have:=(hOl _ z).2;omega) (by omega) (by omega) (hxs n x hmx) hlo hll hA9 (fun i (hi:i<base)=>by omega)) ?_
 rintro _ w10 ⟨fa,fc,lq,nl,base',O10,F10,hb',C10⟩
 have x10:=C10.box x9 (by omega)
 have hM10:MdR (· < base) w10 m a:=hM9.kp (C10.kp.sub fun i (hi:i<base)=>by omega)
 refine cl (d_leave m a b g w7.heap.size base' n x c8 fc nl _ v1 _ v3 v4 fa lq w10 hM10 hmx x10 O10 F10 (fun z=>mok_nil (hmok x (List.mem_of_getElem? hmx)) z)) ?_
 rintro _ w11 C11
 refine rt2 ⟨rfl,(C9.newer C10 fun i hi => .inr ?_).newer C11 fun i hi => .inr ?_⟩
 ·have hi':i=g:=hi
  omega
 ·have hi':i=g:=hi
  omega
end Go.Proofs.YtdjkoljonlcemaaGreat

/- Walks: a job is started in the program's world. -/
namespace Go.Proofs.YtdjkoljonlcemaaGreat
open Eng Go.RowKit
abbrev encVal:Int×Bool->List Value:=fun v=>[I v.1,.bool v.2]
def eVal:El (Int×Bool):=plainEl 2 encVal (fun _=>rfl)
abbrev jic (fr:Value) (ov:Bool):List Value:=[fr,.slice none 0 0,.bool false,.bool ov,I 0,I 0]
abbrev fic (k:Int) (la:Option Addr) (ln lc:Nat):List Value:=[I k,.slice la ln lc,.slice none 0 0,I 0,.slice none 0 0]
theorem i_none {w:World} {b:Nat} {cs:List Value} {bc oc:Nat} (hx:Box w b 71 cs) (hc:cs[5]? = some (.pointer (some ⟨bc,oc,none⟩))):Ret Tryz.prog 15 #[ptr b] w fun v w'=>v = .bool false/\w'=w:=by
 refine entr (vs:=[ptr b]) [0,2] tabok Tryz.func15 (by kernel_rfl) ?_
 refine pnl ?_
 refine spt (.bool false) ?_
 refine ld (hx.at 5 _ hc) ?_
 refine spt (.bool false) ?_
 refine pnl ?_
 exact rt1 ⟨rfl,rfl⟩
theorem c_CloneV (l:List (Int×Bool)) (a:Option Addr) (cap:Nat) (S:Nat->Prop) (w:World) (hS:Sl eVal S w a l) :
  Ret Tryz.prog 41 #[.slice a l.length cap] w fun v w'=>∃ a' cap',v = .slice a' l.length cap'/\OwP 2 encVal w' w.heap.size 78 a' cap' l/\Bl w w':=by
 have hbig:=hS.big
 refine entr (vs:=[.slice a l.length cap]) [0,2,4] tabok Tryz.func41 (by kernel_rfl) ?_
 refine bnil ?_
 refine br (t:=a.isNone) (fun h => ?_) (fun h => ?_)
 ·have hl:l=[]:=by
   cases l with
   | nil=>rfl
   | cons x l =>
    obtain ⟨b,o,cs,e,_⟩:=hS.el 0 x rfl
    rw [e] at h;cases h
  subst hl
  exact rt1 ⟨none,0,rfl,Ow.nil ..,Bl.refl _⟩
 refine bs (cs:=[]) fun b1 w1 h1 => ?_
 refine apl (enc:=encVal) (base:=w.heap.size) (l0:=[]) (l1:=l) (Ow.base (Ow.made (n:=0) h1 rfl (by omega)) (by rw [h1.blk];exact Nat.le_refl _)) (src_of (hS.bl h1.bl)) (by rw [h1.size];omega) (fun a' cap' w2 hO hA hf => ?_)
 exact rt1 ⟨a',cap',rfl,hO,bl_ap h1.bl hA fun g hg=>by
  simp only [Option.some.injEq,Addr.mk.injEq,and_true] at hg
  rw [<-hg,h1.blk];exact Nat.le_refl _⟩
theorem h_num (t:Ty) (w:World):Ret Tryz.prog 16 #[.agg (encTy t).toArray] w fun v w'=>v = .bool (decide (t.kind=1))/\Bl w w':=by
 refine entr (vs:=[.agg (encTy t).toArray]) [0,1,2] tabok Tryz.func16 (by kernel_rfl) ?_
 refine bx (cs:=encTy t) fun b1 w1 k1 => ?_
 refine ld (k1.box.cell rfl) ?_
 exact rt1 ⟨rfl,k1.bl⟩
theorem h_word (n:Int) (w:World):Ret Tryz.prog 17 #[I n] w fun v w'=>v = .bool (!wordB n)/\Bl w w':=by
 refine entr (vs:=[I n]) [0,2] tabok Tryz.func17 (by kernel_rfl) ?_
 refine rt1 ⟨vb ?_,Bl.refl _⟩
 unfold wordB
 by_cases h1:n < -2147483648 <;> by_cases h2:2147483647<n <;> simp [h1,h2] <;> omega
theorem h_notn (t:Ty) (b:Nat) (w:World) (hx:w.cell? ⟨b,0,none⟩=some (.func (.func 16) #[] #[])):Ret Tryz.prog 19 #[.agg (encTy t).toArray,ptr b] w fun v w'=>v = .bool (!decide (t.kind=1))/\Bl w w':=by
 refine entr (vs:=[.agg (encTy t).toArray,ptr b]) [0,1,2,3] tabok Tryz.func19 (by kernel_rfl) ?_
 refine bx (cs:=encTy t) fun b1 w1 k1 => ?_
 refine ld ((k1.bl.kp T) _ _ _ trivial hx) ?_
 refine lda k1.box.at ?_
 refine cl (h_num t w1) ?_
 rintro _ w2 ⟨rfl,B2⟩
 exact rt1 ⟨rfl,k1.bl.trans B2⟩
theorem wip_at {w:World} {b:Nat} {m:Mod} {A:MA} {v1 v2 v3 v4 v5 v6:Value} {lk:List Value} (h:Box w b 71 (wip m A v1 v2 v3 v4 v5 v6++lk)):At w b 0 (modcells m A) :=
 At.left (cs:=modcells m A) (ds:=[v1,v2,v3,v4,.slice none 0 0,v5,v6,I 1001]++lk) h.at
set_option maxHeartbeats 4000000 in
theorem i_enter (m:Mod) (A:MA) (b g base:Nat) (n:Nat) (x:MM) (gv:List (Int×Bool)) (ga:Option Addr) (gc jc:Nat) (v1 v2 v3 v5 v6:Value) (lk:List Value) (w:World) (P:ModP m) (hmx:m.methods[n]? = some x) (hM:MdR (· < b) w m A)
  (hx:Box w b 71 (wip m A v1 v2 v3 (.slice (some ⟨g,0,none⟩) 1 jc) v5 v6++lk)) (hJ:Ow w base 82 6 (some ⟨g,0,none⟩) 1 jc (jic (.slice none 0 0) false)) (hbg:b≠g) (hlo:gv.length<=(locM x).length) {S:Nat->Prop} (hG:Sl eVal S w ga gv) :
  Ret Tryz.prog 21 #[ptr b,I 0,I n,.slice ga gv.length gc] w fun _ w'=>∃ fa fc la ln lc base',Ow w' base 82 6 (some ⟨g,0,none⟩) 1 jc (jic (.slice fa 1 fc) false)/\Ow w' base' 99 5 fa 1 fc (fic n la ln lc)/\w.heap.size<=base'/\Chg (· = g) w w':=by
 have hg:=(hJ.lt rfl).2
 have hb:=hx.lt
 have hll:=locM_len P hmx
 refine entr (vs:=[ptr b,I 0,I (n:Nat),.slice ga gv.length gc]) [0,1,2,3,8,10,12,13,28,29,30,31] tabok Tryz.func21 (by kernel_rfl) ?_
 refine lda (wip_at hx) ?_
 refine cl (k_LocalsF m A n w (hM.sub fun _ _=>trivial)) ?_
 rintro _ w1 ⟨la,lc,rfl,OL,B1⟩
 rw [loc_at P hmx] at OL ⊢
 refine cl (c_CloneV gv ga gc S w1 (hG.bl B1)) ?_
 rintro _ w2 ⟨pa,pc,rfl,OP,B2⟩
 have B02:=B1.trans B2
 have hcap:=OL.capn.1
 have SL:Sl eTy (· < w1.heap.size) w2 la (locM x):=(owp_sl OL (by omega) (fun g hg=>(OL.lt hg).2)).bl B2
 refine sl gv.length (locM x).length ?_
 have hd:((locM x).drop gv.length).length=(locM x).length-gv.length:=List.length_drop ..
 have SD:Sl eTy (· < w1.heap.size) w2 (if lc=gv.length then la else la.map (·.add (gv.length*2))) ((locM x).drop gv.length):=sl_from SL hcap gv.length
 rw [<-hd]
 obtain ⟨da,hda⟩:∃ da,da=(if lc=gv.length then la else la.map (·.add (gv.length*2))):=⟨_,rfl⟩
 rw [<-hda] at SD ⊢
 refine lpk ((locM x).drop gv.length).length 30 [10] [(0,ptr b),(1,I 0),(2,I (n:Nat)),(28,.slice da ((locM x).drop gv.length).length (lc-gv.length)),(29,I ((locM x).drop gv.length).length)] (fun j vals w'=>∃ (qa:Option Addr) (qc:Nat) (qv:List (Int×Bool)),vals=[.slice qa qv.length qc]/\OwP 2 encVal w' w1.heap.size 78 qa qc qv/\qv.length=gv.length+j/\Bl w w'/\w1.heap.size<=w'.heap.size/\Sl eTy (· < w1.heap.size) w' da ((locM x).drop gv.length)) ⟨pa,pc,gv,rfl,OP,rfl,B02,B2.size,SD⟩ ?_
 rintro j vals w3 hj ⟨qa,qc,qv,rfl,OQ,hqv,B3,z23,SD⟩ ih
 by_cases hlt:j<((locM x).drop gv.length).length
 ·refine brT ?_
  obtain ⟨t,b0,o0,_,ht,rfl,_,hA0,rfl⟩:=at_some SD hlt
  refine ix (j:=j) ?_
  refine lda hA0 ?_
  refine al fun b4 w4 k4 => ?_
  refine sta (cs':=encTy t) k4.box fun w5 k5 x5 => ?_
  have B35:Bl w3 w5:=k4.wr k5
  refine lda x5.at ?_
  refine cl (i_isRef t w5) ?_
  rintro _ w6 ⟨rfl,B6⟩
  refine bd (cs:=encVal (0,decide (2<=t.kind))) ?_
  refine bs (cs:=encVal (0,decide (2<=t.kind))) fun b7 w7 k7 => ?_
  have B37:=(B35.trans B6).trans k7.bl
  have z1:=B1.size;have z2:=B2.size;have z37:=B37.size
  refine apl (l1:=[(0,decide (2<=t.kind))]) (OQ.bl B37) (.inr ⟨b7,0,rfl,k7.box.at⟩) (by omega) (fun a8 c8 w8 O8 A8 f8 => ?_) (hb:=by rw [hqv,List.length_singleton];omega) (hn:=by rw [hqv,List.length_singleton];omega)
  refine ih hlt ⟨a8,c8,_,rfl,O8,by rw [List.length_append,hqv,List.length_singleton];omega,?_,by have:=A8.size;omega,?_⟩
  ·exact Below.trans (B3.trans B37) (A8.below (B3.trans B37).size fun g hg=>by have:=(OQ.lt hg).1;omega)
  ·exact (SD.bl B37).kp (A8.kp.sub fun i (hi:i<w1.heap.size) z=>by have z9:=(OQ.lt z).1;omega)
 ·refine brF ?_
  have hx3:=Bl.box B3 hx
  have hJ3:=hJ.bl B3
  refine ld (hx3.cell rfl) ?_
  refine ix (j:=0) ?_
  refine ld (hJ3.at rfl 0 _ rfl) ?_
  refine bd (cs:=fic n qa qv.length qc) ?_
  refine bs (cs:=fic n qa qv.length qc) fun b10 w10 k10 => ?_
  refine ap (Ow.nil w10 w10.heap.size 99 5) (.inr ⟨b10,0,rfl,k10.box.at⟩) (Nat.le_refl _) (fun a11 c11 w11 O11 A11 f11 => ?_)
  have B11:Bl w10 w11:=A11.below (Nat.le_refl _) fun g hg=>by cases hg
  have B311:=k10.bl.trans B11
  have hJ11:=hJ3.bl B311
  obtain ⟨cs',xg,hcl,hc1,mk'⟩:=hJ11.only
  refine stx xg (fun w12 k12 x12 => ?_) (ho:=by rw [List.length_append];show 0+0*6<6+_;omega)
  rw [set_app (by show 0+0*6<6;omega)] at x12
  have B011:=B3.trans B311
  have z3:=B3.size
  have z10:=k10.size
  refine en ⟨a11,c11,_,_,_,w10.heap.size,mk' w12 _ rfl x12,O11.wr k12 fun g' hg' => ?_,by omega,(B011.chg _).trans (k12.chg rfl)⟩
  have:=(O11.lt hg').1
  omega
end Go.Proofs.YtdjkoljonlcemaaGreat

/- Walks: a job of the program's world is started, and what it tells then. -/
namespace Go.Proofs.YtdjkoljonlcemaaGreat
open Eng Go.RowKit
set_option maxHeartbeats 4000000 in
theorem i_settle (m:Mod) (A:MA) (b g base base':Nat) (n:Nat) (x:MM) (jc fc:Nat) (v1 v2 v3 v5 v6:Value) (lk:List Value) (fa la:Option Addr) (ln lc:Nat) (w:World) (hM:MdR (· < base) w m A) (hmx:m.methods[n]? = some x)
  (hx:Box w b 71 (wip m A v1 v2 v3 (.slice (some ⟨g,0,none⟩) 1 jc) v5 v6++lk)) (hJ:Ow w base 82 6 (some ⟨g,0,none⟩) 1 jc (jic (.slice fa 1 fc) false)) (hF:Ow w base' 99 5 fa 1 fc (fic n la ln lc))
  (hr:x.code=[]->x.result.kind=0):Ret Tryz.prog 22 #[ptr b,I 0] w fun _ w'=>Chg (· = g) w w'/\((x.code≠[]/\Bl w w')∨(x.code=[]/\Ow w' base 82 6 (some ⟨g,0,none⟩) 1 jc (jic (.slice fa 0 fc) true))):=by
 have hg:=hJ.lt rfl
 have hb:=hx.lt
 have hn:=(List.getElem?_eq_some_iff.1 hmx).1
 have hmb:=hM.mth.big
 obtain ⟨gf,rfl⟩:∃ gf,fa=some ⟨gf,0,none⟩:=by
  rcases hF.shape with ⟨_,z,_⟩ | ⟨gf,_,z,_⟩
  ·omega
  ·exact ⟨gf,z⟩
 refine entr (vs:=[ptr b,I 0]) [0,1,4,5,6,7,8,20,51,87,91,98] tabok Tryz.func22 (by kernel_rfl) ?_
 refine ld (hx.cell rfl) ?_
 refine ix (j:=0) ?_
 refine lp (vals:=[]) (m:=1) [] [(0,ptr b),(1,I 0),(4,.pointer (some ⟨g,0+0*6,none⟩))] (fun r vals w'=>vals=[]/\((r=1/\w=w')∨(r=0/\x.code=[]/\Ow w' base 82 6 (some ⟨g,0,none⟩) 1 jc (jic (.slice (some ⟨gf,0,none⟩) 0 fc) false)/\Chg (· = g) w w'))) ⟨rfl,rfl,rfl,trivial⟩ ⟨rfl,.inl ⟨rfl,rfl⟩⟩ ?_
 rintro r vals w' ⟨rfl,⟨rfl,rfl⟩ | ⟨rfl,hc0,hJ',C⟩⟩ ih
 ·refine ld (hJ.at rfl 0 _ rfl) ?_
  refine brT ?_ (hp:=by decide)
  refine dh T (List.range 12) fun w1 k1 => ?_
  have hJ1:=hJ.bl k1.bl
  refine ld (hJ1.at rfl 0 _ rfl) ?_ (hm:=trivial)
  refine ld (hJ1.at rfl 0 _ rfl) ?_ (hm:=trivial)
  refine ix (j:=0) ?_
  refine dh T (List.range 11) fun w2 k2 => ?_
  have B2:=k1.bl.trans k2.bl
  refine ld ((Bl.box B2 hx).cell rfl) ?_ (hm:=trivial)
  refine ld ((hF.bl B2).at rfl 0 _ rfl) ?_ (hm:=trivial)
  obtain ⟨x',bm,om,cm,hx',e1,hSm,hAm,a1,c1,a2,c2,a3,c3,rfl,f1,f2,f3,_⟩:=at_some (hM.bl B2).mth (i:=n) hn
  obtain rfl:x'=x:=Option.some.inj (hx'.symm.trans hmx)
  rw [e1]
  refine ix (j:=n) ?_
  refine dh T (List.range 10) fun w3 k3 => ?_
  have B3:=B2.trans k3.bl
  refine ld ((hF.bl B3).at rfl 3 _ rfl) ?_ (hm:=trivial)
  refine ld ((At.bl k3.bl hAm) 6 _ rfl) ?_ (hm:=trivial)
  by_cases hc:x'.code.length=0
  rotate_left
  ·refine brT ?_ (hp:=by omega)
   exact rt (vs:=[]) ⟨B3.chg _,.inl ⟨fun z=>hc (by rw [z];rfl),B3⟩⟩
  refine brF ?_ (hp:=by omega)
  have hcn:=List.eq_nil_of_length_eq_zero hc
  have hk:=hr hcn
  refine ld ((hF.bl B3).at rfl 2 _ rfl) ?_
  refine dht 3 T (List.range 12) fun w4 k4 => ?_
  have B4:=B3.trans k4.bl
  have hJ4:=hJ.bl B4
  refine ld (hJ4.at rfl 0 _ rfl) ?_ (hm:=trivial)
  refine ld (hJ4.at rfl 0 _ rfl) ?_ (hm:=trivial)
  refine sl 0 0 ?_
  rw [add_zero_a,Nat.sub_zero,Nat.sub_zero]
  obtain ⟨cs',xg,hcl,hc1,mk'⟩:=hJ4.only
  refine stx xg (fun w5 k5 x5 => ?_) (ho:=by rw [List.length_append];show 0+0*6<6+_;omega)
  rw [set_app (by show 0+0*6<6;omega)] at x5
  have hS':bm<base:=hSm
  have hA5:=At.kp (k5.kp (S:=(· < base)) fun i (hi:i<base)=>by omega) hSm (At.bl (k3.bl.trans k4.bl) hAm)
  refine ld (hA5 4 _ rfl) ?_
  refine brT ?_ (hp:=by simp [hk])
  refine again (ih 0 _ _ _ (by omega) ⟨rfl,rfl,rfl,trivial⟩ rfl ⟨rfl,.inr ⟨rfl,hcn,mk' w5 _ rfl x5,(B4.chg _).trans (k5.chg rfl)⟩⟩)
 ·refine ld (hJ'.at rfl 0 _ rfl) ?_
  refine brF ?_ (hp:=by decide)
  obtain ⟨cs',xg,hcl,hc1,mk'⟩:=hJ'.only
  refine stx xg (fun w5 k5 x5 => ?_) (ho:=by rw [List.length_append];show 0+0*6+3<6+_;omega)
  refine stx x5 (fun w6 k6 x6 => ?_) (ho:=by rw [List.length_set,List.length_append];show 0+0*6+2<6+_;omega)
  rw [set_app (by show 0+0*6+3<6;omega),set_app (by show 0+0*6+2<6;omega)] at x6
  exact en (vs:=[]) ⟨(C.trans (k5.chg rfl)).trans (k6.chg rfl),.inr ⟨hc0,mk' w6 _ rfl x6⟩⟩
inductive JobQ (w:World) (lo:Nat) (m:Mod) (A:MA) (b n:Nat) (x:MM):Prop where
 | mk (g jc base fc:Nat) (fa:Option Addr) (v1 v2 v3 v5 v6:Value) (lk:List Value) (hx:Box w b 71 (wip m A v1 v2 v3 (.slice (some ⟨g,0,none⟩) 1 jc) v5 v6++lk)) (hp:∃ bc oc,v2 = .pointer (some ⟨bc,oc,none⟩)) (hlo:lo<=base)
  (hj:(x.code≠[]/\Ow w base 82 6 (some ⟨g,0,none⟩) 1 jc (jic (.slice fa 1 fc) false)/\∃ base' la ln lc,Ow w base' 99 5 fa 1 fc (fic n la ln lc)/\lo<=base')∨(x.code=[]/\Ow w base 82 6 (some ⟨g,0,none⟩) 1 jc (jic (.slice fa 0 fc) true)))
theorem JobQ.same {w w':World} {lo:Nat} {m:Mod} {A:MA} {b n:Nat} {x:MM} (h:JobQ w lo m A b n x) (k:∀ i,i<w.heap.size->(i=b∨lo<=i)->w'.heap[i]? = w.heap[i]?):JobQ w' lo m A b n x:=by
 obtain ⟨g,jc,base,fc,fa,v1,v2,v3,v5,v6,lk,hx,hp,hlo,hj⟩:=h
 refine ⟨g,jc,base,fc,fa,v1,v2,v3,v5,v6,lk,(by unfold Box;rw [k b hx.lt (.inl rfl)];exact hx),hp,hlo,?_⟩
 rcases hj with ⟨hc,hO,base',la,ln,lc,hF,hl⟩ | ⟨hc,hO⟩
 ·exact .inl ⟨hc,hO.same fun i hi=>k i (hO.lt hi).2 (.inr (by have:=(hO.lt hi).1;omega)),base',la,ln,lc,hF.same fun i hi=>k i (hF.lt hi).2 (.inr (by have:=(hF.lt hi).1;omega)),hl⟩
 ·exact .inr ⟨hc,hO.same fun i hi=>k i (hO.lt hi).2 (.inr (by have:=(hO.lt hi).1;omega))⟩
theorem JobQ.bl {w w':World} {lo:Nat} {m:Mod} {A:MA} {b n:Nat} {x:MM} (h:JobQ w lo m A b n x) (k:Bl w w'):JobQ w' lo m A b n x:=h.same fun i hi _=>k.block i hi
set_option maxHeartbeats 8000000 in
theorem i_Start (m:Mod) (A:MA) (b:Nat) (k:Int) (args:List Int) (aa:Option Addr) (ac:Nat) (w:World) (hv:verE m=0) (h:WI w m A b) (hA:Sl eInt (· < b) w aa args) (hl:args.length<=100) :
  Ret Tryz.prog 6 #[ptr b,I k,.slice aa args.length ac] w fun v w'=>v = .tuple #[I 0,I (staE m k args)]/\Chg (· = b) w w'/\(staE m k args=0->∃ n x,k=(n:Nat)/\m.methods[n]? = some x/\JobQ w' w.heap.size m A b n x):=by
 obtain ⟨pl,sta,mh,ms,bc,oc,lk,hx,hlk⟩:=h.bx
 obtain ⟨P,hmok⟩:=ver_mok hv
 have hb:=hx.lt
 have hmb:=h.md.mth.big
 refine entr (vs:=[ptr b,I k,.slice aa args.length ac]) [0,1,2,6,7,8,9,10,11,12,14,15,31,69,75,76,77,78,79] tabok Tryz.func6 (by kernel_rfl) ?_
 refine cl (i_none hx rfl) ?_
 rintro _ w1 ⟨rfl,rfl⟩
 refine ldg (fun _=>hx.cell rfl) ?_
 by_cases hk:0<=k/\k<m.methods.length
 rotate_left
 ·refine brt ?_ (hp:=by simp;omega)
  have:staE m k args=1:=by
   unfold staE
   split
   ·rw [List.getElem?_eq_none (by omega)]
   ·rfl
  rw [this]
  exact rt2 ⟨rfl,Chg.refl _ _,fun z=>by cases z⟩
 refine brf ?_ (hp:=by simp;omega)
 obtain ⟨n,rfl⟩:=Int.eq_ofNat_of_zero_le hk.1
 obtain ⟨x,bm,om,cm,hmx,e1,hSm,hAm,a1,c1,a2,c2,a3,c3,rfl,f1,f2,f3,_⟩:=at_some h.md.mth (i:=n) (by omega)
 have M:=P.mth n x hmx
 have esta:staE m n args=if staP x args then 0 else 1:=by
  unfold staE
  rw [if_pos hk.1,Int.toNat_natCast,hmx]
 have hpl:=M.pl
 refine ld (hx.cell rfl) ?_
 rw [e1]
 refine ix (j:=n) ?_
 refine al fun b2 w2 k2 => ?_
 refine stx k2.box (fun w3 k3 x3 => ?_) (ho:=by decide)
 have B3:Bl w1 w3:=k2.wr k3
 have y2:=k2.blk
 have z3:=B3.size
 have hA3:=At.bl B3 hAm
 refine ld (hA3 2 _ rfl) ?_
 refine cl (ContainsFunc_typ x.params a1 c1 19 [ptr b2] (fun t => !decide (t.kind=1)) (· < b) w3 (f1.bl B3) fun t cs hx' w' kk hr => ?_) ?_
 ·obtain rfl:cs=encTy t:=hr
  exact h_notn t b2 w' ((Bl.box kk x3).cell rfl)
 rintro _ w4 ⟨rfl,B34⟩
 have B4:=B3.trans B34
 have hA4:=At.bl B4 hAm
 refine ld (hA4 1 _ rfl) ?_
 refine ldg (fun _=>hA4 2 _ rfl) ?_
 have hany:(x.params.any fun t => !decide (t.kind=1))=true↔¬∀ t∈x.params,t.kind=1:=by
  simp [List.any_eq_true]
 by_cases hq:x.cls = -1/\(∀ t∈x.params,t.kind=1)/\x.params.length=args.length
 rotate_left
 ·have hneg:(¬x.cls = -1∨∃ t,t∈x.params/\¬t.kind=1)∨¬(args.length:Int)=x.params.length:=by
   by_cases h1:x.cls = -1
   ·by_cases h2:∀ t∈x.params,t.kind=1
    ·exact .inr fun z=>hq ⟨h1,h2,by omega⟩
    ·exact .inl (.inr (by simpa using h2))
   ·exact .inl (.inl h1)
  refine spn (.bool false) ?_ (hb:=by simp;exact hneg)
  refine brt ?_ (hp:=by simp;exact hneg)
  have hno:staE m n args=1:=by rw [esta,if_neg fun z=>hq ⟨z.1,z.2.2.1,z.2.1⟩]
  rw [hno]
  exact rt2 ⟨rfl,B4.chg _,fun z=>by cases z⟩
 refine spt (.bool false) ?_ (hb:=by simp;exact ⟨⟨hq.1,hq.2.1⟩,by omega⟩)
 refine cl (ContainsFunc_int args aa ac 17 [] (fun q => !wordB q) (· < b) w4 (hA.bl B4) fun t cs hx' w' kk hr => ?_) ?_
 ·obtain rfl:cs=encInt t:=hr
  exact h_word t w'
 rintro _ w5 ⟨rfl,B45⟩
 have B5:=B4.trans B45
 by_cases hw:∀ q∈args,wordB q=true
 rotate_left
 ·refine brt ?_ (hp:=by simp;simpa using hw)
  have hno:staE m n args=1:=by rw [esta,if_neg fun z=>hw z.2.2.2]
  rw [hno]
  exact rt2 ⟨rfl,B5.chg _,fun z=>by cases z⟩
 refine brf ?_ (hp:=by simp;simpa using hw)
 have hsta:staP x args:=⟨hq.1,hq.2.2,hq.2.1,hw⟩
 rw [esta,if_pos hsta]
 have hx5:=Bl.box B5 hx
 refine ld (hx5.cell rfl) ?_
 refine brF ?_
 refine lpk args.length 78 [12] [(0,ptr b),(1,I (n:Nat)),(76,.slice aa args.length ac),(77,I args.length)] (fun j vals w'=>∃ (qa:Option Addr) (qc:Nat) (qv:List (Int×Bool)),vals=[.slice qa qv.length qc]/\OwP 2 encVal w' w1.heap.size 78 qa qc qv/\qv.length=j/\Bl w1 w') ⟨none,0,[],rfl,Ow.nil ..,rfl,B5⟩ ?_
 rintro j vals w6 hj ⟨qa,qc,qv,rfl,OQ,hqv,B6⟩ ih
 by_cases hlt:j<args.length
 ·refine brT ?_
  obtain ⟨q,bq,oq,_,hq',rfl,_,hAq,rfl⟩:=at_some (hA.bl B6) hlt
  refine ix (j:=j) ?_
  refine ld (hAq 0 _ rfl) ?_
  refine bd (cs:=encVal (q,false)) ?_
  refine bs (cs:=encVal (q,false)) fun b7 w7 k7 => ?_
  have z6:=B6.size;have z7:=k7.bl.size
  refine apl (l1:=[(q,false)]) (OQ.bl k7.bl) (.inr ⟨b7,0,rfl,k7.box.at⟩) (by omega) (fun a8 c8 w8 O8 A8 f8 => ?_) (hb:=by rw [hqv,List.length_singleton];omega) (hn:=by rw [hqv,List.length_singleton];omega)
  refine ih hlt ⟨a8,c8,_,rfl,O8,?_,?_⟩
  ·rw [List.length_append,hqv,List.length_singleton]
  ·exact Below.trans (B6.trans k7.bl) (A8.below (B6.trans k7.bl).size fun g hg=>by have:=(OQ.lt hg).1;omega)
 refine brF ?_
 clear ih
 obtain rfl:j=args.length:=by omega
 have hx6:=Bl.box B6 hx
 refine ld (hx6.cell rfl) ?_
 refine bd (cs:=jic (.slice none 0 0) false) ?_
 refine bs (cs:=jic (.slice none 0 0) false) fun b7 w7 k7 => ?_
 refine ap (Ow.nil w7 w7.heap.size 82 6) (.inr ⟨b7,0,rfl,k7.box.at⟩) (Nat.le_refl _) (fun a8 c8 w8 O8 A8 f8 => ?_)
 have B78:Bl w7 w8:=A8.below (Nat.le_refl _) fun g hg=>by cases hg
 have B68:=k7.bl.trans B78
 have B8:=B6.trans B68
 obtain ⟨g,rfl⟩:∃ g,a8=some ⟨g,0,none⟩:=by
  rcases O8.shape with ⟨_,z,_⟩ | ⟨gf,_,z,_⟩
  ·omega
  ·exact ⟨gf,z⟩
 have hg:=O8.lt rfl
 have hx8:=Bl.box B68 hx6
 refine stx hx8 (fun w9 k9 x9 => ?_) (ho:=by rw [List.length_append];show 7<12+_;omega)
 rw [set_app (by show 7<12;omega)] at x9
 have x9':Box w9 b 71 (wip m A pl (.pointer (some ⟨bc,oc,none⟩)) sta (.slice (some ⟨g,0,none⟩) 1 c8) mh ms++lk):=x9
 have z6:=B6.size;have z7:=k7.bl.size;have z9:=k9.size;have z8:=B78.size
 have O9:=O8.wr k9 fun q hq=>by cases hq;omega
 have C9:Chg (· = b) w1 w9:=(B8.chg _).trans (k9.chg rfl)
 refine ld (x9'.cell rfl) ?_
 have KB:=k9.kp (S:=(· < b)) fun i (hi:i<b)=>by omega
 have hM9:=(h.md.bl B8).kp KB
 have hQ9:=((owp_sl OQ (by omega) (fun g hg=>(OQ.lt hg))).bl B68).kp (k9.kp fun i hi=>by omega)
 have hlo:qv.length<=(locM x).length:=by
  unfold locM
  simp only [List.length_append]
  omega
 refine cl (i_enter m A b g w7.heap.size n x qv qa qc c8 _ _ _ _ _ lk w9 P hmx hM9 x9' O9 (by omega) hlo hQ9) ?_
 rintro _ w10 ⟨fa,fc,la,ln,lc,base',O10,F10,hb',C10⟩
 have x10:=C10.box x9' (by omega)
 have hM10:=hM9.kp (C10.kp.sub fun i (hi:i<b)=>by omega)
 refine cl (i_settle m A b g w7.heap.size base' n x c8 fc _ _ _ _ _ lk fa la ln lc w10 (hM10.sub fun i (hi:i<b)=>by show i<w7.heap.size;omega) hmx x10 O10 F10 (fun z=>mok_nil (hmok x (List.mem_of_getElem? hmx)) z)) ?_
 rintro _ w11 ⟨C11,hj11⟩
 have x11:=C11.box x10 (by omega)
 refine rt2 ⟨rfl,(C9.newer C10 fun i hi => .inr ?_).newer C11 fun i hi => .inr ?_,fun _=>⟨n,x,rfl,hmx,⟨g,c8,w7.heap.size,fc,fa,_,_,_,_,_,lk,x11,⟨bc,oc,rfl⟩,by omega,?_⟩⟩⟩
 ·have hi':i=g:=hi
  omega
 ·have hi':i=g:=hi
  omega
 ·rcases hj11 with ⟨q1,B11⟩ | ⟨q1,q2⟩
  ·exact .inl ⟨q1,O10.bl B11,base',la,ln,lc,F10.bl B11,by omega⟩
  ·exact .inr ⟨q1,q2⟩
end Go.Proofs.YtdjkoljonlcemaaGreat

/- Walks: what a started job of the program's world tells. -/
namespace Go.Proofs.YtdjkoljonlcemaaGreat
open Eng Go.RowKit
abbrev encPair:Int×Int->List Value:=fun v=>[I v.1,I v.2]
theorem JobQ.frames {w:World} {lo:Nat} {m:Mod} {A:MA} {b n:Nat} {x:MM} (h:JobQ w lo m A b n x):∃ (g jc base fc N base':Nat) (fa la:Option Addr) (ln lc:Nat) (v1 v3 v5 v6:Value) (bc oc:Nat) (lk:List Value),Box w b 71 (wip m A v1 (.pointer (some ⟨bc,oc,none⟩)) v3 (.slice (some ⟨g,0,none⟩) 1 jc) v5 v6++lk) /\
  Ow w base 82 6 (some ⟨g,0,none⟩) 1 jc (jic (.slice fa N fc) (decide (x.code.length=0)))/\(N=if x.code.length=0 then 0 else 1)/\(N=1->Ow w base' 99 5 fa 1 fc (fic n la ln lc)):=by
 obtain ⟨g,jc,base,fc,fa,v1,v2,v3,v5,v6,lk,hx,⟨bc,oc,rfl⟩,_,hj⟩:=h
 rcases hj with ⟨hc,hO,base',la,ln,lc,hF,_⟩ | ⟨hc,hO⟩
 ·have h0:¬x.code.length=0:=fun z=>hc (List.eq_nil_of_length_eq_zero z)
  exact ⟨g,jc,base,fc,1,base',fa,la,ln,lc,v1,v3,v5,v6,bc,oc,lk,hx,by rw [decide_eq_false h0];exact hO,by rw [if_neg h0],fun _=>hF⟩
 ·have h0:x.code.length=0:=by rw [hc];rfl
  exact ⟨g,jc,base,fc,0,0,fa,none,0,0,v1,v3,v5,v6,bc,oc,lk,hx,by rw [decide_eq_true h0];exact hO,by rw [if_pos h0],fun z=>by cases z⟩
theorem i_job {w:World} {lo:Nat} {m:Mod} {A:MA} {b n:Nat} {x:MM} (h:JobQ w lo m A b n x):Ret Tryz.prog 26 #[ptr b,I 0] w fun v w'=>v = .bool true/\w'=w:=by
 obtain ⟨g,jc,base,fc,N,base',fa,la,ln,lc,v1,v3,v5,v6,bc,oc,lk,hx,hO,hN,hF⟩:=h.frames
 refine entr (vs:=[ptr b,I 0]) [0,1,4] tabok Tryz.func26 (by kernel_rfl) ?_
 refine cl (i_none hx rfl) ?_
 rintro _ w1 ⟨rfl,rfl⟩
 refine spt (.bool false) ?_
 refine ld (hx.cell rfl) ?_
 exact rt1 ⟨rfl,rfl⟩
theorem i_Over {w:World} {lo:Nat} {m:Mod} {A:MA} {b n:Nat} {x:MM} (h:JobQ w lo m A b n x):Ret Tryz.prog 9 #[ptr b,I 0] w fun v w'=>v = .tuple #[.bool (decide (x.code.length=0)),I 0]/\w'=w:=by
 obtain ⟨g,jc,base,fc,N,base',fa,la,ln,lc,v1,v3,v5,v6,bc,oc,lk,hx,hO,hN,hF⟩:=h.frames
 refine entr (vs:=[ptr b,I 0]) [0,1,4,5,9] tabok Tryz.func9 (by kernel_rfl) ?_
 refine cl (i_job h) ?_
 rintro _ w1 ⟨rfl,rfl⟩
 refine brf ?_ (hp:=by rfl)
 refine ld (hx.cell rfl) ?_
 refine ix (j:=0) ?_
 refine ld (hO.at rfl 3 _ rfl) ?_
 exact rt2 ⟨rfl,rfl⟩
set_option maxHeartbeats 4000000 in
theorem i_Frames {w:World} {lo:Nat} {m:Mod} {A:MA} {b n:Nat} {x:MM} (h:JobQ w lo m A b n x):Ret Tryz.prog 8 #[ptr b,I 0] w fun v w'=>∃ (qa:Option Addr) (qc:Nat) (qv:List (Int×Int)),v = .tuple #[.slice qa qv.length qc,I 0]/\OwP 2 encPair w' w.heap.size 46 qa qc qv/\(qv.length=if x.code.length=0 then 0 else 1)/\(∀ q∈qv,q=((n:Int),(0:Int)))/\Bl w w':=by
 obtain ⟨g,jc,base,fc,N,base',fa,la,ln,lc,v1,v3,v5,v6,bc,oc,lk,hx,hO,hN,hF⟩:=h.frames
 rw [<-hN]
 have hN1:N<=1:=by rw [hN];split <;> omega
 refine entr (vs:=[ptr b,I 0]) [0,1,4,5,6,8,12,20,21,22,23] tabok Tryz.func8 (by kernel_rfl) ?_
 refine cl (i_job h) ?_
 rintro _ w1 ⟨rfl,rfl⟩
 refine brf ?_ (hp:=by rfl)
 refine ld (hx.cell rfl) ?_
 refine ix (j:=0) ?_
 refine ld (hO.at rfl 0 _ rfl) ?_
 refine lpk N 22 [6] [(0,ptr b),(1,I 0),(20,.slice fa N fc),(21,I N)] (fun j vals w'=>∃ (qa:Option Addr) (qc:Nat) (qv:List (Int×Int)),vals=[.slice qa qv.length qc]/\OwP 2 encPair w' w1.heap.size 46 qa qc qv/\qv.length=j/\(∀ q∈qv,q=((n:Int),(0:Int)))/\Bl w1 w') ⟨none,0,[],rfl,Ow.nil ..,rfl,by simp,Bl.refl _⟩ ?_
 rintro j vals w2 hj ⟨qa,qc,qv,rfl,OQ,hqv,hall,B2⟩ ih
 by_cases hlt:j<N
 ·refine brT ?_
  obtain rfl:j=0:=by omega
  have hF2:=(hF (by omega)).bl B2
  obtain ⟨gf,rfl⟩:∃ gf,fa=some ⟨gf,0,none⟩:=by
   rcases hF2.shape with ⟨_,z,_⟩ | ⟨gf,_,z,_⟩
   ·omega
   ·exact ⟨gf,z⟩
  refine ix (j:=0) ?_
  refine lda (cs:=fic n la ln lc) (hF2.at rfl) ?_
  refine al fun b3 w3 k3 => ?_
  refine sta (cs':=fic n la ln lc) k3.box fun w4 k4 x4 => ?_
  have B24:Bl w2 w4:=k3.wr k4
  refine ld (x4.cell rfl) ?_
  refine ld (x4.cell rfl) ?_
  refine bda (cs:=encPair ((n:Int),(0:Int))) ?_
  refine bs (cs:=encPair ((n:Int),(0:Int))) fun b5 w5 k5 => ?_
  have B25:=B24.trans k5.bl
  have z2:=B2.size;have z5:=B25.size
  refine apl (l1:=[((n:Int),(0:Int))]) (OQ.bl B25) (.inr ⟨b5,0,rfl,k5.box.at⟩) (by omega) (fun a8 c8 w8 O8 A8 f8 => ?_) (hb:=by rw [hqv,List.length_singleton];omega) (hn:=by rw [hqv,List.length_singleton];omega)
  refine ih hlt ⟨a8,c8,_,rfl,O8,?_,?_,?_⟩
  ·rw [List.length_append,hqv,List.length_singleton]
  ·intro q hq
   rcases List.mem_append.1 hq with z | z
   ·exact hall q z
   ·exact List.mem_singleton.1 z
  ·exact Below.trans (B2.trans B25) (A8.below (B2.trans B25).size fun g hg=>by have:=(OQ.lt hg).1;omega)
 refine brF ?_
 clear ih
 exact rt2 ⟨qa,qc,qv,rfl,OQ,by omega,hall,B2⟩
end Go.Proofs.YtdjkoljonlcemaaGreat

/- Walks: the law InterpStarts. -/
namespace Go.Proofs.YtdjkoljonlcemaaGreat
open Eng Go.RowKit
theorem WI.bl {w w':World} {m:Mod} {A:MA} {b:Nat} (h:WI w m A b) (B:Bl w w'):WI w' m A b:=by
 obtain ⟨h1,pl,st,mh,ms,bc,oc,lk,hx,hl⟩:=h
 exact ⟨h1.bl B,pl,st,mh,ms,bc,oc,lk,Bl.box B hx,hl⟩
set_option maxHeartbeats 4000000 in
theorem l_begun (m:Mod) (a:MA) (w:World) (hM:MdR T w m a):Ret Tryz.prog 4 #[.agg (modcells m a).toArray,I 2,I 0] w fun v w' =>
  ((verE m=0/\∃ A b base d,v = .tuple #[ptr b,ptr d,.bool true]/\WI w' m A b/\w.heap.size<=b/\b<base/\W18 (· < base) base w' m a d)∨(verE m≠0/\v = .tuple #[.pointer none,.pointer none,.bool true]))/\Bl w w':=by
 refine entr (vs:=[.agg (modcells m a).toArray,I 2,I 0]) [0,1,2,3,6,7,8,9,10,11,12,36] tabok Tryz.func4 (by kernel_rfl) ?_
 refine bx (cs:=modcells m a) fun b1 w1 k1 => ?_
 refine lda k1.box.at ?_
 refine cl (i_New m a w1 (hM.bl k1.bl)) ?_
 rintro _ w2 ⟨hi,B2⟩
 have x2:=Bl.box B2 k1.box
 have B02:=k1.bl.trans B2
 rcases hi with ⟨hv,A,b,rfl,hb,hW⟩ | ⟨hv,rfl⟩
 ·refine lda x2.at ?_
  refine cl (d_New m a w2 (hM.bl B02)) ?_
  rintro _ w3 ⟨⟨_,d,rfl,hD⟩ | ⟨hv',_⟩,B3⟩
  rotate_left
  ·exact absurd hv hv'
  refine spt (.bool false) ?_
  refine pnl ?_
  refine spt (.bool false) ?_
  refine nbl ?_
  refine brf ?_ (hp:=by rfl)
  exact rt3 ⟨.inl ⟨hv,A,b,w2.heap.size,d,rfl,hW.bl B3,by have:=k1.bl.size;omega,(by obtain ⟨_,_,_,_,_,_,_,_,hx,_⟩:=hW;exact hx.lt),hD⟩,B02.trans B3⟩
 ·refine lda x2.at ?_
  refine cl (d_New m a w2 (hM.bl B02)) ?_
  rintro _ w3 ⟨⟨hv',_⟩ | ⟨_,rfl⟩,B3⟩
  ·exact absurd hv' hv
  refine spt (.bool false) ?_
  refine pnl ?_
  refine spt (.bool false) ?_
  refine nbl ?_
  refine brf ?_ (hp:=by rfl)
  exact rt3 ⟨.inr ⟨hv,rfl⟩,B02.trans B3⟩
set_option maxHeartbeats 8000000 in
theorem l_InterpStarts (m:Mod) (a:MA) (k:Int) (args:List Int) (aa:Option Addr) (ac:Nat) (w:World) (hM:MdR T w m a) (hA:Sl eInt T w aa args) :
  Ret Tryz.prog 3 #[.agg (modcells m a).toArray,I k,.slice aa args.length ac] w fun v w'=>v = .bool true/\Bl w w':=by
 have q1:=hA.big
 have hML:=hM.lt
 have hAL:Sl eInt (· < w.heap.size) w aa args:=Sl.lt (by decide) hA
 refine entr (vs:=[.agg (modcells m a).toArray,I k,.slice aa args.length ac]) [0,1,2,3,6,7,8,9,10,11,12,13,14,15,16,17,18,35,61,63,111] tabok Tryz.func3 (by kernel_rfl) ?_
 refine bx (cs:=modcells m a) fun b1 w1 k1 => ?_
 have y1:=k1.blk;have z1:=k1.bl.size;have hb1:=k1.box.lt
 refine lda k1.box.at ?_
 refine cl (l_begun m a w1 (hM.bl k1.bl)) ?_
 rintro _ w2 ⟨⟨hv,A,b,base,d,rfl,hI,hb,hbd,hD⟩ | ⟨hv,rfl⟩,B2⟩
 rotate_left
 ·refine spt (.bool false) ?_
  refine pnl ?_
  refine brt ?_ (hp:=by rfl)
  refine spt (.bool false) ?_
  refine cl (Zr.k_sane18 w2) ?_
  rintro _ w3 ⟨rfl,B3⟩
  exact rt1 ⟨rfl,(k1.bl.trans B2).trans B3⟩
 refine spt (.bool false) ?_
 refine pnl ?_
 have B02:=k1.bl.trans B2
 by_cases hl:args.length<=100
 rotate_left
 ·refine brt ?_ (hp:=by simp;omega)
  refine spt (.bool false) ?_
  refine cl (Zr.k_sane18 w2) ?_
  rintro _ w3 ⟨rfl,B3⟩
  exact rt1 ⟨rfl,B02.trans B3⟩
 refine brf ?_ (hp:=by simp;omega)
 have z2:=B2.size;have z02:=B02.size
 refine cl (i_Start m A b k args aa ac w2 hv hI ((hAL.bl B02).sub fun i (hi:i<w.heap.size)=>by show i<b;omega) hl) ?_
 rintro _ w3 ⟨rfl,C3,hJ⟩
 have hbase:base<=d:=hD.le
 have hbd2:d<w2.heap.size:=by
  obtain ⟨_,_,_,_,_,_,_,_,hx,_⟩:=hD;exact hx.lt
 have L3:Below w1.heap.size w2 w3:=C3.below z2 fun i (hi:i=b)=>by omega
 have B03:Bl w w3:=Below.trans B02 (L3.mono z1)
 have x3:Box w3 b1 26 (modcells m a):=C3.box (Bl.box B2 k1.box) (fun (z:b1=b)=>by omega)
 have hD3:W18 (· < w.heap.size) w.heap.size w3 m a d:=by
  obtain ⟨_,_,v1,la,lc,v3,v4,xs,hx,hO,hxs⟩:=hD
  exact ⟨hML.bl B03,by omega,v1,la,lc,v3,v4,xs,C3.box hx (fun (z:d=b)=>by omega),hO.same fun i hi=>C3.block i (hO.lt hi).2 (fun (z:i=b)=>by have:=(hO.lt hi).1;omega),hxs⟩
 refine cl (d_Start m a d w.heap.size k args aa ac w3 hv hD3 (hAL.bl B03) hl) ?_
 rintro _ w4 ⟨rfl,C4⟩
 have z3:=C3.size
 have B04:Bl w w4:=Below.trans B03 (C4.below B03.size fun i (hi:i=d)=>by omega)
 refine brf ?_ (hp:=by simp)
 by_cases hst:staE m k args=0
 rotate_left
 ·refine brf ?_ (hp:=by simp [hst])
  refine cl (Zr.k_sane18 w4) ?_
  rintro _ w5 ⟨rfl,B5⟩
  exact rt1 ⟨rfl,B04.trans B5⟩
 refine brt ?_ (hp:=by simp [hst])
 obtain ⟨n,x,rfl,hmx,hQ⟩:=hJ hst
 have hn:=(List.getElem?_eq_some_iff.1 hmx).1
 have hQ4:=hQ.same (w':=w4) fun i hi hi'=>C4.block i hi fun (z:i=d)=>by rcases hi' with q | q <;> omega
 have x4:=C4.box x3 (fun (z:b1=d)=>by omega)
 refine cl (i_Frames hQ4) ?_
 rintro _ w5 ⟨qa,qc,qv,rfl,OQ,hqv,hall,B5⟩
 refine cl (i_Over (hQ4.bl B5)) ?_
 rintro _ w6 ⟨rfl,rfl⟩
 have B06:=B04.trans B5
 have x6:=Bl.box B5 x4
 refine ld (x6.cell rfl) ?_
 obtain ⟨x',bm,om,cm,hx',e1,hSm,hAm,a1,c1,a2,c2,a3,c3,rfl,f1,f2,f3,_⟩:=at_some (hM.bl B06).mth (i:=n) hn
 obtain rfl:x'=x:=Option.some.inj (hx'.symm.trans hmx)
 rw [e1]
 refine ix (j:=n) ?_
 refine ld (hAm 6 _ rfl) ?_
 by_cases hc:x'.code.length=0
 ·rw [hc] at hqv ⊢
  refine spt (.bool false) ?_
  refine nbl ?_
  refine spnP [(102,false)] 98 true [(95,false)] (ptr 0) ?_
  refine spnP [(102,false)] 98 true [(95,false)] (.agg #[]) ?_
  refine spnP [(102,false)] 98 true [(95,false)] (.agg #[]) ?_
  refine spnP [(102,false)] 98 true [(95,false)] (.bool false) ?_
  refine brf ?_ (hp:=by rfl)
  refine cl (Zr.k_sane18 w6) ?_
  rintro _ w7 ⟨rfl,B7⟩
  exact rt1 ⟨rfl,B06.trans B7⟩
 ·obtain ⟨r,hr⟩:∃ r,x'.code.length=r+1:=⟨x'.code.length-1,by omega⟩
  rw [if_neg hc] at hqv
  obtain ⟨q0,rfl⟩:∃ q0,qv=[q0]:=List.length_eq_one_iff.1 hqv
  obtain rfl:=hall q0 (List.mem_singleton.2 rfl)
  have SQ:=owp_sl (S:=T) OQ (by simp) (fun _ _=>trivial)
  obtain ⟨q,bq,oq,_,hq,rfl,_,hAq,rfl⟩:=at_some (i:=0) SQ (by simp)
  obtain rfl:q=((n:Int),(0:Int)):=(Option.some.inj hq).symm
  rw [hr]
  refine spt (.bool false) ?_
  refine nbl ?_
  refine spt3 ?_
  refine ix (j:=0) ?_
  refine spt (.bool false) ?_
  refine lda (cs:=encPair ((n:Int),(0:Int))) hAq ?_
  refine spt (.bool false) ?_
  refine bda (cs:=encPair ((n:Int),(0:Int))) ?_
  refine spt (.bool false) ?_
  refine neA (fun w=>eq_pair (n:Int) 0 (n:Int) 0 w) ?_
  refine brf ?_ (hp:=by simp)
  refine cl (Zr.k_sane18 w6) ?_
  rintro _ w7 ⟨rfl,B7⟩
  exact rt1 ⟨rfl,B06.trans B7⟩
end Go.Proofs.YtdjkoljonlcemaaGreat
