import Derived.Test.YtkmdfjpafkcleaaGreatDoorM3
import Derived.Test.YtkmdfjpafkcleaaGreatDoorM2
import Derived.Lib.LastIndexByte
/- Walks: what all units declare, the program. -/
namespace Go.Proofs.YtkmdfjpafkcleaaGreatDoor
open Eng Go.RowKit
abbrev tLn:TypeId:=88
theorem poolAt {S:Nat->Prop} {w:World} {u:Unt} {ua:UA} (h:UnR S w u ua) {i:Int} (hi:inP u i):∃ (k:Nat) (b o:Nat),i=k/\k<u.pool.length/\ua.a1=some ⟨b,o,none⟩/\S b/\w.cell? ⟨b,o+k*1,none⟩=some (.string (nm u i)):=by
 obtain ⟨k,rfl,hk⟩:=inP_at hi
 obtain ⟨b,o,cs,e,hs,hAt,rfl⟩:=h.pool.el k _ hk
 exact ⟨k,b,o,rfl,(List.getElem?_eq_some_iff.1 hk).1,e,hs,hAt 0 _ rfl⟩
theorem nm_size {S:Nat->Prop} {w:World} {u:Unt} {ua:UA} (h:UnR S w u ua) {i:Int} (hi:inP u i):(nm u i).size<=1048576:=h.ps _ (nm_mem hi)
theorem dots_size (x y:ByteArray):(dots x y).size=x.size+1+y.size:=by
 unfold dots
 rw [ByteArray.size_append,ByteArray.size_append];rfl
set_option maxHeartbeats 4000000 in
theorem k_declare {w0:World} {b:Nat} {us:List Unt} {au:Option Addr} {cu:Nat} (hx:Box w0 b tLn (lcells (.slice au us.length cu) (.map none) (.map none) (.map none) (.map none) (.map none) (.map none) nilS nilS nilS nilS (.map none)))
  (hS:Sl eUnt (· ≠ b) w0 au us) (hC:∀ u∈us,CkU u) (h5:us.length<=5) :
  Ret Tryz.prog 91 #[.pointer (some ⟨b,0,none⟩)] w0 fun _ w'=>∃ m1 m2 m3 m4 m5 m6 M,DcW w0 b (.slice au us.length cu) m1 m2 m3 m4 m5 m6 (decl us) M 1000 w':=by
 have hb0:=hx.lt
 refine entr (vs:=[.pointer (some ⟨b,0,none⟩)]) [0,2,3,4,5,6,8,9,10,11,12,13,14,42,43,44,45,50,51,52,53,76,77,78,79,98,99,100,101,124,125,126,127,139] tabok Tryz.func91 (by kernel_rfl) ?_
 refine mm fun m1 w1 k1 => ?_
 refine mm fun m2 w2 k2 => ?_
 refine mm fun m3 w3 k3 => ?_
 have B13:=k2.bl.trans k3.bl
 refine st (Bl.box (k1.bl.trans B13) hx) fun w4 k4 x4 => ?_
 refine st x4 fun w5 k5 x5 => ?_
 refine st x5 fun w6 k6 x6 => ?_
 refine mm fun m4 w7 k7 => ?_
 refine mm fun m5 w8 k8 => ?_
 refine mm fun m6 w9 k9 => ?_
 have B79:=k8.bl.trans k9.bl
 refine st (Bl.box (k7.bl.trans B79) x6) fun w10 k10 x10 => ?_
 refine st x10 fun w11 k11 x11 => ?_
 refine st x11 fun w12 k12 x12 => ?_
 have z1:=k1.size;have z2:=k2.size;have z3:=k3.size;have z4:=k4.size;have z5:=k5.size;have z6:=k6.size;have z7:=k7.size;have z8:=k8.size;have z9:=k9.size;have z10:=k10.size;have z11:=k11.size;have z12:=k12.size
 have y1:=k1.blk;have y2:=k2.blk;have y3:=k3.blk;have y7:=k7.blk;have y8:=k8.blk;have y9:=k9.blk
 have n912:Nc b w9 w12:=((Nc.of_bl (Bl.refl w9)).wr k10 (.inl rfl)).wr k11 (.inl rfl) |>.wr k12 (.inl rfl)
 have n812:=(Nc.of_bl (b:=b) k9.bl).trans n912
 have n712:=(Nc.of_bl (b:=b) B79).trans n912
 have n612:=(Nc.of_bl (b:=b) k7.bl).trans n712
 have n312:Nc b w3 w12:=(((Nc.of_bl (Bl.refl w3)).wr k4 (.inl rfl)).wr k5 (.inl rfl) |>.wr k6 (.inl rfl)).trans n612
 have n212:=(Nc.of_bl (b:=b) k3.bl).trans n312
 have n112:=(Nc.of_bl (b:=b) B13).trans n312
 have n012:=(Nc.of_bl (b:=b) k1.bl).trans n112
 have D12:DcW w0 b (.slice au us.length cu) m1 m2 m3 m4 m5 m6 dcl0 [] 0 w12 :=
  ⟨x12,(k1.is encD).nb n112.nb (by omega),(k2.is encD).nb n212.nb (by omega),(k3.is encD).nb n312.nb (by omega),(k7.is encD).nb n712.nb (by omega),(k8.is encR).nb n812.nb (by omega),rfl,(k9.is Value.bool).nb n912.nb (by omega),RowsD.nil ..,by omega,by omega,n012,fun p hp=>by cases hp⟩
 clear n912 n812 n712 n612 n312 n212 n112 n012
 refine ld (x12.cell rfl) ?_
 refine lpk us.length 44 [] [(0,.pointer (some ⟨b,0,none⟩)),(42,.slice au us.length cu),(43,I us.length)] (fun n vals w'=>vals=[]/\∃ M,DcW w0 b (.slice au us.length cu) m1 m2 m3 m4 m5 m6 (foldI dUnt (us.take n) dcl0) M (16*n) w') ⟨rfl,[],D12⟩ ?_
 rintro n vals v1 hn ⟨rfl,M,D1⟩ ih
 by_cases hlt:n<us.length
 rotate_left
 ·refine brF ?_
  obtain rfl:n=us.length:=by omega
  rw [foldI_end] at D1
  exact en (vs:=[]) ⟨m1,m2,m3,m4,m5,m6,M,{ D1 with ln:=fun p hp=>by have:=D1.ln p hp;omega }⟩
 refine brT ?_
 obtain ⟨u,bu,ou,cs,hu,rfl,hbu,hAtu,ua,rfl,hU⟩:=at_some hS hlt
 have hum:=List.mem_of_getElem? hu
 have hCu:=hC u hum
 have hI:=ixs_of hCu
 have hLm:=lim_of hCu.lim
 refine ix ?_
 refine lda (hAtu.kp D1.nc.nb.kp hbu) ?_
 refine al fun b3 v2 k2 => ?_
 refine sta (cs':=ucells u ua) k2.box fun v3 k3 x3 => ?_
 have D3:=D1.bl (k2.wr k3)
 refine ld (x3.cell rfl) ?_
 refine lpk (vals:=[]) u.classes.length 52 [] [(0,.pointer (some ⟨b,0,none⟩)),(42,.slice (some ⟨bu,ou,none⟩) us.length cu),(43,I us.length),(44,I n),(2,I n),(3,.pointer (some ⟨b3,0,none⟩)),(50,.slice ua.a2 u.classes.length ua.c2),(51,I u.classes.length)]
  (fun k vals w'=>vals=[]/\Box w' b3 38 (ucells u ua)/\∃ M,DcW w0 b (.slice (some ⟨bu,ou,none⟩) us.length cu) m1 m2 m3 m4 m5 m6 (foldI (dCls u n) (u.classes.take k) (foldI dUnt (us.take n) dcl0)) M (16*n) w') ⟨rfl,x3,M,D3⟩ ?_ (hn:=by have:=hLm.cls;omega)
 rintro k vals v4 hk ⟨rfl,x4,M,D4⟩ ih2
 by_cases hkl:k<u.classes.length
 ·refine brT ?_
  obtain ⟨c,bc,oc,cs,hc,e2,hbc,hAtc,af,cf,rfl,hF⟩:=at_some hU.cls hkl
  have hcm:=List.mem_of_getElem? hc
  rw [e2]
  refine ix ?_
  refine lda (hAtc.kp D4.nc.nb.kp hbc) ?_
  refine al fun b5 v5 k5 => ?_
  refine sta (cs':=ccells c af cf) k5.box fun v6 k6 x6 => ?_
  have D6:=D4.bl (k5.wr k6)
  have x46:=Bl.box (k5.wr k6) x4
  refine ds fun v7 k7 => ?_
  have D7:=D6.bl k7.bl
  have x47:=k7.box x46
  have x67:=k7.box x6
  obtain ⟨ip,bp,op,ei,hip,ep,hbp,hcp⟩:=poolAt hU (hI.plc.cn c hcm)
  refine ld (x47.cell rfl) ?_
  refine cat ?_ (hab:=by have:=hU.nm;show _+1<=_;omega)
  refine ld (x47.cell rfl) ?_
  refine ld (x67.cell rfl) ?_
  rw [ep]
  refine ix (j:=ip) ?_ (hij:=ei)
  refine ld (D7.nc.nb.kp _ _ _ hbp hcp) ?_
  refine cat ?_ (hab:=by have:=hU.nm;have:=nm_size hU (hI.plc.cn c hcm);rw [ByteArray.size_append];show _+1+_<=_;omega)
  obtain ⟨p,hp⟩:∃ p,u.name++⟨#[46]⟩++nm u c.name=p:=⟨_,rfl⟩
  have hpd:dots u.name (nm u c.name)=p:=hp
  have hps:p.size<=2097153:=by have:=hU.nm;have:=nm_size hU (hI.plc.cn c hcm);rw [<-hpd,dots_size];omega
  rw [hp]
  refine ld (D7.box.cell rfl) ?_
  refine bd ?_
  refine mu (n,k) tD D7.cl fun v8 k8 hM8 => ?_
  have D8:=D7.cls k8 hM8
  have x48:=k8.box x47 (D7.cl.ne x47).symm
  have x68:=k8.box x67 (D7.cl.ne x67).symm
  refine ld (x68.cell rfl) ?_
  refine lpk (vals:=[]) c.fields.length 78 [] [(0,.pointer (some ⟨b,0,none⟩)),(42,.slice (some ⟨bu,ou,none⟩) us.length cu),(43,I us.length),(44,I n),(2,I n),(3,.pointer (some ⟨b3,0,none⟩)),(50,.slice (some ⟨bc,oc,none⟩) u.classes.length ua.c2),(51,I u.classes.length),(52,I k),(6,.string p),(76,.slice af c.fields.length cf),(77,I c.fields.length)]
   (fun j vals w'=>vals=[]/\Box w' b3 38 (ucells u ua)/\∃ M,DcW w0 b (.slice (some ⟨bu,ou,none⟩) us.length cu) m1 m2 m3 m4 m5 m6 ((c.fields.take j).foldl (dFld u p) { (foldI (dCls u n) (u.classes.take k) (foldI dUnt (us.take n) dcl0)) with classes:=putM (foldI (dCls u n) (u.classes.take k) (foldI dUnt (us.take n) dcl0)).classes p (n,k) }) M (16*n) w') ⟨rfl,x48,M,D8⟩ ?_ (hn:=by have:=hLm.flds c hcm;omega)
  rintro j vals v9 hj ⟨rfl,x9,M,D9⟩ ih3
  by_cases hjl:j<c.fields.length
  ·refine brT ?_
   obtain ⟨f,bf,off,cs,hf,rfl,hbf,hAtf,rfl⟩:=at_some hF hjl
   have hfi:=hI.plc.fn c hcm f (List.mem_of_getElem? hf)
   refine ix ?_
   refine lda (hAtf.kp D9.nc.nb.kp hbf) ?_
   refine al fun b8 v10 k10 => ?_
   refine sta (cs':=encFld f) k10.box fun v11 k11 x11 => ?_
   have D11:=D9.bl (k10.wr k11)
   have x911:=Bl.box (k10.wr k11) x9
   refine dt 1 fun v12 k12 => ?_
   have D12:=D11.bl k12.bl
   have x912:=k12.box x911
   have x1112:=k12.box x11
   obtain ⟨ip,bp,op,ei,hip,ep,hbp,hcp⟩:=poolAt hU hfi
   have hnf:=nm_size hU hfi
   refine ld (D12.box.cell rfl) ?_
   refine cat ?_ (hab:=by show _+1<=_;omega)
   refine ld (x912.cell rfl) ?_
   refine ld (x1112.cell rfl) ?_
   rw [ep]
   refine ix (j:=ip) ?_ (hij:=ei)
   refine ld (D12.nc.nb.kp _ _ _ hbp hcp) ?_
   refine cat ?_ (hab:=by rw [ByteArray.size_append];show _+1+_<=_;omega)
   refine mu true tB D12.fi fun v13 k13 hM13 => ?_
   have D13:=D12.fld k13 hM13
   exact ih3 hjl ⟨rfl,k13.box x912 (D12.fi.ne x912).symm,M,by rw [take_succ_some hf,List.foldl_append];exact D13⟩
  ·refine brF ?_
   obtain rfl:j=c.fields.length:=by omega
   rw [List.take_length] at D9
   refine ih2 hkl ⟨rfl,x9,M,?_⟩ (hsub:=by simp only [e2];repeat (first | exact True.intro | (refine ⟨rfl,?_⟩)))
   rw [foldI_snoc hc]
   unfold dCls
   rw [hpd];exact D9
 ·refine brF ?_
  obtain rfl:k=u.classes.length:=by omega
  clear ih2
  rw [foldI_end] at D4
  refine ld (x4.cell rfl) ?_
  refine lpk (vals:=[]) u.statics.length 100 [] [(0,.pointer (some ⟨b,0,none⟩)),(42,.slice (some ⟨bu,ou,none⟩) us.length cu),(43,I us.length),(44,I n),(2,I n),(3,.pointer (some ⟨b3,0,none⟩)),(98,.slice ua.a3 u.statics.length ua.c3),(99,I u.statics.length)]
   (fun k vals w'=>vals=[]/\Box w' b3 38 (ucells u ua)/\∃ M,DcW w0 b (.slice (some ⟨bu,ou,none⟩) us.length cu) m1 m2 m3 m4 m5 m6 (foldI (dSta u n) (u.statics.take k) (foldI (dCls u n) u.classes (foldI dUnt (us.take n) dcl0))) M (16*n) w') ⟨rfl,x4,M,D4⟩ ?_ (hn:=by have:=hLm.sta;omega)
  clear D4 x4
  rintro k vals v4 hk ⟨rfl,x4,M,D4⟩ ih2
  by_cases hkl:k<u.statics.length
  ·refine brT ?_
   obtain ⟨f,bc,oc,cs,hc,e2,hbc,hAtc,rfl⟩:=at_some hU.sta hkl
   have hfi:=hI.plc.sn f (List.mem_of_getElem? hc)
   rw [e2]
   refine ix ?_
   refine lda (hAtc.kp D4.nc.nb.kp hbc) ?_
   refine al fun b5 v5 k5 => ?_
   refine sta (cs':=encFld f) k5.box fun v6 k6 x6 => ?_
   have D6:=D4.bl (k5.wr k6)
   have x46:=Bl.box (k5.wr k6) x4
   refine dt 1 fun v7 k7 => ?_
   have D7:=D6.bl k7.bl
   have x47:=k7.box x46
   have x67:=k7.box x6
   obtain ⟨ip,bp,op,ei,hip,ep,hbp,hcp⟩:=poolAt hU hfi
   have hnf:=nm_size hU hfi
   have hnu:=hU.nm
   refine ld (D7.box.cell rfl) ?_
   refine ld (x47.cell rfl) ?_
   refine cat ?_ (hab:=by show _+1<=_;omega)
   refine ld (x47.cell rfl) ?_
   refine ld (x67.cell rfl) ?_
   rw [ep]
   refine ix (j:=ip) ?_ (hij:=ei)
   refine ld (D7.nc.nb.kp _ _ _ hbp hcp) ?_
   refine cat ?_ (hab:=by rw [ByteArray.size_append];show _+1+_<=_;omega)
   refine bd ?_
   refine mu (n,k) tD D7.st fun v8 k8 hM8 => ?_
   have D8:=D7.sta k8 hM8
   refine ih2 hkl ⟨rfl,k8.box x47 (D7.st.ne x47).symm,M,?_⟩ (hsub:=by simp only [e2];repeat (first | exact True.intro | (refine ⟨rfl,?_⟩)))
   rw [foldI_snoc hc];exact D8
  ·refine brF ?_
   obtain rfl:k=u.statics.length:=by omega
   clear ih2
   rw [foldI_end] at D4
   refine ld (x4.cell rfl) ?_
   refine lpk (vals:=[]) u.methods.length 126 [] [(0,.pointer (some ⟨b,0,none⟩)),(42,.slice (some ⟨bu,ou,none⟩) us.length cu),(43,I us.length),(44,I n),(2,I n),(3,.pointer (some ⟨b3,0,none⟩)),(124,.slice ua.a4 u.methods.length ua.c4),(125,I u.methods.length)]
    (fun k vals w'=>vals=[]/\Box w' b3 38 (ucells u ua)/\∃ M,DcW w0 b (.slice (some ⟨bu,ou,none⟩) us.length cu) m1 m2 m3 m4 m5 m6 (foldI (dMth u n) (u.methods.take k) (foldI (dSta u n) u.statics (foldI (dCls u n) u.classes (foldI dUnt (us.take n) dcl0)))) M (16*n+k) w') ⟨rfl,x4,M,D4⟩ ?_ (hn:=by have:=hLm.mth;omega)
   clear D4 x4
   rintro k vals v4 hk ⟨rfl,x4,M,D4⟩ ih2
   by_cases hkl:k<u.methods.length
   ·refine brT ?_
    obtain ⟨m,bc,oc,cs,hc,e2,hbc,hAtc,a1,c1,a2,c2,a3,c3,rfl,_⟩:=at_some hU.mth hkl
    have hmm:=List.mem_of_getElem? hc
    have hni:=hI.plc.mn m hmm
    have hnm:=nm_size hU hni
    have hnu:=hU.nm
    have hkn:16*n+k<=1000:=by have:=hLm.mth;omega
    rw [e2]
    refine ix ?_
    refine lda (hAtc.kp D4.nc.nb.kp hbc) ?_
    refine al fun b5 v5 k5 => ?_
    refine sta (cs':=mcells m a1 c1 a2 c2 a3 c3) k5.box fun v6 k6 x6 => ?_
    have D6:=D4.bl (k5.wr k6)
    have x46:=Bl.box (k5.wr k6) x4
    obtain ⟨ip,bp,op,ei,hip,ep,hbp,hcp⟩:=poolAt hU hni
    refine ld (x46.cell rfl) ?_
    refine ld (x6.cell rfl) ?_
    rw [ep]
    refine ix (j:=ip) ?_ (hij:=ei)
    refine ld (D6.nc.nb.kp _ _ _ hbp hcp) ?_
    refine ld (x6.cell rfl) ?_
    by_cases hcl:m.cls<0
    ·refine brT ?_ (hp:=hcl)
     refine dt 1 fun v7 k7 => ?_
     have D7:=D6.bl k7.bl
     have x47:=k7.box x46
     refine ld (D7.box.cell rfl) ?_
     refine ld (x47.cell rfl) ?_
     refine cat ?_ (hab:=by show _+1<=_;omega)
     refine cat ?_ (hab:=by rw [ByteArray.size_append];show _+1+_<=_;omega)
     refine bd ?_
     refine mu (n,k) tD D7.ca fun v8 k8 hM8 => ?_
     have D8:=D7.cal k8 hM8
     refine ih2 hkl ⟨rfl,k8.box x47 (D7.ca.ne x47).symm,M,?_⟩ (hsub:=by simp only [e2];repeat (first | exact True.intro | (refine ⟨rfl,?_⟩)))
     rw [foldI_snoc hc]
     unfold dMth
     rw [if_pos hcl]
     exact { D8 with ln:=fun p hp=>by have:=D8.ln p hp;omega }
    ·refine brF ?_ (hp:=hcl)
     have hci:inP u m.cls:=(hI.plc.mc m hmm).resolve_left fun e=>hcl (by omega)
     have hnc:=nm_size hU hci
     obtain ⟨iq,bq,oq,eq,hiq,epq,hbq,hcq⟩:=poolAt hU hci
     refine ld (x46.cell rfl) ?_
     refine ld (x6.cell rfl) ?_
     rw [epq]
     refine ix (j:=iq) ?_ (hij:=eq)
     refine ld (D6.nc.nb.kp _ _ _ hbq hcq) ?_
     refine cat ?_ (hab:=by show _+1<=_;omega)
     refine cat ?_ (hab:=by rw [ByteArray.size_append];show _+1+_<=_;omega)
     refine ld (D6.box.cell rfl) ?_
     refine bd ?_
     refine mu (n,k) tD D6.se fun v8 k8 hM8 => ?_
     have D8:=D6.sen k8 hM8
     have x48:=k8.box x46 (D6.se.ne x46).symm
     refine dht 1 (fun i=>i=b∨i=m5) (List.range 14) fun v9 k9 => ?_
     have D9:=D8.bl k9.bl
     have x49:=k9.box x48
     refine ld (D9.box.cell rfl) ?_ (hm:=by exact .inl rfl)
     refine ld (D9.box.cell rfl) ?_ (hm:=by exact .inl rfl)
     refine lk tN D9.na ?_ (hm:=by exact .inr rfl)
     rw [getD_enc]
     refine bs fun b10 v10 k10 => ?_
     have D10:=D9.bl k10.bl
     have x410:=Bl.box k10.bl x49
     have o10:=D10.rw.at0 (nm u m.name)
     have hl10:((getM M (nm u m.name)).getD rs0).l.length<=1000:=by
      rw [named_at D10.nm]
      cases hg:getM (_:Mp (List ByteArray)) (nm u m.name) with
      | none=>exact Nat.zero_le _
      | some l=>exact Nat.le_trans (D10.ln _ (getM_mem hg)) hkn
     refine apl (l1:=[nm u m.cls++(⟨#[46]⟩:ByteArray)++nm u m.name]) o10 (.inr ⟨b10,0,rfl,k10.box.at⟩) D10.nc.size (fun a11 c11 v11 o11 A11 f11 => ?_) (hb:=by simp only [List.length_cons,List.length_nil];omega) (hn:=by simp only [List.length_cons,List.length_nil];omega)
      (hm:=apS fun g hg e=>by
       rcases e with rfl | rfl
       ·exact o10.nbox D10.box (by decide) hg
       ·exact D10.na.ow o10 hg)
     have na11:=D10.na.ap A11 (D10.na.ow o10)
     refine mu (⟨a11,c11,((getM M (nm u m.name)).getD rs0).l++[nm u m.cls++(⟨#[46]⟩:ByteArray)++nm u m.name]⟩:Rs) tN na11 fun v12 k12 hM12 => ?_
     have D12:=D10.nam (nm u m.name) A11 o11 f11 k12 hM12
     have x411:=A11.box x410 (o10.nbox x410 (by decide))
     refine ih2 hkl ⟨rfl,k12.box x411 (na11.ne x411).symm,putM M (nm u m.name) ⟨a11,c11,((getM M (nm u m.name)).getD rs0).l++[nm u m.cls++(⟨#[46]⟩:ByteArray)++nm u m.name]⟩,?_⟩ (hsub:=by simp only [e2];repeat (first | exact True.intro | (refine ⟨rfl,?_⟩)))
     rw [foldI_snoc hc]
     unfold dMth
     rw [if_neg hcl]
     exact D12
   ·refine brF ?_
    obtain rfl:k=u.methods.length:=by omega
    rw [foldI_end] at D4
    refine ih hlt ⟨rfl,M,?_⟩
    rw [foldI_snoc hu]
    unfold dUnt
    exact { D4 with ln:=fun p hp=>by have:=D4.ln p hp;have:=hLm.mth;omega }
end Go.Proofs.YtkmdfjpafkcleaaGreatDoor
namespace Go.Proofs.YtkmdfjpafkcleaaGreatDoor
open Eng Go.RowKit
theorem getM_of_mem {α:Type}:∀ {M:Mp α} {k:ByteArray} {r:α},(keysM M).Nodup->(k,r)∈M->getM M k=some r
 | [],_,_,_,h=>by cases h
 | (k0,r0)::M,k,r,hn,h=>by
  simp only [keysM,List.map_cons,List.nodup_cons] at hn
  simp only [getM]
  rcases List.mem_cons.1 h with e | h
  ·obtain ⟨rfl,rfl⟩:=Prod.mk.inj e
   rw [if_pos rfl]
  ·rw [if_neg fun (e:k0=k)=>hn.1 (by rw [e];exact List.mem_map.2 ⟨_,h,rfl⟩)]
   exact getM_of_mem hn.2 h
theorem DcW.lnk {w0 w:World} {b:Nat} {us:List Unt} {au:Option Addr} {cu:Nat} {m1 m2 m3 m4 m5 m6:Nat} {D:Dcl} {M:Mp Rs} {N:Nat} (h:DcW w0 b (.slice au us.length cu) m1 m2 m3 m4 m5 m6 D M N w) (hN:N<=4194304) (hS:Sl eUnt (· ≠ b) w0 au us):Lnk w b us D:=by
 refine ⟨⟨au,cu,h.box.cell rfl,hS.kp h.nc.nb.kp⟩,⟨m1,h.box.cell rfl,h.cl⟩,⟨m2,h.box.cell rfl,h.st⟩,⟨m3,h.box.cell rfl,h.ca⟩,⟨m4,h.box.cell rfl,h.se⟩,⟨m5,M,h.box.cell rfl,h.na,h.nm,fun p hp => ?_⟩,⟨m6,h.box.cell rfl,h.fi⟩⟩
 have hg:=getM_of_mem (keys_nodup h.na) (show (p.1,p.2)∈M from hp)
 have o:=h.rw.ow p.1 p.2 hg
 have hl:p.2.l.length<=N:=h.ln (p.1,p.2.l) (by rw [<-h.nm];exact List.mem_map.2 ⟨p,hp,rfl⟩)
 exact owp_sl o (by omega) fun g hg (e:g=b)=>o.nbox h.box (by decide) (by rw [hg,e])
theorem hasPre (n p:ByteArray):Lib.hasPrefix p.data.toList (n++⟨#[46]⟩).data.toList=preL n p:=by
 unfold Lib.hasPrefix preL
 rw [Joins.data_append]
theorem l_HasPrefix (s p:ByteArray) (w:World):Ret Tryz.prog 155 #[.string s,.string p] w fun v w'=>v = .bool (Lib.hasPrefix s.data.toList p.data.toList)/\w'=w :=
 ⟨by kernel_rfl,(Tryz.strings_HasPrefix s p w).mono fun e w' r=>by obtain ⟨rfl,rfl⟩:=r;exact ⟨rfl,rfl⟩⟩
variable {w:World} {b:Nat} {us:List Unt} {D:Dcl}
set_option maxHeartbeats 4000000 in
theorem k_defined (hL:Lnk w b us D) (hC:∀ u∈us,CkU u) (h5:us.length<=5):Ret Tryz.prog 92 #[.pointer (some ⟨b,0,none⟩)] w fun v w'=>v = .bool (definedL us D)/\Bl w w':=by
 obtain ⟨au,cu,h0,hS⟩:=hL.us
 refine entr (vs:=[.pointer (some ⟨b,0,none⟩)]) [0,2,3,4,6,8,10,12,13,15,17,21,22,23,24,29,30,31,32,50,52,53,54,55,63,67,68,69,70,78,81,82,83,84,89,109,111,112,113,114,121,124,125,126,127,134] tabok Tryz.func92 (by kernel_rfl) ?_
 refine ld h0 ?_
 refine lpk us.length 23 [] [(0,.pointer (some ⟨b,0,none⟩)),(21,.slice au us.length cu),(22,I us.length)] (fun n vals w'=>vals=[]/\Bl w w'/\(us.take n).all (defU D)=true) ⟨rfl,Bl.refl _,rfl⟩ ?_
 rintro n vals v1 hn ⟨rfl,B1,ha1⟩ ih
 by_cases hlt:n<us.length
 rotate_left
 ·refine brF ?_
  obtain rfl:n=us.length:=by omega
  exact rt1 ⟨vb (all_end ha1).symm,B1⟩
 refine brT ?_
 obtain ⟨u,bu,ou,cs,hu,rfl,_,hAtu,ua,rfl,hU⟩:=at_some hS hlt
 have hum:=List.mem_of_getElem? hu
 have hCu:=hC u hum
 have hI:=ixs_of hCu
 have hLm:=lim_of hCu.lim
 have miss:defU D u=false->definedL us D=false:=fun h=>all_miss hu h
 refine ix ?_
 refine lda (hAtu.bl B1) ?_
 refine al fun b3 v2 k2 => ?_
 refine sta (cs':=ucells u ua) k2.box fun v3 k3 x3 => ?_
 have B13:=k2.wr k3
 have B3:=B1.trans B13
 refine ld (x3.cell rfl) ?_
 refine lpk (vals:=[]) u.classes.length 31 [] [(0,.pointer (some ⟨b,0,none⟩)),(21,.slice (some ⟨bu,ou,none⟩) us.length cu),(22,I us.length),(23,I n),(3,I n),(4,.pointer (some ⟨b3,0,none⟩)),(29,.slice ua.a2 u.classes.length ua.c2),(30,I u.classes.length)]
  (fun k vals w'=>vals=[]/\Bl v3 w'/\(u.classes.take k).all (defC D u)=true) ⟨rfl,Bl.refl _,rfl⟩ ?_ (hn:=by have:=hLm.cls;omega)
 rintro k vals v4 hk ⟨rfl,B34,ha2⟩ ih2
 have B4:=B3.trans B34
 by_cases hkl:k<u.classes.length
 ·refine brT ?_
  obtain ⟨c,bc,oc,cs,hc,e2,_,hAtc,af,cf,rfl,hF⟩:=at_some hU.cls hkl
  have hcm:=List.mem_of_getElem? hc
  have missC:defC D u c=false->defU D u=false:=fun h=>by unfold defU;rw [all_miss hc h];rfl
  rw [e2]
  refine ix ?_
  refine lda (hAtc.bl B4) ?_
  refine al fun b5 v5 k5 => ?_
  refine sta (cs':=ccells c af cf) k5.box fun v6 k6 x6 => ?_
  have B46:=k5.wr k6
  have B6:=B4.trans B46
  have hs:=hI.sup c hcm
  have KP:Eng.Env:=[]
  refine cut [50] [(0,.pointer (some ⟨b,0,none⟩)),(21,.slice (some ⟨bu,ou,none⟩) us.length cu),(22,I us.length),(23,I n),(3,I n),(4,.pointer (some ⟨b3,0,none⟩)),(29,.slice (some ⟨bc,oc,none⟩) u.classes.length ua.c2),(30,I u.classes.length),(31,I k),(6,.pointer (some ⟨b5,0,none⟩))]
   (fun vals w'=>vals=[.bool (!(decide (c.super<0)||hasM D.classes (nm u c.super)))]/\Bl v6 w') (fun jo => ?_) ?_
  ·refine dh T (List.range 16) fun v7 k7 => ?_
   have B67:Bl v6 v7:=k7.bl
   have B7:=B6.trans B67
   have L7:=hL.bl B7
   have x67:=k7.box x6
   obtain ⟨m,h1,hm⟩:=L7.cl
   refine ld (x67.cell rfl) ?_ (hm:=trivial)
   by_cases h0:c.super<0
   ·refine spn (.map none) ?_ (hb:=by rw [decide_eq_false (by omega)];rfl)
    refine spn (I 0) ?_ (hb:=by rw [decide_eq_false (by omega)];rfl)
    refine spn (.string nost) ?_ (hb:=by rw [decide_eq_false (by omega)];rfl)
    refine spn (.bool false) ?_ (hb:=by rw [decide_eq_false (by omega)];rfl)
    refine jo ⟨lst1 (vb ?_),B67⟩
    simp [h0]
   ·refine spt (.map none) ?_ (hb:=decide_eq_true (by omega))
    refine ld h1 ?_ (hm:=trivial)
    refine spt (I 0) ?_
    refine ld (x67.cell rfl) ?_ (hm:=trivial)
    refine spt (.string nost) ?_
    refine cl (k_path L7 hu (hs.inP h0)) ?_
    rintro _ _ ⟨rfl,rfl⟩
    refine spt (.bool false) ?_
    refine cl (k_has hm _) ?_
    rintro _ v8 ⟨rfl,B78⟩
    refine jo ⟨lst1 (vb ?_),B67.trans B78⟩
    simp [h0]
  rintro _ v8 ⟨rfl,B68⟩
  have B8:=B6.trans B68
  cases hsup:decide (c.super<0)||hasM D.classes (nm u c.super) with
  | false =>
   refine brt ?_
   refine rt1 ⟨vb ?_,B8⟩
   rw [miss (missC (by unfold defC;rw [hsup];rfl))]
  | true =>
   refine brf ?_
   refine ld ((Bl.box B68 x6).cell rfl) ?_
   refine lpk (vals:=[]) c.fields.length 54 [] [(0,.pointer (some ⟨b,0,none⟩)),(21,.slice (some ⟨bu,ou,none⟩) us.length cu),(22,I us.length),(23,I n),(3,I n),(4,.pointer (some ⟨b3,0,none⟩)),(29,.slice (some ⟨bc,oc,none⟩) u.classes.length ua.c2),(30,I u.classes.length),(31,I k),(52,.slice af c.fields.length cf),(53,I c.fields.length)]
    (fun j vals w'=>vals=[]/\Bl v8 w'/\(c.fields.take j).all (fun f=>isTypeL D u f.ty)=true) ⟨rfl,Bl.refl _,rfl⟩ ?_ (hn:=by have:=hLm.flds c hcm;omega)
   rintro j vals v9 hj ⟨rfl,B89,ha3⟩ ih3
   have B9:=B8.trans B89
   by_cases hjl:j<c.fields.length
   ·refine brT ?_
    obtain ⟨f,bf,off,cs,hf,rfl,_,hAtf,rfl⟩:=at_some (hF.bl B9) hjl
    refine ix ?_
    refine lda hAtf ?_
    refine al fun b8 v10 k10 => ?_
    refine sta (cs':=encFld f) k10.box fun v11 k11 x11 => ?_
    have B11:=B9.trans (k10.wr k11)
    refine lda (x11.at.sub 1 2) ?_
    refine cl (k_isType (hL.bl B11) hu (hI.fty c hcm f (List.mem_of_getElem? hf))) ?_
    rintro _ v12 ⟨rfl,B12⟩
    cases ht:isTypeL D u f.ty with
    | false =>
     refine brt ?_
     refine rt1 ⟨vb ?_,B11.trans B12⟩
     rw [miss (missC (by unfold defC;rw [all_miss hf ht,Bool.and_false]))]
    | true =>
     refine brf ?_
     exact ih3 hjl ⟨rfl,(B89.trans (k10.wr k11)).trans B12,all_snoc' hf ha3 ht⟩
   ·refine brF ?_
    obtain rfl:j=c.fields.length:=by omega
    exact ih2 hkl ⟨rfl,((B34.trans B46).trans B68).trans B89,all_snoc' hc ha2 (by unfold defC;rw [hsup,all_end ha3];rfl)⟩ (hsub:=by simp only [e2];repeat (first | exact True.intro | (refine ⟨rfl,?_⟩)))
 refine brF ?_
 obtain rfl:k=u.classes.length:=by omega
 clear ih2
 have hcls:=all_end ha2
 refine ld ((Bl.box B34 x3).cell rfl) ?_
 refine lpk (vals:=[]) u.statics.length 69 [] [(0,.pointer (some ⟨b,0,none⟩)),(21,.slice (some ⟨bu,ou,none⟩) us.length cu),(22,I us.length),(23,I n),(3,I n),(4,.pointer (some ⟨b3,0,none⟩)),(67,.slice ua.a3 u.statics.length ua.c3),(68,I u.statics.length)]
  (fun k vals w'=>vals=[]/\Bl v3 w'/\(u.statics.take k).all (fun f=>isTypeL D u f.ty)=true) ⟨rfl,B34,rfl⟩ ?_ (hn:=by have:=hLm.sta;omega)
 rintro k vals v5 hk ⟨rfl,B35,ha4⟩ ih2
 have B5:=B3.trans B35
 by_cases hkl:k<u.statics.length
 ·refine brT ?_
  obtain ⟨f,bf,off,cs,hf,e2,_,hAtf,rfl⟩:=at_some (hU.sta.bl B5) hkl
  rw [e2]
  refine ix ?_
  refine lda hAtf ?_
  refine al fun b8 v10 k10 => ?_
  refine sta (cs':=encFld f) k10.box fun v11 k11 x11 => ?_
  have B11:=B5.trans (k10.wr k11)
  refine lda (x11.at.sub 1 2) ?_
  refine cl (k_isType (hL.bl B11) hu (hI.sty f (List.mem_of_getElem? hf))) ?_
  rintro _ v12 ⟨rfl,B12⟩
  cases ht:isTypeL D u f.ty with
  | false =>
   refine brt ?_
   refine rt1 ⟨vb ?_,B11.trans B12⟩
   rw [miss (by unfold defU;rw [all_miss (p:=fun f=>isTypeL D u f.ty) hf ht,Bool.false_and,Bool.and_false])]
  | true =>
   refine brf ?_
   exact ih2 hkl ⟨rfl,(B35.trans (k10.wr k11)).trans B12,all_snoc' hf ha4 ht⟩ (hsub:=by simp only [e2];repeat (first | exact True.intro | (refine ⟨rfl,?_⟩)))
 refine brF ?_
 obtain rfl:k=u.statics.length:=by omega
 clear ih2
 have hsta:=all_end ha4
 refine ld ((Bl.box B35 x3).cell rfl) ?_
 refine lpk (vals:=[]) u.methods.length 83 [] [(0,.pointer (some ⟨b,0,none⟩)),(21,.slice (some ⟨bu,ou,none⟩) us.length cu),(22,I us.length),(23,I n),(3,I n),(4,.pointer (some ⟨b3,0,none⟩)),(81,.slice ua.a4 u.methods.length ua.c4),(82,I u.methods.length)]
  (fun k vals w'=>vals=[]/\Bl v3 w'/\(u.methods.take k).all (defM D u)=true) ⟨rfl,B35,rfl⟩ ?_ (hn:=by have:=hLm.mth;omega)
 rintro k vals v6 hk ⟨rfl,B36,ha5⟩ ih2
 have B6:=B3.trans B36
 by_cases hkl:k<u.methods.length
 rotate_left
 ·refine brF ?_
  obtain rfl:k=u.methods.length:=by omega
  exact ih hlt ⟨rfl,B13.trans B36 |> fun q=>B1.trans q,all_snoc' hu ha1 (by unfold defU;rw [hcls,hsta,all_end ha5];rfl)⟩
 refine brT ?_
 obtain ⟨m,bm,om,cs,hm,e2,_,hAtm,a1,c1,a2,c2,a3,c3,rfl,hF1,hF2,hF3⟩:=at_some hU.mth hkl
 have hmm:=List.mem_of_getElem? hm
 have missM:defM D u m=false->defU D u=false:=fun h=>by unfold defU;rw [all_miss hm h,Bool.and_false,Bool.and_false]
 rw [e2]
 refine ix ?_
 refine lda (hAtm.bl B6) ?_
 refine al fun b5 v7 k7 => ?_
 refine sta (cs':=mcells m a1 c1 a2 c2 a3 c3) k7.box fun v8 k8 x8 => ?_
 have B68:=k7.wr k8
 have B8:=B6.trans B68
 have x38:=Bl.box (B36.trans B68) x3
 refine ld (x8.cell rfl) ?_
 have hmc:¬m.cls<0->inP u m.cls:=fun h=>(hI.plc.mc m hmm).resolve_left fun e=>h (by omega)
 refine jn [] [(0,.pointer (some ⟨b,0,none⟩)),(21,.slice (some ⟨bu,ou,none⟩) us.length cu),(22,I us.length),(23,I n),(3,I n),(4,.pointer (some ⟨b3,0,none⟩)),(81,.slice (some ⟨bm,om,none⟩) u.methods.length ua.c4),(82,I u.methods.length),(83,I k),(12,.pointer (some ⟨b5,0,none⟩))] (fun vals w'=>vals=[]/\Bl v8 w'/\(decide (m.cls<0)||(hasM D.classes (nm u m.cls)&&preL u.name (nm u m.cls)))=true) (fun h jo => ?_) (fun h jo => ?_) ?_
 ·have h0:0<=m.cls:=of_decide_eq_true h
  have hi:=hmc (by omega)
  refine ld (x8.cell rfl) ?_
  refine cl (k_path (hL.bl B8) hu hi) ?_
  rintro _ _ ⟨rfl,rfl⟩
  obtain ⟨mb,h1,hmb⟩:=(hL.bl B8).cl
  refine ld h1 ?_
  refine cl (k_has hmb _) ?_
  rintro _ v9 ⟨rfl,B89⟩
  have B9:=B8.trans B89
  cases hh:hasM D.classes (nm u m.cls) with
  | false =>
   refine spn (.string nost) ?_
   refine spn (.string nost) ?_
   refine spn (.bool false) ?_
   refine brt ?_
   refine rt1 ⟨vb ?_,B9⟩
   rw [miss (missM (by unfold defM;rw [hh,decide_eq_false (by omega)];rfl))]
  | true =>
   refine spt (.string nost) ?_
   refine ld ((Bl.box B89 x38).cell rfl) ?_
   refine spt (.string nost) ?_
   refine cat ?_ (hab:=by have:=hU.nm;show _+1<=_;omega)
   refine spt (.bool false) ?_
   refine cl (l_HasPrefix _ _ v9) ?_
   rintro _ _ ⟨rfl,rfl⟩
   rw [hasPre]
   cases hp:preL u.name (nm u m.cls) with
   | false =>
    refine brt ?_
    refine rt1 ⟨vb ?_,B9⟩
    rw [miss (missM (by unfold defM;rw [hh,hp,decide_eq_false (by omega)];rfl))]
   | true =>
    refine brf ?_
    exact jo ⟨rfl,B89,by simp [hh,hp]⟩
 ·have h0:¬0<=m.cls:=of_decide_eq_false h
  exact jo ⟨rfl,Bl.refl _,by rw [decide_eq_true (by omega)];rfl⟩
 rintro _ v9 ⟨rfl,B89,hcl⟩
 have B9:=B8.trans B89
 have x9:=Bl.box B89 x8
 have hp4:=hLm.pars m hmm
 have hl10:=hLm.locs m hmm
 refine lda x9.at ?_
 refine cl (k_types m a1 c1 a2 c2 a3 c3 ((hF1.bl B9).sub fun _ _=>trivial) ((hF2.bl B9).sub fun _ _=>trivial) (by omega) (by omega)) ?_
 rintro _ v10 ⟨at',ct,rfl,O10,B910⟩
 have B10:=B9.trans B910
 have htl:(m.params++m.locals++[m.result]).length<=11:=by simp only [List.length_append,List.length_cons,List.length_nil];omega
 have S10:Sl eTy T v10 at' (m.params++m.locals++[m.result]):=owp_sl O10 (by omega) fun _ _=>trivial
 refine lpk (vals:=[]) (m.params++m.locals++[m.result]).length 113 [] [(0,.pointer (some ⟨b,0,none⟩)),(21,.slice (some ⟨bu,ou,none⟩) us.length cu),(22,I us.length),(23,I n),(3,I n),(4,.pointer (some ⟨b3,0,none⟩)),(81,.slice (some ⟨bm,om,none⟩) u.methods.length ua.c4),(82,I u.methods.length),(83,I k),(12,.pointer (some ⟨b5,0,none⟩)),(111,.slice at' (m.params++m.locals++[m.result]).length ct),(112,I (m.params++m.locals++[m.result]).length)]
  (fun j vals w'=>vals=[]/\Bl v10 w'/\((m.params++m.locals++[m.result]).take j).all (isTypeL D u)=true) ⟨rfl,Bl.refl _,rfl⟩ ?_
 rintro j vals v11 hj ⟨rfl,B1011,ha6⟩ ih3
 have B11:=B10.trans B1011
 by_cases hjl:j<(m.params++m.locals++[m.result]).length
 ·refine brT ?_
  obtain ⟨t,bf,off,cs,ht,rfl,_,hAtf,rfl⟩:=at_some (S10.bl B1011) hjl
  refine ix ?_
  refine lda hAtf ?_
  refine al fun b8 v12 k12 => ?_
  refine sta (cs':=encTy t) k12.box fun v13 k13 x13 => ?_
  have B13':=B11.trans (k12.wr k13)
  refine lda x13.at ?_
  refine cl (k_isType (hL.bl B13') hu (hI.mty m hmm t (List.mem_of_getElem? ht))) ?_
  rintro _ v14 ⟨rfl,B14⟩
  cases hti:isTypeL D u t with
  | false =>
   refine brt ?_
   refine rt1 ⟨vb ?_,B13'.trans B14⟩
   rw [miss (missM (by unfold defM;rw [all_miss ht hti,Bool.false_and,Bool.and_false]))]
  | true =>
   refine brf ?_
   exact ih3 hjl ⟨rfl,(B1011.trans (k12.wr k13)).trans B14,all_snoc' ht ha6 hti⟩
 refine brF ?_
 obtain rfl:j=(m.params++m.locals++[m.result]).length:=by omega
 clear ih3
 have htys:=all_end ha6
 refine ld ((Bl.box (B910.trans B1011) x9).cell rfl) ?_
 refine lpk (vals:=[]) m.code.length 126 [] [(0,.pointer (some ⟨b,0,none⟩)),(21,.slice (some ⟨bu,ou,none⟩) us.length cu),(22,I us.length),(23,I n),(3,I n),(4,.pointer (some ⟨b3,0,none⟩)),(81,.slice (some ⟨bm,om,none⟩) u.methods.length ua.c4),(82,I u.methods.length),(83,I k),(12,.pointer (some ⟨b5,0,none⟩)),(124,.slice a3 m.code.length c3),(125,I m.code.length)]
  (fun j vals w'=>vals=[]/\Bl v11 w'/\(m.code.take j).all (operL D u)=true) ⟨rfl,Bl.refl _,rfl⟩ ?_ (hn:=by have:=hF3.big;omega)
 rintro j vals v12 hj ⟨rfl,B1112,ha7⟩ ih3
 have B12:=B11.trans B1112
 by_cases hjl:j<m.code.length
 ·refine brT ?_
  obtain ⟨i,bf,off,cs,hi,rfl,_,hAtf,rfl⟩:=at_some (hF3.bl B12) hjl
  have him:=List.mem_of_getElem? hi
  refine ix ?_
  refine lda hAtf ?_
  refine al fun b8 v13 k13 => ?_
  refine sta (cs':=encIns i) k13.box fun v14 k14 x14 => ?_
  have B14:=B12.trans (k13.wr k14)
  refine lda x14.at ?_
  refine cl (k_operand (hL.bl B14) hu (hI.opa m hmm i him) (hI.opb m hmm i him)) ?_
  rintro _ v15 ⟨rfl,B15⟩
  cases hop:operL D u i with
  | false =>
   refine brt ?_
   refine rt1 ⟨vb ?_,B14.trans B15⟩
   rw [miss (missM (by unfold defM;rw [all_miss hi hop,Bool.and_false,Bool.and_false]))]
  | true =>
   refine brf ?_
   exact ih3 hjl ⟨rfl,(B1112.trans (k13.wr k14)).trans B15,all_snoc' hi ha7 hop⟩
 ·refine brF ?_
  obtain rfl:j=m.code.length:=by omega
  exact ih2 hkl ⟨rfl,(((((B36.trans B68).trans B89).trans B910).trans B1011).trans B1112),all_snoc' hm ha5 (by unfold defM;rw [hcl,htys,all_end ha7];rfl)⟩ (hsub:=by simp only [e2];repeat (first | exact True.intro | (refine ⟨rfl,?_⟩)))
end Go.Proofs.YtkmdfjpafkcleaaGreatDoor
namespace Go.Proofs.YtkmdfjpafkcleaaGreatDoor
open Eng Go.RowKit
def tyU (t:Ty):List Rf:=if tcls t=true then [⟨t.cls,2,false⟩] else []
def fldU (f:Fld):List Rf:=⟨f.name,1,false⟩::tyU f.ty
def clsU (c:Cls):List Rf:=⟨c.name,1,false⟩::⟨c.super,2,true⟩::c.fields.flatMap fldU
def mthU (m:Mth):List Rf:=⟨m.name,1,false⟩::⟨m.cls,2,true⟩::([m.params,m.locals].flatMap (·.flatMap tyU)++tyU m.result)
def headsU (u:Unt):List Rf:=u.classes.flatMap clsU++u.statics.flatMap fldU++u.methods.flatMap mthU
def opU (i:Ins):List Rf :=
 if i.op=17∨i.op=18 then [⟨i.a,3,false⟩] else if i.op=14∨i.op=24∨i.op=22∨i.op=23∨i.op=25 then [⟨i.a,2,false⟩] else if i.op=16 then [⟨i.b,2,false⟩] else if i.op=12 then (if i.a=3 then [] else [⟨i.b,2,false⟩]) else if i.op=26 then [⟨i.a,1,false⟩] else []
structure EachC (S:Nat->Prop) (w0:World) (g:FuncId) (caps:List Value) (J:List Rf->World->Prop) (Pok:Rf->Prop) (N:Nat):Prop where
 kp:∀ pre w,J pre w->Kp S w0 w
 bl:∀ pre w w',Bl w w'->J pre w->J pre w'
 run:∀ pre u b o w,pre.length<N->Pok u->S b->J pre w->w.cell? ⟨b,o,none⟩=some (I u.at')->Ret Tryz.prog g ([Value.agg #[.pointer (some ⟨b,o,none⟩),I u.parts,.bool u.opt]]++caps).toArray w fun _ w'=>J (pre++[u]) w'
theorem fm_take_le {α β:Type} (f:α->List β) {l:List α} {k:Nat} {x:α} (h:l[k]? = some x):((l.take k).flatMap f).length+(f x).length<=(l.flatMap f).length:=by
 obtain ⟨hk,rfl⟩:=List.getElem?_eq_some_iff.1 h
 conv=>rhs;rw [<-List.take_append_drop k l,List.drop_eq_getElem_cons hk,List.flatMap_append,List.flatMap_cons,List.length_append,List.length_append]
 omega
section
variable {S:Nat->Prop} {w0:World} {g:FuncId} {caps:List Value} {J:List Rf->World->Prop} {Pok:Rf->Prop} {N:Nat}
theorem h_types (hE:EachC S w0 g caps J Pok N) (t:Ty) (ht:∀ u∈tyU t,Pok u) (b o:Nat) (hb:S b) (hAt:At w0 b o [I t.kind,I t.cls]) (pre:List Rf) (w:World) (hJ:J pre w) (hN:pre.length+(tyU t).length<=N) :
  Ret Tryz.prog 205 #[.pointer (some ⟨b,o,none⟩),.func (.func g) #[] caps.toArray] w fun _ w'=>J (pre++tyU t) w':=by
 have hA:=hAt.kp (hE.kp pre w hJ) hb
 refine entr (vs:=[.pointer (some ⟨b,o,none⟩),.func (.func g) #[] caps.toArray]) [0,1,15] tabok Tryz.func205 (by kernel_rfl) ?_
 refine ld (hA.two.1) ?_
 refine ldg (fun _=>hA.two.1) ?_
 refine br (t:=tcls t) (fun h => ?_) (fun h => ?_)
 ·have e:tyU t=[⟨t.cls,2,false⟩]:=by unfold tyU;rw [if_pos h]
  refine bd ?_
  refine cl (hE.run pre ⟨t.cls,2,false⟩ b (o+1) w (by rw [e] at hN;exact hN) (ht _ (by rw [e];simp)) hb hJ hA.two.2) ?_
  intro v w' hJ'
  exact en (vs:=[]) (by rw [e];exact hJ')
 ·have e:tyU t=[]:=by unfold tyU;rw [if_neg (by rw [h];simp)]
  exact en (vs:=[]) (by rw [e,List.append_nil];exact hJ)
theorem fldAt {f:Fld} {b o:Nat} {w:World} (h:At w b o (encFld f)):At w b (o+1) [I f.ty.kind,I f.ty.cls]:=h.tail
theorem h_fields (hE:EachC S w0 g caps J Pok N) (l:List Fld) (hl:∀ f∈l,∀ u∈fldU f,Pok u) (a:Option Addr) (cap:Nat) (hS:Sl eFld S w0 a l) (pre:List Rf) (w:World) (hJ:J pre w) (hN:pre.length+(l.flatMap fldU).length<=N) :
  Ret Tryz.prog 204 #[.slice a l.length cap,.func (.func g) #[] caps.toArray] w fun _ w'=>J (pre++l.flatMap fldU) w':=by
 have hbig:=hS.big
 refine entr (vs:=[.slice a l.length cap,.func (.func g) #[] caps.toArray]) [0,1,4,6,7,8] tabok Tryz.func204 (by kernel_rfl) ?_
 refine lpk l.length 7 [] [(0,.slice a l.length cap),(1,.func (.func g) #[] caps.toArray),(6,I l.length)] (fun k vals w'=>vals=[]/\J (pre++(l.take k).flatMap fldU) w') ⟨rfl,by simpa using hJ⟩ ?_
 rintro k vals w1 hk ⟨rfl,hJ1⟩ ih
 by_cases hlt:k<l.length
 ·refine brT ?_
  obtain ⟨f,b,o,cs,hf,rfl,hSb,hAt0,rfl⟩:=at_some hS hlt
  have hm:=List.mem_of_getElem? hf
  have hq:=fm_take_le fldU hf
  have hq2:(fldU f).length=(tyU f.ty).length+1:=rfl
  have hAt:=hAt0.kp (hE.kp _ _ hJ1) hSb
  refine ix ?_
  refine bd ?_
  refine cl (hE.run _ ⟨f.name,1,false⟩ _ _ w1 (by simp only [List.length_append];omega) (hl f hm _ (by simp [fldU])) hSb hJ1 (hAt.three.1)) ?_
  intro v w2 hJ2
  refine ix ?_
  refine cl (h_types hE f.ty (fun u hu=>hl f hm u (by simp [fldU,hu])) b _ hSb (fldAt hAt0) _ w2 hJ2 (by simp only [List.length_append,List.length_cons,List.length_nil];omega)) ?_
  intro v3 w3 hJ3
  refine ih hlt ⟨rfl,?_⟩
  rw [flatMap_snoc hf]
  simpa [fldU] using hJ3
 ·refine brF ?_
  obtain rfl:k=l.length:=by omega
  exact en (vs:=[]) (by rw [List.take_length] at hJ1;exact hJ1)
theorem h_heads (hE:EachC S w0 g caps J Pok N) (u:Unt) (hP:∀ r∈headsU u,Pok r) (a:UA) (hU:UnR S w0 u a) (b0 o0:Nat) (hb0:S b0) (hx:At w0 b0 o0 (ucells u a)) (pre:List Rf) (w:World) (hJ:J pre w) (hN:pre.length+(headsU u).length<=N) :
  Ret Tryz.prog 146 #[.pointer (some ⟨b0,o0,none⟩),.func (.func g) #[] caps.toArray] w fun _ w'=>J (pre++headsU u) w':=by
 have n1:=hU.cls.big
 have n2:=hU.sta.big
 have n3:=hU.mth.big
 have hh:(headsU u).length=(u.classes.flatMap clsU).length+(u.statics.flatMap fldU).length+(u.methods.flatMap mthU).length:=by unfold headsU;rw [List.length_append,List.length_append]
 have X:∀ {pre w},J pre w->At w b0 o0 (ucells u a):=fun h=>hx.kp (hE.kp _ _ h) hb0
 refine entr (vs:=[.pointer (some ⟨b0,o0,none⟩),.func (.func g) #[] caps.toArray]) [0,1,4,5,6,7,9,10,15,16,17,54,55,56,84,85,86,89,90,91] tabok Tryz.func146 (by kernel_rfl) ?_
 refine ld (X hJ 2 _ rfl) ?_
 refine lpk u.classes.length 16 [] [(0,.pointer (some ⟨b0,o0,none⟩)),(1,.func (.func g) #[] caps.toArray),(15,I u.classes.length)] (fun k vals w'=>vals=[]/\J (pre++(u.classes.take k).flatMap clsU) w') ⟨rfl,by simpa using hJ⟩ ?_
 rintro k vals w1 hk ⟨rfl,hJ1⟩ ih
 by_cases hlt:k<u.classes.length
 ·refine brT ?_
  refine ld (X hJ1 2 _ rfl) ?_
  obtain ⟨c,b,o,cs,hc,e2,hSb,hAt0,af,cf,rfl,hF⟩:=at_some hU.cls hlt
  rw [e2]
  have hm:=List.mem_of_getElem? hc
  have hAt:=hAt0.kp (hE.kp _ _ hJ1) hSb
  have hq:=fm_take_le clsU hc
  have hq2:(clsU c).length=(c.fields.flatMap fldU).length+2:=rfl
  have hPc:∀ r∈clsU c,Pok r:=fun r hr=>hP r (by simp only [headsU,List.mem_append,List.mem_flatMap];exact .inl (.inl ⟨c,hm,hr⟩))
  refine ix ?_
  refine bd ?_
  refine cl (hE.run _ ⟨c.name,1,false⟩ _ _ w1 (by simp only [List.length_append];omega) (hPc _ (by simp [clsU])) hSb hJ1 (hAt 0 _ rfl)) ?_
  intro v2 w2 hJ2
  have hAt2:=hAt0.kp (hE.kp _ _ hJ2) hSb
  refine bd ?_
  refine cl (hE.run _ ⟨c.super,2,true⟩ _ _ w2 (by simp only [List.length_append,List.length_cons,List.length_nil];omega) (hPc _ (by simp [clsU])) hSb hJ2 (hAt2 1 _ rfl)) ?_
  intro v3 w3 hJ3
  have hAt3:=hAt0.kp (hE.kp _ _ hJ3) hSb
  refine ld (hAt3 2 _ rfl) ?_
  refine cl (h_fields hE c.fields (fun f hf r hr=>hPc r (by simp only [clsU,List.mem_cons,List.mem_flatMap];exact .inr (.inr ⟨f,hf,hr⟩))) af cf hF _ w3 hJ3 (by simp only [List.length_append,List.length_cons,List.length_nil];omega)) ?_
  intro v4 w4 hJ4
  refine ih hlt ⟨rfl,?_⟩
  rw [flatMap_snoc hc]
  simpa [clsU] using hJ4
 refine brF ?_
 obtain rfl:k=u.classes.length:=by omega
 rw [List.take_length] at hJ1
 refine ld (X hJ1 3 _ rfl) ?_
 refine cl (h_fields hE u.statics (fun f hf r hr=>hP r (by simp only [headsU,List.mem_append,List.mem_flatMap];exact .inl (.inr ⟨f,hf,hr⟩))) a.a3 a.c3 hU.sta _ w1 hJ1 (by simp only [List.length_append];omega)) ?_
 intro v5 w5 hJ5
 refine ld (X hJ5 4 _ rfl) ?_
 refine lpk u.methods.length 55 [] [(0,.pointer (some ⟨b0,o0,none⟩)),(1,.func (.func g) #[] caps.toArray),(54,I u.methods.length)] (fun k vals w'=>vals=[]/\J (pre++u.classes.flatMap clsU++u.statics.flatMap fldU++(u.methods.take k).flatMap mthU) w') ⟨rfl,by simpa using hJ5⟩ ?_
 rintro k vals w6 hk ⟨rfl,hJ6⟩ ih
 by_cases hlt:k<u.methods.length
 ·refine brT ?_
  refine ld (X hJ6 4 _ rfl) ?_
  obtain ⟨m,b,o,cs,hm',e2,hSb,hAt0,a1,c1,a2,c2,a3,c3,rfl,hF1,hF2,hF3⟩:=at_some hU.mth hlt
  rw [e2]
  have hm:=List.mem_of_getElem? hm'
  have hAt:=hAt0.kp (hE.kp _ _ hJ6) hSb
  have hq:=fm_take_le mthU hm'
  have hq2:(mthU m).length=([m.params,m.locals].flatMap (·.flatMap tyU)).length+(tyU m.result).length+2:=by simp only [mthU,List.length_cons,List.length_append]
  have hPm:∀ r∈mthU m,Pok r:=fun r hr=>hP r (by simp only [headsU,List.mem_append,List.mem_flatMap];exact .inr ⟨m,hm,hr⟩)
  refine ix ?_
  refine bd ?_
  refine cl (hE.run _ ⟨m.name,1,false⟩ _ _ w6 (by simp only [List.length_append];omega) (hPm _ (by simp [mthU])) hSb hJ6 (hAt 0 _ rfl)) ?_
  intro v7 w7 hJ7
  have hAt7:=hAt0.kp (hE.kp _ _ hJ7) hSb
  refine bd ?_
  refine cl (hE.run _ ⟨m.cls,2,true⟩ _ _ w7 (by simp only [List.length_append,List.length_cons,List.length_nil];omega) (hPm _ (by simp [mthU])) hSb hJ7 (hAt7 1 _ rfl)) ?_
  intro v8 w8 hJ8
  have hAt8:=hAt0.kp (hE.kp _ _ hJ8) hSb
  refine ds fun w9 h9 => ?_
  have hJ9:=hE.bl _ _ _ h9.bl hJ8
  have hAt9:=hAt0.kp (hE.kp _ _ hJ9) hSb
  refine ld (hAt9 2 _ rfl) ?_
  refine ld (hAt9 3 _ rfl) ?_
  refine bda ?_
  have hL:∀ j,j<2->∃ aL cL L,[Value.slice a1 m.params.length c1,.slice a2 m.locals.length c2][j*1]? = some (.slice aL L.length cL)/\Sl eTy S w0 aL L/\[m.params,m.locals][j]? = some L:=fun j hj=>by
   rcases j with _ | _ | j
   ·exact ⟨a1,c1,m.params,rfl,hF1,rfl⟩
   ·exact ⟨a2,c2,m.locals,rfl,hF2,rfl⟩
   ·omega
  refine lpk 2 85 [] [(0,.pointer (some ⟨b0,o0,none⟩)),(1,.func (.func g) #[] caps.toArray),(54,I u.methods.length),(55,I k),(7,.pointer (some ⟨b,o+k*7,none⟩)),(84,.agg #[.slice a1 m.params.length c1,.slice a2 m.locals.length c2])]
   (fun j vals w'=>vals=[]/\J (pre++u.classes.flatMap clsU++u.statics.flatMap fldU++(u.methods.take k).flatMap mthU++[⟨m.name,1,false⟩]++[⟨m.cls,2,true⟩]++([m.params,m.locals].take j).flatMap (·.flatMap tyU)) w') ⟨rfl,by simpa using hJ9⟩ ?_
  rintro j vals w10 hj ⟨rfl,hJ10⟩ ih2
  by_cases hlt2:j<2
  ·refine brT ?_
   obtain ⟨aL,cL,L,hv,hSL,hLj⟩:=hL j hlt2
   have hbL:=hSL.big
   have hqL:=fm_take_le (fun x:List Ty=>x.flatMap tyU) hLj
   refine ixv (cs:=[Value.slice a1 m.params.length c1,.slice a2 m.locals.length c2]) hv ?_
   refine lpk L.length 90 [] [(0,.pointer (some ⟨b0,o0,none⟩)),(1,.func (.func g) #[] caps.toArray),(54,I u.methods.length),(55,I k),(7,.pointer (some ⟨b,o+k*7,none⟩)),(84,.agg #[.slice a1 m.params.length c1,.slice a2 m.locals.length c2]),(85,I j),(9,.slice aL L.length cL),(89,I L.length)]
    (fun i vals w'=>vals=[]/\J (pre++u.classes.flatMap clsU++u.statics.flatMap fldU++(u.methods.take k).flatMap mthU++[⟨m.name,1,false⟩]++[⟨m.cls,2,true⟩]++([m.params,m.locals].take j).flatMap (·.flatMap tyU)++(L.take i).flatMap tyU) w') ⟨rfl,by simpa using hJ10⟩ ?_
   rintro i vals w11 hi ⟨rfl,hJ11⟩ ih3
   by_cases hlt3:i<L.length
   ·refine brT ?_
    obtain ⟨t,bt,ot,cst,ht,rfl,hSt,hAt,rfl⟩:=at_some hSL hlt3
    have hqt:=fm_take_le tyU ht
    refine ix ?_
    refine cl (h_types hE t (fun r hr=>hPm r ?_) bt _ hSt hAt _ w11 hJ11 (by simp only [List.length_append,List.length_cons,List.length_nil];omega)) ?_
    ·exact List.mem_cons_of_mem _ (List.mem_cons_of_mem _ (List.mem_append_left _ (List.mem_flatMap.2 ⟨L,List.mem_of_getElem? hLj,List.mem_flatMap.2 ⟨t,List.mem_of_getElem? ht,hr⟩⟩)))
    intro v12 w12 hJ12
    refine ih3 hlt3 ⟨rfl,?_⟩
    rw [flatMap_snoc ht]
    simpa using hJ12
   ·refine brF ?_
    obtain rfl:i=L.length:=by omega
    rw [List.take_length] at hJ11
    refine ih2 hlt2 ⟨rfl,?_⟩
    rw [flatMap_snoc hLj]
    simpa using hJ11
  refine brF ?_
  obtain rfl:j=2:=by omega
  refine cl (h_types hE m.result (fun r hr=>hPm r (by simp [mthU,hr])) b (o+k*7+4) hSb (by
   intro j v hj
   rcases j with _ | _ | j
   ·exact hAt0 4 v hj
   ·exact hAt0 5 v hj
   ·simp at hj) _ w10 hJ10 (by rw [show [m.params,m.locals].take 2=[m.params,m.locals] from rfl];simp only [List.length_append,List.length_cons,List.length_nil];omega)) ?_
  intro v13 w13 hJ13
  refine ih hlt ⟨rfl,?_⟩
  rw [flatMap_snoc hm']
  simpa [mthU] using hJ13
 ·refine brF ?_
  obtain rfl:k=u.methods.length:=by omega
  rw [List.take_length] at hJ6
  exact en (vs:=[]) (by unfold headsU;simpa using hJ6)
theorem h_operands (hE:EachC S w0 g caps J Pok N) (l:List Ins) (hl:∀ i∈l,∀ r∈opU i,Pok r) (a:Option Addr) (cap:Nat) (hS:Sl eIns S w0 a l) (pre:List Rf) (w:World) (hJ:J pre w) (hN:pre.length+(l.flatMap opU).length<=N) :
  Ret Tryz.prog 150 #[.slice a l.length cap,.func (.func g) #[] caps.toArray] w fun _ w'=>J (pre++l.flatMap opU) w':=by
 have hbig:=hS.big
 refine entr (vs:=[.slice a l.length cap,.func (.func g) #[] caps.toArray]) [0,1,4,5,7,8,9,17,18,27,39,47,53,60] tabok Tryz.func150 (by kernel_rfl) ?_
 refine lpk l.length 8 [] [(0,.slice a l.length cap),(1,.func (.func g) #[] caps.toArray),(7,I l.length)] (fun k vals w'=>vals=[]/\J (pre++(l.take k).flatMap opU) w') ⟨rfl,by simpa using hJ⟩ ?_
 rintro k vals w1 hk ⟨rfl,hJ1⟩ ih
 by_cases hlt:k<l.length
 ·refine brT ?_
  obtain ⟨x,b,o,cs,hx,rfl,hSb,hAt0,rfl⟩:=at_some hS hlt
  have hm:=List.mem_of_getElem? hx
  have hAt:=hAt0.kp (hE.kp _ _ hJ1) hSb
  have hq:=fm_take_le opU hx
  have hlen:∀ {r:Rf},opU x=[r]->(pre++(l.take k).flatMap opU).length<N:=fun e=>by
   rw [e,List.length_singleton] at hq
   rw [List.length_append];omega
  have next:∀ {w2},J (pre++(l.take k).flatMap opU++opU x) w2->J (pre++(l.take (k+1)).flatMap opU) w2:=fun h=>by rw [flatMap_snoc hx,<-List.append_assoc];exact h
  refine ix ?_
  refine ld (hAt.three.1) ?_
  obtain ⟨op,A,B⟩:=x
  by_cases e17:op=17
  ·subst e17
   refine brT ?_ (hp:=rfl)
   refine brT ?_ (hp:=rfl)
   refine bd ?_
   refine cl (hE.run _ ⟨A,3,false⟩ _ _ w1 (hlen (r:=⟨A,3,false⟩) (by simp [opU])) (hl _ hm _ (by simp [opU])) hSb hJ1 (hAt 1 _ rfl)) ?_
   intro v2 w2 hJ2
   exact ih hlt ⟨rfl,next (by simpa [opU] using hJ2)⟩
  by_cases e18:op=18
  ·subst e18
   refine brF ?_ (hp:=by show ¬((18:Int)=17);decide)
   refine brT ?_ (hp:=rfl)
   refine bd ?_
   refine cl (hE.run _ ⟨A,3,false⟩ _ _ w1 (hlen (r:=⟨A,3,false⟩) (by simp [opU])) (hl _ hm _ (by simp [opU])) hSb hJ1 (hAt 1 _ rfl)) ?_
   intro v2 w2 hJ2
   exact ih hlt ⟨rfl,next (by simpa [opU] using hJ2)⟩
  by_cases e14:op=14
  ·subst e14
   refine brF ?_ (hp:=by show ¬((14:Int)=17);decide)
   refine brF ?_ (hp:=by show ¬((14:Int)=18);decide)
   refine brT ?_ (hp:=rfl)
   refine brT ?_ (hp:=rfl)
   refine bd ?_
   refine cl (hE.run _ ⟨A,2,false⟩ _ _ w1 (hlen (r:=⟨A,2,false⟩) (by simp [opU])) (hl _ hm _ (by simp [opU])) hSb hJ1 (hAt 1 _ rfl)) ?_
   intro v2 w2 hJ2
   exact ih hlt ⟨rfl,next (by simpa [opU] using hJ2)⟩
  by_cases e24:op=24
  ·subst e24
   refine brF ?_ (hp:=by show ¬((24:Int)=17);decide)
   refine brF ?_ (hp:=by show ¬((24:Int)=18);decide)
   refine brF ?_ (hp:=by show ¬((24:Int)=14);decide)
   refine brT ?_ (hp:=rfl)
   refine brT ?_ (hp:=rfl)
   refine bd ?_
   refine cl (hE.run _ ⟨A,2,false⟩ _ _ w1 (hlen (r:=⟨A,2,false⟩) (by simp [opU])) (hl _ hm _ (by simp [opU])) hSb hJ1 (hAt 1 _ rfl)) ?_
   intro v2 w2 hJ2
   exact ih hlt ⟨rfl,next (by simpa [opU] using hJ2)⟩
  by_cases e22:op=22
  ·subst e22
   refine brF ?_ (hp:=by show ¬((22:Int)=17);decide)
   refine brF ?_ (hp:=by show ¬((22:Int)=18);decide)
   refine brF ?_ (hp:=by show ¬((22:Int)=14);decide)
   refine brF ?_ (hp:=by show ¬((22:Int)=24);decide)
   refine brT ?_ (hp:=rfl)
   refine brT ?_ (hp:=rfl)
   refine bd ?_
   refine cl (hE.run _ ⟨A,2,false⟩ _ _ w1 (hlen (r:=⟨A,2,false⟩) (by simp [opU])) (hl _ hm _ (by simp [opU])) hSb hJ1 (hAt 1 _ rfl)) ?_
   intro v2 w2 hJ2
   exact ih hlt ⟨rfl,next (by simpa [opU] using hJ2)⟩
  by_cases e23:op=23
  ·subst e23
   refine brF ?_ (hp:=by show ¬((23:Int)=17);decide)
   refine brF ?_ (hp:=by show ¬((23:Int)=18);decide)
   refine brF ?_ (hp:=by show ¬((23:Int)=14);decide)
   refine brF ?_ (hp:=by show ¬((23:Int)=24);decide)
   refine brF ?_ (hp:=by show ¬((23:Int)=22);decide)
   refine brT ?_ (hp:=rfl)
   refine brT ?_ (hp:=rfl)
   refine bd ?_
   refine cl (hE.run _ ⟨A,2,false⟩ _ _ w1 (hlen (r:=⟨A,2,false⟩) (by simp [opU])) (hl _ hm _ (by simp [opU])) hSb hJ1 (hAt 1 _ rfl)) ?_
   intro v2 w2 hJ2
   exact ih hlt ⟨rfl,next (by simpa [opU] using hJ2)⟩
  by_cases e25:op=25
  ·subst e25
   refine brF ?_ (hp:=by show ¬((25:Int)=17);decide)
   refine brF ?_ (hp:=by show ¬((25:Int)=18);decide)
   refine brF ?_ (hp:=by show ¬((25:Int)=14);decide)
   refine brF ?_ (hp:=by show ¬((25:Int)=24);decide)
   refine brF ?_ (hp:=by show ¬((25:Int)=22);decide)
   refine brF ?_ (hp:=by show ¬((25:Int)=23);decide)
   refine brT ?_ (hp:=rfl)
   refine bd ?_
   refine cl (hE.run _ ⟨A,2,false⟩ _ _ w1 (hlen (r:=⟨A,2,false⟩) (by simp [opU])) (hl _ hm _ (by simp [opU])) hSb hJ1 (hAt 1 _ rfl)) ?_
   intro v2 w2 hJ2
   exact ih hlt ⟨rfl,next (by simpa [opU] using hJ2)⟩
  by_cases e16:op=16
  ·subst e16
   refine brF ?_ (hp:=by show ¬((16:Int)=17);decide)
   refine brF ?_ (hp:=by show ¬((16:Int)=18);decide)
   refine brF ?_ (hp:=by show ¬((16:Int)=14);decide)
   refine brF ?_ (hp:=by show ¬((16:Int)=24);decide)
   refine brF ?_ (hp:=by show ¬((16:Int)=22);decide)
   refine brF ?_ (hp:=by show ¬((16:Int)=23);decide)
   refine brF ?_ (hp:=by show ¬((16:Int)=25);decide)
   refine brT ?_ (hp:=rfl)
   refine bd ?_
   refine cl (hE.run _ ⟨B,2,false⟩ _ _ w1 (hlen (r:=⟨B,2,false⟩) (by simp [opU])) (hl _ hm _ (by simp [opU])) hSb hJ1 (hAt 2 _ rfl)) ?_
   intro v2 w2 hJ2
   exact ih hlt ⟨rfl,next (by simpa [opU] using hJ2)⟩
  by_cases e26:op=26
  ·subst e26
   refine brF ?_ (hp:=by show ¬((26:Int)=17);decide)
   refine brF ?_ (hp:=by show ¬((26:Int)=18);decide)
   refine brF ?_ (hp:=by show ¬((26:Int)=14);decide)
   refine brF ?_ (hp:=by show ¬((26:Int)=24);decide)
   refine brF ?_ (hp:=by show ¬((26:Int)=22);decide)
   refine brF ?_ (hp:=by show ¬((26:Int)=23);decide)
   refine brF ?_ (hp:=by show ¬((26:Int)=25);decide)
   refine brF ?_ (hp:=by show ¬((26:Int)=16);decide)
   refine brF ?_ (hp:=by show ¬((26:Int)=12);decide)
   refine brT ?_ (hp:=rfl)
   refine bd ?_
   refine cl (hE.run _ ⟨A,1,false⟩ _ _ w1 (hlen (r:=⟨A,1,false⟩) (by simp [opU])) (hl _ hm _ (by simp [opU])) hSb hJ1 (hAt 1 _ rfl)) ?_
   intro v2 w2 hJ2
   exact ih hlt ⟨rfl,next (by simpa [opU] using hJ2)⟩
  by_cases e12:op=12
  ·subst e12
   refine brF ?_ (hp:=by show ¬((12:Int)=17);decide)
   refine brF ?_ (hp:=by show ¬((12:Int)=18);decide)
   refine brF ?_ (hp:=by show ¬((12:Int)=14);decide)
   refine brF ?_ (hp:=by show ¬((12:Int)=24);decide)
   refine brF ?_ (hp:=by show ¬((12:Int)=22);decide)
   refine brF ?_ (hp:=by show ¬((12:Int)=23);decide)
   refine brF ?_ (hp:=by show ¬((12:Int)=25);decide)
   refine brF ?_ (hp:=by show ¬((12:Int)=16);decide)
   refine brT ?_ (hp:=rfl)
   refine ld (hAt 1 _ rfl) ?_
   by_cases h3:A=3
   ·refine brF ?_ (hp:=by exact fun h=>h h3)
    exact ih hlt ⟨rfl,next (by simpa [opU,h3] using hJ1)⟩
   ·refine brT ?_ (hp:=by exact h3)
    refine bd ?_
    refine cl (hE.run _ ⟨B,2,false⟩ _ _ w1 (hlen (r:=⟨B,2,false⟩) (by simp [opU,h3])) (hl _ hm _ (by simp [opU,h3])) hSb hJ1 (hAt 2 _ rfl)) ?_
    intro v2 w2 hJ2
    exact ih hlt ⟨rfl,next (by simpa [opU,h3] using hJ2)⟩
  refine brF ?_ (hp:=e17)
  refine brF ?_ (hp:=e18)
  refine brF ?_ (hp:=e14)
  refine brF ?_ (hp:=e24)
  refine brF ?_ (hp:=e22)
  refine brF ?_ (hp:=e23)
  refine brF ?_ (hp:=e25)
  refine brF ?_ (hp:=e16)
  refine brF ?_ (hp:=e12)
  refine brF ?_ (hp:=e26)
  exact ih hlt ⟨rfl,next (by simpa [opU,e17,e18,e14,e24,e22,e23,e25,e16,e12,e26] using hJ1)⟩
 ·refine brF ?_
  obtain rfl:k=l.length:=by omega
  exact en (vs:=[]) (by rw [List.take_length] at hJ1;exact hJ1)
end
end Go.Proofs.YtkmdfjpafkcleaaGreatDoor
namespace Go.Proofs.YtkmdfjpafkcleaaGreatDoor
open Eng Go.RowKit
theorem c_Grow (n:Nat) (hn:n<=8388608) (w:World):Ret Tryz.prog 253 #[.slice none 0 0,I n] w fun v w'=>∃ a cap,v = .slice a 0 cap/\Ow w' w.heap.size 77 2 a 0 cap []/\Bl w w':=by
 refine entr (vs:=[.slice none 0 0,I n]) [0,1,4,6,16] tabok Tryz.func253 (by kernel_rfl) ?_
 refine brF ?_
 refine cp ?_
 by_cases h0:n=0
 ·subst h0
  refine brF ?_ (hp:=by decide)
  exact rt1 ⟨none,0,rfl,Ow.nil _ _ _ _,Bl.refl _⟩
 have hw:IntKind.i64.wrap ((n:Int)-IntKind.i64.wrap (((0:Nat):Int)-((0:Nat):Int)))=n:=by
  rw [show IntKind.i64.wrap (((0:Nat):Int)-((0:Nat):Int))=0 from rfl,wrap_fit (by omega) (by omega)];omega
 refine brT ?_ (hp:=by rw [hw];omega)
 refine cp ?_
 refine sl 0 0 ?_
 refine apz (n:=n) (kd := .i64) (by omega) hn (fun cap w' hO hc hB => ?_) (hy:=by exact congrArg (fun z=>some (Value.int .i64 z)) hw)
 refine sl 0 0 ?_
 refine rt1 ⟨some ⟨w.heap.size,0,none⟩,cap,?_,hO,hB⟩
 rw [if_neg (by omega)];rfl
theorem c_Concat (l1 l2:List Ty) (a1 a2:Option Addr) (c1 c2:Nat) (b:Nat) (w:World) (h1:Sl eTy T w a1 l1) (h2:Sl eTy T w a2 l2) (hb:At w b 0 [.slice a1 l1.length c1,.slice a2 l2.length c2]) (hs:l1.length+l2.length<=4194304) :
  Ret Tryz.prog 208 #[.slice (some ⟨b,0,none⟩) 2 2] w fun v w'=>∃ a cap,v = .slice a (l1++l2).length cap/\Sl eTy (fun i=>w.heap.size<=i/\i<w'.heap.size) w' a (l1++l2)/\Bl w w':=by
 have g1:=h1.big
 have g2:=h2.big
 have hL:∀ j,j<2->∃ aL cL L,[Value.slice a1 l1.length c1,.slice a2 l2.length c2][j]? = some (.slice aL L.length cL)/\Sl eTy T w aL L/\[l1,l2][j]? = some L:=fun j hj=>by
  rcases j with _ | _ | j
  ·exact ⟨a1,c1,l1,rfl,h1,rfl⟩
  ·exact ⟨a2,c2,l2,rfl,h2,rfl⟩
  ·omega
 refine entr (vs:=[.slice (some ⟨b,0,none⟩) 2 2]) [0,2,3,5,6,8,9,10,11,12,20,25,26,27,28] tabok Tryz.func208 (by kernel_rfl) ?_
 refine lpk 2 11 [3] [(0,.slice (some ⟨b,0,none⟩) 2 2),(9,.slice (some ⟨b,0,none⟩) 2 2),(10,I 2)] (fun j vals w'=>vals=[I ((([l1,l2].take j).flatMap id).length:Nat)]/\w=w') ⟨rfl,rfl⟩ ?_
 rintro j vals _ hj ⟨rfl,rfl⟩ ih
 by_cases hlt:j<2
 ·refine brT ?_
  obtain ⟨aL,cL,L,hv,hSL,hLj⟩:=hL j hlt
  have hbL:=hSL.big
  refine ix ?_
  refine ld (o:=0+j*1) (v := .slice aL L.length cL) (by have:=hb j _ hv;simpa using this) ?_
  have hlj:(([l1,l2].take j).flatMap id).length+L.length=(([l1,l2].take (j+1)).flatMap id).length:=by rw [flatMap_snoc hLj];simp
  have hle:(([l1,l2].take (j+1)).flatMap id).length<=l1.length+l2.length:=by
   rcases j with _ | _ | j
   ·simp
   ·simp
   ·omega
  have hw:IntKind.i64.wrap (((([l1,l2].take j).flatMap id).length:Nat)+(L.length:Int))=((([l1,l2].take (j+1)).flatMap id).length:Nat):=by rw [wrap_fit (by omega) (by omega)];omega
  refine brF ?_ (hp:=by rw [hw];omega)
  exact ih hlt ⟨lst1 (vi hw),rfl⟩
 refine brF ?_
 obtain rfl:j=2:=by omega
 have e2:(([l1,l2].take 2).flatMap id)=l1++l2:=by simp
 refine cl (c_Grow (([l1,l2].take 2).flatMap id).length (by rw [e2,List.length_append];omega) w) ?_
 rintro _ w1 ⟨a,cap,rfl,hO,hB1⟩
 refine lpk 2 27 [6] [(25,.slice (some ⟨b,0,none⟩) 2 2),(26,I 2)] (fun j vals w'=>∃ a cap,vals=[.slice a (([l1,l2].take j).flatMap id).length cap]/\OwP 2 encTy w' w.heap.size 77 a cap (([l1,l2].take j).flatMap id)/\Bl w w') ⟨a,cap,rfl,hO,hB1⟩ ?_
 rintro j vals w2 hj ⟨a,cap,rfl,hO2,hB2⟩ ih
 by_cases hlt:j<2
 ·refine brT ?_
  obtain ⟨aL,cL,L,hv,hSL,hLj⟩:=hL j hlt
  have hbL:=hSL.big
  refine ix ?_
  refine ld (o:=0+j*1) (v := .slice aL L.length cL) (by have:=(hb.bl hB2) j _ hv;simpa using this) ?_
  have hle:(([l1,l2].take j).flatMap id).length<=l1.length+l2.length:=by
   rcases j with _ | _ | j
   ·simp
   ·simp
   ·omega
  refine apl hO2 (src_of (hSL.bl hB2)) hB2.size (fun a' cap' w3 hO3 hA _ => ?_)
  refine ih hlt ⟨a',cap',?_,?_,Eng.Ow.below hO2 hA hB2 hB2.size⟩
  ·rw [flatMap_snoc hLj];rfl
  ·rw [flatMap_snoc hLj];exact hO3
 refine brF ?_
 obtain rfl:j=2:=by omega
 rw [e2] at hO2 ⊢
 exact rt1 ⟨a,cap,rfl,owp_sl hO2 (by rw [List.length_append];omega) (fun _ hg=>hO2.lt hg),hB2⟩
end Go.Proofs.YtkmdfjpafkcleaaGreatDoor
namespace Go.Proofs.YtkmdfjpafkcleaaGreatDoor
open Eng Go.RowKit
theorem Eng.Ap.trans {a b c:World} {x:Option Addr} (h:Ap a x b) (k:Ap b x c):Ap a x c :=
 ⟨k.os.trans h.os,k.tape.trans h.tape,k.output.trans h.output,Nat.le_trans h.size k.size,fun i hi hx=>(k.block i (Nat.lt_of_lt_of_le hi h.size) hx).trans (h.block i hi hx)⟩
theorem Eng.Ap.bl {w w':World} (h:Bl w w') (x:Option Addr):Ap w x w':=⟨h.os,h.tape,h.output,h.size,fun i hi _=>h.block i hi⟩
theorem Eng.Ap.wr {w w':World} {g:Nat} (h:Wr w g w'):Ap w (some ⟨g,0,none⟩) w':=⟨h.os,h.tape,h.output,by rw [h.size];exact Nat.le_refl _,fun i _ hx=>h.block i fun e=>hx (by rw [e])⟩
theorem ap_ne {g b:Nat} (h:b≠g):some (⟨g,0,none⟩:Addr)≠some ⟨b,0,none⟩:=fun e=>by cases e;exact h rfl
def sOk (t:Ty) (least:Int):Bool:=decide (least<=t.kind)&&decide (t.kind<=4)&&(tcls t||decide (t.cls = -1))
theorem k_see (t:Ty) (least:Int) (g:Nat) (b:Bool) (w:World) (hg:Box w g 4 [.bool b]) :
  Ret Tryz.prog 206 #[.agg #[I t.kind,I t.cls],I least,.pointer (some ⟨g,0,none⟩)] w fun _ w'=>Box w' g 4 [.bool (b&&sOk t least)]/\Ap w (some ⟨g,0,none⟩) w':=by
 refine entr (vs:=[.agg #[I t.kind,I t.cls],I least,.pointer (some ⟨g,0,none⟩)]) [0,1,2,3,5] tabok Tryz.func206 (by kernel_rfl) ?_
 refine bx (cs:=[I t.kind,I t.cls]) fun b1 w1 h1 => ?_
 refine ld (h1.box.cell rfl) ?_
 refine ldg (fun _=>h1.box.cell rfl) ?_
 have hg1:=Bl.box h1.bl hg
 refine ld (hg1.cell rfl) ?_
 refine ldg (fun _=>h1.box.cell rfl) ?_
 refine ldg (fun _=>h1.box.cell rfl) ?_
 refine ldg2 (fun _ _=>h1.box.cell rfl) ?_
 refine st hg1 (fun w2 h2 hg2 => ?_)
 refine en (vs:=[]) ⟨?_,(Eng.Ap.bl h1.bl _).trans (Eng.Ap.wr h2)⟩
 have e:(b&&sOk t least)=(((b&&decide (least<=t.kind))&&decide (t.kind<=4))&&(tcls t||decide (t.cls = -1))):=by unfold sOk;cases b <;> simp [Bool.and_assoc]
 rw [e];exact hg2
abbrev seeF (g:Nat):Value := .func (.func 206) #[] #[.pointer (some ⟨g,0,none⟩)]
def fOk (l:List Fld):Bool:=l.all fun f=>sOk f.ty 1
theorem all_take_succ {α:Type} {p:α->Bool} {l:List α} {k:Nat} {x:α} (hx:l[k]? = some x):(l.take (k+1)).all p=((l.take k).all p&&p x):=by rw [take_succ_some hx,List.all_append];simp
theorem k_all (l:List Fld) (a:Option Addr) (cap g g2:Nat) (b:Bool) (S:Nat->Prop) (hgS:¬S g) (hne:g2≠g) (w:World) (hS:Sl eFld S w a l) (hg:Box w g 4 [.bool b]) (hg2:Box w g2 241 [seeF g]) :
  Ret Tryz.prog 207 #[.slice a l.length cap,.pointer (some ⟨g2,0,none⟩)] w fun _ w'=>Box w' g 4 [.bool (b&&fOk l)]/\Ap w (some ⟨g,0,none⟩) w':=by
 have hbig:=hS.big
 have kS:∀ {w'},Ap w (some ⟨g,0,none⟩) w'->Kp S w w':=fun h=>Kp.sub h.kp fun i hi e=>by cases e;exact hgS hi
 refine entr (vs:=[.slice a l.length cap,.pointer (some ⟨g2,0,none⟩)]) [0,1,4,5,6,7,8] tabok Tryz.func207 (by kernel_rfl) ?_
 refine lpk l.length 7 [] [(0,.slice a l.length cap),(1,.pointer (some ⟨g2,0,none⟩)),(5,.slice a l.length cap),(6,I l.length)] (fun k vals w'=>vals=[]/\Box w' g 4 [.bool (b&&fOk (l.take k))]/\Ap w (some ⟨g,0,none⟩) w') ⟨rfl,by simpa [fOk] using hg,Eng.Ap.bl (Bl.refl _) _⟩ ?_
 rintro k vals w1 hk ⟨rfl,hg1,hA1⟩ ih
 by_cases hlt:k<l.length
 ·refine brT ?_
  obtain ⟨f,b4,o4,cs,hf,rfl,_,hAt,rfl⟩:=at_some (hS.kp (kS hA1)) hlt
  refine ix ?_
  refine lda hAt ?_
  refine al fun b5 w2 h2 => ?_
  refine sta h2.box (fun w3 h3 y3 => ?_)
  have hB3:Bl w1 w3:=Eng.New.wr h2 h3
  have hg3:=Bl.box hB3 hg1
  refine ld ((Bl.box hB3 (hA1.box hg2 (ap_ne hne))).cell rfl) ?_
  refine lda (fldAt y3.at) ?_
  refine cl (k_see f.ty 1 g _ w3 hg3) ?_
  rintro v w4 ⟨hg4,hA4⟩
  refine ih hlt ⟨rfl,?_,(hA1.trans (Eng.Ap.bl hB3 _)).trans hA4⟩
  have e:(b&&fOk (l.take (k+1)))=(b&&fOk (l.take k)&&sOk f.ty 1):=by unfold fOk;rw [all_take_succ hf,Bool.and_assoc]
  rw [e];exact hg4
 ·refine brF ?_
  obtain rfl:k=l.length:=by omega
  rw [List.take_length] at hg1
  exact en (vs:=[]) ⟨hg1,hA1⟩
def mOk (m:Mth):Bool:=(m.params++m.locals).all (sOk · 1)&&sOk m.result 0
def kgood (u:Unt):Bool:=(u.classes.all fun c=>fOk c.fields)&&fOk u.statics&&u.methods.all mOk
theorem u_kinds (u:Unt) (a:UA) (b0:Nat) (w:World) (hU:UnR (· < w.heap.size) w u a) (hb0:b0<w.heap.size) (hx:At w b0 0 (ucells u a)) (hL:Lim u) :
  Ret Tryz.prog 147 #[.pointer (some ⟨b0,0,none⟩)] w fun v w'=>v = .bool (kgood u)/\Bl w w':=by
 have n1:=hU.cls.big
 have n2:=hU.sta.big
 have n3:=hU.mth.big
 refine entr (vs:=[.pointer (some ⟨b0,0,none⟩)]) [0,2,3,4,5,7,9,11,17,18,19,20,37,38,39,40,48,49,50,51] tabok Tryz.func147 (by kernel_rfl) ?_
 refine al fun g w1 h1 => ?_
 refine st h1.box (fun w2 h2 y2 => ?_)
 refine al fun g2 w3 h3 => ?_
 refine st h3.box (fun w4 h4 y4 => ?_)
 have q1:=h1.blk
 have q2:g<w2.heap.size:=y2.lt
 have q3:=h3.blk
 have hne:g2≠g:=by omega
 have hB4:Below w.heap.size w w4:=Below.trans (Below.trans (Eng.New.wr h1 h2) (h3.bl.mono (by omega))) (h4.below (by omega))
 have y4g:Box w4 g 4 [.bool true]:=h4.box (Bl.box h3.bl y2) (Ne.symm hne)
 have U:∀ {w'},Below w.heap.size w w'->UnR (· < w.heap.size) w' u a:=fun h=>hU.below h
 have X:∀ {w'},Below w.heap.size w w'->At w' b0 0 (ucells u a):=fun h=>hx.kp (Below.kp h) hb0
 have apB:∀ {x y},Below w.heap.size w x->Ap x (some ⟨g,0,none⟩) y->Below w.heap.size w y:=fun h k=>h.trans (k.below h.size (fun g' e=>by cases e;omega))
 have gS:¬(g<w.heap.size):=by omega
 refine ld (X hB4 2 _ rfl) ?_
 refine lpk u.classes.length 19 [] [(0,.pointer (some ⟨b0,0,none⟩)),(3,.pointer (some ⟨g,0,none⟩)),(4,.pointer (some ⟨g2,0,none⟩)),(5,.func (.func 207) #[] #[.pointer (some ⟨g2,0,none⟩)]),(17,.slice a.a2 u.classes.length a.c2),(18,I u.classes.length)]
  (fun k vals w'=>vals=[]/\Box w' g 4 [.bool ((u.classes.take k).all fun c=>fOk c.fields)]/\Box w' g2 241 [seeF g]/\Below w.heap.size w w') ⟨rfl,y4g,y4,hB4⟩ ?_
 rintro k vals w5 hk ⟨rfl,g5,s5,hB5⟩ ih
 by_cases hlt:k<u.classes.length
 ·refine brT ?_
  obtain ⟨c,b,o,cs,hc,e2,hSb,hAt,af,cf,rfl,hF⟩:=at_some (U hB5).cls hlt
  rw [e2]
  refine ix ?_
  refine lda hAt ?_
  refine al fun b6 w6 h6 => ?_
  refine sta h6.box (fun w7 h7 y7 => ?_)
  have hB7:Bl w5 w7:=Eng.New.wr h6 h7
  refine ld (y7.cell rfl) ?_
  refine cl (k_all c.fields af cf g g2 _ (· < w.heap.size) gS hne w7 (hF.bl hB7) (Bl.box hB7 g5) (Bl.box hB7 s5)) ?_
  rintro v w8 ⟨g8,hA8⟩
  refine ih hlt ⟨rfl,?_,hA8.box (Bl.box hB7 s5) (ap_ne hne),apB (hB5.trans (hB7.mono hB5.size)) hA8⟩ (hsub:=by simp only [e2];repeat (first | exact True.intro | (refine ⟨rfl,?_⟩)))
  rw [all_take_succ hc];exact g8
 refine brF ?_
 obtain rfl:k=u.classes.length:=by omega
 rw [List.take_length] at g5
 refine ld (X hB5 3 _ rfl) ?_
 refine cl (k_all u.statics a.a3 a.c3 g g2 _ (· < w.heap.size) gS hne w5 (U hB5).sta g5 s5) ?_
 rintro v8 w8 ⟨g8,hA8⟩
 have s8:=hA8.box s5 (ap_ne hne)
 have hB8:=apB hB5 hA8
 refine ld (X hB8 4 _ rfl) ?_
 refine lpk u.methods.length 39 [] [(0,.pointer (some ⟨b0,0,none⟩)),(3,.pointer (some ⟨g,0,none⟩)),(4,.pointer (some ⟨g2,0,none⟩)),(37,.slice a.a4 u.methods.length a.c4),(38,I u.methods.length)]
  (fun k vals w'=>vals=[]/\Box w' g 4 [.bool (((u.classes.all fun c=>fOk c.fields)&&fOk u.statics)&&(u.methods.take k).all mOk)]/\Box w' g2 241 [seeF g]/\Below w.heap.size w w') ⟨rfl,by simpa using g8,s8,hB8⟩ ?_
 rintro k vals w9 hk ⟨rfl,g9,s9,hB9⟩ ih
 by_cases hlt:k<u.methods.length
 ·refine brT ?_
  obtain ⟨m,b,o,cs,hm,e2,hSb,hAt,a1,c1,a2,c2,a3,c3,rfl,f1,f2,f3⟩:=at_some (U hB9).mth hlt
  rw [e2]
  have hm':=List.mem_of_getElem? hm
  have l1:=hL.locs m hm'
  refine ix ?_
  refine lda hAt ?_
  refine al fun b10 w10 h10 => ?_
  refine sta h10.box (fun w11 h11 y11 => ?_)
  have hB11:Bl w9 w11:=Eng.New.wr h10 h11
  refine ld (y11.cell rfl) ?_
  refine ld (y11.cell rfl) ?_
  refine bs fun b12 w12 h12 => ?_
  have hB12:=hB11.trans h12.bl
  refine cl (c_Concat m.params m.locals a1 a2 c1 c2 b12 w12 ((f1.bl hB12).sub fun _ _=>trivial) ((f2.bl hB12).sub fun _ _=>trivial) h12.box.at (by omega)) ?_
  rintro _ w13 ⟨ac,cc,rfl,hSc,hB13⟩
  have hB913:=hB12.trans hB13
  have hn:(m.params++m.locals).length<=10:=by rw [List.length_append];exact l1
  have hB13':Below w.heap.size w w13:=hB9.trans (hB913.mono hB9.size)
  have y13:=Bl.box (h12.bl.trans hB13) y11
  have ng:b10≠g:=by have:=h10.blk;have:=g9.lt;omega
  have ng2:b10≠g2:=by have:=h10.blk;have:=s9.lt;omega
  refine lpk (m.params++m.locals).length 50 [] [(0,.pointer (some ⟨b0,0,none⟩)),(3,.pointer (some ⟨g,0,none⟩)),(4,.pointer (some ⟨g2,0,none⟩)),(37,.slice a.a4 u.methods.length a.c4),(38,I u.methods.length),(39,I k),(9,.pointer (some ⟨b10,0,none⟩)),(48,.slice ac (m.params++m.locals).length cc),(49,I (m.params++m.locals).length)]
   (fun i vals w'=>vals=[]/\Box w' g 4 [.bool ((((u.classes.all fun c=>fOk c.fields)&&fOk u.statics)&&(u.methods.take k).all mOk)&&((m.params++m.locals).take i).all (sOk · 1))]/\Box w' g2 241 [seeF g]/\Box w' b10 79 (mcells m a1 c1 a2 c2 a3 c3)/\Below w.heap.size w w'/\Ap w13 (some ⟨g,0,none⟩) w') ⟨rfl,by simpa using Bl.box hB913 g9,Bl.box hB913 s9,y13,hB13',Eng.Ap.bl (Bl.refl _) _⟩ ?_ (hkeep:=by simp only [e2];repeat (first | exact True.intro | (refine ⟨rfl,?_⟩)))
  rintro i vals w14 hi ⟨rfl,g14,s14,y14,hB14,hA14⟩ ih2
  by_cases hlt2:i<(m.params++m.locals).length
  ·refine brT ?_
   obtain ⟨t,bt,ot,cst,ht,rfl,hSt,hAtt,rfl⟩:=at_some hSc hlt2
   have hAt14:=hAtt.kp (S:=fun j=>j<w13.heap.size/\j≠g) (fun b' o' v hs hc=>by rw [World.cell?_of_block (w:=w13) (hA14.block b' hs.1 fun e=>by cases e;exact hs.2 rfl)];exact hc) ⟨hSt.2,by have:=hSt.1;have:=h12.size;have:=h10.size;have:=h11.size;have:=g9.lt;omega⟩
   refine ix ?_
   refine lda hAt14 ?_
   refine al fun b15 w15 h15 => ?_
   refine sta h15.box (fun w16 h16 y16 => ?_)
   have hB16:Bl w14 w16:=Eng.New.wr h15 h16
   refine ld ((Bl.box hB16 s14).cell rfl) ?_
   refine lda y16.at ?_
   refine cl (k_see t 1 g _ w16 (Bl.box hB16 g14)) ?_
   rintro v w17 ⟨g17,hA17⟩
   refine ih2 hlt2 ⟨rfl,?_,hA17.box (Bl.box hB16 s14) (ap_ne hne),hA17.box (Bl.box hB16 y14) (ap_ne ng),apB (hB14.trans (hB16.mono hB14.size)) hA17,(hA14.trans (Eng.Ap.bl hB16 _)).trans hA17⟩
   rw [all_take_succ ht,<-Bool.and_assoc];exact g17
  refine brF ?_
  obtain rfl:i=(m.params++m.locals).length:=by omega
  rw [List.take_length] at g14
  refine ld (s14.cell rfl) ?_
  refine lda (cs:=[I m.result.kind,I m.result.cls]) (b:=b10) (o:=4) (fun j v hj => ?_) ?_
  ·rcases j with _ | _ | j
   ·exact y14.at 4 v hj
   ·exact y14.at 5 v hj
   ·simp at hj
  refine cl (k_see m.result 0 g _ w14 g14) ?_
  rintro v w18 ⟨g18,hA18⟩
  refine ih hlt ⟨rfl,?_,hA18.box s14 (ap_ne hne),apB hB14 hA18⟩ (hsub:=by simp only [e2];repeat (first | exact True.intro | (refine ⟨rfl,?_⟩)))
  have e:(((u.classes.all fun c=>fOk c.fields)&&fOk u.statics)&&(u.methods.take (k+1)).all mOk)=((((u.classes.all fun c=>fOk c.fields)&&fOk u.statics)&&(u.methods.take k).all mOk)&&(m.params++m.locals).all (sOk · 1)&&sOk m.result 0):=by rw [all_take_succ hm];unfold mOk;simp [Bool.and_assoc]
  rw [e];exact g18
 ·refine brF ?_
  obtain rfl:k=u.methods.length:=by omega
  rw [List.take_length] at g9
  refine ld (g9.cell rfl) ?_
  exact rt1 ⟨rfl,hB9⟩
theorem kgood_eq (u:Unt):kgood u=(kinds u&&classless u):=by
 have h1:∀ t,sOk t 1=(kin t&&bare t):=fun t=>rfl
 have h0:∀ t,sOk t 0=(kout t&&bare t):=fun t=>rfl
 have hf:∀ l:List Fld,fOk l=((l.all fun f=>kin f.ty)&&l.all fun f=>bare f.ty):=fun l=>by
  induction l with
  | nil=>rfl
  | cons f l ih =>
   have:fOk (f::l)=(sOk f.ty 1&&fOk l):=rfl
   rw [this,ih,h1,List.all_cons,List.all_cons]
   cases kin f.ty <;> cases bare f.ty <;> simp
 rw [Bool.eq_iff_iff]
 simp only [kgood,kinds,classless,kcls,kmth,bcls,bmth,mOk,hf,h1,h0,Bool.and_eq_true,List.all_eq_true,List.mem_append]
 constructor
 ·rintro ⟨⟨a1,a2⟩,a3⟩
  exact ⟨⟨⟨fun c hc=>(a1 c hc).1,a2.1⟩,fun m hm=>⟨⟨fun t ht=>((a3 m hm).1 t (.inl ht)).1,fun t ht=>((a3 m hm).1 t (.inr ht)).1⟩,(a3 m hm).2.1⟩⟩,
   ⟨fun c hc=>(a1 c hc).2,a2.2⟩,fun m hm=>⟨⟨(a3 m hm).2.2,fun t ht=>((a3 m hm).1 t (.inl ht)).2⟩,fun t ht=>((a3 m hm).1 t (.inr ht)).2⟩⟩
 ·rintro ⟨⟨⟨a1,a2⟩,a3⟩,⟨b1,b2⟩,b3⟩
  refine ⟨⟨fun c hc=>⟨a1 c hc,b1 c hc⟩,a2,b2⟩,fun m hm=>⟨fun t ht => ?_,(a3 m hm).2,(b3 m hm).1.1⟩⟩
  rcases ht with ht | ht
  ·exact ⟨(a3 m hm).1.1 t ht,(b3 m hm).1.2 t ht⟩
  ·exact ⟨(a3 m hm).1.2 t ht,(b3 m hm).2 t ht⟩
end Go.Proofs.YtkmdfjpafkcleaaGreatDoor
namespace Go.Proofs.YtkmdfjpafkcleaaGreatDoor
open Eng Go.RowKit
def joinB (xs:List ByteArray):ByteArray:=⟨(Lib.join (xs.map toL) [46]).toArray⟩
def picked (u:Unt) (l:List Int):List ByteArray:=(l.filter fun i=>decide (0<=i)).map (nm u)
theorem joinB_one (x:ByteArray):joinB [x]=x:=by cases x;simp [joinB,Lib.join]
theorem joinB_two (x y:ByteArray):joinB [x,y]=dots x y:=by
 apply ba_ext
 simp [joinB,Lib.join,dots]
theorem join_len:∀ xs:List ByteArray,(∀ x∈xs,x.size<=1048576)->(Lib.join (xs.map toL) [46]).length<=xs.length*1048577
 | [],_=>by simp [Lib.join]
 | [x],h=>by
  have:=h x (by simp)
  show (Lib.join [toL x] [46]).length<=_
  rw [Lib.join_one,ba_len];simp;omega
 | x::y::r,h=>by
  have:=join_len (y::r) fun z hz=>h z (List.mem_cons_of_mem _ hz)
  have h1:=h x (by simp)
  have e:Lib.join ((x::y::r).map toL) [46]=toL x++([46]++Lib.join ((y::r).map toL) [46]):=by simp [Lib.join,List.intercalate]
  rw [e,List.length_append,List.length_append,ba_len]
  simp only [List.length_cons,List.length_nil] at this ⊢
  omega
theorem u_named (u:Unt) (a:UA) (b0:Nat) (l:List Int) (aL:Option Addr) (cL:Nat) (S:Nat->Prop) (w:World) (hU:UnR S w u a) (hx:At w b0 0 (ucells u a)) (hl:Sl eInt T w aL l) (hn:l.length<=16) (hin:∀ i∈l,0<=i->inP u i) :
  Ret Tryz.prog 209 #[.pointer (some ⟨b0,0,none⟩),.slice aL l.length cL] w fun v w'=>v = .string (joinB (picked u l))/\Bl w w':=by
 refine entr (vs:=[.pointer (some ⟨b0,0,none⟩),.slice aL l.length cL]) [0,1,4,5,7,8,9,10,11,15] tabok Tryz.func209 (by kernel_rfl) ?_
 refine lpk l.length 10 [5] [(0,.pointer (some ⟨b0,0,none⟩)),(8,.slice aL l.length cL),(9,I l.length)] (fun k vals w'=>∃ a5 c5,vals=[.slice a5 (picked u (l.take k)).length c5]/\OwP 1 encStr w' w.heap.size 9 a5 c5 (picked u (l.take k))/\Bl w w') ⟨none,0,rfl,Ow.nil _ _ _ _,Bl.refl _⟩ ?_
 rintro k vals w1 hk ⟨a5,c5,rfl,hO,hB⟩ ih
 have hpl:(picked u (l.take k)).length<=16:=by
  unfold picked
  rw [List.length_map]
  exact Nat.le_trans (List.length_filter_le _ _) (Nat.le_trans (List.length_take_le' _ _) hn)
 by_cases hlt:k<l.length
 ·refine brT ?_
  obtain ⟨i,bi,oi,cs,hi,rfl,_,hAt,rfl⟩:=at_some (hl.bl hB) hlt
  refine ix ?_
  refine ld (hAt 0 _ rfl) ?_
  refine br (fun h => ?_) (fun h => ?_)
  ·have h0:0<=i:=of_decide_eq_true h
   have hP:=hin i (List.mem_of_getElem? hi) h0
   have e1:picked u (l.take (k+1))=picked u (l.take k)++[nm u i]:=by unfold picked;rw [take_succ_some hi,List.filter_append,List.map_append];simp [h0]
   refine ld ((hx.bl hB) 1 _ rfl) ?_
   obtain ⟨b9,o9,e9,_,hc9,hz9,hi9,hp9⟩:=pool_at (hU.bl hB) hP
   rw [e9]
   refine ix (hij:=hi9) ?_
   refine ld hc9 ?_
   refine bs fun b2 w2 h2 => ?_
   refine apl (l1:=[nm u i]) (hO.bl h2.bl) (.inr ⟨b2,0,rfl,h2.box.at⟩) (hB.trans h2.bl).size (fun a' cap' w3 hO3 hA _ => ?_)
   refine ih hlt ⟨a',cap',?_,?_,Eng.Ow.below (hO.bl h2.bl) hA (hB.trans h2.bl) (hB.trans h2.bl).size⟩
   ·rw [e1]
   ·rw [e1];exact hO3
  ·have h0:¬0<=i:=of_decide_eq_false h
   have e1:picked u (l.take (k+1))=picked u (l.take k):=by unfold picked;rw [take_succ_some hi,List.filter_append,List.map_append];simp [h0]
   exact ih hlt ⟨a5,c5,by rw [e1],by rw [e1];exact hO,hB⟩
 refine brF ?_
 obtain rfl:k=l.length:=by omega
 rw [List.take_length] at hO hpl ⊢
 have hsz:∀ x∈picked u l,x.size<=1048576:=fun x hx=>by
  unfold picked at hx
  obtain ⟨i,hi,rfl⟩:=List.mem_map.1 hx
  rw [List.mem_filter] at hi
  obtain ⟨b9,o9,e9,_,hc9,hz9,hi9,hp9⟩:=pool_at hU (hin i hi.1 (of_decide_eq_true hi.2))
  exact hz9
 refine cl (R:=fun v w'=>v = .string (joinB (picked u l))/\Bl w1 w') ?_ ?_
 ·refine ⟨by kernel_rfl,?_⟩
  rcases hO.shape with ⟨rfl,h0,rfl,_⟩ | ⟨g,cur,rfl,hg,hgb,hn2,hcs,htk⟩
  ·have:picked u l=[]:=List.eq_nil_of_length_eq_zero h0
   rw [this]
   refine (Tryz.strings_Join_none none 0 ⟨#[46]⟩ w1).mono ?_
   rintro e w3 ⟨rfl,rfl⟩
   exact ⟨rfl,Bl.refl _⟩
  ·have hjl:=join_len (picked u l) hsz
   refine (Tryz.strings_Join g 0 c5 (picked u l) ⟨#[46]⟩ w1 (fun j x hx => ?_) (Array.getElem?_eq_some_iff.1 hgb).1 (by omega) hn2 ?_).mono ?_
   ·have h2:=hO.at rfl (j*1+0) (.string x) (by rw [flat_get (sz:=1) (enc:=encStr) (fun _=>rfl) hx 0 (by decide)];rfl)
    simpa using h2
   ·exact Nat.le_trans hjl (by omega)
   rintro e w3 ⟨rfl,hb⟩
   exact ⟨rfl,hb⟩
 rintro _ w2 ⟨rfl,hB2⟩
 exact rt1 ⟨rfl,hB.trans hB2⟩
end Go.Proofs.YtkmdfjpafkcleaaGreatDoor
namespace Go.Proofs.YtkmdfjpafkcleaaGreatDoor
open Eng Go.RowKit
theorem Eng.Ow.oth {w w':World} {base e esz n cap:Nat} {a a2:Option Addr} {xs:List Value} (h:Ow w base e esz a n cap xs) (k:Ap w a2 w') (hne:∀ g,a=some ⟨g,0,none⟩->a2≠some ⟨g,0,none⟩):Ow w' base e esz a n cap xs:=h.same fun g hg=>k.block g (h.lt hg).2 (hne g hg)
theorem named1 (u:Unt) (a:UA) (b0:Nat) (i:Int) (S:Nat->Prop) {w0 w:World} {b:Nat} (hn:New w0 b 3 [I i] w) (hU:UnR S w u a) (hx:At w b0 0 (ucells u a)) (hi:inP u i) :
  Ret Tryz.prog 209 #[.pointer (some ⟨b0,0,none⟩),.slice (some ⟨b,0,none⟩) 1 1] w fun v w'=>v = .string (nm u i)/\Bl w w':=by
 have hO:OwP 1 encInt w b 3 (some ⟨b,0,none⟩) 1 [i]:=Ow.made (n:=1) hn rfl (by omega)
 refine (u_named u a b0 [i] _ 1 S w hU hx (owp_sl hO (by simp) (fun _ _=>trivial)) (by simp) (fun j hj _ => ?_)).mono ?_
 ·simp at hj;subst hj;exact hi
 rintro v w' ⟨rfl,hB⟩
 refine ⟨?_,hB⟩
 have:picked u [i]=[nm u i]:=by simp [picked,hi.1]
 rw [this,joinB_one]
theorem named2 (u:Unt) (a:UA) (b0:Nat) (i j:Int) (S:Nat->Prop) {w0 w:World} {b:Nat} (hn:New w0 b 3 [I i,I j] w) (hU:UnR S w u a) (hx:At w b0 0 (ucells u a)) (hi:inP u i) (hj:inP u j) :
  Ret Tryz.prog 209 #[.pointer (some ⟨b0,0,none⟩),.slice (some ⟨b,0,none⟩) 2 2] w fun v w'=>v = .string (dots (nm u i) (nm u j))/\Bl w w':=by
 have hO:OwP 1 encInt w b 3 (some ⟨b,0,none⟩) 2 [i,j]:=Ow.made (n:=2) hn rfl (by omega)
 refine (u_named u a b0 [i,j] _ 2 S w hU hx (owp_sl hO (by simp) (fun _ _=>trivial)) (by simp) (fun k hk _ => ?_)).mono ?_
 ·simp at hk;rcases hk with rfl | rfl
  ·exact hi
  ·exact hj
 rintro v w' ⟨rfl,hB⟩
 refine ⟨?_,hB⟩
 have:picked u [i,j]=[nm u i,nm u j]:=by simp [picked,hi.1,hj.1]
 rw [this,joinB_two]
theorem u_doubled (u:Unt) (a:UA) (b0:Nat) (w:World) (hU:UnR T w u a) (hx:At w b0 0 (ucells u a)) (hL:Lim u) (hP:Plc u):Ret Tryz.prog 148 #[.pointer (some ⟨b0,0,none⟩)] w fun v w'=>v = .bool (doubled u)/\Bl w w':=by
 have n1:=hL.cls
 have n2:=hL.sta
 have n3:=hL.mth
 refine entr (vs:=[.pointer (some ⟨b0,0,none⟩)]) [0,2,3,4,6,7,9,11,13,17,18,19,20,32,33,34,35,48,53,54,55,56,71,72,73,74,79] tabok Tryz.func148 (by kernel_rfl) ?_
 refine ld (hx 2 _ rfl) ?_
 refine lpk u.classes.length 19 [3] [(0,.pointer (some ⟨b0,0,none⟩)),(2,.bool false),(4,.slice none 0 0),(17,.slice a.a2 u.classes.length a.c2),(18,I u.classes.length)]
  (fun k vals w'=>∃ a3 c3,vals=[.slice a3 ((u.classes.take k).map fun c=>nm u c.name).length c3]/\OwP 1 encStr w' w.heap.size 9 a3 c3 ((u.classes.take k).map fun c=>nm u c.name)/\(u.classes.take k).any (cdup u)=false/\Bl w w') ⟨none,0,rfl,Ow.nil _ _ _ _,rfl,Bl.refl _⟩ ?_
 rintro k vals w1 hk ⟨a3,c3,rfl,hO,hany,hB⟩ ih
 have ht1:((u.classes.take k).map fun c=>nm u c.name).length<=10:=by rw [List.length_map,List.length_take];omega
 by_cases hlt:k<u.classes.length
 ·refine brT ?_
  obtain ⟨c,b,o,cs,hc,e2,hSb,hAt,af,cf,rfl,hF⟩:=at_some hU.cls hlt
  have hcm:=List.mem_of_getElem? hc
  have nf:=hL.flds c hcm
  rw [e2]
  refine ix ?_
  refine lda (hAt.bl hB) ?_
  refine al fun b2 w2 h2 => ?_
  refine sta h2.box (fun w3 h3 y3 => ?_)
  have hB3:Bl w w3:=hB.trans (Eng.New.wr h2 h3)
  refine ld (y3.cell rfl) ?_
  refine bs fun b4 w4 h4 => ?_
  have hB4:=hB3.trans h4.bl
  refine cl (named1 u a b0 c.name T h4 (hU.bl hB4) (hx.bl hB4) (hP.cn c hcm)) ?_
  rintro _ w5 ⟨rfl,hB5⟩
  refine bs fun b6 w6 h6 => ?_
  have hB6:=(hB4.trans hB5).trans h6.bl
  have hO6:=((hO.bl (Eng.New.wr h2 h3)).bl h4.bl).bl (hB5.trans h6.bl)
  refine apl (l1:=[nm u c.name]) hO6 (.inr ⟨b6,0,rfl,h6.box.at⟩) hB6.size (fun a7 c7 w7 hO7 hA7 _ => ?_) (hb:=by simp only [List.length_cons,List.length_nil];omega) (hn:=by simp only [List.length_cons,List.length_nil];omega)
  have hB7:Bl w w7:=Eng.Ow.below hO6 hA7 hB6 hB6.size
  have y7:=hA7.box (Bl.box ((h4.bl.trans hB5).trans h6.bl) y3) (fun e=>by have:=(hO.lt e).2;have:=h2.blk;omega)
  have e1:(u.classes.take (k+1)).map (fun c=>nm u c.name)=(u.classes.take k).map (fun c=>nm u c.name)++[nm u c.name]:=map_snoc hc
  refine ld (y7.cell rfl) ?_
  refine lpk c.fields.length 34 [7] [(0,.pointer (some ⟨b0,0,none⟩)),(2,.bool false),(4,.slice none 0 0),(17,.slice (some ⟨b,o,none⟩) u.classes.length a.c2),(18,I u.classes.length),(19,I k),(3,.slice a7 ((u.classes.take k).map (fun c=>nm u c.name)++[nm u c.name]).length c7),(32,.slice af c.fields.length cf),(33,I c.fields.length)]
   (fun i vals w'=>∃ a8 c8,vals=[.slice a8 ((c.fields.take i).map fun f=>nm u f.name).length c8]/\OwP 1 encStr w' w7.heap.size 9 a8 c8 ((c.fields.take i).map fun f=>nm u f.name)/\Bl w7 w') ⟨none,0,rfl,Ow.nil _ _ _ _,Bl.refl _⟩ ?_
  rintro i vals w8 hi ⟨a8,c8,rfl,hO8,hB8⟩ ih2
  have ht2:((c.fields.take i).map fun f=>nm u f.name).length<=7:=by rw [List.length_map,List.length_take];omega
  have hB08:=hB7.trans hB8
  by_cases hlt2:i<c.fields.length
  ·refine brT ?_
   obtain ⟨f,bf,off,cs,hf,rfl,_,hAtf,rfl⟩:=at_some hF hlt2
   refine ix ?_
   refine lda (hAtf.bl hB08) ?_
   refine al fun b9 w9 h9 => ?_
   refine sta h9.box (fun w10 h10 y10 => ?_)
   have hB10:=Eng.New.wr h9 h10
   refine ld (y10.cell rfl) ?_
   refine bs fun b11 w11 h11 => ?_
   have hB11:=hB10.trans h11.bl
   refine cl (named1 u a b0 f.name T h11 (hU.bl (hB08.trans hB11)) (hx.bl (hB08.trans hB11)) (hP.fn c hcm f (List.mem_of_getElem? hf))) ?_
   rintro _ w12 ⟨rfl,hB12⟩
   refine bs fun b13 w13 h13 => ?_
   have hB13:=(hB11.trans hB12).trans h13.bl
   have hO13:=hO8.bl hB13
   refine apl (l1:=[nm u f.name]) hO13 (.inr ⟨b13,0,rfl,h13.box.at⟩) (hB8.trans hB13).size (fun a14 c14 w14 hO14 hA14 _ => ?_) (hb:=by simp only [List.length_cons,List.length_nil];omega) (hn:=by simp only [List.length_cons,List.length_nil];omega)
   have e3:(c.fields.take (i+1)).map (fun f=>nm u f.name)=(c.fields.take i).map (fun f=>nm u f.name)++[nm u f.name]:=map_snoc hf
   exact ih2 hlt2 ⟨a14,c14,by rw [e3],by rw [e3];exact hO14,Eng.Ow.below hO13 hA14 (hB8.trans hB13) (hB8.trans hB13).size⟩
  refine brF ?_
  obtain rfl:i=c.fields.length:=by omega
  rw [List.take_length] at hO8 ⊢
  refine cl (u_twice (c.fields.map fun f:Fld=>nm u f.name) a8 c8 T w8 (owp_sl hO8 (by rw [List.length_map];omega) (fun _ _=>trivial))) ?_
  rintro _ w9 ⟨rfl,hB9⟩
  refine br (t:=cdup u c) (fun h => ?_) (fun h => ?_)
  ·refine rt1 ⟨vb ?_,hB08.trans hB9⟩
   have:u.classes.any (cdup u)=true:=List.any_eq_true.2 ⟨c,hcm,h⟩
   unfold doubled;rw [this];simp
  ·refine ih hlt ⟨a7,c7,by rw [e1],by rw [e1];exact (hO7.bl hB8).bl hB9,any_snoc hc hany h,hB08.trans hB9⟩ (hsub:=by simp only [e2];repeat (first | exact True.intro | (refine ⟨rfl,?_⟩)))
 refine brF ?_
 obtain rfl:k=u.classes.length:=by omega
 have hany':=any_end hany
 rw [List.take_length] at hO ht1 ⊢
 refine ld ((hx.bl hB) 3 _ rfl) ?_
 refine lpk (vals:=[.slice a3 (u.classes.map fun c=>nm u c.name).length c3]) u.statics.length 55 [3] [(0,.pointer (some ⟨b0,0,none⟩)),(4,.slice none 0 0),(53,.slice a.a3 u.statics.length a.c3),(54,I u.statics.length)]
  (fun k vals w'=>∃ a3 c3,vals=[.slice a3 ((u.classes.map fun c=>nm u c.name)++(u.statics.take k).map fun f=>nm u f.name).length c3]/\OwP 1 encStr w' w.heap.size 9 a3 c3 ((u.classes.map fun c=>nm u c.name)++(u.statics.take k).map fun f=>nm u f.name)/\Bl w w') ⟨a3,c3,by simp,by simpa using hO,hB⟩ ?_
 rintro k vals w2 hk ⟨a4,c4,rfl,hO2,hB2⟩ ih
 have ht2:((u.classes.map fun c=>nm u c.name)++(u.statics.take k).map fun f=>nm u f.name).length<=20:=by rw [List.length_append,List.length_map,List.length_map,List.length_take];omega
 by_cases hlt:k<u.statics.length
 ·refine brT ?_
  obtain ⟨f,b,o,cs,hf,e2,hSb,hAt,rfl⟩:=at_some hU.sta hlt
  have hfm:=List.mem_of_getElem? hf
  rw [e2]
  refine ix ?_
  refine lda (hAt.bl hB2) ?_
  refine al fun b3 w3 h3 => ?_
  refine sta h3.box (fun w4 h4 y4 => ?_)
  have hB4:=Eng.New.wr h3 h4
  refine ld (y4.cell rfl) ?_
  refine bs fun b5 w5 h5 => ?_
  have hB5:=hB4.trans h5.bl
  refine cl (named1 u a b0 f.name T h5 (hU.bl (hB2.trans hB5)) (hx.bl (hB2.trans hB5)) (hP.sn f hfm)) ?_
  rintro _ w6 ⟨rfl,hB6⟩
  refine bs fun b7 w7 h7 => ?_
  have hB7:=(hB5.trans hB6).trans h7.bl
  have hO7:=hO2.bl hB7
  refine apl (l1:=[nm u f.name]) hO7 (.inr ⟨b7,0,rfl,h7.box.at⟩) (hB2.trans hB7).size (fun a8 c8 w8 hO8 hA8 _ => ?_) (hb:=by simp only [List.length_cons,List.length_nil];omega) (hn:=by simp only [List.length_cons,List.length_nil];omega)
  have e3:(u.classes.map fun c=>nm u c.name)++(u.statics.take (k+1)).map (fun f=>nm u f.name)=((u.classes.map fun c=>nm u c.name)++(u.statics.take k).map (fun f=>nm u f.name))++[nm u f.name]:=by rw [map_snoc hf,List.append_assoc]
  exact ih hlt ⟨a8,c8,by rw [e3],by rw [e3];exact hO8,Eng.Ow.below hO7 hA8 (hB2.trans hB7) (hB2.trans hB7).size⟩ (hsub:=by simp only [e2];repeat (first | exact True.intro | (refine ⟨rfl,?_⟩)))
 refine brF ?_
 obtain rfl:k=u.statics.length:=by omega
 rw [List.take_length] at hO2 ht2 ⊢
 refine ld ((hx.bl hB2) 4 _ rfl) ?_
 refine lpk (vals:=[.slice a4 ((u.classes.map fun c=>nm u c.name)++u.statics.map fun f=>nm u f.name).length c4,.slice none 0 0]) u.methods.length 73 [3,4] [(0,.pointer (some ⟨b0,0,none⟩)),(71,.slice a.a4 u.methods.length a.c4),(72,I u.methods.length)]
  (fun k vals w'=>∃ a3 c3 a4 c4,vals=[.slice a3 (((u.classes.map fun c=>nm u c.name)++u.statics.map fun f=>nm u f.name)++((u.methods.take k).filter fun m=>decide (m.cls = -1)).map fun m=>nm u m.name).length c3,.slice a4 (((u.methods.take k).filter fun m => !decide (m.cls = -1)).map fun m=>dots (nm u m.cls) (nm u m.name)).length c4] /\
   OwP 1 encStr w' w.heap.size 9 a3 c3 (((u.classes.map fun c=>nm u c.name)++u.statics.map fun f=>nm u f.name)++((u.methods.take k).filter fun m=>decide (m.cls = -1)).map fun m=>nm u m.name) /\
   OwP 1 encStr w' w.heap.size 9 a4 c4 (((u.methods.take k).filter fun m => !decide (m.cls = -1)).map fun m=>dots (nm u m.cls) (nm u m.name))/\(∀ g,a3=some ⟨g,0,none⟩->a4≠some ⟨g,0,none⟩)/\Bl w w') ⟨a4,c4,none,0,by simp,by simpa using hO2,by simp only [List.take_zero,List.filter_nil,List.map_nil];exact Ow.nil _ _ _ _,(fun _ _ e=>by cases e),hB2⟩ ?_
 rintro k vals w3 hk ⟨a5,c5,a6,c6,rfl,hO3,hO4,hne,hB3⟩ ih
 have fl:∀ p:Mth->Bool,((u.methods.take k).filter p).length<=16:=fun p=>Nat.le_trans (List.length_filter_le _ _) (by rw [List.length_take];omega)
 have ht3:(((u.classes.map fun c=>nm u c.name)++u.statics.map fun f=>nm u f.name)++((u.methods.take k).filter fun m=>decide (m.cls = -1)).map fun m=>nm u m.name).length<=36:=by
  have:=fl fun m=>decide (m.cls = -1)
  rw [List.length_append,List.length_map];omega
 have ht4:(((u.methods.take k).filter fun m => !decide (m.cls = -1)).map fun m=>dots (nm u m.cls) (nm u m.name)).length<=16:=by rw [List.length_map];exact fl _
 by_cases hlt:k<u.methods.length
 ·refine brT ?_
  obtain ⟨m,b,o,cs,hm,e2,hSb,hAt,a1,c1,a2,c2,a3,c3,rfl,f1,f2,f3⟩:=at_some hU.mth hlt
  have hmm:=List.mem_of_getElem? hm
  rw [e2]
  refine ix ?_
  refine lda (hAt.bl hB3) ?_
  refine al fun b4 w4 h4 => ?_
  refine sta h4.box (fun w5 h5 y5 => ?_)
  have hB5:=Eng.New.wr h4 h5
  refine ld (y5.cell rfl) ?_
  rcases hP.mc m hmm with hc | hc
  ·refine brT ?_ (hp:=by show m.cls<0;omega)
   have e5:((u.methods.take (k+1)).filter fun m=>decide (m.cls = -1))=((u.methods.take k).filter fun m=>decide (m.cls = -1))++[m]:=by rw [take_succ_some hm,List.filter_append];simp [hc]
   have e6:((u.methods.take (k+1)).filter fun m => !decide (m.cls = -1))=((u.methods.take k).filter fun m => !decide (m.cls = -1)):=by rw [take_succ_some hm,List.filter_append];simp [hc]
   refine ld (y5.cell rfl) ?_
   refine bs fun b6 w6 h6 => ?_
   have hB6:=hB5.trans h6.bl
   refine cl (named1 u a b0 m.name T h6 (hU.bl (hB3.trans hB6)) (hx.bl (hB3.trans hB6)) (hP.mn m hmm)) ?_
   rintro _ w7 ⟨rfl,hB7⟩
   refine bs fun b8 w8 h8 => ?_
   have hB8:=(hB6.trans hB7).trans h8.bl
   have hO8:=hO3.bl hB8
   refine apl (l1:=[nm u m.name]) hO8 (.inr ⟨b8,0,rfl,h8.box.at⟩) (hB3.trans hB8).size (fun a9 c9 w9 hO9 hA9 hfr => ?_) (hb:=by simp only [List.length_cons,List.length_nil];omega) (hn:=by simp only [List.length_cons,List.length_nil];omega)
   refine ih hlt ⟨a9,c9,a6,c6,?_,?_,?_,?_,Eng.Ow.below hO8 hA9 (hB3.trans hB8) (hB3.trans hB8).size⟩ (hsub:=by simp only [e2];repeat (first | exact True.intro | (refine ⟨rfl,?_⟩)))
   ·rw [e5,e6,List.map_append,<-List.append_assoc];rfl
   ·rw [e5,List.map_append,<-List.append_assoc];exact hO9
   ·rw [e6];exact (hO4.bl hB8).oth hA9 (fun g hg e=>hne g e hg)
   ·intro g hg e
    rcases hfr g hg with h | h
    ·exact hne g h e
    ·have:=(hO4.lt e).2;have:=hB8.size;omega
  ·refine brF ?_ (hp:=by show ¬m.cls<0;have:=hc.1;omega)
   have hcn:¬m.cls = -1:=by have:=hc.1;omega
   have e5:((u.methods.take (k+1)).filter fun m=>decide (m.cls = -1))=((u.methods.take k).filter fun m=>decide (m.cls = -1)):=by rw [take_succ_some hm,List.filter_append];simp [hcn]
   have e6:((u.methods.take (k+1)).filter fun m => !decide (m.cls = -1))=((u.methods.take k).filter fun m => !decide (m.cls = -1))++[m]:=by rw [take_succ_some hm,List.filter_append];simp [hcn]
   refine ld (y5.cell rfl) ?_
   refine ld (y5.cell rfl) ?_
   refine bs fun b6 w6 h6 => ?_
   have hB6:=hB5.trans h6.bl
   refine cl (named2 u a b0 m.cls m.name T h6 (hU.bl (hB3.trans hB6)) (hx.bl (hB3.trans hB6)) hc (hP.mn m hmm)) ?_
   rintro _ w7 ⟨rfl,hB7⟩
   refine bs fun b8 w8 h8 => ?_
   have hB8:=(hB6.trans hB7).trans h8.bl
   have hO8:=hO4.bl hB8
   refine apl (l1:=[dots (nm u m.cls) (nm u m.name)]) hO8 (.inr ⟨b8,0,rfl,h8.box.at⟩) (hB3.trans hB8).size (fun a9 c9 w9 hO9 hA9 hfr => ?_) (hb:=by simp only [List.length_cons,List.length_nil];omega) (hn:=by simp only [List.length_cons,List.length_nil];omega)
   refine ih hlt ⟨a5,c5,a9,c9,?_,?_,?_,?_,Eng.Ow.below hO8 hA9 (hB3.trans hB8) (hB3.trans hB8).size⟩ (hsub:=by simp only [e2];repeat (first | exact True.intro | (refine ⟨rfl,?_⟩)))
   ·rw [e5,e6,List.map_append];rfl
   ·rw [e5];exact (hO3.bl hB8).oth hA9 (fun g hg e=>hne g hg e)
   ·rw [e6,List.map_append];exact hO9
   ·intro g hg e
    rcases hfr g e with h | h
    ·exact hne g hg h
    ·have:=(hO3.lt hg).2;have:=hB8.size;omega
 refine brF ?_
 obtain rfl:k=u.methods.length:=by omega
 rw [List.take_length] at hO3 hO4 ht3 ht4 ⊢
 have eD:doubled u=(dup u.pool||dup (heads u)||dup (fulls u)):=by unfold doubled;rw [hany'];simp
 refine ld ((hx.bl hB3) 1 _ rfl) ?_
 refine cl (u_twice u.pool a.a1 a.c1 T w3 (hU.bl hB3).pool) ?_
 rintro _ w4 ⟨rfl,hB4⟩
 refine sp (.bool false) (fun q => ?_) (fun q => ?_)
 ·refine cl (u_twice (heads u) a5 c5 T w4 (owp_sl (hO3.bl hB4) (by omega) (fun _ _=>trivial))) ?_
  rintro _ w5 ⟨rfl,hB5⟩
  refine sp (.bool false) (fun q2 => ?_) (fun q2 => ?_)
  ·refine cl (u_twice (fulls u) a6 c6 T w5 (owp_sl ((hO4.bl hB4).bl hB5) (by omega) (fun _ _=>trivial))) ?_
   rintro _ w6 ⟨rfl,hB6⟩
   refine rt1 ⟨vb ?_,((hB3.trans hB4).trans hB5).trans hB6⟩
   rw [eD,q,show dup (heads u)=false from by simpa using q2];rfl
  ·have q2':dup (heads u)=true:=by simpa using q2
   refine rt1 ⟨vb ?_,(hB3.trans hB4).trans hB5⟩
   rw [eD,q,q2'];rfl
 ·have q':dup u.pool=true:=by simpa using q
  refine sp (.bool false) (fun q2 => ?_) (fun q2 => ?_)
  ·rw [q'] at q2;cases q2
  refine rt1 ⟨vb ?_,hB3.trans hB4⟩
  rw [eD,q'];rfl
end Go.Proofs.YtkmdfjpafkcleaaGreatDoor
namespace Go.Proofs.YtkmdfjpafkcleaaGreatDoor
open Eng Go.RowKit
def beyB (u:Unt) (r:Rf):Bool := !refOk u.pool.length r
def frmB (u:Unt) (r:Rf):Bool:=refOk u.pool.length r&&decide (0<=r.at')&&decide (¬(path (nm u r.at'):Int)=r.parts)
theorem any_congr {α:Type} {q r:α->Bool}:∀ {l:List α},(∀ x∈l,q x=r x)->l.any q=l.any r
 | [],_=>rfl
 | x::l,h=>by rw [List.any_cons,List.any_cons,h x (List.mem_cons_self ..),any_congr fun y hy=>h y (List.mem_cons_of_mem _ hy)]
section
variable {p:Rf->Bool} (hp:∀ r:Rf,r.at' = -1->r.opt=true->p r=false)
include hp
theorem ty_any {t:Ty} (hb:bare t=true):(tyU t).any p=p (typed t):=by
 unfold tyU
 cases ht:tcls t with
 | true=>simp [typed,ht]
 | false =>
  have:t.cls = -1:=by simpa [bare,ht] using hb
  simp [hp (typed t) this (by simp [typed,ht])]
theorem fld_any {f:Fld} (hb:bare f.ty=true):(fldU f).any p=(fref f).any p:=by simp [fldU,fref,ty_any hp hb]
theorem heads_any {u:Unt} (hc:classless u=true):(headsU u).any p=(refs u).any p:=by
 unfold classless at hc
 simp only [Bool.and_eq_true,List.all_eq_true] at hc
 obtain ⟨⟨h1,h2⟩,h3⟩:=hc
 unfold headsU refs
 rw [List.any_append,List.any_append,List.any_append,List.any_append,List.any_flatMap,List.any_flatMap,List.any_flatMap,List.any_flatMap,List.any_flatMap,List.any_flatMap]
 congr 1
 ·congr 1
  ·refine any_congr fun c hcm => ?_
   have hb:=h1 c hcm
   simp only [bcls,List.all_eq_true] at hb
   simp only [clsU,cref,List.any_cons,List.any_append,List.any_nil,Bool.or_false,Bool.or_assoc]
   congr 2
   rw [List.any_flatMap,List.any_flatMap]
   exact any_congr fun f hf=>fld_any hp (hb f hf)
  ·exact any_congr fun f hf=>fld_any hp (h2 f hf)
 ·refine any_congr fun m hm => ?_
  have hb:=h3 m hm
  simp only [bmth,Bool.and_eq_true,List.all_eq_true] at hb
  obtain ⟨⟨g1,g2⟩,g3⟩:=hb
  have e:∀ l:List Ty,(∀ t∈l,bare t=true)->(l.flatMap tyU).any p=(l.map typed).any p:=fun l hl=>by
   rw [List.any_flatMap,List.any_map]
   exact any_congr fun t ht=>ty_any hp (hl t ht)
  simp only [mthU,mref,List.any_cons,List.any_append,List.any_nil,Bool.or_false,Bool.or_assoc,List.flatMap_cons,List.flatMap_nil,List.append_nil]
  rw [e _ g2,e _ g3,ty_any hp g1]
end
theorem bey_none (u:Unt):∀ r:Rf,r.at' = -1->r.opt=true->beyB u r=false:=fun r h1 h2=>by simp [beyB,refOk,h1,h2]
theorem frm_none (u:Unt):∀ r:Rf,r.at' = -1->r.opt=true->frmB u r=false:=fun r h1 h2=>by simp [frmB,h1]
theorem heads_bey {u:Unt} (hc:classless u=true):(headsU u).any (beyB u) = !(refs u).all (refOk u.pool.length):=by
 rw [heads_any (bey_none u) hc,List.not_all_eq_any_not];rfl
theorem heads_frm {u:Unt} (hc:classless u=true) (hr:(refs u).all (refOk u.pool.length)=true):(headsU u).any (frmB u) = !refsOk u:=by
 rw [heads_any (frm_none u) hc]
 unfold refsOk
 rw [List.not_all_eq_any_not]
 rw [List.all_eq_true] at hr
 have:∀ l:List Rf,(∀ r∈l,refOk u.pool.length r=true)->l.any (frmB u)=l.any fun r => !!(decide (0<=r.at')&&decide (¬(path (nm u r.at'):Int)=r.parts)):=by
  intro l hl
  induction l with
  | nil=>rfl
  | cons r l ih =>
   rw [List.any_cons,List.any_cons,ih fun x hx=>hl x (List.mem_cons_of_mem _ hx)]
   congr 1
   unfold frmB
   rw [hl r (List.mem_cons_self ..)];simp
 exact this _ hr
theorem op_any {u:Unt} {i:Ins} (hv:validI i true=true):((opU i).any (beyB u)||(opU i).any (frmB u)) = !insOk u i:=by
 have hge:=operand_ge i hv
 have h12:i.op=12->i.a=2∨i.a=3∨i.a=4:=fun h=>by
  obtain ⟨op,a,b⟩:=i
  subst h
  simp [validI,inR,rngs,isPool] at hv
  simp only
  omega
 have key:opU i=if 0<(operand i).2 then [⟨(operand i).1,(operand i).2,false⟩] else []:=by
  unfold opU operand named
  by_cases e1:i.op=17∨i.op=18
  ·simp [e1]
  by_cases e2:i.op=14∨i.op=24∨i.op=22∨i.op=23∨i.op=25
  ·simp [e1,e2]
  by_cases e3:i.op=16
  ·simp [e3]
  by_cases e4:i.op=12
  ·have:=h12 e4
   by_cases e5:i.a=3
   ·simp [e4,e5]
   ·have e6:i.a=2∨i.a=4:=by omega
    simp [e4,e5,e6]
  by_cases e7:i.op=26
  ·simp [e7]
  simp [e1,e2,e3,e4,e7]
 rw [key]
 unfold insOk
 by_cases h0:0<(operand i).2
 ·have h1:=hge h0
  simp only [if_pos h0,List.any_cons,List.any_nil,Bool.or_false,decide_eq_true h0,Bool.true_and,Bool.not_not]
  unfold beyB frmB refOk
  simp only [Bool.and_false,Bool.false_or]
  by_cases h2:(operand i).1≥u.pool.length
  ·simp [h2]
  ·have h3:¬(operand i).1<0:=by omega
   simp [h2,h3,h1]
 ·simp [h0]
end Go.Proofs.YtkmdfjpafkcleaaGreatDoor
namespace Go.Proofs.YtkmdfjpafkcleaaGreatDoor
open Eng Go.RowKit
structure SeeJ (u:Unt) (bb bf:Nat) (w0:World) (pre:List Rf) (w:World):Prop where
 os:w.os=w0.os
 tape:w.tape=w0.tape
 output:w.output=w0.output
 size:w0.heap.size<=w.heap.size
 block:∀ k,k<w0.heap.size->k≠bb->k≠bf->w.heap[k]? = w0.heap[k]?
 bey:Box w bb 4 [.bool (pre.any (beyB u))]
 frm:Box w bf 4 [.bool (pre.any (frmB u))]
abbrev seeS (bb bf:Nat) (w0:World):Nat->Prop:=fun i=>i<w0.heap.size/\i≠bb/\i≠bf
theorem SeeJ.bl {u:Unt} {bb bf:Nat} {w0:World} {pre:List Rf} {w w':World} (h:SeeJ u bb bf w0 pre w) (k:Bl w w'):SeeJ u bb bf w0 pre w' :=
 ⟨k.os.trans h.os,k.tape.trans h.tape,k.output.trans h.output,Nat.le_trans h.size k.size,fun i h1 h2 h3=>(k.block i (Nat.lt_of_lt_of_le h1 h.size)).trans (h.block i h1 h2 h3),Bl.box k h.bey,Bl.box k h.frm⟩
theorem SeeJ.kp {u:Unt} {bb bf:Nat} {w0:World} {pre:List Rf} {w:World} (h:SeeJ u bb bf w0 pre w):Kp (seeS bb bf w0) w0 w:=fun b o v s x=>by
 rw [World.cell?_of_block (w:=w0) (h.block b s.1 s.2.1 s.2.2)];exact x
theorem SeeJ.below {u:Unt} {bb bf B:Nat} {w00 w0:World} {pre:List Rf} {w:World} (h:SeeJ u bb bf w0 pre w) (k:Below B w00 w0) (h1:B<=bb) (h2:B<=bf) (h3:B<=w0.heap.size):Below B w00 w :=
 ⟨h.os.trans k.os,h.tape.trans k.tape,h.output.trans k.output,Nat.le_trans k.size h.size,fun i hi=>(h.block i (by omega) (by omega) (by omega)).trans (k.block i hi)⟩
theorem v_see (u:Unt) (a:UA) (b1 bb bf:Nat) (hne:bb≠bf) (n1:b1≠bb) (n2:b1≠bf) (w0:World) (hb1:b1<w0.heap.size) (_hbb:bb<w0.heap.size) (_hbf:bf<w0.heap.size) (hU:UnR (seeS bb bf w0) w0 u a) (hx:At w0 b1 0 (ucells u a)) (hG:Gl w0) (hGg:seeS bb bf w0 0) (N:Nat) :
  EachC (seeS bb bf w0) w0 140 [.pointer (some ⟨b1,0,none⟩),.pointer (some ⟨bb,0,none⟩),.pointer (some ⟨bf,0,none⟩)] (SeeJ u bb bf w0) (fun _=>True) N:=by
 refine ⟨fun pre w h=>h.kp,fun pre w w' k h=>h.bl k,fun pre r b o w _ _ _ hJ hc => ?_⟩
 have hb1S:seeS bb bf w0 b1:=⟨hb1,n1,n2⟩
 show Ret Tryz.prog 140 #[.agg #[.pointer (some ⟨b,o,none⟩),I r.parts,.bool r.opt],.pointer (some ⟨b1,0,none⟩),.pointer (some ⟨bb,0,none⟩),.pointer (some ⟨bf,0,none⟩)] w _
 refine entr (vs:=[.agg #[.pointer (some ⟨b,o,none⟩),I r.parts,.bool r.opt],.pointer (some ⟨b1,0,none⟩),.pointer (some ⟨bb,0,none⟩),.pointer (some ⟨bf,0,none⟩)]) [0,1,2,3,4,5,10,17,27] tabok Tryz.func140 (by kernel_rfl) ?_
 refine bx (cs:=[.pointer (some ⟨b,o,none⟩),I r.parts,.bool r.opt]) fun b4 w1 h1 => ?_
 have hJ1:=hJ.bl h1.bl
 have X1:=hx.kp hJ1.kp hb1S
 refine ld (h1.box.cell rfl) ?_
 refine ld (h1.bl.kp T _ _ _ trivial hc) ?_
 refine ld (h1.box.cell rfl) ?_
 have e1:∀ p:Rf->Bool,(pre++[r]).any p=(pre.any p||p r):=fun p=>by rw [List.any_append];simp
 have stay:beyB u r=false->frmB u r=false->∀ {w'},SeeJ u bb bf w0 pre w'->SeeJ u bb bf w0 (pre++[r]) w':=fun h1 h2 w' h=>⟨h.os,h.tape,h.output,h.size,h.block,by rw [e1,h1,Bool.or_false];exact h.bey,by rw [e1,h2,Bool.or_false];exact h.frm⟩
 refine br (t:=r.opt&&decide (r.at' = -1)) (fun h => ?_) (fun h => ?_)
 ·simp only [Bool.and_eq_true,decide_eq_true_eq] at h
  exact en (vs:=[]) (stay (bey_none u r h.2 h.1) (frm_none u r h.2 h.1) hJ1)
 refine ldg (fun _=>X1 1 _ rfl) ?_
 refine br (t:=decide (r.at'<0)||decide ((u.pool.length:Int)<=r.at')) (fun h2 => ?_) (fun h2 => ?_)
 ·have hb:beyB u r=true:=by
   unfold beyB refOk
   have e3:(decide (r.at' = -1)&&r.opt)=false:=by rw [Bool.and_comm];exact h
   rw [e3];simpa using h2
  have hf:frmB u r=false:=by unfold frmB;unfold beyB at hb;simp at hb;simp [hb]
  refine st hJ1.bey (fun w2 h3 y3 => ?_)
  refine en (vs:=[]) ⟨h3.os.trans hJ1.os,h3.tape.trans hJ1.tape,h3.output.trans hJ1.output,by rw [h3.size];exact hJ1.size,fun i g1 g2 g3=>(h3.block i g2).trans (hJ1.block i g1 g2 g3),by rw [e1,hb,Bool.or_true];exact y3,by rw [e1,hf,Bool.or_false];exact h3.box hJ1.frm (Ne.symm hne)⟩
 have hin:inP u r.at':=by
  simp only [Bool.or_eq_false_iff,decide_eq_false_iff_not] at h2
  exact ⟨by omega,by omega⟩
 have hok:refOk u.pool.length r=true:=by unfold refOk;obtain ⟨g1,g2⟩:=hin;simp;right;omega
 have hb:beyB u r=false:=by unfold beyB;rw [hok];rfl
 obtain ⟨b9,o9,e9,hS9,hc9,hz9,hi9,hp9⟩:=pool_at hU hin
 refine dh T [0,1,2,3,4,6,7,5,8,9] fun w2 h2 => ?_
 have hJ2:=hJ1.bl h2.bl
 refine ld ((hx.kp hJ2.kp hb1S) 1 _ rfl) ?_
 rw [e9]
 refine ix (hij:=hi9) ?_
 refine ld (hJ2.kp _ _ _ hS9 hc9) ?_
 refine ld ((h2.box h1.box).cell rfl) ?_
 refine cl (u_Path (nm u r.at') w2 hz9 (hG.kp hJ2.kp hGg)) ?_
 rintro _ w3 ⟨rfl,hB3⟩
 have hJ3:=hJ2.bl hB3
 refine br (t:=decide (¬(path (nm u r.at'):Int)=r.parts)) (fun h3 => ?_) (fun h3 => ?_)
 ·have hf:frmB u r=true:=by unfold frmB;rw [hok,decide_eq_true hin.1,h3];rfl
  refine st hJ3.frm (fun w4 h4 y4 => ?_)
  refine en (vs:=[]) ⟨h4.os.trans hJ3.os,h4.tape.trans hJ3.tape,h4.output.trans hJ3.output,by rw [h4.size];exact hJ3.size,fun i g1 g2 g3=>(h4.block i g3).trans (hJ3.block i g1 g2 g3),by rw [e1,hb,Bool.or_false];exact h4.box hJ3.bey hne,by rw [e1,hf,Bool.or_true];exact y4⟩
 ·have hf:frmB u r=false:=by unfold frmB;rw [h3,Bool.and_false]
  exact en (vs:=[]) (stay hb hf hJ3)
end Go.Proofs.YtkmdfjpafkcleaaGreatDoor
namespace Go.Proofs.YtkmdfjpafkcleaaGreatDoor
open Eng Go.RowKit
theorem Gl.lt {w:World} (h:Gl w):0<w.heap.size:=let ⟨_,hm⟩:=h;cell_lt hm
theorem u_Check2 (s:ByteArray) (w:World) (hs:s.size<=1048576) (hG:Gl w):Ret Tryz.prog 145 #[.string s] w fun v w'=>v = .bool (decide ((path s:Int)=0))/\Bl w w':=by
 refine entr (vs:=[.string s]) [0,2] tabok Tryz.func145 (by kernel_rfl) ?_
 refine cl (u_Path s w hs hG) ?_
 rintro _ w1 ⟨rfl,hB⟩
 exact rt1 ⟨rfl,hB⟩
set_option maxHeartbeats 1000000 in
theorem u_Check (u:Unt) (a:UA) (w:World) (hU:UnR T w u a) (hG:Gl w):Ret Tryz.prog 89 #[.agg (ucells u a).toArray] w fun v w'=>v=I (checkE u)/\Bl w w':=by
 have hgl:=hG.lt
 refine entr (vs:=[.agg (ucells u a).toArray]) [0,1,2,3,4,5,7,8,10,12,21,24,30,32,35,36,37,38,45,49,50,51,52,63] tabok Tryz.func89 (by kernel_rfl) ?_
 refine bx (cs:=ucells u a) fun b1 w1 h1 => ?_
 refine al fun bb w2 h2 => ?_
 refine al fun bf w3 h3 => ?_
 have q1:=h1.blk
 have q2:=h2.blk
 have q3:=h3.blk
 have z1:=h1.size
 have z2:=h2.size
 have z3:=h3.size
 refine st (Bl.box h3.bl h2.box) (fun w4 h4 y4 => ?_)
 have hf4:=h4.box h3.box (by omega)
 refine st hf4 (fun w5 h5 y5 => ?_)
 have yb5:=h5.box y4 (by omega)
 have z4:=h4.size
 have z5:=h5.size
 have hB5:Bl w w5:=Below.trans (Below.trans ((h1.bl.trans h2.bl).trans h3.bl) (h4.below (by omega))) (h5.below (by omega))
 have x5:Box w5 b1 _ (ucells u a):=h5.box (h4.box (Bl.box (h2.bl.trans h3.bl) h1.box) (by omega)) (by omega)
 refine cl (u_long u a b1 w5 x5.at (hU.bl hB5)) ?_
 rintro _ w6 ⟨rfl,hB6⟩
 have hB06:=hB5.trans hB6
 refine br (t := !limits u) (fun h => ?_) (fun h => ?_)
 ·exact rt1 ⟨vi (by unfold checkE;rw [if_pos (by simpa using h)]),hB06⟩
 have hl1:limits u=true:=by simpa using h
 have hL:=lim_of hl1
 have x6:=Bl.box hB6 x5
 refine ld (x6.cell rfl) ?_
 refine cl (u_Simple u.name w6 hU.nm) ?_
 rintro _ w6 ⟨rfl,rfl⟩
 refine ldg (fun _=>x6.cell rfl) ?_
 refine sp (.bool false) (fun q => ?_) (fun q => ?_)
 rotate_left
 ·have hs0:simple u.name=false:=by simpa using q
  refine brt ?_ (hp:=by rw [hs0];rfl)
  exact rt1 ⟨vi (by unfold checkE;rw [if_neg (by rw [hl1];simp),if_pos hs0]),hB06⟩
 have hs1:simple u.name=true:=by simpa using q
 refine cl (ContainsFunc_str u.pool a.a1 a.c1 145 [] (fun s=>decide ((path s:Int)=0)) T w6 (hU.bl hB06).pool (fun s cs hs w' hB' hr => ?_)) ?_
 ·obtain rfl:cs=[.string s]:=hr
  exact u_Check2 s w' (hU.ps s hs) (hG.bl (hB06.trans hB'))
 rintro _ w7 ⟨rfl,hB7⟩
 have hB07:=hB06.trans hB7
 have eP:pathsOk u = !(u.pool.any fun s=>decide ((path s:Int)=0)):=by
  unfold pathsOk
  rw [<-Bool.not_not (u.pool.all _),List.not_all_eq_any_not]
  congr 1
  exact congrArg (fun f=>u.pool.any f) (funext fun s=>by by_cases h:(path s:Int)=0 <;> simp [h])
 refine br (t:=false||u.pool.any fun s=>decide ((path s:Int)=0)) (fun h => ?_) (fun h => ?_)
 ·have h':(u.pool.any fun s=>decide ((path s:Int)=0))=true:=by simpa using h
  exact rt1 ⟨vi (by unfold checkE;rw [if_neg (by rw [hl1];simp),if_neg (by rw [hs1];simp),if_pos (by rw [eP,h'];rfl)]),hB07⟩
 have h':(u.pool.any fun s=>decide ((path s:Int)=0))=false:=by simpa using h
 have hp1:pathsOk u=true:=by rw [eP,h'];rfl
 have hE1:checkE u=if (kinds u&&places u)=false then 1 else if refsOk u=false then 8 else if doubled u=true then 9 else if mErr u.methods≠0 then mErr u.methods else if codesOk u=false then 8 else 0:=by
  unfold checkE;rw [if_neg (by rw [hl1];simp),if_neg (by rw [hs1];simp),if_neg (by rw [hp1];simp)]
 have z6:=hB6.size
 have z7:=hB7.size
 have x7:=Bl.box hB7 x6
 have U7:UnR (seeS bb bf w7) w7 u a:=((hU.lt).bl hB07).sub fun i hi=>⟨by omega,by omega,by omega⟩
 have hE:=v_see u a b1 bb bf (by omega) (by omega) (by omega) w7 x7.lt (by omega) (by omega) U7 x7.at (hG.bl hB07) ⟨by omega,by omega,by omega⟩
 have hJ7:SeeJ u bb bf w7 [] w7:=⟨rfl,rfl,rfl,Nat.le_refl _,fun _ _ _ _=>rfl,Bl.box (hB6.trans hB7) yb5,Bl.box (hB6.trans hB7) y5⟩
 have hbS:seeS bb bf w7 b1:=⟨x7.lt,by omega,by omega⟩
 have jb:∀ {pre w'},SeeJ u bb bf w7 pre w'->Bl w w':=fun h=>h.below hB07 (by omega) (by omega) hB07.size
 refine cl (h_heads (hE _) u (fun _ _=>trivial) a U7 b1 0 hbS x7.at [] w7 hJ7 (Nat.le_refl _)) ?_
 intro v8 w8 hJ8
 rw [List.nil_append] at hJ8
 have hB08:=jb hJ8
 have z8:=hJ8.size
 have X8:=x7.at.kp hJ8.kp hbS
 refine ld (hJ8.bey.cell rfl) ?_
 have U8':UnR (· < w8.heap.size) w8 u a:=((hU.lt).bl hB08).sub fun i hi=>by omega
 have hbey:∀ {c:Bool},classless u=c->c=true->(headsU u).any (beyB u) = !(refs u).all (refOk u.pool.length):=fun h1 h2=>heads_bey (by rw [h1,h2])
 refine sp (.bool false) (fun q => ?_) (fun q => ?_)
 rotate_left
 ·
  have q':(headsU u).any (beyB u)=true:=by simpa using q
  refine brt ?_ (hp:=by rw [q'];rfl)
  refine rt1 ⟨vi ?_,hB08⟩
  rw [hE1,if_pos]
  cases hc:classless u with
  | false=>unfold places;rw [hc];simp
  | true =>
   rw [heads_bey hc] at q'
   unfold places
   have:(refs u).all (refOk u.pool.length)=false:=by simpa using q'
   rw [this];simp
 have hb8:(headsU u).any (beyB u)=false:=by simpa using q
 refine cl (u_kinds u a b1 w8 U8' (by omega) X8 hL) ?_
 rintro _ w9 ⟨rfl,hB9⟩
 have hJ9:=hJ8.bl hB9
 have hB09:=hB08.trans hB9
 refine br (t:=false || !kgood u) (fun h => ?_) (fun h => ?_)
 ·have h1:kgood u=false:=by simpa using h
  refine rt1 ⟨vi ?_,hB09⟩
  rw [hE1,if_pos]
  rw [kgood_eq] at h1
  unfold places
  cases hk:kinds u
  ·rfl
  ·rw [hk] at h1
   have:classless u=false:=by simpa using h1
   rw [this];simp
 have h1:kgood u=true:=by simpa using h
 rw [kgood_eq,Bool.and_eq_true] at h1
 obtain ⟨hk1,hc1⟩:=h1
 have hr1:(refs u).all (refOk u.pool.length)=true:=by rw [heads_bey hc1] at hb8;simpa using hb8
 have hpl:places u=true:=by unfold places;rw [hr1,hc1];rfl
 have hP:Plc u:=plc_of hr1
 have hE2:checkE u=if refsOk u=false then 8 else if doubled u=true then 9 else if mErr u.methods≠0 then mErr u.methods else if codesOk u=false then 8 else 0:=by rw [hE1,if_neg (by rw [hk1,hpl];simp)]
 have hf8:=heads_frm hc1 hr1
 refine ld (hJ9.frm.cell rfl) ?_
 refine br (t:=(headsU u).any (frmB u)) (fun h => ?_) (fun h => ?_)
 ·refine rt1 ⟨vi ?_,hB09⟩
  rw [hE2,if_pos]
  rw [hf8] at h;simpa using h
 have hrf:refsOk u=true:=by rw [hf8] at h;simpa using h
 have hE3:checkE u=if doubled u=true then 9 else if mErr u.methods≠0 then mErr u.methods else if codesOk u=false then 8 else 0:=by rw [hE2,if_neg (by rw [hrf];simp)]
 have X:∀ {pre w'},SeeJ u bb bf w7 pre w'->At w' b1 0 (ucells u a):=fun h=>x7.at.kp h.kp hbS
 refine cl (u_doubled u a b1 w9 (hU.bl hB09) (X hJ9) hL hP) ?_
 rintro _ w10 ⟨rfl,hB10⟩
 have hJ10:=hJ9.bl hB10
 have hB010:=hB09.trans hB10
 refine br (t:=doubled u) (fun h => ?_) (fun h => ?_)
 ·exact rt1 ⟨vi (by rw [hE3,if_pos h]),hB010⟩
 have hE4:checkE u=if mErr u.methods≠0 then mErr u.methods else if codesOk u=false then 8 else 0:=by rw [hE3,if_neg (by rw [h];simp)]
 have nm3:=hL.mth
 refine ld (X hJ10 4 _ rfl) ?_
 refine lpk u.methods.length 37 [] [(1,.pointer (some ⟨b1,0,none⟩)),(3,.pointer (some ⟨bb,0,none⟩)),(4,.pointer (some ⟨bf,0,none⟩)),(5,.func (.func 140) #[] #[.pointer (some ⟨b1,0,none⟩),.pointer (some ⟨bb,0,none⟩),.pointer (some ⟨bf,0,none⟩)]),(35,.slice a.a4 u.methods.length a.c4),(36,I u.methods.length)]
  (fun k vals w'=>vals=[]/\(∀ m∈u.methods.take k,codeE m.code true=0)/\SeeJ u bb bf w7 (headsU u) w') ⟨rfl,by simp,hJ10⟩ ?_
 rintro k vals w11 hk ⟨rfl,ha11,hJ11⟩ ih
 have hB11:=jb hJ11
 by_cases hlt:k<u.methods.length
 ·refine brT ?_
  obtain ⟨m,b2,o2,cs,hm,e2,_,hAt,a1,c1,a2,c2,a3,c3,rfl,f1,f2,f3⟩:=at_some (hU.bl hB11).mth hlt
  rw [e2]
  refine ix ?_
  refine lda hAt ?_
  refine al fun b12 w12 h12 => ?_
  refine sta h12.box (fun w13 h13 y13 => ?_)
  have hB13:=Eng.New.wr h12 h13
  refine ld (y13.cell rfl) ?_
  refine cl (u_codeCheck m.code a3 c3 true T w13 (f3.bl hB13)) ?_
  rintro _ w14 ⟨rfl,hB14⟩
  have hJ14:=hJ11.bl (hB13.trans hB14)
  refine br (t:=decide (¬codeE m.code true=0)) (fun h => ?_) (fun h => ?_)
  ·have h4:=of_decide_eq_true h
   refine rt1 ⟨vi ?_,jb hJ14⟩
   have:=mErr_hit hm ha11 h4
   rw [hE4,if_pos (by rw [this];exact h4),this]
  ·have h4:=Classical.not_not.1 (of_decide_eq_false h)
   refine ih hlt ⟨rfl,fun y hy => ?_,hJ14⟩ (hsub:=by simp only [e2];repeat (first | exact True.intro | (refine ⟨rfl,?_⟩)))
   rw [take_succ_some hm,List.mem_append] at hy
   rcases hy with hy | hy
   ·exact ha11 y hy
   ·simp at hy;subst hy;exact h4
 refine brF ?_
 obtain rfl:k=u.methods.length:=by omega
 rw [List.take_length] at ha11
 have hE5:checkE u=if codesOk u=false then 8 else 0:=by rw [hE4,if_neg (by rw [mErr_none ha11];simp)]
 refine ld (X hJ11 4 _ rfl) ?_
 refine lpk u.methods.length 51 [] [(3,.pointer (some ⟨bb,0,none⟩)),(4,.pointer (some ⟨bf,0,none⟩)),(5,.func (.func 140) #[] #[.pointer (some ⟨b1,0,none⟩),.pointer (some ⟨bb,0,none⟩),.pointer (some ⟨bf,0,none⟩)]),(49,.slice a.a4 u.methods.length a.c4),(50,I u.methods.length)]
  (fun k vals w'=>vals=[]/\SeeJ u bb bf w7 (headsU u++(u.methods.take k).flatMap fun m=>m.code.flatMap opU) w') ⟨rfl,by simpa using hJ11⟩ ?_
 rintro k vals w15 hk ⟨rfl,hJ15⟩ ih
 by_cases hlt:k<u.methods.length
 ·refine brT ?_
  obtain ⟨m,b2,o2,cs,hm,e2,hSb,hAt0,a1,c1,a2,c2,a3,c3,rfl,f1,f2,f3⟩:=at_some U7.mth hlt
  rw [e2]
  refine ix ?_
  refine lda (hAt0.kp hJ15.kp hSb) ?_
  refine al fun b16 w16 h16 => ?_
  refine sta h16.box (fun w17 h17 y17 => ?_)
  have hJ17:=hJ15.bl (Eng.New.wr h16 h17)
  refine ld (y17.cell rfl) ?_
  refine cl (h_operands (hE _) m.code (fun _ _ _ _=>trivial) a3 c3 f3 _ w17 hJ17 (Nat.le_refl _)) ?_
  intro v18 w18 hJ18
  refine ih hlt ⟨rfl,?_⟩ (hsub:=by simp only [e2];repeat (first | exact True.intro | (refine ⟨rfl,?_⟩)))
  rw [flatMap_snoc hm,<-List.append_assoc];exact hJ18
 refine brF ?_
 obtain rfl:k=u.methods.length:=by omega
 rw [List.take_length] at hJ15
 refine ld (hJ15.bey.cell rfl) ?_
 refine ldg (fun _=>hJ15.frm.cell rfl) ?_
 have hfin:(((headsU u++u.methods.flatMap fun m=>m.code.flatMap opU).any (beyB u))||(headsU u++u.methods.flatMap fun m=>m.code.flatMap opU).any (frmB u)) = !codesOk u:=by
  have hf0:(headsU u).any (frmB u)=false:=by rw [hf8,hrf];rfl
  rw [List.any_append,List.any_append,hb8,hf0,Bool.false_or,Bool.false_or]
  have hval:∀ m∈u.methods,∀ i∈m.code,validI i true=true:=fun m hm i hi=>by
   have:=ha11 m hm
   unfold codeE at this
   split at this
   ·cases this
   ·split at this
    ·rename_i hv
     exact List.all_eq_true.1 hv i hi
    ·cases this
  have orflat:∀ {α:Type} (f:α->List Rf) (l:List α),((l.flatMap f).any (beyB u)||(l.flatMap f).any (frmB u))=l.any fun x=>(f x).any (beyB u)||(f x).any (frmB u):=fun f l=>by
   induction l with
   | nil=>rfl
   | cons x l ih =>
    rw [List.flatMap_cons,List.any_append,List.any_append,List.any_cons,<-ih]
    cases (f x).any (beyB u) <;> cases (f x).any (frmB u) <;> cases (l.flatMap f).any (beyB u) <;> cases (l.flatMap f).any (frmB u) <;> rfl
  rw [orflat]
  unfold codesOk
  rw [List.not_all_eq_any_not]
  refine any_congr fun m hm => ?_
  rw [orflat,List.not_all_eq_any_not]
  exact any_congr fun i hi=>op_any (hval m hm i hi)
 refine br (t:=((headsU u++u.methods.flatMap fun m=>m.code.flatMap opU).any (beyB u))||(headsU u++u.methods.flatMap fun m=>m.code.flatMap opU).any (frmB u)) (fun h => ?_) (fun h => ?_)
 ·rw [hfin] at h
  exact rt1 ⟨vi (by rw [hE5,if_pos (by simpa using h)]),jb hJ15⟩
 ·rw [hfin] at h
  exact rt1 ⟨vi (by rw [hE5,if_neg (by simpa using h)]),jb hJ15⟩
end Go.Proofs.YtkmdfjpafkcleaaGreatDoor
namespace Go.Proofs.YtkmdfjpafkcleaaGreatDoor
open Eng Go.RowKit
theorem Eng.Box.get {w:World} {b:Nat} {t:TypeId} {cs:List Value} (h:Box w b t cs) (o:Nat):w.cell? ⟨b,o,none⟩=cs[o]? := by
 unfold Box at h
 simp [World.cell?,h]
abbrev tPl:TypeId:=82
structure RnW (w0:World) (b b1:Nat) (us:List Unt) (U:Value) (m1 m2 m3 m4 m5 m6:Nat) (o1 o2 o3 o4 ly:Value) (w:World):Prop where
 box:Box w b tLn (lcells U (mpv m1) (mpv m2) (mpv m3) (mpv m4) (mpv m5) (mpv m6) o1 o2 o3 o4 ly)
 x1:Box w b1 tPl [.pointer (some ⟨b,0,none⟩)]
 lnk:Lnk w b us (decl us)
 nc:Nc b w0 w
variable {w0 w w':World} {b b1:Nat} {us:List Unt} {U:Value} {m1 m2 m3 m4 m5 m6:Nat} {o1 o2 o3 o4 ly:Value}
theorem RnW.bl (h:RnW w0 b b1 us U m1 m2 m3 m4 m5 m6 o1 o2 o3 o4 ly w) (k:Bl w w'):RnW w0 b b1 us U m1 m2 m3 m4 m5 m6 o1 o2 o3 o4 ly w':=⟨Bl.box k h.box,Bl.box k h.x1,h.lnk.bl k,h.nc.bl k⟩
theorem lnk_wr {D:Dcl} (h:Lnk w b us D) (k:Wr w b w') {u q1 q2 q3 q4 q5 q6:Value} {r r':List Value} (hb:Box w b tLn (u::q1::q2::q3::q4::q5::q6::r)) (hb':Box w' b tLn (u::q1::q2::q3::q4::q5::q6::r')):Lnk w' b us D :=
 h.nb ⟨by rw [k.size];exact Nat.le_refl _,fun i _ hne=>k.block i hne⟩ fun o ho=>by
  rw [hb.get,hb'.get]
  match o,ho with
  | 0,_=>rfl
  | 1,_=>rfl
  | 2,_=>rfl
  | 3,_=>rfl
  | 4,_=>rfl
  | 5,_=>rfl
  | 6,_=>rfl
theorem box_ne {w:World} {b c:Nat} {t t':TypeId} {cs cs':List Value} (h:Box w b t cs) (h':Box w c t' cs') (hne:t≠t'):b≠c:=by
 rintro rfl
 unfold Box at h h'
 rw [h] at h'
 simp only [Option.some.injEq,Obj.cells.injEq] at h'
 exact hne h'.2.1
theorem RnW.to (h:RnW w0 b b1 us U m1 m2 m3 m4 m5 m6 o1 o2 o3 o4 ly w) (k:Wr w b w') {o1' o2' o3' o4' ly':Value} (hb:Box w' b tLn (lcells U (mpv m1) (mpv m2) (mpv m3) (mpv m4) (mpv m5) (mpv m6) o1' o2' o3' o4' ly')):RnW w0 b b1 us U m1 m2 m3 m4 m5 m6 o1' o2' o3' o4' ly' w' :=
 ⟨hb,k.box h.x1 (box_ne h.x1 h.box (by decide)),lnk_wr h.lnk k h.box hb,h.nc.wr k (.inl rfl)⟩
theorem chk_take {us:List Unt} {n:Nat} {u:Unt} (h:∀ x∈us.take n,checkE x=0) (hu:us[n]? = some u) (he:checkE u≠0):chkE us=checkE u:=by
 induction us generalizing n with
 | nil=>simp at hu
 | cons x us ih =>
  cases n with
  | zero=>simp at hu;subst hu;unfold chkE;rw [if_neg he]
  | succ n =>
   unfold chkE
   rw [if_pos (h x (by simp)),ih (n:=n) (fun y hy=>h y (by simp [hy])) (by simpa using hu)]
theorem chk_zero {us:List Unt} (h:∀ x∈us,checkE x=0):chkE us=0:=by
 induction us with
 | nil=>rfl
 | cons x us ih=>unfold chkE;rw [if_pos (h x (by simp)),ih fun y hy=>h y (by simp [hy])]
theorem chk_all {us:List Unt} (h:chkE us=0):∀ x∈us,checkE x=0:=by
 induction us with
 | nil=>intro x hx;cases hx
 | cons y us ih =>
  unfold chkE at h
  split at h
  ·rename_i h1
   intro x hx
   rcases List.mem_cons.1 hx with rfl | hx
   ·exact h1
   ·exact ih h x hx
  ·rename_i h1;exact absurd h h1
structure LayW (b:Nat) (us:List Unt) (l:List ByteArray) (ly:Nat) (Y:Mp Rs) (w:World):Prop where
 is:MapIs encR w ly Y
 at':∀ p∈l,∃ r,getM Y p=some r/\r.l=lay us p/\Sl eStr (· ≠ b) w r.a r.l
 only:∀ q r,getM Y q=some r->q∈l
structure RunW (b:Nat) (us:List Unt) (w:World):Prop where
 lnk:Lnk w b us (decl us)
 oc:∃ l a c,ordC us=some l/\w.cell? ⟨b,7,none⟩=some (.slice a l.length c)/\Sl eStr (· ≠ b) w a l
 os:∃ a c,w.cell? ⟨b,8,none⟩=some (.slice a (sortL (keysM (decl us).statics)).length c)/\Sl eStr (· ≠ b) w a (sortL (keysM (decl us).statics))
 om:∃ l a c,ordM us=some l/\w.cell? ⟨b,9,none⟩=some (.slice a l.length c)/\Sl eStr (· ≠ b) w a l
 oz:∃ a c,w.cell? ⟨b,10,none⟩=some (.slice a (sortL (keysM (decl us).named)).length c)/\Sl eStr (· ≠ b) w a (sortL (keysM (decl us).named))
 ly:∃ l m Y,ordC us=some l/\w.cell? ⟨b,11,none⟩=some (.map (some m))/\LayW b us l m Y w
theorem k_needC (hL:Lnk w b us (decl us)) (hC:∀ u∈us,CkU u) {b1:Nat} (hx:w.cell? ⟨b1,0,none⟩=some (.pointer (some ⟨b,0,none⟩))) {p:ByteArray} (hp:p∈keysM (decl us).classes) :
  Ret Tryz.prog 95 #[.string p,.pointer (some ⟨b1,0,none⟩)] w fun v w'=>∃ a c,v = .slice a (neeC us (decl us) p).length c/\Sl eStr T w' a (neeC us (decl us) p)/\Bl w w':=by
 obtain ⟨n,k,u,x,hc⟩:=clsI_of (dok_decl hC) hp
 refine entr (vs:=[.string p,.pointer (some ⟨b1,0,none⟩)]) [0,1,3,4,9] tabok Tryz.func95 (by kernel_rfl) ?_
 refine ld hx ?_
 refine cl (k_super hL (fun u hu=>ixs_of (hC u hu)) hc) ?_
 rintro _ w1 ⟨rfl,B1⟩
 unfold neeC
 by_cases hs:supL us (decl us) p=nost
 ·refine brF ?_ (hp:=by exact fun h=>h hs)
  rw [if_pos hs]
  exact rt1 ⟨none,0,rfl,Sl.nil ..,B1⟩
 ·refine brT ?_ (hp:=hs)
  rw [if_neg hs]
  refine bs fun b2 w2 k2 => ?_
  refine rt1 ⟨some ⟨b2,0,none⟩,1,rfl,?_,B1.trans k2.bl⟩
  have hO:OwP 1 encStr w2 b2 9 (some ⟨b2,0,none⟩) 1 [supL us (decl us) p]:=Ow.made (n:=1) k2 rfl (by omega)
  exact owp_sl hO (by simp) fun _ _=>trivial
end Go.Proofs.YtkmdfjpafkcleaaGreatDoor
namespace Go.Proofs.YtkmdfjpafkcleaaGreatDoor
open Eng Go.RowKit
theorem Eng.Wr.kpm {w w':World} {m:Nat} (k:Wr w m w') {α:Type} {enc:α->Value} {X:Mp α} (hM:MapIs enc w m X):Kp T w w':=fun i o v _ x=>by
 have hne:i≠m:=fun e=>cell_map_ne hM x e.symm
 rw [World.cell?_of_block (w:=w) (k.block i hne)];exact x
variable {w0 w w':World} {b b1:Nat} {us:List Unt} {U:Value} {m1 m2 m3 m4 m5 m6:Nat} {o1 o2 o3 o4 ly:Value}
theorem RnW.go (h:RnW w0 b b1 us U m1 m2 m3 m4 m5 m6 o1 o2 o3 o4 ly w) (k:Nc b w w') {o1' o2' o3' o4' ly':Value} (hb:Box w' b tLn (lcells U (mpv m1) (mpv m2) (mpv m3) (mpv m4) (mpv m5) (mpv m6) o1' o2' o3' o4' ly')):RnW w0 b b1 us U m1 m2 m3 m4 m5 m6 o1' o2' o3' o4' ly' w':=by
 refine ⟨hb,?_,h.lnk.nb k.nb fun o ho => ?_,h.nc.trans k⟩
 ·unfold Box
  rw [k.blk b1 h.x1.lt (box_ne h.x1 h.box (by decide))];exact h.x1
 ·rw [h.box.get,hb.get]
  match o,ho with
  | 0,_=>rfl
  | 1,_=>rfl
  | 2,_=>rfl
  | 3,_=>rfl
  | 4,_=>rfl
  | 5,_=>rfl
  | 6,_=>rfl
set_option maxHeartbeats 8000000 in
theorem k_run {w0:World} {b:Nat} {us:List Unt} {au:Option Addr} {cu:Nat} (hx:Box w0 b tLn (lcells (.slice au us.length cu) (.map none) (.map none) (.map none) (.map none) (.map none) (.map none) nilS nilS nilS nilS (.map none)))
  (hS:Sl eUnt (· ≠ b) w0 au us) (hG:Gl w0) :
  Ret Tryz.prog 46 #[.pointer (some ⟨b,0,none⟩)] w0 fun v w'=>v=I (runE us)/\Nc b w0 w'/\(runE us=0->RunW b us w'):=by
 have fail:∀ {e:Int} {w':World},runE us=e->e≠0->Nc b w0 w'->(I e=I (runE us)/\Nc b w0 w'/\(runE us=0->RunW b us w')):=fun he hne hn=>⟨by rw [he],hn,fun h=>absurd (he.symm.trans h) hne⟩
 have hbig:=hS.big
 refine entr (vs:=[.pointer (some ⟨b,0,none⟩)]) [0,1,2,3,5,6,7,9,11,17,21,22,23,24,30,39,44,60,88,97,98,99,100,118,124,125,126,127,136,139,182] tabok Tryz.func46 (by kernel_rfl) ?_
 refine bx (cs:=[.pointer (some ⟨b,0,none⟩)]) fun b1 w1 k1 => ?_
 refine ld (k1.box.cell rfl) ?_
 refine ld (k1.bl.cl (hx.cell rfl)) ?_
 by_cases h5:5<us.length
 ·refine brT ?_
  exact rt1 (fail (by unfold runE;rw [if_pos h5]) (by decide) (Nc.of_bl k1.bl))
 refine brF ?_
 refine ld (k1.box.cell rfl) ?_
 refine ld (k1.bl.cl (hx.cell rfl)) ?_
 refine lpk (vals:=[nilS]) us.length 23 [3] [(1,.pointer (some ⟨b1,0,none⟩)),(21,.slice au us.length cu),(22,I us.length)]
  (fun n vals w'=>∃ a c,vals=[.slice a ((us.take n).map fun u:Unt=>u.name).length c]/\OwP 1 encStr w' w1.heap.size 9 a c ((us.take n).map fun u:Unt=>u.name)/\Bl w1 w'/\∀ x∈us.take n,checkE x=0) ⟨none,0,rfl,Ow.nil ..,Bl.refl _,by simp⟩ ?_
 rintro n vals w2 hn ⟨a,c,rfl,O2,B12,hck⟩ ih
 have B02:=k1.bl.trans B12
 by_cases hlt:n<us.length
 ·refine brT ?_
  obtain ⟨u,bu,ou,cs,hu,rfl,hbu,hAt,ua,rfl,hU⟩:=at_some hS hlt
  refine ix ?_
  refine lda (hAt.bl B02) ?_
  refine al fun b5 w3 k3 => ?_
  refine sta (cs':=ucells u ua) k3.box fun w4 k4 x4 => ?_
  have B24:=k3.wr k4
  have B04:=B02.trans B24
  refine lda x4.at ?_
  refine cl (u_Check u ua w4 ((hU.bl B04).sub fun _ _=>trivial) (hG.bl B04)) ?_
  rintro _ w5 ⟨rfl,B45⟩
  have B25:=B24.trans B45
  by_cases hE:checkE u=0
  ·refine brF ?_ (hp:=by exact fun h=>h hE)
   refine ld ((Bl.box B45 x4).cell rfl) ?_
   refine bs fun b6 w6 k6 => ?_
   have O6:=(O2.bl B25).bl k6.bl
   have B16:=(B12.trans B25).trans k6.bl
   have e1:(us.take (n+1)).map (fun u:Unt=>u.name)=(us.take n).map (fun u:Unt=>u.name)++[u.name]:=map_snoc hu
   have hl:((us.take n).map fun u:Unt=>u.name).length<=5:=by rw [List.length_map,List.length_take];omega
   refine apl (l1:=[u.name]) O6 (.inr ⟨b6,0,rfl,k6.box.at⟩) B16.size (fun a7 c7 w7 O7 A7 _ => ?_) (hb:=by simp only [List.length_cons,List.length_nil];omega) (hn:=by simp only [List.length_cons,List.length_nil];omega)
   refine ih hlt ⟨a7,c7,by rw [e1],by rw [e1];exact O7,Eng.Ow.below O6 A7 B16 B16.size,fun x hx => ?_⟩
   rw [take_succ_some hu] at hx
   rcases List.mem_append.1 hx with hx | hx
   ·exact hck x hx
   ·rw [List.mem_singleton.1 hx];exact hE
  ·refine brT ?_ (hp:=hE)
   have:=chk_take hck hu hE
   exact rt1 (fail (by unfold runE;rw [if_neg h5,if_pos (by rw [this];exact hE),this]) hE (Nc.of_bl (B02.trans B25)))
 refine brF ?_
 obtain rfl:n=us.length:=by omega
 clear ih
 rw [List.take_length] at O2 hck ⊢
 have hC:∀ u∈us,CkU u:=fun u hu=>(ckU_iff u).1 (hck u hu)
 have hc0:=chk_zero hck
 have hlm:(us.map fun u:Unt=>u.name).length<=5:=by rw [List.length_map];omega
 refine cl (k_doubled (us.map fun u:Unt=>u.name) a c T w2 (owp_sl O2 (by omega) fun _ _=>trivial)) ?_
 rintro _ w3 ⟨rfl,B23⟩
 have B03:=B02.trans B23
 cases hdu:dup (us.map fun u:Unt=>u.name) with
 | true =>
  refine brt ?_
  exact rt1 (fail (by unfold runE;rw [if_neg h5,if_neg (by rw [hc0];exact fun h=>h rfl),if_pos hdu]) (by decide) (Nc.of_bl B03))
 | false =>
 refine brf ?_
 have x13:=Bl.box (B12.trans B23) k1.box
 refine ld (x13.cell rfl) ?_
 refine cl (k_declare (Bl.box B03 hx) (hS.bl B03) hC (by omega)) ?_
 rintro _ w4 ⟨m1,m2,m3,m4,m5,m6,M,D4⟩
 have L4:=D4.lnk (by omega) (hS.bl B03)
 have hN:=D4.ln
 have R4:RnW w0 b b1 us (.slice au us.length cu) m1 m2 m3 m4 m5 m6 nilS nilS nilS nilS (.map none) w4 :=
  ⟨D4.box,by unfold Box;rw [D4.nc.blk b1 x13.lt (box_ne x13 (Bl.box B03 hx) (by decide))];exact x13,L4,(Nc.of_bl B03).trans D4.nc⟩
 have hm1:=D4.cl
 clear D4
 refine ld (R4.x1.cell rfl) ?_
 refine cl (k_defined R4.lnk hC (by omega)) ?_
 rintro _ w5 ⟨rfl,B45⟩
 have R5:=R4.bl B45
 have runA:∀ {e:Int},runE us=(if definedL us (decl us)=false then 8 else match ordC us with
  | none=>10
  | some oc =>
   if bigD (decl us)=true then 2
   else if (oc.any fun p=>decide (7<(lay us p).length))=true then 2
   else if (oc.any fun p=>dup (lay us p))=true then 9
   else if unlikeL us (decl us)=true then 11
   else match ordM us with
    | none=>10
    | some _=>0):=by
  intro e
  unfold runE
  rw [if_neg h5,if_neg (by rw [hc0];exact fun h=>h rfl),hdu,if_neg (by decide)]
  rfl
 have runA := @runA 0
 cases hdf:definedL us (decl us) with
 | false =>
  refine brt ?_
  exact rt1 (fail (by rw [runA,if_pos hdf]) (by decide) R5.nc)
 | true =>
 rw [hdf,if_neg (by decide)] at runA
 refine brf ?_
 have dok:=dok_decl hC
 have hlc:(keysM (decl us).classes).length<=50:=by have:=dok.lc;unfold keysM;rw [List.length_map];omega
 have hzc:∀ p∈(decl us).classes,p.1.size<=maxLen:=fun p hp=>by have:=dok.zc p hp;unfold maxLen;omega
 refine dht 5 T [0,1,2,3,4,6,5,7,8,9,10] fun w6 k6 => ?_
 have R6:=R5.bl k6.bl
 refine ld (R6.x1.cell rfl) ?_ (hm:=trivial)
 refine ld (R6.x1.cell rfl) ?_ (hm:=trivial)
 refine ld (R6.box.cell rfl) ?_ (hm:=trivial)
 refine cl (k_keys (hm1.bl (B45.trans k6.bl)) (by have:=dok.lc;omega) hzc) ?_ (hm:=fun _ _ r=>by obtain ⟨_,_,_,_,_,_,hB⟩:=r;exact mdW_bl hB)
 rintro _ w7 ⟨a7,c7,l7,rfl,O7,hp7,B67⟩
 have R7:=R6.bl B67
 have hl7:l7.length<=50:=by have:=hp7.length_eq;simp only [List.length_map] at this;omega
 have e7:orderL (neeC us (decl us)) l7=ordC us:=by unfold ordC;exact orderL_names hp7
 have hin7:∀ p∈l7,p∈keysM (decl us).classes:=fun p hp=>by
  have:=hp7.mem_iff.1 (List.mem_map.2 ⟨p,hp,rfl⟩)
  obtain ⟨q,hq,e⟩:=List.mem_map.1 this
  rw [<-ba_ext e];exact hq
 refine cl (k_place (g:=95) (first:=[]) (caps:=[.pointer (some ⟨b1,0,none⟩)]) (needs:=neeC us (decl us)) (owp_sl O7 (by omega) fun _ _=>trivial) ⟨fun p hp w' k=>k_needC (R7.lnk.bl k) hC (k.cl (R7.x1.cell rfl)) (hin7 p hp)⟩) ?_ (hm:=fun _ _ r=>mdW_bl r.1)
 rintro v w8 ⟨B78,hv⟩
 rw [e7] at hv
 have R8:=R7.bl B78
 cases hoc:ordC us with
 | none =>
  rw [hoc] at hv runA
  simp only at hv runA
  subst hv
  refine st R8.box fun w9 k9 x9 => ?_
  refine brt ?_
  exact rt1 (fail runA (by decide) (R8.to k9 x9).nc)
 | some oc =>
 rw [hoc] at hv runA
 simp only at hv runA
 obtain ⟨a8,c8,rfl,O8⟩:=hv
 refine st R8.box fun w9 k9 x9 => ?_
 have R9:=R8.to k9 x9
 have hb8:=R8.box.lt
 have hoc8:∀ g,a8=some ⟨g,0,none⟩->g≠b:=fun g hg e=>O8.nbox R8.box (by decide) (by rw [hg,e])
 have hlo:oc.length<=50:=by have:=(orderL_perm (show orderL (neeC us (decl us)) (keysM (decl us).classes)=some oc from hoc)).length_eq;omega
 have S9:Sl eStr (· ≠ b) w9 a8 oc:=owp_sl (O8.wr k9 hoc8) (by omega) hoc8
 have hm19:=(hm1.bl ((B45.trans k6.bl).trans (B67.trans B78))).wr k9 (R8.lnk.cl.elim fun _ h=>by
  have:=(hm1.bl ((B45.trans k6.bl).trans (B67.trans B78))).ne R8.box;exact this)
 refine brf ?_
 refine cut [88] [(1,.pointer (some ⟨b1,0,none⟩))] (fun vals w'=>vals=[.bool (bigD (decl us))]/\Bl w9 w') (fun jo => ?_) ?_
 ·refine ds fun w10 k10 => ?_
  have R10:=R9.bl k10.bl
  obtain ⟨q1,h1,M1⟩:=R10.lnk.cl
  obtain ⟨q2,h2,M2⟩:=R10.lnk.st
  obtain ⟨q3,h3,M3⟩:=R10.lnk.ca
  obtain ⟨q4,h4,M4⟩:=R10.lnk.se
  have pb:∀ {o:Nat} {v:Value},w10.cell? ⟨b1,0,none⟩=some (.pointer (some ⟨b,0,none⟩)):=R10.x1.cell rfl
  refine ld (R10.x1.cell rfl) ?_
  refine ld h1 ?_
  refine lnm tD M1 ?_
  have hsum:IntKind.i64.wrap (((decl us).calls.length:Int)+((decl us).sends.length:Int))=(((decl us).calls.length+(decl us).sends.length:Nat):Int):=by
   have:=dok.lm
   rw [wrap_fit (by omega) (by omega)];omega
  by_cases g1:10<(decl us).classes.length
  ·have q1:decide ((10:Int)<((decl us).classes.length:Int))=true:=decide_eq_true (by omega)
   refine spn (.pointer (some ⟨b,0,none⟩)) ?_ (hb:=q1)
   refine spn (.map none) ?_ (hb:=q1)
   refine spn (I 0) ?_ (hb:=q1)
   refine spn (.pointer (some ⟨b,0,none⟩)) ?_ (hb:=by rw [q1];rfl)
   refine spn (.map none) ?_ (hb:=by rw [q1];rfl)
   refine spn (I 0) ?_ (hb:=by rw [q1];rfl)
   refine spn (.pointer (some ⟨b,0,none⟩)) ?_ (hb:=by rw [q1];rfl)
   refine spn (.map none) ?_ (hb:=by rw [q1];rfl)
   refine spn (I 0) ?_ (hb:=by rw [q1];rfl)
   refine jo ⟨lst1 (vb ?_),k10.bl⟩
   rw [q1]
   unfold bigD
   rw [decide_eq_true g1];rfl
  ·have q1:decide ((10:Int)<((decl us).classes.length:Int))=false:=decide_eq_false (by omega)
   refine spt (.pointer none) ?_ (hb:=q1)
   refine ld (R10.x1.cell rfl) ?_
   refine spt (.map none) ?_
   refine ld h2 ?_
   refine spt (I 0) ?_
   refine lnm tD M2 ?_
   by_cases g2:10<(decl us).statics.length
   ·have q2:decide ((10:Int)<((decl us).statics.length:Int))=true:=decide_eq_true (by omega)
    refine spn (.pointer (some ⟨b,0,none⟩)) ?_ (hb:=by rw [q2];rfl)
    refine spn (.map none) ?_ (hb:=by rw [q2];rfl)
    refine spn (I 0) ?_ (hb:=by rw [q2];rfl)
    refine spn (.pointer (some ⟨b,0,none⟩)) ?_ (hb:=by rw [q2];rfl)
    refine spn (.map none) ?_ (hb:=by rw [q2];rfl)
    refine spn (I 0) ?_ (hb:=by rw [q2];rfl)
    refine jo ⟨lst1 (vb ?_),k10.bl⟩
    rw [q2]
    unfold bigD
    rw [decide_eq_true g2];simp
   ·have q2:decide ((10:Int)<((decl us).statics.length:Int))=false:=decide_eq_false (by omega)
    refine spt (.pointer none) ?_ (hb:=by rw [q2];rfl)
    refine ld (R10.x1.cell rfl) ?_
    refine spt (.map none) ?_
    refine ld h3 ?_
    refine spt (I 0) ?_
    refine lnm tD M3 ?_
    refine spt (.pointer none) ?_
    refine ld (R10.x1.cell rfl) ?_
    refine spt (.map none) ?_
    refine ld h4 ?_
    refine spt (I 0) ?_
    refine lnm tD M4 ?_
    refine jo ⟨lst1 (vb ?_),k10.bl⟩
    unfold bigD
    rw [decide_eq_false g1,decide_eq_false g2,hsum]
    simp
    omega
 rintro _ w10 ⟨rfl,B910⟩
 have R10:=R9.bl B910
 have S10:=S9.bl B910
 cases hbg:bigD (decl us) with
 | true =>
  rw [if_pos hbg] at runA
  refine brt ?_
  exact rt1 (fail runA (by decide) R10.nc)
 | false =>
 rw [hbg,if_neg (by decide)] at runA
 refine brf ?_
 refine ld (R10.x1.cell rfl) ?_
 refine mm fun ml w11 k11 => ?_
 have R11:=R10.bl k11.bl
 refine st R11.box fun w12 k12 x12 => ?_
 have R12:=R11.to k12 x12
 have hMl0:=k11.is encR
 have hMl12:=hMl0.wr k12 (hMl0.ne R11.box)
 have yl:=k11.blk
 have n1012:Nc b w10 w12:=(Nc.of_bl k11.bl).wr k12 (.inl rfl)
 refine ld (R12.x1.cell rfl) ?_
 refine ld (R12.box.cell rfl) ?_
 have hperm:=orderL_perm (show orderL (neeC us (decl us)) (keysM (decl us).classes)=some oc from hoc)
 have hkl:(keysM (decl us).classes).length=oc.length:=hperm.length_eq.symm
 have hdeep:∀ p∈oc,Deep us (decl us) (keysM (decl us).classes).length p:=fun p hp=>by
  obtain ⟨i,hi⟩:=List.mem_iff_getElem?.1 hp
  have hil:i<oc.length:=(List.getElem?_eq_some_iff.1 hi).1
  exact deep_le (deep_of (fun q hq=>clsI_of dok (hperm.mem_iff.1 hq)) (orderL_placed hoc) i p hi) (by omega)
 have hI:∀ u∈us,Ixs u:=fun u hu=>ixs_of (hC u hu)
 have hF7:∀ u∈us,∀ c∈u.classes,c.fields.length<=7:=fun u hu=>(lim_of (hC u hu).lim).flds
 refine lpk (vals:=[]) oc.length 99 [] [(1,.pointer (some ⟨b1,0,none⟩)),(97,.slice a8 oc.length c8),(98,I oc.length)]
  (fun n vals w'=>vals=[]/\Nc b w10 w'/\Box w' b tLn (lcells (.slice au us.length cu) (mpv m1) (mpv m2) (mpv m3) (mpv m4) (mpv m5) (mpv m6) (.slice a8 oc.length c8) nilS nilS nilS (mpv ml))/\(∃ Y,LayW b us (oc.take n) ml Y w')/\(oc.take n).any (fun p=>decide (7<(lay us p).length))=false)
  ⟨rfl,n1012,x12,⟨[],hMl12,(fun p hp=>by simp at hp),(fun _ _ h=>by cases h)⟩,rfl⟩ ?_
 rintro n vals w13 hn ⟨rfl,n13,x13',⟨Y,hY⟩,hany⟩ ih
 have R13:=R10.go n13 x13'
 have S13:=S10.kp n13.nb.kp
 by_cases hlt:n<oc.length
 ·refine brT ?_
  obtain ⟨p,bp,op,cs,hp,rfl,_,hAt,rfl⟩:=at_some S13 hlt
  have hpm:=List.mem_of_getElem? hp
  refine ix ?_
  refine ld (hAt 0 _ rfl) ?_
  refine dht 1 T (List.range 8) fun w14 k14 => ?_
  have R14:=R13.bl k14.bl
  refine ld (R14.x1.cell rfl) ?_ (hm:=trivial)
  refine ld (R14.box.cell rfl) ?_ (hm:=trivial)
  refine ld (R14.x1.cell rfl) ?_ (hm:=trivial)
  refine cl (k_layout hI hF7 (keysM (decl us).classes).length p w14 (by omega) R14.lnk (hdeep p hpm)) ?_ (hm:=fun _ _ r=>by obtain ⟨_,_,_,_,_,hB⟩:=r;exact mdW_bl hB)
  rintro _ w15 ⟨a15,c15,rfl,O15,hl15,B15⟩
  have B1315:=k14.bl.trans B15
  have R15:=R14.bl B15
  have hne15:∀ g,a15=some ⟨g,0,none⟩->g≠b:=fun g hg e=>O15.nbox R15.box (by decide) (by rw [hg,e])
  refine mu (⟨a15,c15,lay us p⟩:Rs) tN (hY.is.bl B1315) fun w16 k16 hM16 => ?_
  have hMl:=hY.is.bl B1315
  have kp16:=k16.kpm hMl
  have n16:Nc b w10 w16:=(n13.bl B1315).wr k16 (.inr (Nat.le_of_eq yl.symm))
  have x16:=k16.box R15.box (hMl.ne R15.box).symm
  have R16:=R10.go n16 x16
  have hrow:Sl eStr (· ≠ b) w16 a15 (lay us p):=(owp_sl O15 (by omega) hne15).kp (kp16.sub fun _ _=>trivial)
  have hY16:LayW b us (oc.take (n+1)) ml (putM Y p ⟨a15,c15,lay us p⟩) w16:=by
   refine ⟨hM16,fun q hq => ?_,fun q r hq => ?_⟩
   rotate_left
   ·rw [putM_get] at hq
    rw [take_succ_some hp]
    split at hq
    ·rename_i e;rw [<-e];simp
    ·exact List.mem_append_left _ (hY.only q r hq)
   rw [putM_get]
   by_cases e:p=q
   ·subst e
    exact ⟨_,by rw [if_pos rfl],rfl,hrow⟩
   ·rw [if_neg e]
    rw [take_succ_some hp] at hq
    rcases List.mem_append.1 hq with hq | hq
    ·obtain ⟨r,h1,h2,h3⟩:=hY.at' q hq
     exact ⟨r,h1,h2,(h3.bl B1315).kp (kp16.sub fun _ _=>trivial)⟩
    ·exact absurd (List.mem_singleton.1 hq).symm e
  refine ld (R16.x1.cell rfl) ?_
  refine ld (R16.box.cell rfl) ?_
  refine lk tN hM16 ?_
  rw [getD_enc,putM_get,if_pos rfl]
  by_cases h7:7<(lay us p).length
  ·refine brT ?_ (hp:=by show ((7:Int)<((lay us p).length:Int));omega)
   rw [if_pos (any_hit hp (by rw [decide_eq_true h7]))] at runA
   exact rt1 (fail runA (by decide) R16.nc)
  ·refine brF ?_ (hp:=by show ¬((7:Int)<((lay us p).length:Int));omega)
   exact ih hlt ⟨rfl,n16,x16,⟨_,hY16⟩,any_snoc hp hany (decide_eq_false h7)⟩
 refine brF ?_
 obtain rfl:n=oc.length:=by omega
 clear ih
 rw [List.take_length] at hY
 rw [if_neg (by rw [any_end hany];decide)] at runA
 refine ld (R13.x1.cell rfl) ?_
 refine ld (R13.box.cell rfl) ?_
 refine lpk (vals:=[]) oc.length 126 [] [(1,.pointer (some ⟨b1,0,none⟩)),(124,.slice a8 oc.length c8),(125,I oc.length)]
  (fun n vals w'=>vals=[]/\Bl w13 w'/\(oc.take n).any (fun p=>dup (lay us p))=false) ⟨rfl,Bl.refl _,rfl⟩ ?_
 rintro n vals w14 hn ⟨rfl,B14,hany2⟩ ih
 have R14:=R13.bl B14
 by_cases hlt:n<oc.length
 ·refine brT ?_
  obtain ⟨p,bp,op,cs,hp,rfl,_,hAt,rfl⟩:=at_some (S13.bl B14) hlt
  obtain ⟨r,hr1,hr2,hr3⟩:=hY.at' p (List.mem_of_getElem? hp)
  refine ix ?_
  refine ld (hAt 0 _ rfl) ?_
  refine ld (R14.x1.cell rfl) ?_
  refine ld (R14.box.cell rfl) ?_
  refine lk tN (hY.is.bl B14) ?_
  rw [getD_enc,hr1]
  refine cl (k_doubled r.l r.a r.c (· ≠ b) w14 (hr3.bl B14)) ?_
  rintro _ w15 ⟨rfl,B15⟩
  rw [hr2]
  cases hd:dup (lay us p) with
  | true =>
   refine brt ?_
   rw [if_pos (any_hit hp hd)] at runA
   exact rt1 (fail runA (by decide) (R14.bl B15).nc)
  | false =>
   refine brf ?_
   exact ih hlt ⟨rfl,B14.trans B15,any_snoc hp hany2 hd⟩
 refine brF ?_
 obtain rfl:n=oc.length:=by omega
 clear ih
 rw [if_neg (by rw [any_end hany2];decide)] at runA
 refine ld (R14.x1.cell rfl) ?_
 refine cl (k_unlike R14.lnk (fun u hu=>tyOk_of (hC u hu)) (sendI_of dok)) ?_
 rintro _ w15 ⟨rfl,B15⟩
 have R15:=R14.bl B15
 cases hul:unlikeL us (decl us) with
 | true =>
  refine brt ?_
  rw [if_pos hul] at runA
  exact rt1 (fail runA (by decide) R15.nc)
 | false =>
 rw [hul,if_neg (by decide)] at runA
 refine brf ?_
 have hY15:LayW b us oc ml Y w15:=⟨hY.is.bl (B14.trans B15),fun p hp=>by
  obtain ⟨r,h1,h2,h3⟩:=hY.at' p hp
  exact ⟨r,h1,h2,h3.bl (B14.trans B15)⟩,hY.only⟩
 have S15:=S13.bl (B14.trans B15)
 have hzs:∀ p∈(decl us).statics,p.1.size<=maxLen:=fun p hp=>by have:=dok.zs p hp;unfold maxLen;omega
 have hza:∀ p∈(decl us).calls,p.1.size<=maxLen:=fun p hp=>by have:=dok.za p hp;unfold maxLen;omega
 have hze:∀ p∈(decl us).sends,p.1.size<=maxLen:=fun p hp=>by have:=dok.ze p hp;unfold maxLen;omega
 have hzn:∀ p∈(decl us).named,p.1.size<=maxLen:=fun p hp=>by have:=dok.zn p hp;unfold maxLen;omega
 have hls:=dok.ls
 have hlm2:=dok.lm
 have hln:=dok.ln
 obtain ⟨o2,eo2⟩:∃ o2,sortL (keysM (decl us).statics)=o2:=⟨_,rfl⟩
 have lo2:o2.length<=50:=by rw [<-eo2,sortL_len];unfold keysM;rw [List.length_map];omega
 refine dht 4 T [0,1,2,3,4,5,6] fun w16 k16 => ?_
 have R16:=R15.bl k16.bl
 obtain ⟨q2,h2,M2⟩:=R16.lnk.st
 refine ld (R16.x1.cell rfl) ?_ (hm:=trivial)
 refine ld (R16.x1.cell rfl) ?_ (hm:=trivial)
 refine ld h2 ?_ (hm:=trivial)
 refine cl (k_KeysD q2 w16) ?_ (hm:=fun _ _ r=>by obtain ⟨_,_,h⟩:=r;exact mdW_bl h.bl)
 rintro _ w17 ⟨b17,rfl,k17⟩
 refine cl (k_sortD (M2.bl k17.bl) (by omega) hzs k17) ?_ (hm:=fun _ _ r=>by obtain ⟨_,_,_,_,hB⟩:=r;exact mdW_bl hB)
 rintro _ w18 ⟨a18,c18,rfl,O18,B1718⟩
 rw [eo2] at O18 ⊢
 have B1518:=(k16.bl.trans k17.bl).trans B1718
 have R18:=R15.bl B1518
 refine st R18.box fun w19 k19 x19 => ?_
 have R19:=R18.to k19 x19
 have kb19:Kp (· ≠ b) w18 w19:=k19.kp fun _ h=>h
 have hne18:∀ g,a18=some ⟨g,0,none⟩->g≠b:=fun g hg e=>O18.nbox R18.box (by decide) (by rw [hg,e])
 have T19:Sl eStr (· ≠ b) w19 a18 o2:=owp_sl (O18.wr k19 hne18) (by omega) hne18
 have S19:=(S15.bl B1518).kp kb19
 have hY19:LayW b us oc ml Y w19:=⟨(hY15.is.bl B1518).wr k19 ((hY15.is.bl B1518).ne R18.box),fun p hp=>by
  obtain ⟨r,h1,h2,h3⟩:=hY15.at' p hp
  exact ⟨r,h1,h2,(h3.bl B1518).kp kb19⟩,hY15.only⟩
 obtain ⟨o4,eo4⟩:∃ o4,sortL (keysM (decl us).named)=o4:=⟨_,rfl⟩
 have lo4:o4.length<=80:=by rw [<-eo4,sortL_len];unfold keysM;rw [List.length_map];omega
 refine dht 4 T [0,1,2,3,4,5,6] fun w20 k20 => ?_
 have R20:=R19.bl k20.bl
 obtain ⟨q5,M5,h5',hM5,hN5,_⟩:=R20.lnk.na
 have hk5:keysM M5=keysM (decl us).named:=by rw [<-hN5,keys_mapV]
 have hl5:M5.length=(decl us).named.length:=by rw [<-hN5];unfold mapV;rw [List.length_map]
 have hz5:∀ p∈M5,p.1.size<=maxLen:=fun p hp=>hzn (p.1,p.2.l) (by rw [<-hN5];exact List.mem_map.2 ⟨p,hp,rfl⟩)
 refine ld (R20.x1.cell rfl) ?_ (hm:=trivial)
 refine ld (R20.x1.cell rfl) ?_ (hm:=trivial)
 refine ld h5' ?_ (hm:=trivial)
 refine cl (k_KeysN q5 w20) ?_ (hm:=fun _ _ r=>by obtain ⟨_,_,h⟩:=r;exact mdW_bl h.bl)
 rintro _ w21 ⟨b21,rfl,k21⟩
 refine cl (k_sortN (hM5.bl k21.bl) (by omega) hz5 k21) ?_ (hm:=fun _ _ r=>by obtain ⟨_,_,_,_,hB⟩:=r;exact mdW_bl hB)
 rintro _ w22 ⟨a22,c22,rfl,O22,B2122⟩
 rw [hk5,eo4] at O22 ⊢
 have B1922:=(k20.bl.trans k21.bl).trans B2122
 have R22:=R19.bl B1922
 refine st R22.box fun w23 k23 x23 => ?_
 have R23:=R22.to k23 x23
 have kb23:Kp (· ≠ b) w22 w23:=k23.kp fun _ h=>h
 have hne22:∀ g,a22=some ⟨g,0,none⟩->g≠b:=fun g hg e=>O22.nbox R22.box (by decide) (by rw [hg,e])
 have V23:Sl eStr (· ≠ b) w23 a22 o4:=owp_sl (O22.wr k23 hne22) (by omega) hne22
 have S23:=(S19.bl B1922).kp kb23
 have T23:=(T19.bl B1922).kp kb23
 have hY23:LayW b us oc ml Y w23:=⟨(hY19.is.bl B1922).wr k23 ((hY19.is.bl B1922).ne R22.box),fun p hp=>by
  obtain ⟨r,h1,h2,h3⟩:=hY19.at' p hp
  exact ⟨r,h1,h2,(h3.bl B1922).kp kb23⟩,hY19.only⟩
 refine dht 5 (· < w23.heap.size) [0,1,2,3,4,6,7,8,9,12,13,5,10,11,14,15,16,17] fun w24 k24 => ?_
 have R24:=R23.bl k24.bl
 have lt1:b1<w23.heap.size:=R23.x1.lt
 have ltb:b<w23.heap.size:=R23.box.lt
 obtain ⟨q3,h3,M3⟩:=R24.lnk.ca
 obtain ⟨q4,h4,M4⟩:=R24.lnk.se
 refine ld (R24.x1.cell rfl) ?_ (hm:=lt1)
 refine ld (R24.x1.cell rfl) ?_ (hm:=lt1)
 refine ld h3 ?_ (hm:=ltb)
 refine ld (R24.x1.cell rfl) ?_ (hm:=lt1)
 refine ld h4 ?_ (hm:=ltb)
 refine ld (R24.x1.cell rfl) ?_ (hm:=lt1)
 refine cl (k_keys M3 (by omega) hza) ?_ (hm:=fun _ _ r=>by obtain ⟨_,_,_,_,_,_,hB⟩:=r;exact mdW_bl hB)
 rintro _ w25 ⟨a25,c25,l25,rfl,O25,hp25,B2425⟩
 refine cl (k_keys (M4.bl B2425) (by omega) hze) ?_ (hm:=fun _ _ r=>by obtain ⟨_,_,_,_,_,_,hB⟩:=r;exact mdW_bl hB)
 rintro _ w26 ⟨a26,c26,l26,rfl,O26,hp26,B2526⟩
 have hl25:l25.length<=80:=by have:=hp25.length_eq;simp only [List.length_map] at this;unfold keysM at this;rw [List.length_map] at this;omega
 have hl26:l26.length<=80:=by have:=hp26.length_eq;simp only [List.length_map] at this;unfold keysM at this;rw [List.length_map] at this;omega
 have B2426:=B2425.trans B2526
 have z24:w24.heap.size=w23.heap.size:=by rw [k24.heap]
 refine apl (O25.bl B2526) (src_of (owp_sl (S:=T) O26 (by omega) fun _ _=>trivial)) B2426.size (fun a27 c27 w27 O27 A27 _ => ?_) (hm:=apS fun g hg=>by have:=(O25.lt hg).1;omega)
 have B2427:Bl w24 w27:=Eng.Ow.below (O25.bl B2526) A27 B2426 B2426.size
 have R27:=R24.bl B2427
 have hpm:((l25++l26).map toL).Perm ((keysM (decl us).calls++keysM (decl us).sends).map toL):=by
  rw [List.map_append,List.map_append];exact hp25.append hp26
 have hin27:∀ p∈l25++l26,p∈keysM (decl us).calls++keysM (decl us).sends:=fun p hp=>by
  have:=hpm.mem_iff.1 (List.mem_map.2 ⟨p,hp,rfl⟩)
  obtain ⟨q,hq,e⟩:=List.mem_map.1 this
  rw [<-ba_ext e];exact hq
 have e27:orderL (calL us (decl us)) (l25++l26)=ordM us:=by unfold ordM;exact orderL_names hpm
 refine cl (k_place (g:=102) (first:=[.pointer (some ⟨b,0,none⟩)]) (caps:=[]) (needs:=calL us (decl us)) (owp_sl O27 (by rw [List.length_append];omega) fun _ _=>trivial) ⟨fun p hp w' k=>by
  obtain ⟨n,k',u,m,hM⟩:=mthI_of dok (hin27 p hp)
  refine (k_callees (R27.lnk.bl k) hI hN hM (code_len (hC u (List.mem_of_getElem? hM.hu)) (List.mem_of_getElem? hM.hm))).mono ?_
  rintro v w'' ⟨a,c,rfl,hO,hlen,hB⟩
  exact ⟨a,c,rfl,owp_sl hO (by omega) fun _ _=>trivial,hB⟩⟩) ?_ (hm:=fun _ _ r=>mdW_bl r.1)
 rintro v w28 ⟨B2728,hv⟩
 rw [e27] at hv
 have B2328:=(k24.bl.trans B2427).trans B2728
 have R28:=R23.bl B2328
 cases hom:ordM us with
 | none =>
  rw [hom] at hv runA
  simp only at hv runA
  subst hv
  refine st R28.box fun w29 k29 x29 => ?_
  refine brt ?_
  exact rt1 (fail runA (by decide) (R28.to k29 x29).nc)
 | some om =>
 rw [hom] at hv runA
 simp only at hv runA
 obtain ⟨a28,c28,rfl,O28⟩:=hv
 refine st R28.box fun w29 k29 x29 => ?_
 have R29:=R28.to k29 x29
 have kb29:Kp (· ≠ b) w28 w29:=k29.kp fun _ h=>h
 have hne28:∀ g,a28=some ⟨g,0,none⟩->g≠b:=fun g hg e=>O28.nbox R28.box (by decide) (by rw [hg,e])
 have lom:om.length<=160:=by
  have:=(orderL_perm (show orderL (calL us (decl us)) (keysM (decl us).calls++keysM (decl us).sends)=some om from hom)).length_eq
  rw [this,List.length_append];unfold keysM;rw [List.length_map,List.length_map];omega
 have W29:Sl eStr (· ≠ b) w29 a28 om:=owp_sl (O28.wr k29 hne28) (by omega) hne28
 refine brf ?_
 refine rt1 ⟨by rw [runA],R29.nc,fun _=>⟨R29.lnk,⟨oc,a8,c8,hoc,R29.box.cell rfl,(S23.bl B2328).kp kb29⟩,⟨a18,c18,by rw [eo2];exact R29.box.cell rfl,by rw [eo2];exact (T23.bl B2328).kp kb29⟩,⟨om,a28,c28,hom,R29.box.cell rfl,W29⟩,
  ⟨a22,c22,by rw [eo4];exact R29.box.cell rfl,by rw [eo4];exact (V23.bl B2328).kp kb29⟩,⟨oc,ml,Y,hoc,R29.box.cell rfl,(hY23.is.bl B2328).wr k29 ((hY23.is.bl B2328).ne R28.box),fun p hp=>by
   obtain ⟨r,h1,h2,h3⟩:=hY23.at' p hp
   exact ⟨r,h1,h2,(h3.bl B2328).kp kb29⟩,hY23.only⟩⟩⟩
end Go.Proofs.YtkmdfjpafkcleaaGreatDoor
namespace Go.Proofs.YtkmdfjpafkcleaaGreatDoor
open Eng Go.RowKit
theorem l_Index {S:Nat->Prop} {w:World} {a:Option Addr} {l:List ByteArray} (hS:Sl eStr S w a l) (cap:Nat) (x:ByteArray):Ret Tryz.prog 103 #[.slice a l.length cap,.string x] w fun v w'=>v=I (idxB l x)/\w'=w:=by
 refine ⟨by kernel_rfl,?_⟩
 have hbig:=hS.big
 cases l with
 | nil =>
  refine (Tryz.slices_Index_string_empty a cap x w).mono ?_
  rintro e w' ⟨rfl,rfl⟩
  exact ⟨rfl,rfl⟩
 | cons y l =>
  obtain ⟨b,o,cs,rfl,_,_⟩:=hS.el 0 y rfl
  refine (Tryz.slices_Index_string b o (y::l).length cap (y::l) x w (Nat.le_refl _) (by omega) fun j hj => ?_).mono ?_
  ·obtain ⟨s,hs⟩:=some_of_lt hj
   obtain ⟨b',o',cs',e,_,hAt,rfl⟩:=hS.el j s hs
   simp only [Option.some.injEq,Addr.mk.injEq,and_true] at e
   obtain ⟨rfl,rfl⟩:=e
   have:=hAt 0 _ rfl
   rw [List.getD_eq_getElem?_getD,hs]
   simpa [eStr,plainEl] using this
  ·rintro e w' ⟨rfl,rfl⟩
   exact ⟨by rw [List.take_length],rfl⟩
theorem idxB_ge (l:List ByteArray) (x:ByteArray):idxB l x = -1∨0<=idxB l x:=by
 have key:∀ (l:List ByteArray) (i:Nat),Lib.idxFromS l x i = -1∨0<=Lib.idxFromS l x i:=by
  intro l
  induction l with
  | nil=>intro i;exact .inl rfl
  | cons y l ih =>
   intro i
   unfold Lib.idxFromS
   split
   ·right;omega
   ·exact ih (i+1)
 exact key l 0
structure RunO (b:Nat) (us:List Unt) (O:Ords) (w:World):Prop where
 lnk:Lnk w b us (decl us)
 oc:∃ a c,w.cell? ⟨b,7,none⟩=some (.slice a O.oc.length c)/\Sl eStr (· ≠ b) w a O.oc
 os:∃ a c,w.cell? ⟨b,8,none⟩=some (.slice a O.os.length c)/\Sl eStr (· ≠ b) w a O.os
 om:∃ a c,w.cell? ⟨b,9,none⟩=some (.slice a O.om.length c)/\Sl eStr (· ≠ b) w a O.om
 oz:∃ a c,w.cell? ⟨b,10,none⟩=some (.slice a O.oz.length c)/\Sl eStr (· ≠ b) w a O.oz
 ly:∃ m Y,w.cell? ⟨b,11,none⟩=some (.map (some m))/\LayW b us O.oc m Y w
theorem RunW.o {b:Nat} {us:List Unt} {w:World} (h:RunW b us w):RunO b us (ordsL us) w:=by
 obtain ⟨l1,a1,c1,e1,h1,s1⟩:=h.oc
 obtain ⟨l2,a2,c2,e2,h2,s2⟩:=h.om
 obtain ⟨l3,m,Y,e3,h3,y⟩:=h.ly
 have q1:(ordsL us).oc=l1:=by unfold ordsL;rw [e1];rfl
 have q2:(ordsL us).om=l2:=by unfold ordsL;rw [e2];rfl
 have q3:(ordsL us).oc=l3:=by unfold ordsL;rw [e3];rfl
 exact ⟨h.lnk,⟨a1,c1,by rw [q1];exact h1,by rw [q1];exact s1⟩,h.os,⟨a2,c2,by rw [q2];exact h2,by rw [q2];exact s2⟩,h.oz,⟨m,Y,h3,by rw [q3];exact y⟩⟩
variable {w w':World} {b:Nat} {us:List Unt} {O:Ords}
theorem LayW.bl {l:List ByteArray} {m:Nat} {Y:Mp Rs} (h:LayW b us l m Y w) (k:Bl w w'):LayW b us l m Y w' :=
 ⟨h.is.bl k,fun p hp=>by obtain ⟨r,h1,h2,h3⟩:=h.at' p hp;exact ⟨r,h1,h2,h3.bl k⟩,h.only⟩
theorem RunO.bl (h:RunO b us O w) (k:Bl w w'):RunO b us O w':=by
 obtain ⟨a1,c1,h1,s1⟩:=h.oc
 obtain ⟨a2,c2,h2,s2⟩:=h.os
 obtain ⟨a3,c3,h3,s3⟩:=h.om
 obtain ⟨a4,c4,h4,s4⟩:=h.oz
 obtain ⟨m,Y,h5,y⟩:=h.ly
 exact ⟨h.lnk.bl k,⟨a1,c1,k.cl h1,s1.bl k⟩,⟨a2,c2,k.cl h2,s2.bl k⟩,⟨a3,c3,k.cl h3,s3.bl k⟩,⟨a4,c4,k.cl h4,s4.bl k⟩,⟨m,Y,k.cl h5,y.bl k⟩⟩
theorem k_kind (h:RunO b us O w) {n:Nat} {u:Unt} (hu:us[n]? = some u) {t:Ty} (ht:optP u t.cls) :
  Ret Tryz.prog 106 #[.pointer (some ⟨b,0,none⟩),I n,.agg (encTy t).toArray] w fun v w'=>v = .agg (encTy (kindM O.oc u t)).toArray/\Bl w w':=by
 refine entr (vs:=[.pointer (some ⟨b,0,none⟩),I n,.agg (encTy t).toArray]) [0,1,2,5,6,9] tabok Tryz.func106 (by kernel_rfl) ?_
 refine bx (cs:=encTy t) fun b5 w1 k1 => ?_
 refine al fun b6 w2 k2 => ?_
 have x2:=Bl.box k2.bl k1.box
 refine ld (x2.cell rfl) ?_
 have B2:=k1.bl.trans k2.bl
 have y2:=k2.blk
 have z1:=k1.size
 by_cases h0:t.cls<0
 ·refine brT ?_ (hp:=h0)
  refine ld (x2.cell rfl) ?_
  refine bd ?_
  refine sta (cs':=[I t.kind,I 0]) k2.box fun w3 k3 x3 => ?_
  refine rtc (cs:=[I t.kind,I 0]) x3.at ⟨?_,Below.trans B2 (k3.below (by omega))⟩
  unfold kindM
  rw [if_pos h0]
 ·refine brF ?_ (hp:=h0)
  refine dt 1 fun w3 k3 => ?_
  have B3:=B2.trans k3.bl
  have H3:=h.bl B3
  obtain ⟨a,c,hc,hS⟩:=H3.oc
  refine ld ((k3.box x2).cell rfl) ?_
  refine ld hc ?_
  refine ld ((k3.box x2).cell rfl) ?_
  refine clq (k_path H3.lnk hu (ht.inP h0)) ?_
  refine clq (l_Index hS c _) ?_
  refine bd ?_
  refine sta (cs':=[I t.kind,I (idxB O.oc (nm u t.cls))]) (k3.box k2.box) fun w4 k4 x4 => ?_
  refine rtc (cs:=[I t.kind,I (idxB O.oc (nm u t.cls))]) x4.at ⟨?_,Below.trans B3 (k4.below (by omega))⟩
  unfold kindM
  rw [if_neg h0]
theorem k_kinds (h:RunO b us O w) {n:Nat} {u:Unt} (hu:us[n]? = some u) {l:List Ty} {a:Option Addr} {c:Nat} (hS:Sl eTy T w a l) (ht:∀ t∈l,optP u t.cls) :
  Ret Tryz.prog 107 #[.pointer (some ⟨b,0,none⟩),I n,.slice a l.length c] w fun v w'=>∃ a' c',v = .slice a' (l.map (kindM O.oc u)).length c'/\OwP 2 encTy w' w.heap.size 51 a' c' (l.map (kindM O.oc u))/\Bl w w':=by
 have hbig:=hS.big
 refine entr (vs:=[.pointer (some ⟨b,0,none⟩),I n,.slice a l.length c]) [0,1,2,6,7,9,10,11,12,13] tabok Tryz.func107 (by kernel_rfl) ?_
 refine lpk (vals:=[nilS]) l.length 12 [7] [(0,.pointer (some ⟨b,0,none⟩)),(1,I n),(10,.slice a l.length c),(11,I l.length)]
  (fun j vals w'=>∃ a' c',vals=[.slice a' ((l.take j).map (kindM O.oc u)).length c']/\OwP 2 encTy w' w.heap.size 51 a' c' ((l.take j).map (kindM O.oc u))/\Bl w w') ⟨none,0,rfl,Ow.nil ..,Bl.refl _⟩ ?_
 rintro j vals w1 hj ⟨a',c',rfl,O1,B1⟩ ih
 by_cases hlt:j<l.length
 ·refine brT ?_
  obtain ⟨t,bf,off,cs,hti,rfl,_,hAt,rfl⟩:=at_some (hS.bl B1) hlt
  refine ix ?_
  refine lda hAt ?_
  refine al fun b2 w2 k2 => ?_
  refine sta (cs':=encTy t) k2.box fun w3 k3 x3 => ?_
  have B13:=k2.wr k3
  have B3:=B1.trans B13
  refine lda x3.at ?_
  refine cl (k_kind (h.bl B3) hu (ht t (List.mem_of_getElem? hti))) ?_
  rintro _ w4 ⟨rfl,B34⟩
  refine bs (cs:=encTy (kindM O.oc u t)) fun b5 w5 k5 => ?_
  have B15:=(B13.trans B34).trans k5.bl
  have B5:=B1.trans B15
  have O5:=O1.bl B15
  have hl:((l.take j).map (kindM O.oc u)).length<=4194304:=by rw [List.length_map,List.length_take];omega
  have e1:(l.take (j+1)).map (kindM O.oc u)=(l.take j).map (kindM O.oc u)++[kindM O.oc u t]:=map_snoc hti
  refine apl (l1:=[kindM O.oc u t]) O5 (.inr ⟨b5,0,rfl,k5.box.at⟩) B5.size (fun a6 c6 w6 O6 A6 _ => ?_) (hb:=by simp only [List.length_cons,List.length_nil];omega) (hn:=by simp only [List.length_cons,List.length_nil];omega)
  exact ih hlt ⟨a6,c6,by rw [e1],by rw [e1];exact O6,Eng.Ow.below O5 A6 B5 B5.size⟩
 ·refine brF ?_
  obtain rfl:j=l.length:=by omega
  rw [List.take_length] at O1 ⊢
  exact rt1 ⟨a',c',rfl,O1,B1⟩
end Go.Proofs.YtkmdfjpafkcleaaGreatDoor
namespace Go.Proofs.YtkmdfjpafkcleaaGreatDoor
open Eng Go.RowKit
variable {w w':World} {b:Nat} {us:List Unt} {O:Ords}
theorem ClsI.ownT {us:List Unt} {D:Dcl} {p:ByteArray} {n k:Nat} {u:Unt} {c:Cls} {oc:List ByteArray} (h:ClsI us D p n k u c):ownT us D oc p=c.fields.map fun f=>kindM oc u f.ty:=by
 unfold Go.Proofs.YtkmdfjpafkcleaaGreatDoor.ownT;rw [h.of]
theorem k_fieldTypes (hI:∀ u∈us,Ixs u) (hF7:∀ u∈us,∀ c∈u.classes,c.fields.length<=7):∀ (m:Nat) (p:ByteArray) (w:World),m<=1000->RunO b us O w->Deep us (decl us) m p ->
  Ret Tryz.prog 104 #[.pointer (some ⟨b,0,none⟩),.string p] w fun v w'=>∃ a c,v = .slice a (ftL us (decl us) O.oc m p).length c/\OwP 2 encTy w' w.heap.size 51 a c (ftL us (decl us) O.oc m p)/\(ftL us (decl us) O.oc m p).length<=7*m/\Bl w w'
 | 0,_,_,_,_,h=>h.elim
 | m+1,p,w,hm,hL,⟨⟨n,k,u,c,hc⟩,hd⟩=>by
  have hum:=List.mem_of_getElem? hc.hu
  have hcm:=List.mem_of_getElem? hc.hc
  have hf7:=hF7 u hum c hcm
  refine entr (vs:=[.pointer (some ⟨b,0,none⟩),.string p]) [0,1,4,5,6,7,9,14,37,38,39,40] tabok Tryz.func104 (by kernel_rfl) ?_
  refine cl (k_super hL.lnk hI hc) ?_
  rintro _ w1 ⟨rfl,B1⟩
  have hlay:ftL us (decl us) O.oc (m+1) p=(if supL us (decl us) p=nost then [] else ftL us (decl us) O.oc m (supL us (decl us) p))++c.fields.map fun f=>kindM O.oc u f.ty:=by
   rw [<-hc.ownT];rfl
  refine jn [5] [(0,.pointer (some ⟨b,0,none⟩)),(1,.string p)] (fun vals w2=>∃ up a c,vals=[.slice a up.length c]/\OwP 2 encTy w2 w.heap.size 51 a c up/\up=(if supL us (decl us) p=nost then [] else ftL us (decl us) O.oc m (supL us (decl us) p))/\up.length<=7*m/\Bl w w2) (fun h jo => ?_) (fun h jo => ?_) ?_
  ·have hs:¬supL us (decl us) p=nost:=of_decide_eq_true h
   refine cl (k_fieldTypes hI hF7 m _ w1 (by omega) (hL.bl B1) (hd.resolve_left hs)) ?_
   rintro _ w2 ⟨a,cc,rfl,hO,hlen,B2⟩
   exact jo ⟨_,a,cc,rfl,hO.base B1.size,by rw [if_neg hs],hlen,B1.trans B2⟩
  ·have hs:supL us (decl us) p=nost:=Classical.byContradiction fun q=>of_decide_eq_false h q
   exact jo ⟨[],none,0,rfl,Ow.nil ..,by rw [if_pos hs],by simp,B1⟩
  rintro _ w2 ⟨up,a0,c0,rfl,hO2,hup,hlen,B2⟩
  rw [<-hup] at hlay
  obtain ⟨m1,h1,hm1⟩:=(hL.bl B2).lnk.cl
  refine ld h1 ?_
  refine lk tD hm1 ?_
  rw [hc.g]
  refine al fun b3 w3 k3 => ?_
  refine sta (vs:=[I n,I k]) (cs':=[I n,I k]) k3.box fun w4 k4 x4 => ?_
  have B4:=B2.trans (k3.wr k4)
  refine ds fun w5 k5 => ?_
  have B5:=B4.trans k5.bl
  have x5:=k5.box x4
  obtain ⟨a,cc,h0,hS⟩:=hL.lnk.us
  obtain ⟨b6,o6,cs6,rfl,_,hAt,ua,rfl,hU⟩:=hS.el n u hc.hu
  obtain ⟨b7,o7,cs7,e7,_,hAt7,af,cf,rfl,hF⟩:=hU.cls.el k c hc.hc
  have hn:n<us.length:=(List.getElem?_eq_some_iff.1 hc.hu).1
  have hk:k<u.classes.length:=(List.getElem?_eq_some_iff.1 hc.hc).1
  refine ld (B5.cl h0) ?_
  refine ld (x5.cell rfl) ?_
  refine ix ?_
  refine ld ((hAt.bl B5) 2 _ rfl) ?_
  refine ld (x5.cell rfl) ?_
  rw [e7]
  refine ix ?_
  refine ld ((hAt7.bl B5) 2 _ rfl) ?_
  have hO5:=hO2.bl ((k3.wr k4).trans k5.bl)
  refine lpk (vals:=[.slice a0 up.length c0]) c.fields.length 39 [5] [(0,.pointer (some ⟨b,0,none⟩)),(7,.pointer (some ⟨b3,0,none⟩)),(37,.slice af c.fields.length cf),(38,I c.fields.length)]
   (fun j vals w'=>∃ a9 c9,vals=[.slice a9 (up++(c.fields.take j).map fun f=>kindM O.oc u f.ty).length c9]/\OwP 2 encTy w' w.heap.size 51 a9 c9 (up++(c.fields.take j).map fun f=>kindM O.oc u f.ty)/\Bl w w'/\Box w' b3 151 [I n,I k]) ⟨a0,c0,by simp,by simpa using hO5,B5,x5⟩ ?_
  rintro j vals w6 hj ⟨a9,c9,rfl,hO6,B6,x6⟩ ih
  by_cases hlt:j<c.fields.length
  ·refine brT ?_
   obtain ⟨f,bf,off,csf,hf,rfl,_,hAtf,rfl⟩:=at_some (hF.bl B6) hlt
   refine ix ?_
   refine lda hAtf ?_
   refine al fun b8 w8 k8 => ?_
   refine sta k8.box fun w9 k9 x9 => ?_
   have B69:=k8.wr k9
   have x69:=Bl.box B69 x6
   refine ld (x69.cell rfl) ?_
   refine lda (x9.at.sub 1 2) ?_
   refine cl (k_kind (hL.bl (B6.trans B69)) hc.hu ((hI u hum).fty c hcm f (List.mem_of_getElem? hf))) ?_
   rintro _ w9' ⟨rfl,B9'⟩
   have B69:=B69.trans B9'
   have x69:=Bl.box B9' x69
   refine bs (cs:=encTy (kindM O.oc u f.ty)) fun b10 w10 k10 => ?_
   have B10:=(B6.trans B69).trans k10.bl
   have O10:=(hO6.bl B69).bl k10.bl
   have hl:(up++(c.fields.take j).map fun f=>kindM O.oc u f.ty).length<=7*m+7:=by rw [List.length_append,List.length_map,List.length_take];omega
   have e1:up++(c.fields.take (j+1)).map (fun f=>kindM O.oc u f.ty)=(up++(c.fields.take j).map fun f=>kindM O.oc u f.ty)++[kindM O.oc u f.ty]:=by rw [map_snoc hf,List.append_assoc]
   refine apl (l1:=[kindM O.oc u f.ty]) O10 (.inr ⟨b10,0,rfl,k10.box.at⟩) B10.size (fun a11 c11 w11 hO11 hA11 _ => ?_) (hb:=by simp only [List.length_cons,List.length_nil];omega) (hn:=by simp only [List.length_cons,List.length_nil];omega)
   have x10:=Bl.box k10.bl x69
   exact ih hlt ⟨a11,c11,by rw [e1],by rw [e1];exact hO11,Eng.Ow.below O10 hA11 B10 B10.size,hA11.box x10 (O10.nbox x10 (by decide))⟩
  ·refine brF ?_
   obtain rfl:j=c.fields.length:=by omega
   rw [List.take_length,<-hlay] at hO6 ⊢
   exact rt1 ⟨a9,c9,rfl,hO6,by rw [hlay,List.length_append,List.length_map];omega,B6⟩
theorem near_len {D:Dcl} {om:List ByteArray} {f:Nat} {c s:ByteArray} (h:¬c=nost):nearM us D om (f+1) c s=if 0<=idxB om (dots c s) then idxB om (dots c s) else nearM us D om f (supL us D c) s:=by
 simp only [nearM]
 rw [if_neg h]
theorem k_row (h:RunO b us O w) (hC:∀ u∈us,CkU u) {K:Nat} {p:ByteArray} (hd:Deep us (decl us) K p) (hp:p.size<=200) (hz:∀ s∈O.oz,s.size<=200) (_hp0:¬p=nost) :
  Ret Tryz.prog 105 #[.pointer (some ⟨b,0,none⟩),.string p] w fun v w'=>∃ a c,v = .slice a (O.oz.map fun s=>nearM us (decl us) O.om (K+1) p s).length c/\OwP 1 encInt w' w.heap.size 3 a c (O.oz.map fun s=>nearM us (decl us) O.om (K+1) p s)/\Bl w w':=by
 have hI:∀ u∈us,Ixs u:=fun u hu=>ixs_of (hC u hu)
 obtain ⟨az,cz,hcz,hSz⟩:=h.oz
 have hbig:=hSz.big
 refine entr (vs:=[.pointer (some ⟨b,0,none⟩),.string p]) [0,1,4,5,7,8,9,14,15,16,17,26] tabok Tryz.func105 (by kernel_rfl) ?_
 refine ld hcz ?_
 refine lpk (vals:=[nilS]) O.oz.length 16 [5] [(0,.pointer (some ⟨b,0,none⟩)),(1,.string p),(14,.slice az O.oz.length cz),(15,I O.oz.length)]
  (fun j vals w'=>∃ a' c',vals=[.slice a' ((O.oz.take j).map fun s=>nearM us (decl us) O.om (K+1) p s).length c']/\OwP 1 encInt w' w.heap.size 3 a' c' ((O.oz.take j).map fun s=>nearM us (decl us) O.om (K+1) p s)/\Bl w w') ⟨none,0,rfl,Ow.nil ..,Bl.refl _⟩ ?_
 rintro j vals w1 hj ⟨a',c',rfl,O1,B1⟩ ih
 by_cases hlt:j<O.oz.length
 ·refine brT ?_
  obtain ⟨s,bf,off,cs,hs,rfl,_,hAt,rfl⟩:=at_some (hSz.bl B1) hlt
  have hsz:=hz s (List.mem_of_getElem? hs)
  refine ix ?_
  refine ld (hAt 0 _ rfl) ?_
  refine lp [8,9] [(0,.pointer (some ⟨b,0,none⟩)),(1,.string p),(14,.slice (some ⟨bf,off,none⟩) O.oz.length cz),(15,I O.oz.length),(16,I j),(5,.slice a' ((O.oz.take j).map fun s=>nearM us (decl us) O.om (K+1) p s).length c'),(7,.string s)]
   (fun m vals w'=>∃ (c:ByteArray) (at':Int),vals=[I at',.string c]/\(c=nost∨Deep us (decl us) m c)/\c.size<=200/\(at' = -1∨0<=at')/\(if 0<=at' then at' else nearM us (decl us) O.om (m+1) c s)=nearM us (decl us) O.om (K+1) p s/\Bl w1 w')
   ⟨rfl,rfl,rfl,rfl,rfl,rfl,rfl,trivial⟩ ⟨p,-1,rfl,.inr hd,hp,.inl rfl,rfl,Bl.refl _⟩ ?_
  rintro m vals w2 ⟨c,at',rfl,hdc,hcs,hat,heq,B12⟩ ih2
  have B2:=B1.trans B12
  by_cases hgo:¬c=nost/\at'<0
  ·obtain ⟨hc0,ha0⟩:=hgo
   refine brt ?_ (hp:=by simp [hc0,ha0])
   have hdm:=hdc.resolve_left hc0
   obtain ⟨m',rfl⟩:∃ m',m=m'+1:=by
    cases m with
    | zero=>exact hdm.elim
    | succ m'=>exact ⟨m',rfl⟩
   obtain ⟨⟨n,k,u,x,hcI⟩,hd2⟩:=hdm
   have H2:=h.bl B2
   obtain ⟨am,cm,hcm,hSm⟩:=H2.om
   refine ld hcm ?_
   refine cat ?_ (hab:=by show _+1<=_;omega)
   refine cat ?_ (hab:=by rw [ByteArray.size_append];show _+1+_<=_;omega)
   refine cl (l_Index hSm cm _) ?_
   rintro _ _ ⟨rfl,rfl⟩
   refine cl (k_super H2.lnk hI hcI) ?_
   rintro _ w4 ⟨rfl,B24⟩
   have hss:(supL us (decl us) c).size<=200:=by
    rw [hcI.sup]
    split
    ·rename_i q
     have hum:=List.mem_of_getElem? hcI.hu
     exact Nat.le_trans ((ck_small (hC u hum)).2 _ (((hI u hum).sup x (List.mem_of_getElem? hcI.hc)).inP (by omega))) (by omega)
    ·exact Nat.zero_le _
   refine again (ih2 _ _ _ _ (Nat.lt_succ_self m') ⟨rfl,rfl,rfl,rfl,rfl,rfl,rfl,trivial⟩ rfl ⟨supL us (decl us) c,idxB O.om (dots c s),rfl,hd2,hss,idxB_ge ..,?_,B12.trans B24⟩)
   rw [if_neg (by omega),near_len hc0] at heq
   exact heq
  ·refine brf ?_ (hp:=by
    by_cases hc0:c=nost
    ·simp [hc0]
    ·have:¬at'<0:=fun q=>hgo ⟨hc0,q⟩
     simp only [hc0,not_false_eq_true,decide_true,Bool.true_and]
     exact decide_eq_false this)
   have hval:at'=nearM us (decl us) O.om (K+1) p s:=by
    rw [<-heq]
    by_cases h0:0<=at'
    ·rw [if_pos h0]
    ·rw [if_neg h0]
     have hc0:c=nost:=Classical.byContradiction fun q=>hgo ⟨q,by omega⟩
     simp only [nearM]
     rw [if_pos hc0]
     exact hat.resolve_right h0
   refine bs fun b5 w5 k5 => ?_
   have B15:=B12.trans k5.bl
   have B5:=B1.trans B15
   have O5:=O1.bl B15
   have hl:((O.oz.take j).map fun s=>nearM us (decl us) O.om (K+1) p s).length<=4194304:=by rw [List.length_map,List.length_take];omega
   have e1:(O.oz.take (j+1)).map (fun s=>nearM us (decl us) O.om (K+1) p s)=(O.oz.take j).map (fun s=>nearM us (decl us) O.om (K+1) p s)++[at']:=by rw [map_snoc hs,hval]
   refine apl (enc:=encInt) (l1:=[at']) O5 (.inr ⟨b5,0,rfl,k5.box.at⟩) B5.size (fun a6 c6 w6 O6 A6 _ => ?_) (hb:=by simp only [List.length_cons,List.length_nil];omega) (hn:=by simp only [List.length_cons,List.length_nil];omega)
   exact ih hlt ⟨a6,c6,by rw [e1],by rw [e1];exact O6,Eng.Ow.below O5 A6 B5 B5.size⟩
 ·refine brF ?_
  obtain rfl:j=O.oz.length:=by omega
  rw [List.take_length] at O1 ⊢
  exact rt1 ⟨a',c',rfl,O1,B1⟩
end Go.Proofs.YtkmdfjpafkcleaaGreatDoor
namespace Go.Proofs.YtkmdfjpafkcleaaGreatDoor
open Eng Go.RowKit
variable {w w':World} {b:Nat} {us:List Unt} {O:Ords}
theorem cut_of {p:ByteArray} (h:(46:UInt8)∈p.data.toList):Lib.lastIndexByte p 46=(cutI p:Nat)/\cutI p<p.size:=by
 rcases Lib.lastIndexByte_spec p 46 with ⟨_,hn⟩ | ⟨i,hi,e,_,_⟩
 ·obtain ⟨j,hj⟩:=List.mem_iff_getElem?.1 h
  obtain ⟨hlt,e⟩:=List.getElem?_eq_some_iff.1 hj
  have hs:j<p.size:=by rw [<-ba_len];exact hlt
  refine absurd ?_ (hn j hs)
  have:p.data[j]! = 46:=by
   rw [getElem!_pos p.data j (by simpa using hlt)]
   simpa using e
  rw [this];rfl
 ·unfold cutI
  rw [e]
  exact ⟨by simp,by simpa using hi⟩
theorem dot_of {s:ByteArray} (h:1<path s):(46:UInt8)∈s.data.toList:=by
 refine Classical.byContradiction fun hm => ?_
 unfold path pathL at h
 split at h
 ·have key:∀ l:List UInt8,(46:UInt8) ∉ l->(cutDot l).length=1:=by
   intro l
   induction l with
   | nil=>intro _;rfl
   | cons c r ih =>
    intro hn
    rw [List.mem_cons,not_or] at hn
    have:=ih hn.2
    simp only [cutDot]
    rw [if_neg (fun q=>hn.1 q.symm)]
    cases hr:cutDot r with
    | nil=>rw [hr] at this;cases this
    | cons p ps=>rw [hr] at this;simpa using this
  have:=key _ hm
  omega
 ·omega
theorem l_LastIndex {p:ByteArray} (hp:p.size<=200):Ret Tryz.prog 167 #[.string p,.string ⟨#[46]⟩] w fun v w'=>v=I (Lib.lastIndexByte p 46)/\w'=w:=by
 refine ⟨by kernel_rfl,?_⟩
 refine (Tryz.strings_LastIndex_one p ⟨#[46]⟩ rfl (by omega) w).mono ?_
 rintro e w' ⟨rfl,rfl⟩
 exact ⟨rfl,rfl⟩
theorem LayW.get {l:List ByteArray} {m:Nat} {Y:Mp Rs} (h:LayW b us l m Y w) (q:ByteArray):∃ a c,((getM Y q).map encR).getD (encR ⟨none,0,[]⟩) = .slice a (layA us l q).length c/\Sl eStr (· ≠ b) w a (layA us l q):=by
 unfold layA
 by_cases hq:q∈l
 ·obtain ⟨r,h1,h2,h3⟩:=h.at' q hq
  rw [if_pos (by simpa [hasB] using hq),h1,<-h2]
  exact ⟨r.a,r.c,rfl,h3⟩
 ·rw [if_neg (by simpa [hasB] using hq)]
  cases hg:getM Y q with
  | some r=>exact absurd (h.only q r hg) hq
  | none=>exact ⟨none,0,rfl,Sl.nil ..⟩
theorem k_instr (h:RunO b us O w) {n:Nat} {u:Unt} (hu:us[n]? = some u) {i:Ins}
  (ha:(i.op=14∨i.op=24∨i.op=17∨i.op=18∨i.op=22∨i.op=23∨i.op=25∨i.op=26)->inP u i.a) (hb:(i.op=16∨i.op=12/\¬i.a=3)->inP u i.b)
  (hf:i.op=17∨i.op=18->(46:UInt8)∈(nm u i.a).data.toList/\(nm u i.a).size<=200) :
  Ret Tryz.prog 109 #[.pointer (some ⟨b,0,none⟩),I n,.agg (encIns i).toArray] w fun v w'=>v = .agg (encIns (instM us O u i)).toArray/\Bl w w':=by
 refine entr (vs:=[.pointer (some ⟨b,0,none⟩),I n,.agg (encIns i).toArray]) [0,1,2,5,6,7,8,10,11,26,40,44,57,81,96,110] tabok Tryz.func109 (by kernel_rfl) ?_
 refine bx (cs:=encIns i) fun b5 w1 k1 => ?_
 refine al fun b6 w2 k2 => ?_
 have x2:=Bl.box k2.bl k1.box
 have B2:=k1.bl.trans k2.bl
 have z1:=k1.size
 have y1:=k1.blk
 have y2:=k2.blk
 refine ld (x2.cell rfl) ?_
 by_cases e1:i.op=14∨i.op=24
 ·
  by_cases q14:i.op=14
  ·refine brT ?_ (hp:=q14)
   refine brT ?_ (hp:=q14)
   refine dt 1 fun w3 k3 => ?_
   have B3:=B2.trans k3.bl
   have H3:=h.bl B3
   obtain ⟨a,c,hc,hS⟩:=H3.oc
   have x3:=Bl.box k3.bl x2
   refine ld hc ?_
   refine ld (x3.cell rfl) ?_
   refine clq (k_path H3.lnk hu (ha (by omega))) ?_
   refine clq (l_Index hS c _) ?_
   refine stx x3 (fun w4 k4 x4 => ?_) (ho:=by simp [encIns])
   refine lda x4.at ?_
   refine sta (cs':=[I i.op,I (idxB O.oc (nm u i.a)),I i.b]) (k4.box (Bl.box k3.bl k2.box) (by omega)) fun w5 k5 x5 => ?_
   refine rtc (cs:=[I i.op,I (idxB O.oc (nm u i.a)),I i.b]) x5.at ⟨?_,Below.trans (Below.trans B3 (k4.below (by omega))) (k5.below (by omega))⟩
   unfold instM;rw [if_pos e1]
  ·refine brF ?_ (hp:=q14)
   refine brT ?_ (hp:=by omega)
   refine dt 1 fun w3 k3 => ?_
   have B3:=B2.trans k3.bl
   have H3:=h.bl B3
   obtain ⟨a,c,hc,hS⟩:=H3.oc
   have x3:=Bl.box k3.bl x2
   refine ld hc ?_
   refine ld (x3.cell rfl) ?_
   refine clq (k_path H3.lnk hu (ha (by omega))) ?_
   refine clq (l_Index hS c _) ?_
   refine stx x3 (fun w4 k4 x4 => ?_) (ho:=by simp [encIns])
   refine lda x4.at ?_
   refine sta (cs':=[I i.op,I (idxB O.oc (nm u i.a)),I i.b]) (k4.box (Bl.box k3.bl k2.box) (by omega)) fun w5 k5 x5 => ?_
   refine rtc (cs:=[I i.op,I (idxB O.oc (nm u i.a)),I i.b]) x5.at ⟨?_,Below.trans (Below.trans B3 (k4.below (by omega))) (k5.below (by omega))⟩
   unfold instM;rw [if_pos e1]
 refine brF ?_ (hp:=by omega)
 refine brF ?_ (hp:=by omega)
 by_cases e2:i.op=16
 ·refine brT ?_ (hp:=e2)
  refine dt 1 fun w3 k3 => ?_
  have B3:=B2.trans k3.bl
  have H3:=h.bl B3
  obtain ⟨a,c,hc,hS⟩:=H3.oc
  have x3:=Bl.box k3.bl x2
  refine ld hc ?_
  refine ld (x3.cell rfl) ?_
  refine clq (k_path H3.lnk hu (hb (by omega))) ?_
  refine clq (l_Index hS c _) ?_
  refine stx x3 (fun w4 k4 x4 => ?_) (ho:=by simp [encIns])
  refine lda x4.at ?_
  refine sta (cs':=[I i.op,I i.a,I (idxB O.oc (nm u i.b))]) (k4.box (Bl.box k3.bl k2.box) (by omega)) fun w5 k5 x5 => ?_
  refine rtc (cs:=[I i.op,I i.a,I (idxB O.oc (nm u i.b))]) x5.at ⟨?_,Below.trans (Below.trans B3 (k4.below (by omega))) (k5.below (by omega))⟩
  unfold instM;rw [if_neg e1,if_pos e2]
 refine brF ?_ (hp:=e2)
 by_cases e3:i.op=12
 ·refine brT ?_ (hp:=e3)
  refine ld (x2.cell rfl) ?_
  by_cases h3:i.a=3
  ·refine brf ?_ (hp:=by simp [h3])
   have x4:=x2
   refine lda x4.at ?_
   refine sta (cs':=encIns i) k2.box fun w5 k5 x5 => ?_
   refine rtc (cs:=encIns i) x5.at ⟨?_,Below.trans B2 (k5.below (by omega))⟩
   unfold instM;rw [if_neg e1,if_neg e2,if_pos e3,if_pos h3]
  ·refine brT ?_ (hp:=h3)
   refine dt 1 fun w3 k3 => ?_
   have B3:=B2.trans k3.bl
   have H3:=h.bl B3
   obtain ⟨a,c,hc,hS⟩:=H3.oc
   have x3:=Bl.box k3.bl x2
   refine ld hc ?_
   refine ld (x3.cell rfl) ?_
   refine clq (k_path H3.lnk hu (hb (by omega))) ?_
   refine clq (l_Index hS c _) ?_
   refine stx x3 (fun w4 k4 x4 => ?_) (ho:=by simp [encIns])
   refine lda x4.at ?_
   refine sta (cs':=[I i.op,I i.a,I (idxB O.oc (nm u i.b))]) (k4.box (Bl.box k3.bl k2.box) (by omega)) fun w5 k5 x5 => ?_
   refine rtc (cs:=[I i.op,I i.a,I (idxB O.oc (nm u i.b))]) x5.at ⟨?_,Below.trans (Below.trans B3 (k4.below (by omega))) (k5.below (by omega))⟩
   unfold instM;rw [if_neg e1,if_neg e2,if_pos e3,if_neg h3]
 refine brF ?_ (hp:=e3)
 by_cases e4:i.op=17∨i.op=18
 ·
  by_cases q17:i.op=17
  ·refine brT ?_ (hp:=q17)
   refine brT ?_ (hp:=q17)
   have hi:=ha (by omega)
   obtain ⟨hdot,hsz⟩:=hf (by omega)
   obtain ⟨hcut,hlt⟩:=cut_of hdot
   refine ld (x2.cell rfl) ?_
   refine cl (k_path (h.bl B2).lnk hu hi) ?_
   rintro _ _ ⟨rfl,rfl⟩
   refine cl (l_LastIndex hsz) ?_
   rintro _ _ ⟨rfl,rfl⟩
   rw [hcut]
   refine dt 1 fun w3 k3 => ?_
   have B3:=B2.trans k3.bl
   have H3:=h.bl B3
   obtain ⟨m,Y,hm,hY⟩:=H3.ly
   have x3:=Bl.box k3.bl x2
   refine ld hm ?_
   refine sls 0 (cutI (nm u i.a)) ?_
   refine lk tN hY.is ?_
   obtain ⟨a,c,hg,hS⟩:=hY.get ((nm u i.a).extract 0 (cutI (nm u i.a)))
   rw [hg]
   refine sls (cutI (nm u i.a)+1) (nm u i.a).size ?_ (h1:=by exact ⟨.i64,congrArg (Value.int .i64) (by rw [wrap_fit (by omega) (by omega)];omega)⟩)
   refine clq (l_Index hS c _) ?_
   refine stx x3 (fun w4 k4 x4 => ?_) (ho:=by simp [encIns])
   refine lda x4.at ?_
   refine sta (cs':=[I i.op,I (fldM us O.oc (nm u i.a)),I i.b]) (k4.box (Bl.box k3.bl k2.box) (by omega)) fun w5 k5 x5 => ?_
   refine rtc (cs:=[I i.op,I (fldM us O.oc (nm u i.a)),I i.b]) x5.at ⟨?_,Below.trans (Below.trans B3 (k4.below (by omega))) (k5.below (by omega))⟩
   unfold instM;rw [if_neg e1,if_neg e2,if_neg e3,if_pos e4]
  ·refine brF ?_ (hp:=q17)
   refine brT ?_ (hp:=by omega)
   have hi:=ha (by omega)
   obtain ⟨hdot,hsz⟩:=hf (by omega)
   obtain ⟨hcut,hlt⟩:=cut_of hdot
   refine ld (x2.cell rfl) ?_
   refine cl (k_path (h.bl B2).lnk hu hi) ?_
   rintro _ _ ⟨rfl,rfl⟩
   refine cl (l_LastIndex hsz) ?_
   rintro _ _ ⟨rfl,rfl⟩
   rw [hcut]
   refine dt 1 fun w3 k3 => ?_
   have B3:=B2.trans k3.bl
   have H3:=h.bl B3
   obtain ⟨m,Y,hm,hY⟩:=H3.ly
   have x3:=Bl.box k3.bl x2
   refine ld hm ?_
   refine sls 0 (cutI (nm u i.a)) ?_
   refine lk tN hY.is ?_
   obtain ⟨a,c,hg,hS⟩:=hY.get ((nm u i.a).extract 0 (cutI (nm u i.a)))
   rw [hg]
   refine sls (cutI (nm u i.a)+1) (nm u i.a).size ?_ (h1:=by exact ⟨.i64,congrArg (Value.int .i64) (by rw [wrap_fit (by omega) (by omega)];omega)⟩)
   refine clq (l_Index hS c _) ?_
   refine stx x3 (fun w4 k4 x4 => ?_) (ho:=by simp [encIns])
   refine lda x4.at ?_
   refine sta (cs':=[I i.op,I (fldM us O.oc (nm u i.a)),I i.b]) (k4.box (Bl.box k3.bl k2.box) (by omega)) fun w5 k5 x5 => ?_
   refine rtc (cs:=[I i.op,I (fldM us O.oc (nm u i.a)),I i.b]) x5.at ⟨?_,Below.trans (Below.trans B3 (k4.below (by omega))) (k5.below (by omega))⟩
   unfold instM;rw [if_neg e1,if_neg e2,if_neg e3,if_pos e4]
 refine brF ?_ (hp:=by omega)
 refine brF ?_ (hp:=by omega)
 by_cases e5:i.op=22∨i.op=23
 ·
  by_cases q22:i.op=22
  ·refine brT ?_ (hp:=q22)
   refine brT ?_ (hp:=q22)
   refine dt 1 fun w3 k3 => ?_
   have B3:=B2.trans k3.bl
   have H3:=h.bl B3
   obtain ⟨a,c,hc,hS⟩:=H3.os
   have x3:=Bl.box k3.bl x2
   refine ld hc ?_
   refine ld (x3.cell rfl) ?_
   refine clq (k_path H3.lnk hu (ha (by omega))) ?_
   refine clq (l_Index hS c _) ?_
   refine stx x3 (fun w4 k4 x4 => ?_) (ho:=by simp [encIns])
   refine lda x4.at ?_
   refine sta (cs':=[I i.op,I (idxB O.os (nm u i.a)),I i.b]) (k4.box (Bl.box k3.bl k2.box) (by omega)) fun w5 k5 x5 => ?_
   refine rtc (cs:=[I i.op,I (idxB O.os (nm u i.a)),I i.b]) x5.at ⟨?_,Below.trans (Below.trans B3 (k4.below (by omega))) (k5.below (by omega))⟩
   unfold instM;rw [if_neg e1,if_neg e2,if_neg e3,if_neg e4,if_pos e5]
  ·refine brF ?_ (hp:=q22)
   refine brT ?_ (hp:=by omega)
   refine dt 1 fun w3 k3 => ?_
   have B3:=B2.trans k3.bl
   have H3:=h.bl B3
   obtain ⟨a,c,hc,hS⟩:=H3.os
   have x3:=Bl.box k3.bl x2
   refine ld hc ?_
   refine ld (x3.cell rfl) ?_
   refine clq (k_path H3.lnk hu (ha (by omega))) ?_
   refine clq (l_Index hS c _) ?_
   refine stx x3 (fun w4 k4 x4 => ?_) (ho:=by simp [encIns])
   refine lda x4.at ?_
   refine sta (cs':=[I i.op,I (idxB O.os (nm u i.a)),I i.b]) (k4.box (Bl.box k3.bl k2.box) (by omega)) fun w5 k5 x5 => ?_
   refine rtc (cs:=[I i.op,I (idxB O.os (nm u i.a)),I i.b]) x5.at ⟨?_,Below.trans (Below.trans B3 (k4.below (by omega))) (k5.below (by omega))⟩
   unfold instM;rw [if_neg e1,if_neg e2,if_neg e3,if_neg e4,if_pos e5]
 refine brF ?_ (hp:=by omega)
 refine brF ?_ (hp:=by omega)
 by_cases e6:i.op=25
 ·refine brT ?_ (hp:=e6)
  refine dt 1 fun w3 k3 => ?_
  have B3:=B2.trans k3.bl
  have H3:=h.bl B3
  obtain ⟨a,c,hc,hS⟩:=H3.om
  have x3:=Bl.box k3.bl x2
  refine ld hc ?_
  refine ld (x3.cell rfl) ?_
  refine clq (k_path H3.lnk hu (ha (by omega))) ?_
  refine clq (l_Index hS c _) ?_
  refine stx x3 (fun w4 k4 x4 => ?_) (ho:=by simp [encIns])
  refine lda x4.at ?_
  refine sta (cs':=[I i.op,I (idxB O.om (nm u i.a)),I i.b]) (k4.box (Bl.box k3.bl k2.box) (by omega)) fun w5 k5 x5 => ?_
  refine rtc (cs:=[I i.op,I (idxB O.om (nm u i.a)),I i.b]) x5.at ⟨?_,Below.trans (Below.trans B3 (k4.below (by omega))) (k5.below (by omega))⟩
  unfold instM;rw [if_neg e1,if_neg e2,if_neg e3,if_neg e4,if_neg e5,if_pos e6]
 refine brF ?_ (hp:=e6)
 by_cases e7:i.op=26
 ·refine brT ?_ (hp:=e7)
  refine dt 1 fun w3 k3 => ?_
  have B3:=B2.trans k3.bl
  have H3:=h.bl B3
  obtain ⟨a,c,hc,hS⟩:=H3.oz
  have x3:=Bl.box k3.bl x2
  refine ld hc ?_
  refine ld (x3.cell rfl) ?_
  refine clq (k_path H3.lnk hu (ha (by omega))) ?_
  refine clq (l_Index hS c _) ?_
  refine stx x3 (fun w4 k4 x4 => ?_) (ho:=by simp [encIns])
  refine lda x4.at ?_
  refine sta (cs':=[I i.op,I (idxB O.oz (nm u i.a)),I i.b]) (k4.box (Bl.box k3.bl k2.box) (by omega)) fun w5 k5 x5 => ?_
  refine rtc (cs:=[I i.op,I (idxB O.oz (nm u i.a)),I i.b]) x5.at ⟨?_,Below.trans (Below.trans B3 (k4.below (by omega))) (k5.below (by omega))⟩
  unfold instM;rw [if_neg e1,if_neg e2,if_neg e3,if_neg e4,if_neg e5,if_neg e6,if_pos e7]
 refine brF ?_ (hp:=e7)
 have x4:=x2
 refine lda x4.at ?_
 refine sta (cs':=encIns i) k2.box fun w5 k5 x5 => ?_
 refine rtc (cs:=encIns i) x5.at ⟨?_,Below.trans B2 (k5.below (by omega))⟩
 unfold instM;rw [if_neg e1,if_neg e2,if_neg e3,if_neg e4,if_neg e5,if_neg e6,if_neg e7]
end Go.Proofs.YtkmdfjpafkcleaaGreatDoor
namespace Go.Proofs.YtkmdfjpafkcleaaGreatDoor
open Eng Go.RowKit
variable {w w':World} {b:Nat} {us:List Unt} {O:Ords}
structure OOk (us:List Unt) (O:Ords):Prop where
 oc:∀ p∈O.oc,(∃ n k u c,ClsI us (decl us) p n k u c)/\Deep us (decl us) (keysM (decl us).classes).length p/\p.size<=200/\¬p=nost
 os:∀ p∈O.os,p∈keysM (decl us).statics
 om:∀ p∈O.om,p∈keysM (decl us).calls++keysM (decl us).sends
 oz:∀ s∈O.oz,s.size<=200
 zm:∀ s∈O.om,s.size<=200
 kc:(keysM (decl us).classes).length<=50
 lc:O.oc.length<=50
 ls:O.os.length<=50
 lm:O.om.length<=80
 lz:O.oz.length<=80
abbrev mdc (a1:Option Addr) (n1 c1:Nat) (a2:Option Addr) (n2 c2:Nat) (a3:Option Addr) (n3 c3:Nat) (z:Nat):List Value:=[.slice a1 n1 c1,.slice a2 n2 c2,.slice a3 n3 c3,I z]
theorem Nc.box {b c:Nat} {w w':World} (h:Nc b w w') {t:TypeId} {cs:List Value} (hb:Box w c t cs) (hne:c≠b):Box w' c t cs:=by unfold Box;rw [h.blk c hb.lt hne];exact hb
theorem fld_dot {u:Unt} (hC:CkU u) {m:Mth} (hm:m∈u.methods) {i:Ins} (hi:i∈m.code) (h:i.op=17∨i.op=18):(46:UInt8)∈(nm u i.a).data.toList/\(nm u i.a).size<=200:=by
 have hn:named i=(1,3):=by unfold named;rw [if_pos h]
 have ho:operand i=(i.a,3):=by unfold operand;rw [hn];rfl
 have:=op_in hC hm hi (by rw [ho];exact (by decide:(0:Int)<3))
 rw [ho] at this
 obtain ⟨h1,h2,h3⟩:=this
 refine ⟨dot_of (by simp only at h3;omega),?_⟩
 have:=(ck_small hC).2 i.a ⟨h1,h2⟩
 omega
theorem staM_at {p:ByteArray} {n k:Nat} {u:Unt} {f:Fld} (hg:getM (decl us).statics p=some (n,k)) (hu:us[n]? = some u) (hf:u.statics[k]? = some f):staM us O p=kindM O.oc u f.ty:=by
 unfold staM
 rw [hg]
 simp [hu,hf]
theorem mthM_at {p:ByteArray} {n k:Nat} {u:Unt} {m:Mth} (h:MthI us (mthD (decl us) p) n k u m):mthM us O p=⟨p,if 0<=m.cls then idxB O.oc (nm u m.cls) else -1,m.params.map (kindM O.oc u),m.locals.map (kindM O.oc u),kindM O.oc u m.result,m.code.map (instM us O u)⟩:=by
 unfold mthM mthOf
 rw [h.of]
theorem k_module {c0 s0 m0:Nat} (h:RunO b us O w) (hC:∀ u∈us,CkU u) (hO:OOk us O) (dok:DOk us c0 s0 m0 (decl us)) (hF7:∀ u∈us,∀ c∈u.classes,c.fields.length<=7) :
  Ret Tryz.prog 47 #[.pointer (some ⟨b,0,none⟩)] w fun v w'=>∃ a,v = .agg (modcells (modO us O) a).toArray/\MdR (fun i=>w.heap.size<=i/\i<w'.heap.size) w' (modO us O) a/\Bl w w':=by
 have hI:∀ u∈us,Ixs u:=fun u hu=>ixs_of (hC u hu)
 obtain ⟨az,cz,hcz,hSz⟩:=h.oz
 obtain ⟨ac,cc,hcc,hSc⟩:=h.oc
 obtain ⟨as',cs',hcs,hSs⟩:=h.os
 obtain ⟨am,cm,hcm,hSm⟩:=h.om
 have hlt:=h.lnk.lt
 have hlc:=hO.lc
 have hls:=hO.ls
 have hlm:=hO.lm
 have hlz:=hO.lz
 have hkc:=hO.kc
 refine entr (vs:=[.pointer (some ⟨b,0,none⟩)]) [0,2,3,5,7,8,10,11,12,13,14,16,28,29,30,31,61,62,63,64,101,102,103,104,117,159,174,175,176,177] tabok Tryz.func47 (by kernel_rfl) ?_
 refine al fun b2 w1 k1 => ?_
 refine ld (k1.bl.cl hcz) ?_
 refine bd ?_
 refine al fun b3 w2 k2 => ?_
 refine sta (cs':=mdc none 0 0 none 0 0 none 0 0 O.oz.length) k2.box fun w3 k3 x3 => ?_
 have z1:=k1.size
 have y1:=k1.blk
 have z2:=k2.size
 have y2:=k2.blk
 have z3:=k3.size
 have B3:Bl w w3:=k1.bl.trans (k2.wr k3)
 have x2:Box w3 b2 29 (mdc none 0 0 none 0 0 none 0 0 0):=Bl.box (k2.wr k3) k1.box
 refine ld (B3.cl hcc) ?_
 refine lpk (vals:=[]) O.oc.length 30 [] [(0,.pointer (some ⟨b,0,none⟩)),(2,.pointer (some ⟨b2,0,none⟩)),(3,.pointer (some ⟨b3,0,none⟩)),(28,.slice ac O.oc.length cc),(29,I O.oc.length)]
  (fun j vals w'=>vals=[]/\Nc b3 w3 w'/\∃ a1 c1,Box w' b3 29 (mdc a1 ((O.oc.take j).map (clsM us O)).length c1 none 0 0 none 0 0 O.oz.length)/\OwC eMC (fun i=>w3.heap.size<=i) w' w3.heap.size 49 a1 c1 ((O.oc.take j).map (clsM us O)))
  ⟨rfl,.of_bl (Bl.refl _),none,0,x3,OwC.nil ..⟩ ?_
 rintro j vals w4 hj ⟨rfl,N4,a1,c1,x4,O4⟩ ih
 have B4:Bl w w4:=Nc.below B3 N4 (by omega) B3.size
 have z4:=N4.size
 by_cases hjl:j<O.oc.length
 ·refine brT ?_
  obtain ⟨p,bf,off,cs,hp,rfl,_,hAt,rfl⟩:=at_some (hSc.bl B4) hjl
  obtain ⟨⟨n,k,u,c,hcI⟩,hdp,hps,hp0⟩:=hO.oc p (List.mem_of_getElem? hp)
  refine ix ?_
  refine ld (hAt 0 _ rfl) ?_
  have hna:∀ g,a1=some ⟨g,0,none⟩->w3.heap.size<=g:=fun g hg=>(O4.lt hg).1
  refine dht 1 (fun i=>i<w3.heap.size) [0,1,2,3,4,5,6,7,8,9,12,13,15,16,10,11,14,17,18,19,20,21] fun w5 k5 => ?_
  have B5:=B4.trans k5.bl
  have N5:=N4.bl k5.bl
  have x5:=Bl.box k5.bl x4
  refine ld (x5.cell rfl) ?_ (hm:=by show b3<_;omega)
  refine ld (B5.cl hcc) ?_ (hm:=by show b<_;omega)
  refine cl (k_super (h.bl B5).lnk hI hcI) ?_
  rintro _ w6 ⟨rfl,B56⟩
  have B6:=B5.trans B56
  refine cl (l_Index (hSc.bl B6) cc _) ?_
  rintro _ w6x ⟨rfl,q6⟩
  rw [q6]
  refine cl (k_fieldTypes hI hF7 (keysM (decl us).classes).length p w6 (by have:=hO.kc;omega) (h.bl B6) hdp) ?_ (hm:=fun _ _ r=>by obtain ⟨_,_,_,_,_,hB⟩:=r;exact mdW_bl hB)
  rintro _ w7 ⟨a7,c7,rfl,O7,hl7,B67⟩
  have B7:=B6.trans B67
  refine cl (k_row (h.bl B7) hC hdp hps hO.oz hp0) ?_ (hm:=fun _ _ r=>by obtain ⟨_,_,_,_,hB⟩:=r;exact mdW_bl hB)
  rintro _ w8 ⟨a8,c8,rfl,O8,B78⟩
  refine bd ?_
  refine bs (cs:=mccells (clsM us O p) a7 c7 a8 c8) fun b9 w9 k9 => ?_
  have B49:=(k5.bl.trans B56).trans ((B67.trans B78).trans k9.bl)
  have B9:=B4.trans B49
  obtain ⟨xs,e1,e3,hOx,e4⟩:=(O4.bl B49).row
  have z5:w5.heap.size=w4.heap.size:=by rw [k5.heap]
  have z56:=B56.size
  have z67:=B67.size
  have z78:=B78.size
  have z9:=k9.size
  have hl9:((O.oc.take j).map (clsM us O)).length<=50:=by rw [List.length_map,List.length_take];omega
  refine ap hOx (.inr ⟨b9,0,rfl,k9.box.at⟩) (by omega) (fun a10 c10 w10 hO10 hA10 hf10 => ?_) (hm:=apS fun g hg=>by have:=hna g hg;show ¬g<_;omega)
  have hrel:eMC.rel (fun i=>w3.heap.size<=i/\a1≠some ⟨i,0,none⟩/\i<w9.heap.size) w9 (mccells (clsM us O p) a7 c7 a8 c8) (clsM us O p):=by
   refine ⟨a7,c7,a8,c8,rfl,?_,?_,Nat.le_trans hps (by decide),O7.capn.1⟩
   ·exact owp_sl (enc:=encTy) ((O7.bl B78).bl k9.bl) (by show (ftL us (decl us) O.oc _ p).length<=_;omega) fun g hg=>by
     have q1:=O7.lt hg
     exact ⟨by omega,fun e=>by have:=(O4.lt e).2;omega,by omega⟩
   ·exact owp_sl (enc:=encInt) (O8.bl k9.bl) (by rw [List.length_map];omega) fun g hg=>by
     have q1:=O8.lt hg
     exact ⟨by omega,fun e=>by have:=(O4.lt e).2;omega,by omega⟩
  have hO10':=OwC.push e1 e3 e4 hO10 hA10 hf10 hrel
  have x10:=hA10.box (Bl.box B49 x4) fun e=>by have:=hna _ e;omega
  refine st x10 fun w11 k11 x11 => ?_
  have e5:(O.oc.take (j+1)).map (clsM us O)=(O.oc.take j).map (clsM us O)++[clsM us O p]:=map_snoc hp
  have N10:Nc b3 w3 w10:=(N4.bl B49).ap hA10 hna
  exact ih hjl ⟨rfl,N10.wr k11 (.inl rfl),a10,c10,by rw [e5,List.length_append];exact x11,by rw [e5];exact hO10'.wr k11 (by omega) fun i hi=>by omega⟩
 refine brF ?_
 obtain rfl:j=O.oc.length:=by omega
 rw [List.take_length] at x4 O4
 have SC4:Sl eMC (fun i=>w3.heap.size<=i/\i<w4.heap.size) w4 a1 (O.oc.map (clsM us O)):=O4.sl2 (by rw [List.length_map];omega)
 have x24:=N4.box x2 (by omega)
 clear ih
 refine ld (B4.cl hcs) ?_
 refine lpk (vals:=[]) O.os.length 63 [] [(0,.pointer (some ⟨b,0,none⟩)),(2,.pointer (some ⟨b2,0,none⟩)),(3,.pointer (some ⟨b3,0,none⟩)),(61,.slice as' O.os.length cs'),(62,I O.os.length)]
  (fun j vals w'=>vals=[]/\Nc b3 w4 w'/\∃ a2 c2,Box w' b3 29 (mdc a1 (O.oc.map (clsM us O)).length c1 a2 ((O.os.take j).map (staM us O)).length c2 none 0 0 O.oz.length)/\OwP 2 encTy w' w4.heap.size 51 a2 c2 ((O.os.take j).map (staM us O)))
  ⟨rfl,.of_bl (Bl.refl _),none,0,x4,Ow.nil ..⟩ ?_
 rintro j vals w5 hj ⟨rfl,N5,a2,c2,x5,O5⟩ ih
 have B5:Bl w w5:=Nc.below B4 N5 (by omega) B4.size
 have z5:=N5.size
 by_cases hjl:j<O.os.length
 ·refine brT ?_
  obtain ⟨p,bf,off,cs,hp,rfl,_,hAt,rfl⟩:=at_some (hSs.bl B5) hjl
  obtain ⟨⟨n,k⟩,hg⟩:=mem_keys (hO.os p (List.mem_of_getElem? hp))
  obtain ⟨u,f,hu,hf⟩:=dok.st p _ hg
  have hum:=List.mem_of_getElem? hu
  refine ix ?_
  refine ld (hAt 0 _ rfl) ?_
  obtain ⟨m1,h1,hm1⟩:=(h.bl B5).lnk.st
  refine ld h1 ?_
  refine lk tD hm1 ?_
  rw [hg]
  refine al fun b8 w6 k6 => ?_
  refine sta (vs:=[I n,I k]) (cs':=[I n,I k]) k6.box fun w7 k7 x7 => ?_
  have hna:∀ g,a2=some ⟨g,0,none⟩->w4.heap.size<=g/\g<w5.heap.size:=fun g hg=>O5.lt hg
  have z6:=k6.size
  have y6:=k6.blk
  have z7:=k7.size
  refine dht 1 (fun i=>i<w4.heap.size∨i=b8) (List.range 23) fun w8 k8 => ?_
  have z8:w8.heap.size=w7.heap.size:=by rw [k8.heap]
  have B58:=(k6.wr k7).trans k8.bl
  have B8:=B5.trans B58
  have x8:=Bl.box k8.bl x7
  obtain ⟨a,cu,h0,hS⟩:=h.lnk.us
  obtain ⟨b6,o6,cs6,rfl,_,hAt6,ua,rfl,hU⟩:=hS.el n u hu
  obtain ⟨b7,o7,cs7,e7,_,hAt7,rfl⟩:=hU.sta.el k f hf
  have hn:n<us.length:=(List.getElem?_eq_some_iff.1 hu).1
  have hk:k<u.statics.length:=(List.getElem?_eq_some_iff.1 hf).1
  have hb6:b6<w.heap.size:=cell_lt (hAt6 3 _ rfl)
  have hb7:b7<w.heap.size:=cell_lt (hAt7 0 _ rfl)
  have sB:=B3.size
  refine ld ((Bl.box B58 x5).cell rfl) ?_ (hm:=by exact .inl (by omega))
  refine ld (x8.cell rfl) ?_ (hm:=by exact .inr rfl)
  refine ld (B8.cl h0) ?_ (hm:=by exact .inl (by omega))
  refine ld (x8.cell rfl) ?_ (hm:=by exact .inr rfl)
  refine ix ?_
  refine ld ((hAt6.bl B8) 3 _ rfl) ?_ (hm:=by exact .inl (by omega))
  refine ld (x8.cell rfl) ?_ (hm:=by exact .inr rfl)
  rw [e7]
  refine ix ?_
  refine lda ((hAt7.bl B8).sub 1 2) ?_ (hm:=by exact .inl (by omega))
  refine cl (k_kind (h.bl B8) hu ((hI u hum).sty f (List.mem_of_getElem? hf))) ?_
  rintro _ w9 ⟨rfl,B89⟩
  refine bs (cs:=encTy (kindM O.oc u f.ty)) fun b10 w10 k10 => ?_
  have B510:=(B58.trans B89).trans k10.bl
  have O10:=O5.bl B510
  have z10:=B510.size
  have y10:=k10.blk
  have s9:=B89.size
  have hl:((O.os.take j).map (staM us O)).length<=50:=by rw [List.length_map,List.length_take];omega
  have e1:(O.os.take (j+1)).map (staM us O)=(O.os.take j).map (staM us O)++[kindM O.oc u f.ty]:=by rw [map_snoc hp,staM_at hg hu hf]
  refine apl (l1:=[kindM O.oc u f.ty]) O10 (.inr ⟨b10,0,rfl,k10.box.at⟩) (by omega) (fun a11 c11 w11 hO11 hA11 _ => ?_) (hb:=by simp only [List.length_cons,List.length_nil];omega) (hn:=by simp only [List.length_cons,List.length_nil];omega) (hm:=apS fun g hg q=>by have:=hna g hg;rcases q with q | q <;> omega)
  have x11:=hA11.box (Bl.box B510 x5) fun e=>by have:=hna _ e;omega
  refine st x11 fun w12 k12 x12 => ?_
  have N11:Nc b3 w4 w11:=(N5.bl B510).ap hA11 fun g hg=>(hna g hg).1
  exact ih hjl ⟨rfl,N11.wr k12 (.inl rfl),a11,c11,by rw [e1];exact x12,by rw [e1];exact hO11.wr k12 fun g hg=>by have:=(hO11.lt hg).1;omega⟩
 refine brF ?_
 obtain rfl:j=O.os.length:=by omega
 rw [List.take_length] at x5 O5
 have SC5:=SC4.kp (N5.nb.kp.sub fun i hi=>by omega)
 have SS5:Sl eTy (fun i=>w3.heap.size<=i/\i<w5.heap.size) w5 a2 (O.os.map (staM us O)):=owp_sl O5 (by rw [List.length_map];omega) fun g hg=>by have:=O5.lt hg;omega
 have x25:=N5.box x24 (by omega)
 clear ih
 refine ld (B5.cl hcm) ?_
 refine lpk (vals:=[]) O.om.length 103 [] [(0,.pointer (some ⟨b,0,none⟩)),(2,.pointer (some ⟨b2,0,none⟩)),(3,.pointer (some ⟨b3,0,none⟩)),(101,.slice am O.om.length cm),(102,I O.om.length)]
  (fun j vals w'=>vals=[]/\Nc b3 w5 w'/\∃ a3 c3,Box w' b3 29 (mdc a1 (O.oc.map (clsM us O)).length c1 a2 (O.os.map (staM us O)).length c2 a3 ((O.om.take j).map (mthM us O)).length c3 O.oz.length)/\OwC eMM (fun i=>w5.heap.size<=i) w' w5.heap.size 54 a3 c3 ((O.om.take j).map (mthM us O)))
  ⟨rfl,.of_bl (Bl.refl _),none,0,x5,OwC.nil ..⟩ ?_
 rintro j vals w6 hj ⟨rfl,N6,a3,c3,x6,O6⟩ ih
 have B6:Bl w w6:=Nc.below B5 N6 (by omega) B5.size
 have z6:=N6.size
 have sB:=B3.size
 by_cases hjl:j<O.om.length
 ·refine brT ?_
  obtain ⟨p,bf,off,cs,hp,rfl,_,hAt,rfl⟩:=at_some (hSm.bl B6) hjl
  obtain ⟨n,k,u,m,hm⟩:=mthI_of dok (hO.om p (List.mem_of_getElem? hp))
  have hum:=List.mem_of_getElem? hm.hu
  have hmm:=List.mem_of_getElem? hm.hm
  have hg:=hm.g
  unfold mthD at hg
  have hna:∀ g,a3=some ⟨g,0,none⟩->w5.heap.size<=g/\g<w6.heap.size:=fun g hg=>O6.lt hg
  refine ix ?_
  refine ld (hAt 0 _ rfl) ?_
  obtain ⟨m1,h1,hm1⟩:=(h.bl B6).lnk.ca
  refine ld h1 ?_
  refine lko tD hm1 ?_
  rw [getD_enc]
  refine al fun b11 w7 k7 => ?_
  refine sta k7.box fun w8 k8 x8 => ?_
  have B68:=k7.wr k8
  have y7:=k7.blk
  have z7:=k7.size
  have z8:=k8.size
  refine jn [] [(0,.pointer (some ⟨b,0,none⟩)),(2,.pointer (some ⟨b2,0,none⟩)),(3,.pointer (some ⟨b3,0,none⟩)),(101,.slice (some ⟨bf,off,none⟩) O.om.length cm),(102,I O.om.length),(103,I j),(10,.string p),(11,.pointer (some ⟨b11,0,none⟩))] (fun vals w'=>vals=[]/\Box w' b11 151 [I n,I k]/\Bl w6 w') (fun q jo => ?_) (fun q jo => ?_) ?_
  ·have hn:getM (decl us).calls p=none:=by
    simp only [hasM,Bool.not_eq_true'] at q
    cases hc:getM (decl us).calls p with
    | none=>rfl
    | some d=>rw [hc] at q;cases q
   have hg2:getM (decl us).sends p=some (n,k):=by rw [hn] at hg;exact hg
   obtain ⟨m2,h2,hm2⟩:=(h.bl (B6.trans B68)).lnk.se
   refine ld h2 ?_
   refine lk tD hm2 ?_
   rw [hg2]
   refine sta (vs:=[I n,I k]) (cs':=[I n,I k]) x8 fun w9 k9 x9 => ?_
   exact jo ⟨rfl,x9,Below.trans B68 (k9.below (Nat.le_of_eq k7.blk.symm))⟩
  ·simp only [hasM,Bool.not_eq_false'] at q
   obtain ⟨d,hd⟩:=Option.isSome_iff_exists.1 q
   have hd2:d=(n,k):=by rw [hd] at hg;exact Option.some.inj hg
   rw [hd,hd2] at x8
   exact jo ⟨rfl,x8,B68⟩
  clear x8 k8 B68 z8 k7 z7
  rintro _ w8 ⟨rfl,x8,B68⟩
  have z8:=B68.size
  have l8:=x8.lt
  obtain ⟨a,cu,h0,hS⟩:=h.lnk.us
  obtain ⟨b6,o6,cs6,rfl,_,hAt6,ua,rfl,hU⟩:=hS.el n u hm.hu
  obtain ⟨b7,o7,cs7,e7,_,hAt7,p1,d1,p2,d2,p3,d3,rfl,hF1,hF2,hF3⟩:=hU.mth.el k m hm.hm
  have hn:n<us.length:=(List.getElem?_eq_some_iff.1 hm.hu).1
  have hk:k<u.methods.length:=(List.getElem?_eq_some_iff.1 hm.hm).1
  have hb6:b6<w.heap.size:=cell_lt (hAt6 4 _ rfl)
  have hb7:b7<w.heap.size:=cell_lt (hAt7 0 _ rfl)
  have sB6:=B6.size
  have hcl:0<=m.cls->inP u m.cls:=fun q=>((hI u hum).plc.mc m hmm).resolve_left (by omega)
  refine dh (· < w8.heap.size) (List.range 15) fun w9 k9 => ?_
  have B69:=B68.trans k9.bl
  have z9:w9.heap.size=w8.heap.size:=by rw [k9.heap]
  have B9:=B6.trans B69
  have x9:=Bl.box k9.bl x8
  refine ld (B9.cl h0) ?_ (hm:=by show b<_;omega)
  refine ld (x9.cell rfl) ?_ (hm:=by show b11<_;omega)
  refine ix ?_
  refine ld ((hAt6.bl B9) 4 _ rfl) ?_ (hm:=by show b6<_;omega)
  refine ld (x9.cell rfl) ?_ (hm:=by show b11<_;omega)
  rw [e7]
  refine ix ?_
  refine lda (hAt7.bl B9) ?_ (hm:=by show b7<_;omega)
  refine al fun b13 w10 k10 => ?_
  have y10:=k10.blk
  have z10:=k10.size
  refine sta k10.box (fun w11 k11 x11 => ?_) (hm:=wrS (by show ¬b13<_;omega))
  have z11:=k11.size
  have B611:Bl w6 w11:=B69.trans (k10.wr k11)
  have B11:=B6.trans B611
  have d11:=Bl.box (k10.wr k11) x9
  refine cut [14] [(0,.pointer (some ⟨b,0,none⟩)),(2,.pointer (some ⟨b2,0,none⟩)),(3,.pointer (some ⟨b3,0,none⟩)),(101,.slice (some ⟨bf,off,none⟩) O.om.length cm),(102,I O.om.length),(103,I j),(10,.string p),(11,.pointer (some ⟨b11,0,none⟩)),(13,.pointer (some ⟨b13,0,none⟩))]
   (fun vals w'=>∃ b14 a5 c5 a6 c6,vals=[.pointer (some ⟨b14,0,none⟩)]/\w11.heap.size<=b14/\Bl w11 w'/\Box w' b14 54 (mmcells ⟨p,-1,m.params.map (kindM O.oc u),m.locals.map (kindM O.oc u),kindM O.oc u m.result,[]⟩ a5 c5 a6 c6 none 0) /\
    Sl eTy (fun i=>w11.heap.size<=i/\i<w'.heap.size/\i≠b14) w' a5 (m.params.map (kindM O.oc u))/\Sl eTy (fun i=>w11.heap.size<=i/\i<w'.heap.size/\i≠b14) w' a6 (m.locals.map (kindM O.oc u))) (fun jo => ?_) ?_
  ·refine dhb (· < w11.heap.size) (.row [0,1,2,3,4,5,7,8,9,10,11,13,14,15,16,17] (.two 6 (.two 12 (.two 18 (.row [19,20,21] .done) 20 (.row [18,19,21] .done)) 20 (.row [12,18,19,21] .done)) 20 (.row [6,12,18,19,21] .done))) fun w12 k12 => ?_
   have hIu:=hI u hum
   have hty1:∀ t∈m.params,optP u t.cls:=fun t ht=>hIu.mty m hmm t (List.mem_append_left _ (List.mem_append_left _ ht))
   have hty2:∀ t∈m.locals,optP u t.cls:=fun t ht=>hIu.mty m hmm t (List.mem_append_left _ (List.mem_append_right _ ht))
   have hty3:optP u m.result.cls:=hIu.mty m hmm _ (List.mem_append_right _ (List.mem_singleton.2 rfl))
   have g1:=hF1.big
   have g2:=hF2.big
   have l11:=x11.lt
   have B1_12:=k12.bl
   have s12:w12.heap.size=w11.heap.size:=by rw [k12.heap]
   have d12:=Bl.box k12.bl d11
   have x12:=Bl.box k12.bl x11
   refine ld (d12.cell rfl) ?_ (hm:=by show b11<_;omega)
   refine ld (x12.cell rfl) ?_ (hm:=by show b13<_;omega)
   refine ld (d12.cell rfl) ?_ (hm:=by show b11<_;omega)
   refine ld (x12.cell rfl) ?_ (hm:=by show b13<_;omega)
   refine ld (d12.cell rfl) ?_ (hm:=by show b11<_;omega)
   refine lda (x12.at.sub 4 2) ?_ (hm:=by show b13<_;omega)
   refine bt ?_ ?_
   ·refine cl (k_kinds (h.bl (B11.trans B1_12)) hm.hu ((hF1.bl (B11.trans B1_12)).sub fun _ _=>trivial) hty1) ?_ (hm:=fun _ _ r=>by obtain ⟨_,_,_,_,hB⟩:=r;exact mdW_bl hB)
    rintro _ v13 ⟨a5,c5,rfl,O5_13,q13⟩
    have s13:=q13.size
    have l5:=fun g (hg:a5=some ⟨g,0,none⟩)=>O5_13.lt hg
    have B1_13:=B1_12.trans q13
    refine bt ?_ ?_
    ·refine cl (k_kinds (h.bl (B11.trans B1_13)) hm.hu ((hF2.bl (B11.trans B1_13)).sub fun _ _=>trivial) hty2) ?_ (hm:=fun _ _ r=>by obtain ⟨_,_,_,_,hB⟩:=r;exact mdW_bl hB)
     rintro _ v14 ⟨a6,c6,rfl,O6_14,q14⟩
     have s14:=q14.size
     have l6:=fun g (hg:a6=some ⟨g,0,none⟩)=>O6_14.lt hg
     have B1_14:=B1_13.trans q14
     have O5_14:=O5_13.bl q14
     refine bt ?_ ?_
     ·refine cl (k_kind (h.bl (B11.trans B1_14)) hm.hu hty3) ?_
      rintro _ v15 ⟨rfl,q15⟩
      have s15:=q15.size
      have B1_15:=B1_14.trans q15
      have O5_15:=O5_14.bl q15
      have O6_15:=O6_14.bl q15
      refine bd ?_
      refine al fun b14 v16 k16 => ?_
      have q16:=k16.bl
      have s16:=k16.size
      have y14:=k16.blk
      have B1_16:=B1_15.trans q16
      have x_16:Box v16 b14 54 _:=k16.box
      have O5_16:=O5_15.bl q16
      have O6_16:=O6_15.bl q16
      refine sta (cs':=(mmcells ⟨p,-1,m.params.map (kindM O.oc u),m.locals.map (kindM O.oc u),kindM O.oc u m.result,[]⟩ a5 c5 a6 c6 none 0)) x_16 (fun wz kz xz => ?_) (hm:=wrB (by show ¬b14<_;omega))
      have sz:=kz.size
      refine jo ⟨b14,a5,c5,a6,c6,rfl,by omega,Below.trans B1_16 (kz.below (by omega)),xz,?_,?_⟩
      ·exact owp_sl (O5_16.wr kz fun g hg=>by have:=l5 g hg;omega) (by rw [List.length_map];omega) fun g hg=>by have:=l5 g hg;exact ⟨by omega,by omega,by omega⟩
      ·exact owp_sl (O6_16.wr kz fun g hg=>by have:=l6 g hg;omega) (by rw [List.length_map];omega) fun g hg=>by have:=l6 g hg;exact ⟨by omega,by omega,by omega⟩
     ·refine al fun b14 v15 k15 => ?_
      have q15:=k15.bl
      have s15:=k15.size
      have y14:=k15.blk
      have B1_15:=B1_14.trans q15
      have x_15:Box v15 b14 54 _:=k15.box
      have O5_15:=O5_14.bl q15
      have O6_15:=O6_14.bl q15
      refine cl (k_kind (h.bl (B11.trans B1_15)) hm.hu hty3) ?_
      rintro _ v16 ⟨rfl,q16⟩
      have s16:=q16.size
      have B1_16:=B1_15.trans q16
      have O5_16:=O5_15.bl q16
      have O6_16:=O6_15.bl q16
      have x_16:=Bl.box q16 x_15
      refine bd ?_
      refine sta (cs':=(mmcells ⟨p,-1,m.params.map (kindM O.oc u),m.locals.map (kindM O.oc u),kindM O.oc u m.result,[]⟩ a5 c5 a6 c6 none 0)) x_16 (fun wz kz xz => ?_) (hm:=wrB (by show ¬b14<_;omega))
      have sz:=kz.size
      refine jo ⟨b14,a5,c5,a6,c6,rfl,by omega,Below.trans B1_16 (kz.below (by omega)),xz,?_,?_⟩
      ·exact owp_sl (O5_16.wr kz fun g hg=>by have:=l5 g hg;omega) (by rw [List.length_map];omega) fun g hg=>by have:=l5 g hg;exact ⟨by omega,by omega,by omega⟩
      ·exact owp_sl (O6_16.wr kz fun g hg=>by have:=l6 g hg;omega) (by rw [List.length_map];omega) fun g hg=>by have:=l6 g hg;exact ⟨by omega,by omega,by omega⟩
    ·refine al fun b14 v14 k14 => ?_
     have q14:=k14.bl
     have s14:=k14.size
     have y14:=k14.blk
     have B1_14:=B1_13.trans q14
     have x_14:Box v14 b14 54 _:=k14.box
     have O5_14:=O5_13.bl q14
     refine cl (k_kinds (h.bl (B11.trans B1_14)) hm.hu ((hF2.bl (B11.trans B1_14)).sub fun _ _=>trivial) hty2) ?_ (hm:=fun _ _ r=>by obtain ⟨_,_,_,_,hB⟩:=r;exact mdW_bl hB)
     rintro _ v15 ⟨a6,c6,rfl,O6_15,q15⟩
     have s15:=q15.size
     have l6:=fun g (hg:a6=some ⟨g,0,none⟩)=>O6_15.lt hg
     have B1_15:=B1_14.trans q15
     have O5_15:=O5_14.bl q15
     have x_15:=Bl.box q15 x_14
     refine cl (k_kind (h.bl (B11.trans B1_15)) hm.hu hty3) ?_
     rintro _ v16 ⟨rfl,q16⟩
     have s16:=q16.size
     have B1_16:=B1_15.trans q16
     have O5_16:=O5_15.bl q16
     have O6_16:=O6_15.bl q16
     have x_16:=Bl.box q16 x_15
     refine bd ?_
     refine sta (cs':=(mmcells ⟨p,-1,m.params.map (kindM O.oc u),m.locals.map (kindM O.oc u),kindM O.oc u m.result,[]⟩ a5 c5 a6 c6 none 0)) x_16 (fun wz kz xz => ?_) (hm:=wrB (by show ¬b14<_;omega))
     have sz:=kz.size
     refine jo ⟨b14,a5,c5,a6,c6,rfl,by omega,Below.trans B1_16 (kz.below (by omega)),xz,?_,?_⟩
     ·exact owp_sl (O5_16.wr kz fun g hg=>by have:=l5 g hg;omega) (by rw [List.length_map];omega) fun g hg=>by have:=l5 g hg;exact ⟨by omega,by omega,by omega⟩
     ·exact owp_sl (O6_16.wr kz fun g hg=>by have:=l6 g hg;omega) (by rw [List.length_map];omega) fun g hg=>by have:=l6 g hg;exact ⟨by omega,by omega,by omega⟩
   ·refine al fun b14 v13 k13 => ?_
    have q13:=k13.bl
    have s13:=k13.size
    have y14:=k13.blk
    have B1_13:=B1_12.trans q13
    have x_13:Box v13 b14 54 _:=k13.box
    refine cl (k_kinds (h.bl (B11.trans B1_13)) hm.hu ((hF1.bl (B11.trans B1_13)).sub fun _ _=>trivial) hty1) ?_ (hm:=fun _ _ r=>by obtain ⟨_,_,_,_,hB⟩:=r;exact mdW_bl hB)
    rintro _ v14 ⟨a5,c5,rfl,O5_14,q14⟩
    have s14:=q14.size
    have l5:=fun g (hg:a5=some ⟨g,0,none⟩)=>O5_14.lt hg
    have B1_14:=B1_13.trans q14
    have x_14:=Bl.box q14 x_13
    refine cl (k_kinds (h.bl (B11.trans B1_14)) hm.hu ((hF2.bl (B11.trans B1_14)).sub fun _ _=>trivial) hty2) ?_ (hm:=fun _ _ r=>by obtain ⟨_,_,_,_,hB⟩:=r;exact mdW_bl hB)
    rintro _ v15 ⟨a6,c6,rfl,O6_15,q15⟩
    have s15:=q15.size
    have l6:=fun g (hg:a6=some ⟨g,0,none⟩)=>O6_15.lt hg
    have B1_15:=B1_14.trans q15
    have O5_15:=O5_14.bl q15
    have x_15:=Bl.box q15 x_14
    refine cl (k_kind (h.bl (B11.trans B1_15)) hm.hu hty3) ?_
    rintro _ v16 ⟨rfl,q16⟩
    have s16:=q16.size
    have B1_16:=B1_15.trans q16
    have O5_16:=O5_15.bl q16
    have O6_16:=O6_15.bl q16
    have x_16:=Bl.box q16 x_15
    refine bd ?_
    refine sta (cs':=(mmcells ⟨p,-1,m.params.map (kindM O.oc u),m.locals.map (kindM O.oc u),kindM O.oc u m.result,[]⟩ a5 c5 a6 c6 none 0)) x_16 (fun wz kz xz => ?_) (hm:=wrB (by show ¬b14<_;omega))
    have sz:=kz.size
    refine jo ⟨b14,a5,c5,a6,c6,rfl,by omega,Below.trans B1_16 (kz.below (by omega)),xz,?_,?_⟩
    ·exact owp_sl (O5_16.wr kz fun g hg=>by have:=l5 g hg;omega) (by rw [List.length_map];omega) fun g hg=>by have:=l5 g hg;exact ⟨by omega,by omega,by omega⟩
    ·exact owp_sl (O6_16.wr kz fun g hg=>by have:=l6 g hg;omega) (by rw [List.length_map];omega) fun g hg=>by have:=l6 g hg;exact ⟨by omega,by omega,by omega⟩
  rintro _ w12 ⟨b14,a5,c5,a6,c6,rfl,hb14,B1112,x12,S5,S6⟩
  have z12:=B1112.size
  have l12:=x12.lt
  have B612:=B611.trans B1112
  have B12:=B6.trans B612
  have d12:=Bl.box B1112 d11
  have xm12:=Bl.box B1112 x11
  refine ld (xm12.cell rfl) ?_
  refine jn [] [(0,.pointer (some ⟨b,0,none⟩)),(2,.pointer (some ⟨b2,0,none⟩)),(3,.pointer (some ⟨b3,0,none⟩)),(101,.slice (some ⟨bf,off,none⟩) O.om.length cm),(102,I O.om.length),(103,I j),(10,.string p),(11,.pointer (some ⟨b11,0,none⟩)),(13,.pointer (some ⟨b13,0,none⟩)),(14,.pointer (some ⟨b14,0,none⟩))]
   (fun vals w'=>vals=[]/\Nc b14 w12 w'/\Box w' b14 54 (mmcells ⟨p,if 0<=m.cls then idxB O.oc (nm u m.cls) else -1,m.params.map (kindM O.oc u),m.locals.map (kindM O.oc u),kindM O.oc u m.result,[]⟩ a5 c5 a6 c6 none 0)) (fun q jo => ?_) (fun q jo => ?_) ?_
  ·have q0:0<=m.cls:=of_decide_eq_true q
   refine dt 1 fun w13 k13 => ?_
   have B13:=B12.trans k13.bl
   refine ld (B13.cl hcc) ?_
   refine ld ((k13.box d12).cell rfl) ?_
   refine ld ((k13.box xm12).cell rfl) ?_
   refine clq (k_path (h.bl B13).lnk hm.hu (hcl q0)) ?_
   refine clq (l_Index (hSc.bl B13) cc _) ?_
   refine st (k13.box x12) fun w14 k14 x14 => ?_
   exact jo ⟨rfl,(Nc.of_bl k13.bl).wr k14 (.inl rfl),by rw [if_pos q0];exact x14⟩
  ·have q0:¬0<=m.cls:=of_decide_eq_false q
   exact jo ⟨rfl,.of_bl (Bl.refl _),by rw [if_neg q0];exact x12⟩
  rintro _ w13 ⟨rfl,N13,x13⟩
  have z13:=N13.size
  have B13:Bl w w13:=Nc.below B12 N13 (by omega) B12.size
  have g3:=code_len (hC u hum) hmm
  have xm13:=N13.box xm12 (by omega)
  refine ld (xm13.cell rfl) ?_
  refine lpk (vals:=[]) m.code.length 176 [] [(0,.pointer (some ⟨b,0,none⟩)),(2,.pointer (some ⟨b2,0,none⟩)),(3,.pointer (some ⟨b3,0,none⟩)),(101,.slice (some ⟨bf,off,none⟩) O.om.length cm),(102,I O.om.length),(103,I j),(10,.string p),(11,.pointer (some ⟨b11,0,none⟩)),(14,.pointer (some ⟨b14,0,none⟩)),(174,.slice p3 m.code.length d3),(175,I m.code.length)]
   (fun i vals w'=>vals=[]/\Nc b14 w13 w'/\∃ a7 c7,Box w' b14 54 [.string p,I (if 0<=m.cls then idxB O.oc (nm u m.cls) else -1),.slice a5 (m.params.map (kindM O.oc u)).length c5,.slice a6 (m.locals.map (kindM O.oc u)).length c6,I (kindM O.oc u m.result).kind,I (kindM O.oc u m.result).cls,.slice a7 ((m.code.take i).map (instM us O u)).length c7]/\OwP 3 encIns w' w13.heap.size 120 a7 c7 ((m.code.take i).map (instM us O u)))
   ⟨rfl,.of_bl (Bl.refl _),none,0,x13,Ow.nil ..⟩ ?_
  rintro i vals w14 hi ⟨rfl,N14,a7,c7,x14,O14⟩ ih2
  have z14:=N14.size
  have B14:Bl w w14:=Nc.below B13 N14 (by omega) B13.size
  have N1214:=N13.trans N14
  have d14:=N1214.box d12 (by omega)
  by_cases hil:i<m.code.length
  ·refine brT ?_
   obtain ⟨ins,bg,og,csg,hin,rfl,_,hAtg,rfl⟩:=at_some (hF3.bl B14) hil
   have him:=List.mem_of_getElem? hin
   have hIu:=hI u hum
   have l7:=fun g (hg:a7=some ⟨g,0,none⟩)=>O14.lt hg
   refine ix ?_
   refine lda hAtg ?_
   refine al fun b16 w15 k15 => ?_
   refine sta k15.box fun w16 k16 x16 => ?_
   have y15:=k15.blk
   have z15:=k15.size
   have z16:=k16.size
   have lx14:=x14.lt
   refine dht 1 (fun i=>i<w13.heap.size∨i=b16) (List.range 10) fun w17 k17 => ?_
   have B1417:=(k15.wr k16).trans k17.bl
   have B17:=B14.trans B1417
   have z17:w17.heap.size=w16.heap.size:=by rw [k17.heap]
   have ld11:=d12.lt
   refine ld ((Bl.box B1417 x14).cell rfl) ?_ (hm:=by exact .inl (by omega))
   refine ld ((Bl.box B1417 d14).cell rfl) ?_ (hm:=by exact .inl (by omega))
   refine lda (Bl.box k17.bl x16).at ?_ (hm:=by exact .inr rfl)
   refine cl (k_instr (h.bl B17) hm.hu (hIu.opa m hmm ins him) (hIu.opb m hmm ins him) (fld_dot (hC u hum) hmm him)) ?_
   rintro _ w18 ⟨rfl,B1718⟩
   refine bs (cs:=encIns (instM us O u ins)) fun b19 w19 k19 => ?_
   have B1419:=(B1417.trans B1718).trans k19.bl
   have z18:=B1718.size
   have z19:=k19.size
   have y19:=k19.blk
   have e1:(m.code.take (i+1)).map (instM us O u)=(m.code.take i).map (instM us O u)++[instM us O u ins]:=map_snoc hin
   have hl:((m.code.take i).map (instM us O u)).length<=120:=by rw [List.length_map,List.length_take];omega
   refine apl (l1:=[instM us O u ins]) (O14.bl B1419) (.inr ⟨b19,0,rfl,k19.box.at⟩) (by omega) (fun a20 c20 w20 O20 A20 _ => ?_) (hb:=by simp only [List.length_cons,List.length_nil];omega) (hn:=by simp only [List.length_cons,List.length_nil];omega) (hm:=apS fun g hg q=>by have:=l7 g hg;rcases q with q | q <;> omega)
   have x20:=A20.box (Bl.box B1419 x14) fun e=>by have:=l7 _ e;omega
   refine st x20 fun w21 k21 x21 => ?_
   have N20:Nc b14 w13 w20:=(N14.bl B1419).ap A20 fun g hg=>(l7 g hg).1
   exact ih2 hil ⟨rfl,N20.wr k21 (.inl rfl),a20,c20,by rw [e1];exact x21,by rw [e1];exact O20.wr k21 fun g hg=>by have:=(O20.lt hg).1;omega⟩
  refine brF ?_
  obtain rfl:i=m.code.length:=by omega
  rw [List.take_length] at x14 O14
  clear ih2
  have N614:Nc b14 w6 w14:=(Nc.of_bl B612).trans N1214
  have x614:=N614.box x6 (by have:=x6.lt;omega)
  refine ld (x614.cell rfl) ?_
  refine lda x14.at ?_
  refine bs (cs:=mmcells (mthM us O p) a5 c5 a6 c6 a7 c7) (fun b15 w15 k15 => ?_) (hcs:=by rw [mthM_at hm];rfl)
  have y15:=k15.blk
  have z15:=k15.size
  have B614:Bl w6 w14:=Nc.below B612 N1214 (by omega) B612.size
  have B615:Bl w6 w15:=B614.trans k15.bl
  obtain ⟨xs,e1,e3,hOx,e4⟩:=(O6.bl B615).row
  have hl9:((O.om.take j).map (mthM us O)).length<=80:=by rw [List.length_map,List.length_take];omega
  refine ap hOx (.inr ⟨b15,0,rfl,k15.box.at⟩) (by omega) (fun a16 c16 w16 hO16 hA16 hf16 => ?_)
  have hrel:eMM.rel (fun i=>w5.heap.size<=i/\a3≠some ⟨i,0,none⟩/\i<w15.heap.size) w15 (mmcells (mthM us O p) a5 c5 a6 c6 a7 c7) (mthM us O p):=by
   have hps:p.size<=200:=hO.zm p (List.mem_of_getElem? hp)
   rw [mthM_at hm]
   refine ⟨a5,c5,a6,c6,a7,c7,rfl,?_,?_,?_,Nat.le_trans hps (by decide)⟩
   ·exact ((S5.kp (N1214.nb.kp.sub fun i hi=>hi.2.2)).bl k15.bl).sub fun i hi=>⟨by omega,fun e=>by have:=hna _ e;omega,by omega⟩
   ·exact ((S6.kp (N1214.nb.kp.sub fun i hi=>hi.2.2)).bl k15.bl).sub fun i hi=>⟨by omega,fun e=>by have:=hna _ e;omega,by omega⟩
   ·exact owp_sl (O14.bl k15.bl) (by rw [List.length_map];omega) fun g hg=>by
     have q1:=O14.lt hg
     exact ⟨by omega,fun e=>by have:=hna _ e;omega,by omega⟩
  have hO16':=OwC.push e1 e3 e4 hO16 hA16 hf16 hrel
  have x16:=hA16.box (Bl.box k15.bl x614) fun e=>by have:=hna _ e;omega
  refine st x16 fun w17 k17 x17 => ?_
  have e5:(O.om.take (j+1)).map (mthM us O)=(O.om.take j).map (mthM us O)++[mthM us O p]:=map_snoc hp
  have N16:Nc b3 w5 w16:=(N6.bl B615).ap hA16 fun g hg=>(hna g hg).1
  exact ih hjl ⟨rfl,N16.wr k17 (.inl rfl),a16,c16,by rw [e5,List.length_append];exact x17,by rw [e5];exact hO16'.wr k17 (by omega) fun i hi=>by omega⟩
 refine brF ?_
 obtain rfl:j=O.om.length:=by omega
 rw [List.take_length] at x6 O6
 have SC6:=SC5.kp (N6.nb.kp.sub fun i hi=>by omega)
 have SS6:=SS5.kp (N6.nb.kp.sub fun i hi=>by omega)
 have SM6:Sl eMM (fun i=>w5.heap.size<=i/\i<w6.heap.size) w6 a3 (O.om.map (mthM us O)):=O6.sl2 (by rw [List.length_map];omega)
 have x26:=N6.box x25 (by omega)
 refine lda x6.at ?_
 refine sta (cs':=mdc a1 (O.oc.map (clsM us O)).length c1 a2 (O.os.map (staM us O)).length c2 a3 (O.om.map (mthM us O)).length c3 O.oz.length) x26 fun w7 k7 x7 => ?_
 have z7:=k7.size
 refine rtc (cs:=mdc a1 (O.oc.map (clsM us O)).length c1 a2 (O.os.map (staM us O)).length c2 a3 (O.om.map (mthM us O)).length c3 O.oz.length) x7.at ⟨⟨a1,c1,a2,c2,a3,c3⟩,rfl,⟨?_,?_,?_⟩,Below.trans B6 (k7.below (by omega))⟩
 ·exact (SC6.kp (k7.kp fun i hi=>by omega)).sub fun i hi=>by omega
 ·exact (SS6.kp (k7.kp fun i hi=>by omega)).sub fun i hi=>by omega
 ·exact (SM6.kp (k7.kp fun i hi=>by omega)).sub fun i hi=>by omega
end Go.Proofs.YtkmdfjpafkcleaaGreatDoor
namespace Go.Proofs.YtkmdfjpafkcleaaGreatDoor
open Eng Go.RowKit
variable {w w':World} {b:Nat} {us:List Unt} {O:Ords}
theorem cls_ne (us:List Unt):∀ p∈(decl us).classes,0<p.1.size:=by
 have put:∀ {D:Dcl} {p:ByteArray} {v:Nat×Nat},(∀ q∈D.classes,0<q.1.size)->0<p.size->∀ q∈putM D.classes p v,0<q.1.size:=fun h hp q hq=>by
  rcases putM_in hq with rfl | hq
  ·exact hp
  ·exact h q hq
 refine foldI_ind (f:=dUnt) (l:=us) (fun _ D=>∀ p∈D.classes,0<p.1.size) (fun _ h=>by cases h) fun n u D _ h => ?_
 have h1:=foldI_ind (f:=dCls u n) (l:=u.classes) (fun _ D=>∀ p∈D.classes,0<p.1.size) h fun k x D _ h=>by
  unfold dCls
  obtain ⟨f,hf⟩:=dfld_fold u (dots u.name (nm u x.name)) x.fields { D with classes:=putM D.classes (dots u.name (nm u x.name)) (n,k) }
  rw [hf]
  exact put h (by rw [dots_sz];omega)
 have h2:=foldI_ind (f:=dSta u n) (l:=u.statics) (fun _ D=>∀ p∈D.classes,0<p.1.size) h1 fun k x D _ h=>h
 exact foldI_ind (f:=dMth u n) (l:=u.methods) (fun _ D=>∀ p∈D.classes,0<p.1.size) h2 fun k x D _ h=>by
  unfold dMth
  split <;> exact h
theorem keys_in {α:Type} {m:Mp α} {k:ByteArray} (h:k∈keysM m):∃ v,(k,v)∈m:=by
 obtain ⟨v,hv⟩:=mem_keys h
 exact ⟨v,getM_in hv⟩
structure RunK (us:List Unt):Prop where
 ck:∀ u∈us,CkU u
 n5:us.length<=5
 du:dup (us.map fun u:Unt=>u.name)=false
 df:definedL us (decl us)=true
 oc:ordC us=some (ordsL us).oc
 om:ordM us=some (ordsL us).om
 bg:bigD (decl us)=false
 ly:((ordsL us).oc.any fun p=>decide (7<(lay us p).length))=false
 dl:((ordsL us).oc.any fun p=>dup (lay us p))=false
 un:unlikeL us (decl us)=false
theorem runK_of (h:runE us=0):RunK us:=by
 unfold runE at h
 split at h
 ·cases h
 rename_i h5
 split at h
 ·rename_i h1;exact absurd h h1
 rename_i h1
 split at h
 ·cases h
 rename_i h2
 split at h
 ·cases h
 rename_i h3
 split at h
 ·cases h
 rename_i oc hoc
 split at h
 ·cases h
 rename_i h4
 split at h
 ·cases h
 rename_i h6
 split at h
 ·cases h
 rename_i h7
 split at h
 ·cases h
 rename_i h8
 split at h
 ·cases h
 rename_i om hom
 have e1:(ordsL us).oc=oc:=by unfold ordsL;rw [hoc];rfl
 have e2:(ordsL us).om=om:=by unfold ordsL;rw [hom];rfl
 refine ⟨fun u hu=>(ckU_iff u).1 (chk_all (Classical.not_not.1 h1) u hu),by omega,?_,?_,by rw [e1];exact hoc,by rw [e2];exact hom,?_,?_,?_,?_⟩
 ·simpa using h2
 ·simpa using h3
 ·simpa using h4
 ·rw [e1];simpa using h6
 ·rw [e1];simpa using h7
 ·simpa using h8
theorem RunK.f7 (h:RunK us):∀ u∈us,∀ c∈u.classes,c.fields.length<=7:=fun u hu=>(lim_of (h.ck u hu).lim).flds
theorem RunK.ook (h:RunK us):OOk us (ordsL us):=by
 have dok:=dok_decl h.ck
 have n5:=h.n5
 have hpc:=orderL_perm (show orderL (neeC us (decl us)) (keysM (decl us).classes)=some (ordsL us).oc from h.oc)
 have hpm:=orderL_perm (show orderL (calL us (decl us)) (keysM (decl us).calls++keysM (decl us).sends)=some (ordsL us).om from h.om)
 have kl:∀ {α:Type} (m:Mp α),(keysM m).length=m.length:=fun m=>by unfold keysM;rw [List.length_map]
 have lc:=dok.lc
 have ls:=dok.ls
 have lm:=dok.lm
 have ln:=dok.ln
 have hkl:(keysM (decl us).classes).length=(ordsL us).oc.length:=hpc.length_eq.symm
 refine ⟨fun p hp => ?_,fun p hp => ?_,fun p hp=>hpm.mem_iff.1 hp,fun p hp => ?_,fun p hp => ?_,by rw [kl];omega,by rw [hpc.length_eq,kl];omega,?_,by rw [hpm.length_eq,List.length_append,kl,kl];omega,?_⟩
 ·have hk:=hpc.mem_iff.1 hp
  obtain ⟨v,hv⟩:=keys_in hk
  obtain ⟨i,hi⟩:=List.mem_iff_getElem?.1 hp
  have hil:i<(ordsL us).oc.length:=(List.getElem?_eq_some_iff.1 hi).1
  refine ⟨clsI_of dok hk,deep_le (deep_of (fun q hq=>clsI_of dok (hpc.mem_iff.1 hq)) (orderL_placed h.oc) i p hi) (by omega),dok.zc _ hv,fun e => ?_⟩
  have:=cls_ne us _ hv
  simp only [e] at this
  exact absurd this (by decide)
 ·exact (sortL_perm' _).mem_iff.1 hp
 ·have hk:=(sortL_perm' _).mem_iff.1 hp
  obtain ⟨v,hv⟩:=keys_in hk
  exact dok.zn _ hv
 ·rcases List.mem_append.1 (hpm.mem_iff.1 hp) with q | q
  ·obtain ⟨v,hv⟩:=keys_in q;exact dok.za _ hv
  ·obtain ⟨v,hv⟩:=keys_in q;exact dok.ze _ hv
 ·show (sortL _).length<=_
  rw [(sortL_perm' _).length_eq,kl];omega
 ·show (sortL _).length<=_
  rw [(sortL_perm' _).length_eq,kl];omega
theorem k_Link {au:Option Addr} {cu:Nat} (hS:Sl eUnt (· < w.heap.size) w au us) (hG:Gl w) :
  Ret Tryz.prog 14 #[.slice au us.length cu] w fun v w'=>∃ a,v = .tuple #[.agg (modcells (modL us) a).toArray,I (runE us)]/\MdR (fun i=>w.heap.size<=i/\i<w'.heap.size) w' (modL us) a/\Bl w w':=by
 refine entr (vs:=[.slice au us.length cu]) [0,2,3,4,5,12] tabok Tryz.func14 (by kernel_rfl) ?_
 refine al fun b2 w1 k1 => ?_
 refine bd ?_
 refine bx (cs:=lcells (.slice au us.length cu) (.map none) (.map none) (.map none) (.map none) (.map none) (.map none) nilS nilS nilS nilS (.map none)) fun b8 w2 k2 => ?_
 have y1:=k1.blk
 have z1:=k1.size
 have y2:=k2.blk
 have z2:=k2.size
 have B2:=k1.bl.trans k2.bl
 have x2:=Bl.box k2.bl k1.box
 refine cl (k_run k2.box ((hS.bl B2).sub fun i hi=>by omega) (hG.bl B2)) ?_
 rintro _ w3 ⟨rfl,N3,hR⟩
 have z3:=N3.size
 have B3:Bl w w3:=Nc.below B2 N3 (by omega) B2.size
 have x3:=N3.box x2 (by omega)
 by_cases h0:runE us=0
 ·refine brf ?_ (hp:=by simp [h0])
  have K:=runK_of h0
  refine cl (k_module (hR h0).o K.ck K.ook (dok_decl K.ck) K.f7) ?_
  rintro _ w4 ⟨a,rfl,M4,B34⟩
  have e:modL us=modO us (ordsL us):=by unfold modL;rw [if_pos h0]
  rw [e,h0]
  have z4:=B34.size
  refine sta (cs':=modcells (modO us (ordsL us)) a) (Bl.box B34 x3) fun w5 k5 x5 => ?_
  have z5:=k5.size
  refine rtc2 (cs:=modcells (modO us (ordsL us)) a) x5.at ⟨a,rfl,(M4.kp (k5.kp fun i hi=>by omega)).sub fun i hi=>by omega,Below.trans (B3.trans B34) (k5.below (by omega))⟩
 ·refine brT ?_ (hp:=h0)
  have e:modL us=mod0:=by unfold modL;rw [if_neg h0]
  rw [e]
  refine bd ?_
  refine sta (cs':=modcells mod0 ⟨none,0,none,0,none,0⟩) x3 fun w5 k5 x5 => ?_
  refine rtc2 (cs:=modcells mod0 ⟨none,0,none,0,none,0⟩) x5.at ⟨⟨none,0,none,0,none,0⟩,rfl,⟨Sl.nil ..,Sl.nil ..,Sl.nil ..⟩,Below.trans B3 (k5.below (by omega))⟩
end Go.Proofs.YtkmdfjpafkcleaaGreatDoor
