import Derived.Test.YtkmdfjpafkcleaaGreatDoorM5
import Derived.Test.YtkmdfjpafkcleaaGreatDoorM4
import Derived.Test.YtkmdfjpafkcleaaGreatDoorM2
/- Walks: Link, the document: the field with a path of three names. -/
namespace Go.Proofs.YtkmdfjpafkcleaaGreatDoor
open Eng Go.RowKit
theorem Eng.rtc3 {C:Cx} {s:St} {w:World} {k:List Item} {l:Env} {dd d2 d3:Nat} {t:TypeId} {tk:TK} {sz:Nat} {zr:List Value} {b o:Nat} {cs:List Value} {v u:Value} (hc:At w b o cs) (hq:C.Q (.tuple #[.agg cs.toArray,v,u]) w) (hs:adv C.tab C.n C.ks 400 s = .code (.code .ret::k) l:=by rfl)
  (ho:C.fn.results=#[.cell dd t,.tmp d2,.tmp d3]:=by rfl) (ht:C.tab.at t=some ⟨tk,sz,true,zr⟩:=by rfl) (hl:cs.length=sz:=by rfl) (hx:look l dd=some (.pointer (some ⟨b,o,none⟩)):=by rfl) (hy:look l d2=some v:=by rfl) (hz:look l d3=some u:=by rfl):Wk C s w :=
 by_adv hs ⟨fun hT hf a hA=>fin hf (by
  unfold results
  rw [ho]
  have e:a.tmps.getD dd undef = .pointer (some ⟨b,o,none⟩):=hA.k _ _ hx
  have e':a.tmps.getD d2 undef=v:=hA.k _ _ hy
  have e'':a.tmps.getD d3 undef=u:=hA.k _ _ hz
  have e2:(loadVar t ⟨b,o,none⟩).run C.P w = .ok (.agg cs.toArray) w:=loadVar_agg (tab_at hT ht) hc hl
  simp only [List.mapM_toArray,List.mapM_cons,List.mapM_nil,e,e',e'',asAddr]
  have e3:(do let x <-(do let p <-(pure (⟨b,o,none⟩:Addr):Sem Addr);loadVar t p);let y <-(do let z <-(pure v:Sem Value);let r <-(do let z2 <-(pure u:Sem Value);let r2 <-(pure []:Sem (List Value));pure (z2::r2));pure (z::r));pure (x::y):Sem (List Value)).run C.P w = .ok [.agg cs.toArray,v,u] w:=(run_bind_ok e2).trans rfl
  refine (run_bind_ok (P:=C.P) (x:=#[.agg cs.toArray,v,u]) (w':=w) ?_).trans rfl
  exact (run_bind_ok e3).trans rfl) hA.defers hq (fun _=>step_ret)⟩
variable {us:List Unt} {b:Nat} {w:World} {s:PgS}
def fhit (us:List Unt) (p:ByteArray) (d:Nat×Nat) (k:Nat):Bool:=match clsAt us d with
 | some (u,c)=>match c.fields[k]? with
  | some f=>decide (dots (cpath u c) (nm u f.name)=p)
  | none=>false
 | none=>false
def fldK (us:List Unt) (p:ByteArray) (d:Nat×Nat):Option Nat:=match clsAt us d with
 | some (_,c)=>(List.range c.fields.length).find? (fhit us p d)
 | none=>none
def fldF (us:List Unt) (p:ByteArray):Option ((Nat×Nat)×Nat):=(clsW us).findSome? fun d=>(fldK us p d).map fun k=>(d,k)
theorem fs_at {α β:Type} {f:α->Option β} {l:List α} {k:Nat} {x:α} {y:β} (h:∀ d∈l.take k,f d=none) (hx:l[k]? = some x) (hy:f x=some y):l.findSome? f=some y:=by
 obtain ⟨q1,q2⟩:=List.getElem?_eq_some_iff.1 hx
 conv=>lhs;rw [<-List.take_append_drop k l,List.drop_eq_getElem_cons q1,q2]
 rw [List.findSome?_append,List.findSome?_eq_none_iff.2 h,List.findSome?_cons,hy];rfl
theorem fs_snoc {α β:Type} {f:α->Option β} {l:List α} {k:Nat} {x:α} (h:∀ d∈l.take k,f d=none) (hx:l[k]? = some x) (hy:f x=none):∀ d∈l.take (k+1),f d=none:=by
 intro d hd
 rw [take_succ_some hx,List.mem_append,List.mem_singleton] at hd
 rcases hd with hd | rfl
 ·exact h d hd
 ·exact hy
theorem fs_no {α β:Type} {f:α->Option β} {l:List α} (h:∀ d∈l.take l.length,f d=none):l.findSome? f=none:=by
 rw [List.take_length] at h
 exact List.findSome?_eq_none_iff.2 h
theorem fk_at {d:Nat×Nat} {u:Unt} {c:Cls} {p:ByteArray} (ha:clsAt us d=some (u,c)) {j:Nat} (h:∀ i,i<j->fhit us p d i=false) (hj:j<c.fields.length) (hy:fhit us p d j=true):fldK us p d=some j:=by
 unfold fldK
 rw [ha]
 exact find_at (k:=j) (fun i hi=>h i (by rw [List.take_range] at hi;have:=List.mem_range.1 hi;omega)) (by rw [List.getElem?_range hj]) hy
theorem fk_no {d:Nat×Nat} {u:Unt} {c:Cls} {p:ByteArray} (ha:clsAt us d=some (u,c)) (h:∀ i,i<c.fields.length->fhit us p d i=false):fldK us p d=none:=by
 unfold fldK
 rw [ha]
 exact List.find?_eq_none.2 fun i hi=>by rw [h i (List.mem_range.1 hi)];decide
theorem fhit_at {d:Nat×Nat} {u:Unt} {c:Cls} {p:ByteArray} {k:Nat} {f:Fld} (ha:clsAt us d=some (u,c)) (hf:c.fields[k]? = some f):fhit us p d k=decide (dots (cpath u c) (nm u f.name)=p):=by
 unfold fhit
 rw [ha]
 simp only [hf]
def fldV (o:Option ((Nat×Nat)×Nat)):Value := .tuple #[.agg (encWh ((o.map (·.1)).getD (0,0))).toArray,I ((o.map (·.2)).getD 0:Nat),.bool o.isSome]
set_option maxHeartbeats 2000000 in
theorem r_field (H:Pg us b s w) (hs:s.cls=clsW us) (hC:∀ u∈us,CkU u) (p:ByteArray) :
  Ret Tryz.prog 129 #[.pointer (some ⟨b,0,none⟩),.string p] w fun v w'=>v=fldV (fldF us p)/\Bl w w':=by
 refine entr (vs:=[.pointer (some ⟨b,0,none⟩),.string p]) [0,1,4,5,6,7,8,9,10,11,18,46,62] tabok Tryz.func129 (by kernel_rfl) ?_
 refine al fun b4 w1 k1 => ?_
 have y1:=k1.blk
 have z1:=k1.size
 have hlc:(clsW us).length<=4194304:=by rw [<-hs];exact H.len.1
 refine lpk (vals:=[]) (clsW us).length 7 [] [(0,.pointer (some ⟨b,0,none⟩)),(1,.string p),(4,.pointer (some ⟨b4,0,none⟩))]
  (fun k vals w'=>vals=[]/\(∀ d∈(clsW us).take k,((fldK us p d).map fun k=>(d,k))=none)/\Box w' b4 tWh [I 0,I 0]/\Bl w w') ⟨rfl,by simp,k1.box,k1.bl⟩ ?_
 rintro k vals w2 hk ⟨rfl,hno,x2,B2⟩ ih
 obtain ⟨au,cu,ac,cc,as',cs,am,cm,ao,co,al',cl',az,cz,hx,h1,h2,h3,h4,h5,h6,h7,h8⟩:=H.bl B2
 rw [hs] at hx h2
 refine ld (hx.cell rfl) ?_
 by_cases hlt:k<(clsW us).length
 ·refine brT ?_
  refine ld (hx.cell rfl) ?_
  obtain ⟨d,bd,od,cs,hd,rfl,_,hAt,rfl⟩:=at_some h2 hlt
  obtain ⟨⟨u,c⟩,ha⟩:=mem_clsW.1 (List.mem_of_getElem? hd)
  obtain ⟨hu,hc⟩:=clsAt_un ha
  have hum:=List.mem_of_getElem? hu
  have hcm:=List.mem_of_getElem? hc
  have hI:=ixs_of (hC u hum)
  have hLm:=lim_of (hC u hum).lim
  have hfl:c.fields.length<=7:=by
   have:=(hC u hum).lim
   simp only [limits,Bool.and_eq_true,List.all_eq_true] at this
   have:=this.1.2 c hcm
   simpa [lcls] using this
  refine ix ?_
  refine lda hAt ?_
  refine al fun b8 w3 k3 => ?_
  have y3:=k3.blk
  refine sta (cs':=encWh d) k3.box fun w4 k4 x4 => ?_
  have B24:Bl w2 w4:=Below.trans k3.bl (k4.below (by omega))
  have B4:=B2.trans B24
  have hx4:=Bl.box B24 hx
  obtain ⟨bu,ou,cs,rfl,_,hAu,ua,rfl,hU⟩:=h1.el d.1 u hu
  have hun:d.1<us.length:=(List.getElem?_eq_some_iff.1 hu).1
  refine dh (fun i=>i<w4.heap.size) (List.range 10) fun w5 k5 => ?_
  have x8:=k5.box x4
  have hx5:=k5.box hx4
  refine ld (hx5.cell rfl) ?_ (hm:=by show b<_;exact hx4.lt)
  refine ld (x8.cell rfl) ?_ (hm:=by show b8<_;exact x4.lt)
  refine ix ?_
  have hAu5:=(hAu.bl B24).bl k5.bl
  refine lda hAu5 ?_ (hm:=by show bu<_;exact cell_lt ((hAu.bl B24) 0 _ rfl))
  refine al fun b9 w6 k6 => ?_
  have y6:=k6.blk
  refine sta (cs':=ucells u ua) k6.box (fun w7 k7 x7 => ?_) (hm:=wrS (by show ¬b9<_;have:=k5.bl.size;omega))
  have B57:Bl w5 w7:=Below.trans k6.bl (k7.below (by omega))
  have B47:=k5.bl.trans B57
  have B7:=B4.trans B47
  have x87:=Bl.box B57 x8
  have U7:=hU.bl (B24.trans B47)
  obtain ⟨bc,oc,cs,e2,_,hAtc,af,cf,rfl,hF⟩:=U7.cls.el d.2 c hc
  have hkl:d.2<u.classes.length:=(List.getElem?_eq_some_iff.1 hc).1
  refine ld (x7.cell rfl) ?_
  refine ld (x87.cell rfl) ?_
  rw [e2]
  refine ix ?_
  refine ld (hAtc 2 _ rfl) ?_
  refine lpk (vals:=[]) c.fields.length 11 [] [(0,.pointer (some ⟨b,0,none⟩)),(1,.string p),(4,.pointer (some ⟨b4,0,none⟩)),(7,I k),(8,.pointer (some ⟨b8,0,none⟩)),(9,.pointer (some ⟨b9,0,none⟩)),(10,.slice af c.fields.length cf)]
   (fun j vals w'=>vals=[]/\(∀ i,i<j->fhit us p d i=false)/\Bl w7 w') ⟨rfl,fun i hi=>by omega,Bl.refl _⟩ ?_
  rintro j vals w8 hj ⟨rfl,hnj,B8⟩ ih2
  have B78:=B7.trans B8
  have x28:=Bl.box ((B24.trans B47).trans B8) x2
  by_cases hlt2:j<c.fields.length
  ·refine brT ?_
   obtain ⟨f,bf,off,cs,hf,rfl,_,hAf,rfl⟩:=at_some (hF.bl B8) hlt2
   refine dh T [0,1,4,5,6,7,8,9,12,2,3,10,11,13] fun w9 k9 => ?_
   have B9:=B78.trans k9.bl
   refine lda (k9.box (Bl.box B8 x87)).at ?_ (hm:=trivial)
   refine lda (k9.box (Bl.box B8 x7)).at ?_ (hm:=trivial)
   refine ix ?_
   refine ld (hAf.bl k9.bl 0 _ rfl) ?_ (hm:=trivial)
   refine cl (r_cpath (H.u.bl B9) hC ha) ?_
   rintro _ w10 ⟨rfl,B10⟩
   rw [pthC_at ha]
   have hfn:=hI.plc.fn c hcm f (List.mem_of_getElem? hf)
   have n1:=nm_size hU (hI.plc.cn c hcm)
   have n2:=nm_size hU hfn
   have n3:(cpath u c).size<=2097153:=by
    have:=hU.nm
    unfold cpath
    rw [dots_size];omega
   refine cat ?_ (hab:=by rw [show ByteArray.size ⟨#[46]⟩=1 from rfl];omega)
   refine cl (r_text ((U7.bl (B8.trans k9.bl)).bl B10) hfn) ?_
   rintro _ w11 ⟨rfl,B11⟩
   refine cat ?_ (hab:=by rw [ByteArray.size_append,show ByteArray.size ⟨#[46]⟩=1 from rfl];omega)
   have B911:=B10.trans B11
   have hb11:=(B8.trans k9.bl).trans B911
   have hh:=fhit_at (p:=p) ha hf
   by_cases hp:dots (cpath u c) (nm u f.name)=p
   ·rw [decide_eq_true hp] at hh
    refine brt ?_ (hp:=decide_eq_true hp)
    refine lda (Bl.box hb11 x87).at ?_
    refine sta (cs':=encWh d) (Bl.box (k9.bl.trans B911) x28) fun w12 k12 x12 => ?_
    have hf2:fldF us p=some (d,j):=fs_at hno hd (by rw [fk_at ha hnj hlt2 hh];rfl)
    refine rtc3 (cs:=encWh d) x12.at ⟨by rw [hf2];rfl,Below.trans (B9.trans B911) (k12.below (by omega))⟩
   ·rw [decide_eq_false hp] at hh
    refine brf ?_ (hp:=decide_eq_false hp)
    refine ih2 hlt2 ⟨rfl,fun i hi => ?_,hb11⟩
    rcases Nat.lt_or_ge i j with q | q
    ·exact hnj i q
    ·obtain rfl:i=j:=by omega
     exact hh
  ·refine brF ?_
   obtain rfl:j=c.fields.length:=by omega
   exact ih hlt ⟨rfl,fs_snoc hno hd (by rw [fk_no ha hnj];rfl),x28,B78⟩
 ·refine brF ?_
  obtain rfl:k=(clsW us).length:=by omega
  refine bd ?_
  refine sta (cs':=encWh (0,0)) x2 fun w4 k4 x4 => ?_
  have hf:fldF us p=none:=fs_no hno
  refine rtc3 (cs:=encWh (0,0)) x4.at ⟨by rw [hf];rfl,Below.trans B2 (k4.below (by omega))⟩
end Go.Proofs.YtkmdfjpafkcleaaGreatDoor
namespace Go.Proofs.YtkmdfjpafkcleaaGreatDoor
open Eng Go.RowKit
variable {us:List Unt} {b:Nat} {w:World} {s:PgS}
def resF (us:List Unt) (u:Unt) (i:Ins):Bool :=
 if i.op=12 then (if i.a=3 then true else (clsF us (nm u i.b)).isSome)
 else if i.op=14 then (clsF us (nm u i.a)).isSome
 else if i.op=24 then (clsF us (nm u i.a)).isSome
 else if i.op=16 then (clsF us (nm u i.b)).isSome
 else if i.op=17 then (fldF us (nm u i.a)).isSome
 else if i.op=18 then (fldF us (nm u i.a)).isSome
 else if i.op=22 then staO us (nm u i.a) (staW us)
 else if i.op=23 then staO us (nm u i.a) (staW us)
 else if i.op=25 then (calF us (nm u i.a)).isSome
 else if i.op=26 then selF us (nm u i.a)
 else true
theorem resF_b {us:List Unt} {u:Unt} {i:Ins} (h:i.op=12) (h3:¬i.a=3):resF us u i=(clsF us (nm u i.b)).isSome:=by unfold resF;rw [if_pos h,if_neg h3]
theorem resF_1 {us:List Unt} {u:Unt} {i:Ins} (h:i.op=12) (h3:i.a=3):resF us u i=true:=by unfold resF;rw [if_pos h,if_pos h3]
theorem resF_c {us:List Unt} {u:Unt} {i:Ins} (h:i.op=14∨i.op=24):resF us u i=(clsF us (nm u i.a)).isSome:=by unfold resF;rcases h with h | h <;> simp [h]
theorem resF_n {us:List Unt} {u:Unt} {i:Ins} (h:i.op=16):resF us u i=(clsF us (nm u i.b)).isSome:=by unfold resF;simp [h]
theorem resF_f {us:List Unt} {u:Unt} {i:Ins} (h:i.op=17∨i.op=18):resF us u i=(fldF us (nm u i.a)).isSome:=by unfold resF;rcases h with h | h <;> simp [h]
theorem resF_s {us:List Unt} {u:Unt} {i:Ins} (h:i.op=22∨i.op=23):resF us u i=staO us (nm u i.a) (staW us):=by unfold resF;rcases h with h | h <;> simp [h]
theorem resF_l {us:List Unt} {u:Unt} {i:Ins} (h:i.op=25):resF us u i=(calF us (nm u i.a)).isSome:=by unfold resF;simp [h]
theorem resF_d {us:List Unt} {u:Unt} {i:Ins} (h:i.op=26):resF us u i=selF us (nm u i.a):=by unfold resF;simp [h]
theorem resF_o {us:List Unt} {u:Unt} {i:Ins} (h1:¬i.op=12) (h2:¬i.op=14) (h3:¬i.op=24) (h4:¬i.op=16) (h5:¬i.op=17) (h6:¬i.op=18) (h7:¬i.op=22) (h8:¬i.op=23) (h9:¬i.op=25) (h0:¬i.op=26):resF us u i=true:=by
 unfold resF
 rw [if_neg h1,if_neg h2,if_neg h3,if_neg h4,if_neg h5,if_neg h6,if_neg h7,if_neg h8,if_neg h9,if_neg h0]
set_option maxHeartbeats 4000000 in
theorem r_resolved (H:Pg us b s w) (hs:s.cls=clsW us) (hs2:s.sta=staW us) (hs3:s.mth=mthW us) (hC:∀ u∈us,CkU u) {u:Unt} {ua:UA} (hU:UnR T w u ua) {i:Ins}
  (hpa:(i.op=14∨i.op=24∨i.op=17∨i.op=18∨i.op=22∨i.op=23∨i.op=25∨i.op=26)->inP u i.a) (hpb:(i.op=16∨i.op=12/\¬i.a=3)->inP u i.b) :
  Ret Tryz.prog 190 #[.pointer (some ⟨b,0,none⟩),.agg (ucells u ua).toArray,.agg (encIns i).toArray] w fun v w'=>v = .bool (resF us u i)/\Bl w w':=by
 refine entr (vs:=[.pointer (some ⟨b,0,none⟩),.agg (ucells u ua).toArray,.agg (encIns i).toArray]) [0,1,2,4,5,6,7,9,10,14,24,36,47,60,72,83] tabok Tryz.func190 (by kernel_rfl) ?_
 refine bx (cs:=ucells u ua) fun b1 w1 k1 => ?_
 refine bx (cs:=encIns i) fun b2 w2 k2 => ?_
 have B2:=k1.bl.trans k2.bl
 have x1:=Bl.box k2.bl k1.box
 refine ld (k2.box.cell rfl) ?_
 by_cases h12:i.op=12
 ·have h:=h12
  refine brT ?_ (hp:=h12)
  refine ld (k2.box.cell rfl) ?_
  by_cases h3:i.a=3
  ·refine brF ?_ (hp:=by simp [h3])
   exact rt1 ⟨by rw [resF_1 h12 h3],B2⟩
  ·refine brT ?_ (hp:=by simp [h3])
   refine lda x1.at ?_
   refine ld (k2.box.cell rfl) ?_
   refine cl (r_text (hU.bl B2) (hpb (.inr ⟨h12,h3⟩))) ?_
   rintro _ w3 ⟨rfl,B3⟩
   refine cl (r_class (H.bl (B2.trans B3)) hs hC _) ?_
   rintro _ w4 ⟨rfl,B4⟩
   exact rt1 ⟨by rw [resF_b h12 h3],(B2.trans B3).trans B4⟩
 refine brF ?_ (hp:=h12)
 by_cases h14:i.op=14
 ·have h:=h14
  refine brT ?_ (hp:=h14)
  refine brT ?_ (hp:=h14)
  refine lda x1.at ?_
  refine ld (k2.box.cell rfl) ?_
  refine cl (r_text (hU.bl B2) (hpa (by simp [h]))) ?_
  rintro _ w3 ⟨rfl,B3⟩
  refine cl (r_class (H.bl (B2.trans B3)) hs hC _) ?_
  rintro _ w4 ⟨rfl,B4⟩
  exact rt1 ⟨by rw [resF_c (.inl h)],(B2.trans B3).trans B4⟩
 refine brF ?_ (hp:=h14)
 by_cases h24:i.op=24
 ·have h:=h24
  refine brT ?_ (hp:=h24)
  refine lda x1.at ?_
  refine ld (k2.box.cell rfl) ?_
  refine cl (r_text (hU.bl B2) (hpa (by simp [h]))) ?_
  rintro _ w3 ⟨rfl,B3⟩
  refine cl (r_class (H.bl (B2.trans B3)) hs hC _) ?_
  rintro _ w4 ⟨rfl,B4⟩
  exact rt1 ⟨by rw [resF_c (.inr h)],(B2.trans B3).trans B4⟩
 refine brF ?_ (hp:=h24)
 by_cases h16:i.op=16
 ·have h:=h16
  refine brT ?_ (hp:=h16)
  refine lda x1.at ?_
  refine ld (k2.box.cell rfl) ?_
  refine cl (r_text (hU.bl B2) (hpb (.inl h))) ?_
  rintro _ w3 ⟨rfl,B3⟩
  refine cl (r_class (H.bl (B2.trans B3)) hs hC _) ?_
  rintro _ w4 ⟨rfl,B4⟩
  exact rt1 ⟨by rw [resF_n h],(B2.trans B3).trans B4⟩
 refine brF ?_ (hp:=h16)
 by_cases h17:i.op=17
 ·have h:=h17
  refine brT ?_ (hp:=h17)
  refine brT ?_ (hp:=h17)
  refine lda x1.at ?_
  refine ld (k2.box.cell rfl) ?_
  refine cl (r_text (hU.bl B2) (hpa (by simp [h]))) ?_
  rintro _ w3 ⟨rfl,B3⟩
  refine cl (r_field (H.bl (B2.trans B3)) hs hC _) ?_
  rintro _ w4 ⟨rfl,B4⟩
  exact rt1 ⟨by rw [resF_f (.inl h)],(B2.trans B3).trans B4⟩
 refine brF ?_ (hp:=h17)
 by_cases h18:i.op=18
 ·have h:=h18
  refine brT ?_ (hp:=h18)
  refine lda x1.at ?_
  refine ld (k2.box.cell rfl) ?_
  refine cl (r_text (hU.bl B2) (hpa (by simp [h]))) ?_
  rintro _ w3 ⟨rfl,B3⟩
  refine cl (r_field (H.bl (B2.trans B3)) hs hC _) ?_
  rintro _ w4 ⟨rfl,B4⟩
  exact rt1 ⟨by rw [resF_f (.inr h)],(B2.trans B3).trans B4⟩
 refine brF ?_ (hp:=h18)
 by_cases h22:i.op=22
 ·have h:=h22
  refine brT ?_ (hp:=h22)
  refine brT ?_ (hp:=h22)
  refine lda x1.at ?_
  refine ld (k2.box.cell rfl) ?_
  refine cl (r_text (hU.bl B2) (hpa (by simp [h]))) ?_
  rintro _ w3 ⟨rfl,B3⟩
  refine cl (r_static (H.bl (B2.trans B3)) hs2 hC _) ?_
  rintro _ w4 ⟨rfl,B4⟩
  exact rt1 ⟨by rw [resF_s (.inl h)],(B2.trans B3).trans B4⟩
 refine brF ?_ (hp:=h22)
 by_cases h23:i.op=23
 ·have h:=h23
  refine brT ?_ (hp:=h23)
  refine lda x1.at ?_
  refine ld (k2.box.cell rfl) ?_
  refine cl (r_text (hU.bl B2) (hpa (by simp [h]))) ?_
  rintro _ w3 ⟨rfl,B3⟩
  refine cl (r_static (H.bl (B2.trans B3)) hs2 hC _) ?_
  rintro _ w4 ⟨rfl,B4⟩
  exact rt1 ⟨by rw [resF_s (.inr h)],(B2.trans B3).trans B4⟩
 refine brF ?_ (hp:=h23)
 by_cases h25:i.op=25
 ·have h:=h25
  refine brT ?_ (hp:=h25)
  refine lda x1.at ?_
  refine ld (k2.box.cell rfl) ?_
  refine cl (r_text (hU.bl B2) (hpa (by simp [h]))) ?_
  rintro _ w3 ⟨rfl,B3⟩
  refine cl (r_called (H.bl (B2.trans B3)) hs3 hC _) ?_
  rintro _ w4 ⟨rfl,B4⟩
  exact rt1 ⟨by rw [resF_l h],(B2.trans B3).trans B4⟩
 refine brF ?_ (hp:=h25)
 by_cases h26:i.op=26
 ·have h:=h26
  refine brT ?_ (hp:=h26)
  refine lda x1.at ?_
  refine ld (k2.box.cell rfl) ?_
  refine cl (r_text (hU.bl B2) (hpa (by simp [h]))) ?_
  rintro _ w3 ⟨rfl,B3⟩
  refine cl (r_isSel (H.bl (B2.trans B3)) hs3 hC _) ?_
  rintro _ w4 ⟨rfl,B4⟩
  exact rt1 ⟨by rw [resF_d h],(B2.trans B3).trans B4⟩
 refine brF ?_ (hp:=h26)
 exact rt1 ⟨by rw [resF_o h12 h14 h24 h16 h17 h18 h22 h23 h25 h26],B2⟩
end Go.Proofs.YtkmdfjpafkcleaaGreatDoor
namespace Go.Proofs.YtkmdfjpafkcleaaGreatDoor
open Eng Go.RowKit
variable {us:List Unt} {b:Nat} {w:World} {s:PgS}
def namC (us:List Unt) (u:Unt) (c:Cls):Bool:=(decide (c.super<0)||(clsF us (nm u c.super)).isSome)&&c.fields.all fun f=>tyF us u f.ty
def namM (us:List Unt) (n:Nat) (u:Unt) (m:Mth):Bool :=
 (decide (m.cls<0)||((clsF us (nm u m.cls)).isSome&&decide (((clsF us (nm u m.cls)).getD (0,0)).1=n)))&&(m.params.all (tyF us u)&&(m.locals.all (tyF us u)&&(tyF us u m.result&&m.code.all (resF us u))))
def namU (us:List Unt) (n:Nat) (u:Unt):Bool:=u.classes.all (namC us u)&&((u.statics.all fun f=>tyF us u f.ty)&&u.methods.all (namM us n u))
theorem tyP_in {u:Unt} {t:Ty} (h:tyP u t):tcls t=true->inP u t.cls:=fun q=>by
 rcases h with ⟨_,h⟩ | ⟨h,_⟩
 ·exact h
 ·rw [q] at h;cases h
theorem namU_c {n:Nat} {u:Unt} (h:u.classes.all (namC us u)=false):namU us n u=false:=by unfold namU;rw [h];rfl
theorem namU_s {n:Nat} {u:Unt} (h:(u.statics.all fun f=>tyF us u f.ty)=false):namU us n u=false:=by unfold namU;rw [h,Bool.false_and,Bool.and_false]
theorem namU_m {n:Nat} {u:Unt} (h:u.methods.all (namM us n u)=false):namU us n u=false:=by unfold namU;rw [h,Bool.and_false,Bool.and_false]
set_option maxHeartbeats 8000000 in
theorem r_names (H:Pg us b s w) (hs:s.cls=clsW us) (hs2:s.sta=staW us) (hs3:s.mth=mthW us) (hC:∀ u∈us,CkU u) {n:Nat} {u:Unt} (hu:us[n]? = some u) :
  Ret Tryz.prog 119 #[.pointer (some ⟨b,0,none⟩),I n] w fun v w'=>v = .bool (namU us n u)/\Bl w w':=by
 have hum:=List.mem_of_getElem? hu
 have hI:=ixs_of (hC u hum)
 have hT:=tyU_of (hC u hum)
 have hLm:=lim_of (hC u hum).lim
 obtain ⟨bu,ou,cu,rest,cs,ua,hx,hAt,rfl,hU,hun⟩:=(H.u.at hu).ex
 refine entr (vs:=[.pointer (some ⟨b,0,none⟩),I n]) [0,1,4,5,6,7,9,10,11,12,13,14,26,36,47,53,59,64,74,91,113,118,129] tabok Tryz.func119 (by kernel_rfl) ?_
 refine ld (hx.cell rfl) ?_
 refine ix ?_
 refine lda hAt ?_
 refine al fun b5 w3 k3 => ?_
 have y3:=k3.blk
 refine sta (cs':=ucells u ua) k3.box fun w4 k4 x5 => ?_
 have B4:Bl w w4:=Below.trans k3.bl (k4.below (by omega))
 have U:=hU.bl B4
 refine lpk (vals:=[]) u.classes.length 6 [] [(0,.pointer (some ⟨b,0,none⟩)),(1,I n),(5,.pointer (some ⟨b5,0,none⟩))] (fun k vals w'=>vals=[]/\(u.classes.take k).all (namC us u)=true/\Bl w4 w') ⟨rfl,rfl,Bl.refl _⟩ ?_ (hn:=by have:=hLm.cls;omega)
 rintro k vals w5 hk ⟨rfl,hall,B5⟩ ih
 refine ld ((Bl.box B5 x5).cell rfl) ?_
 by_cases hlt:k<u.classes.length
 ·refine brT ?_
  obtain ⟨c,bc,oc,cs,hc,e2,_,hAtc,af,cf,rfl,hF⟩:=at_some (U.bl B5).cls hlt
  have hcm:=List.mem_of_getElem? hc
  refine ld ((Bl.box B5 x5).cell rfl) ?_
  rw [e2]
  refine ix ?_
  refine lda hAtc ?_
  refine al fun b7 w6 k6 => ?_
  have y6:=k6.blk
  refine sta (cs':=ccells c af cf) k6.box fun w7 k7 x7 => ?_
  have B57:Bl w5 w7:=Below.trans k6.bl (k7.below (by omega))
  have B7:=B5.trans B57
  refine ld (x7.cell rfl) ?_
  by_cases h0:0<=c.super
  ·refine brT ?_ (hp:=h0)
   refine lda (Bl.box B7 x5).at ?_
   refine ld (x7.cell rfl) ?_
   refine cl (r_text (U.bl B7) ((hI.sup c hcm).inP (by omega))) ?_
   rintro _ w8 ⟨rfl,B8⟩
   refine cl (r_class (H.bl ((B4.trans B7).trans B8)) hs hC _) ?_
   rintro _ w9 ⟨rfl,B9⟩
   refine al fun b8 w10 k10 => ?_
   have y10:=k10.blk
   refine sta (cs':=encWh ((clsF us (nm u c.super)).getD (0,0))) k10.box fun w11 k11 x11 => ?_
   have B911:Bl w9 w11:=Below.trans k10.bl (k11.below (by omega))
   have B711:=(B8.trans B9).trans B911
   have B11:=B7.trans B711
   have xc:=Bl.box B711 x7
   have Bf:=B57.trans B711
   cases hcf:(clsF us (nm u c.super)).isSome with
   | false =>
    refine brt ?_ (hp:=by rfl)
    have hn:namC us u c=false:=by unfold namC;rw [hcf,decide_eq_false (by omega)];rfl
    exact rt1 ⟨by rw [namU_c (all_no hc hn)],B4.trans B11⟩
   | true =>
    refine brf ?_ (hp:=by rfl)
    refine lda (Bl.box B11 x5).at ?_
    refine ld (xc.cell rfl) ?_
    refine cl (r_fieldsTyped (H.bl (B4.trans B11)) hs hC (U.bl B11) (hF.bl Bf) fun f hf=>(tyP_in (hT.f c hcm f hf))) ?_
    rintro _ w20 ⟨rfl,B20⟩
    cases hq:(c.fields.all fun f=>tyF us u f.ty) with
    | false =>
     refine brt ?_ (hp:=by rfl)
     have hn:namC us u c=false:=by unfold namC;rw [hq,Bool.and_false]
     exact rt1 ⟨by rw [namU_c (all_no hc hn)],(B4.trans B11).trans B20⟩
    | true =>
     refine brf ?_ (hp:=by rfl)
     have hy:namC us u c=true:=by unfold namC;rw [hq,Bool.and_true];exact by rw [hcf,Bool.or_true]
     exact ih hlt ⟨rfl,all_snocV hall hc hy,(B11).trans B20⟩
  ·refine brF ?_ (hp:=h0)
   have xc:=x7
   have Bf:=B57
   refine lda (Bl.box B7 x5).at ?_
   refine ld (xc.cell rfl) ?_
   refine cl (r_fieldsTyped (H.bl (B4.trans B7)) hs hC (U.bl B7) (hF.bl Bf) fun f hf=>(tyP_in (hT.f c hcm f hf))) ?_
   rintro _ w20 ⟨rfl,B20⟩
   cases hq:(c.fields.all fun f=>tyF us u f.ty) with
   | false =>
    refine brt ?_ (hp:=by rfl)
    have hn:namC us u c=false:=by unfold namC;rw [hq,Bool.and_false]
    exact rt1 ⟨by rw [namU_c (all_no hc hn)],(B4.trans B7).trans B20⟩
   | true =>
    refine brf ?_ (hp:=by rfl)
    have hy:namC us u c=true:=by unfold namC;rw [hq,Bool.and_true];exact by rw [decide_eq_true (by omega)];rfl
    exact ih hlt ⟨rfl,all_snocV hall hc hy,(B7).trans B20⟩
 refine brF ?_
 obtain rfl:k=u.classes.length:=by omega
 rw [List.take_length] at hall
 refine lda (Bl.box B5 x5).at ?_
 refine ld ((Bl.box B5 x5).cell rfl) ?_
 refine cl (r_fieldsTyped (H.bl (B4.trans B5)) hs hC (U.bl B5) (U.bl B5).sta fun f hf=>(tyP_in (hT.s f hf))) ?_
 rintro _ w12 ⟨rfl,B12⟩
 cases hst:(u.statics.all fun f=>tyF us u f.ty) with
 | false =>
  refine brt ?_ (hp:=by rfl)
  exact rt1 ⟨by rw [namU_s hst],(B4.trans B5).trans B12⟩
 | true =>
  refine brf ?_ (hp:=by rfl)
  refine lpk (vals:=[]) u.methods.length 10 [] [(0,.pointer (some ⟨b,0,none⟩)),(1,I n),(5,.pointer (some ⟨b5,0,none⟩))] (fun k vals w'=>vals=[]/\(u.methods.take k).all (namM us n u)=true/\Bl w4 w') ⟨rfl,rfl,B5.trans B12⟩ ?_ (hn:=by have:=hLm.mth;omega)
  rintro k vals w13 hk ⟨rfl,hallm,B13⟩ ihm
  refine ld ((Bl.box B13 x5).cell rfl) ?_
  by_cases hlt:k<u.methods.length
  ·refine brT ?_
   obtain ⟨m,bm,om,cs,hm,e3,_,hAtm,a1,c1,a2,c2,a3,c3,rfl,hP1,hP2,hP3⟩:=at_some (U.bl B13).mth hlt
   have hmm:=List.mem_of_getElem? hm
   refine ld ((Bl.box B13 x5).cell rfl) ?_
   rw [e3]
   refine ix ?_
   refine lda hAtm ?_
   refine al fun b11 w14 k14 => ?_
   have y14:=k14.blk
   refine sta (cs':=mcells m a1 c1 a2 c2 a3 c3) k14.box fun w15 k15 x15 => ?_
   have B1315:Bl w13 w15:=Below.trans k14.bl (k15.below (by omega))
   have B15:=B13.trans B1315
   refine ld (x15.cell rfl) ?_
   by_cases h0:0<=m.cls
   ·refine brT ?_ (hp:=h0)
    refine lda (Bl.box B15 x5).at ?_
    refine ld (x15.cell rfl) ?_
    refine cl (r_text (U.bl B15) ((hI.plc.mc m hmm).resolve_left fun q=>by omega)) ?_
    rintro _ w16 ⟨rfl,B16⟩
    refine cl (r_class (H.bl ((B4.trans B15).trans B16)) hs hC _) ?_
    rintro _ w17 ⟨rfl,B17⟩
    refine al fun b12 w18 k18 => ?_
    have y18:=k18.blk
    refine sta (cs':=encWh ((clsF us (nm u m.cls)).getD (0,0))) k18.box fun w19 k19 x19 => ?_
    have B1519:Bl w15 w19:=(B16.trans B17).trans (Below.trans k18.bl (k19.below (by omega)))
    have B19:=B15.trans B1519
    have xm:=Bl.box B1519 x15
    have Bm:=B1315.trans B1519
    cases hcf:(clsF us (nm u m.cls)).isSome with
    | false =>
     refine spn (I 0) ?_
     refine brt ?_ (hp:=by rfl)
     have hn:namM us n u m=false:=by unfold namM;rw [hcf,decide_eq_false (show ¬m.cls<0 by omega)];rfl
     exact rt1 ⟨by rw [namU_m (all_no hm hn)],B4.trans B19⟩
    | true =>
     refine spt (I 0) ?_
     refine ld (x19.cell rfl) ?_
     by_cases hdn:((clsF us (nm u m.cls)).getD (0,0)).1=n
     ·refine brf ?_ (hp:=by simp [hdn])
      have no:(m.params.all (tyF us u)&&(m.locals.all (tyF us u)&&(tyF us u m.result&&m.code.all (resF us u))))=false->namU us n u=false:=fun q=>namU_m (all_no hm (by unfold namM;rw [q,Bool.and_false]))
      refine lda (Bl.box B19 x5).at ?_
      refine ld (xm.cell rfl) ?_
      refine cl (r_allTyped (H.bl (B4.trans B19)) hs hC (U.bl B19) (hP1.bl Bm) fun t ht=>tyP_in (hT.p m hmm t ht)) ?_
      rintro _ w31 ⟨rfl,B31⟩
      have C31:=(B19).trans B31
      have xm31:=Bl.box B31 xm
      cases hq1:m.params.all (tyF us u) with
      | false =>
       refine spn (.bool false) ?_
       refine spn (.slice none 0 0) ?_
       refine spn (.bool false) ?_
       refine spn (.bool false) ?_
       refine spn (.bool false) ?_
       refine spn (.bool false) ?_
       refine brt ?_ (hp:=by rfl)
       exact rt1 ⟨by rw [no (by rw [hq1];rfl)],B4.trans C31⟩
      | true =>
       refine spt (.bool false) ?_
       refine lda (Bl.box C31 x5).at ?_
       refine spt (.slice none 0 0) ?_
       refine ld (xm31.cell rfl) ?_
       refine spt (.bool false) ?_
       refine cl (r_allTyped (H.bl (B4.trans C31)) hs hC (U.bl C31) ((hP2.bl Bm).bl B31) fun t ht=>tyP_in (hT.l m hmm t ht)) ?_
       rintro _ w32 ⟨rfl,B32⟩
       have C32:=C31.trans B32
       have xm32:=Bl.box B32 xm31
       cases hq2:m.locals.all (tyF us u) with
       | false =>
        refine spn (.bool false) ?_
        refine spn (.bool false) ?_
        refine spn (.bool false) ?_
        refine brt ?_ (hp:=by rfl)
        exact rt1 ⟨by rw [no (by rw [hq1,hq2];rfl)],B4.trans C32⟩
       | true =>
        refine spt (.bool false) ?_
        refine lda (Bl.box C32 x5).at ?_
        refine spt (.bool false) ?_
        refine lda (At.left (cs:=encTy m.result) xm32.at.tail.tail.tail.tail) ?_
        refine spt (.bool false) ?_
        refine cl (r_tyd (H.bl (B4.trans C32)) hs hC (U.bl C32) (tyP_in (hT.r m hmm))) ?_
        rintro _ w33 ⟨rfl,B33⟩
        have C33:=C32.trans B33
        have xm33:=Bl.box B33 xm32
        cases hq3:tyF us u m.result with
        | false =>
         refine brt ?_ (hp:=by rfl)
         exact rt1 ⟨by rw [no (by rw [hq1,hq2,hq3];rfl)],B4.trans C33⟩
        | true =>
         refine brf ?_ (hp:=by rfl)
         refine lpk (vals:=[]) m.code.length 14 [] [(0,.pointer (some ⟨b,0,none⟩)),(1,I n),(5,.pointer (some ⟨b5,0,none⟩)),(10,I k),(11,.pointer (some ⟨b11,0,none⟩))] (fun j vals w'=>vals=[]/\(m.code.take j).all (resF us u)=true/\Bl w33 w') ⟨rfl,rfl,Bl.refl _⟩ ?_ (hn:=by have:=hP3.big;omega)
         rintro j vals w34 hj ⟨rfl,hallj,B34⟩ ihj
         have C34:=C33.trans B34
         have xm34:=Bl.box B34 xm33
         refine ld (xm34.cell rfl) ?_
         by_cases hltj:j<m.code.length
         ·refine brT ?_
          obtain ⟨i,bi,oi,cs,hi,e4,_,hAti,rfl⟩:=at_some ((((hP3.bl Bm).bl B31).bl B32).bl (B33.trans B34)) hltj
          refine dh T (List.range 9) fun w35 k35 => ?_
          have C35:=C34.trans k35.bl
          refine lda (Bl.box C35 x5).at ?_ (hm:=trivial)
          refine ld ((k35.box xm34).cell rfl) ?_ (hm:=trivial)
          rw [e4]
          refine ix ?_
          refine lda (hAti.bl k35.bl) ?_ (hm:=trivial)
          have him:=List.mem_of_getElem? hi
          refine cl (r_resolved (H.bl (B4.trans C35)) hs hs2 hs3 hC (U.bl C35) (hI.opa m hmm i him) (hI.opb m hmm i him)) ?_
          rintro _ w36 ⟨rfl,B36⟩
          cases hq4:resF us u i with
          | false =>
           refine brt ?_ (hp:=by rfl)
           exact rt1 ⟨by rw [no (by rw [hq1,hq2,hq3,all_no hi hq4];rfl)],(B4.trans C35).trans B36⟩
          | true =>
           refine brf ?_ (hp:=by rfl)
           exact ihj hltj ⟨rfl,all_snocV hallj hi hq4,(B34.trans k35.bl).trans B36⟩
         ·refine brF ?_
          obtain rfl:j=m.code.length:=by omega
          rw [List.take_length] at hallj
          have hy:namM us n u m=true:=by unfold namM;rw [hq1,hq2,hq3,hallj];rw [hcf,hdn];simp
          exact ihm hlt ⟨rfl,all_snocV hallm hm hy,C34⟩
     ·refine brt ?_ (hp:=by simp;omega)
      have hn:namM us n u m=false:=by unfold namM;rw [hcf,decide_eq_false (show ¬m.cls<0 by omega),decide_eq_false hdn];rfl
      exact rt1 ⟨by rw [namU_m (all_no hm hn)],B4.trans B19⟩
   ·refine brF ?_ (hp:=h0)
    have xm:=x15
    have Bm:=B1315
    have no:(m.params.all (tyF us u)&&(m.locals.all (tyF us u)&&(tyF us u m.result&&m.code.all (resF us u))))=false->namU us n u=false:=fun q=>namU_m (all_no hm (by unfold namM;rw [q,Bool.and_false]))
    refine lda (Bl.box B15 x5).at ?_
    refine ld (xm.cell rfl) ?_
    refine cl (r_allTyped (H.bl (B4.trans B15)) hs hC (U.bl B15) (hP1.bl Bm) fun t ht=>tyP_in (hT.p m hmm t ht)) ?_
    rintro _ w31 ⟨rfl,B31⟩
    have C31:=(B15).trans B31
    have xm31:=Bl.box B31 xm
    cases hq1:m.params.all (tyF us u) with
    | false =>
     refine spn (.bool false) ?_
     refine spn (.slice none 0 0) ?_
     refine spn (.bool false) ?_
     refine spn (.bool false) ?_
     refine spn (.bool false) ?_
     refine spn (.bool false) ?_
     refine brt ?_ (hp:=by rfl)
     exact rt1 ⟨by rw [no (by rw [hq1];rfl)],B4.trans C31⟩
    | true =>
     refine spt (.bool false) ?_
     refine lda (Bl.box C31 x5).at ?_
     refine spt (.slice none 0 0) ?_
     refine ld (xm31.cell rfl) ?_
     refine spt (.bool false) ?_
     refine cl (r_allTyped (H.bl (B4.trans C31)) hs hC (U.bl C31) ((hP2.bl Bm).bl B31) fun t ht=>tyP_in (hT.l m hmm t ht)) ?_
     rintro _ w32 ⟨rfl,B32⟩
     have C32:=C31.trans B32
     have xm32:=Bl.box B32 xm31
     cases hq2:m.locals.all (tyF us u) with
     | false =>
      refine spn (.bool false) ?_
      refine spn (.bool false) ?_
      refine spn (.bool false) ?_
      refine brt ?_ (hp:=by rfl)
      exact rt1 ⟨by rw [no (by rw [hq1,hq2];rfl)],B4.trans C32⟩
     | true =>
      refine spt (.bool false) ?_
      refine lda (Bl.box C32 x5).at ?_
      refine spt (.bool false) ?_
      refine lda (At.left (cs:=encTy m.result) xm32.at.tail.tail.tail.tail) ?_
      refine spt (.bool false) ?_
      refine cl (r_tyd (H.bl (B4.trans C32)) hs hC (U.bl C32) (tyP_in (hT.r m hmm))) ?_
      rintro _ w33 ⟨rfl,B33⟩
      have C33:=C32.trans B33
      have xm33:=Bl.box B33 xm32
      cases hq3:tyF us u m.result with
      | false =>
       refine brt ?_ (hp:=by rfl)
       exact rt1 ⟨by rw [no (by rw [hq1,hq2,hq3];rfl)],B4.trans C33⟩
      | true =>
       refine brf ?_ (hp:=by rfl)
       refine lpk (vals:=[]) m.code.length 14 [] [(0,.pointer (some ⟨b,0,none⟩)),(1,I n),(5,.pointer (some ⟨b5,0,none⟩)),(10,I k),(11,.pointer (some ⟨b11,0,none⟩))] (fun j vals w'=>vals=[]/\(m.code.take j).all (resF us u)=true/\Bl w33 w') ⟨rfl,rfl,Bl.refl _⟩ ?_ (hn:=by have:=hP3.big;omega)
       rintro j vals w34 hj ⟨rfl,hallj,B34⟩ ihj
       have C34:=C33.trans B34
       have xm34:=Bl.box B34 xm33
       refine ld (xm34.cell rfl) ?_
       by_cases hltj:j<m.code.length
       ·refine brT ?_
        obtain ⟨i,bi,oi,cs,hi,e4,_,hAti,rfl⟩:=at_some ((((hP3.bl Bm).bl B31).bl B32).bl (B33.trans B34)) hltj
        refine dh T (List.range 9) fun w35 k35 => ?_
        have C35:=C34.trans k35.bl
        refine lda (Bl.box C35 x5).at ?_ (hm:=trivial)
        refine ld ((k35.box xm34).cell rfl) ?_ (hm:=trivial)
        rw [e4]
        refine ix ?_
        refine lda (hAti.bl k35.bl) ?_ (hm:=trivial)
        have him:=List.mem_of_getElem? hi
        refine cl (r_resolved (H.bl (B4.trans C35)) hs hs2 hs3 hC (U.bl C35) (hI.opa m hmm i him) (hI.opb m hmm i him)) ?_
        rintro _ w36 ⟨rfl,B36⟩
        cases hq4:resF us u i with
        | false =>
         refine brt ?_ (hp:=by rfl)
         exact rt1 ⟨by rw [no (by rw [hq1,hq2,hq3,all_no hi hq4];rfl)],(B4.trans C35).trans B36⟩
        | true =>
         refine brf ?_ (hp:=by rfl)
         exact ihj hltj ⟨rfl,all_snocV hallj hi hq4,(B34.trans k35.bl).trans B36⟩
       ·refine brF ?_
        obtain rfl:j=m.code.length:=by omega
        rw [List.take_length] at hallj
        have hy:namM us n u m=true:=by unfold namM;rw [hq1,hq2,hq3,hallj];rw [decide_eq_true (show m.cls<0 by omega)];rfl
        exact ihm hlt ⟨rfl,all_snocV hallm hm hy,C34⟩
  ·refine brF ?_
   obtain rfl:k=u.methods.length:=by omega
   rw [List.take_length] at hallm
   exact rt1 ⟨by unfold namU;rw [hall,hst,hallm];first | done | rfl,B4.trans B13⟩
end Go.Proofs.YtkmdfjpafkcleaaGreatDoor
namespace Go.Proofs.YtkmdfjpafkcleaaGreatDoor
open Eng Go.RowKit
variable {us:List Unt} {b:Nat} {w:World} {s:PgS}
theorem r_typePath {u:Unt} {ua:UA} (hU:UnR T w u ua) {t:Ty} (ht:tcls t=true->inP u t.cls) :
  Ret Tryz.prog 238 #[.agg (ucells u ua).toArray,.agg (encTy t).toArray] w fun v w'=>v = .tuple #[I t.kind,.string (tpth u t)]/\Bl w w':=by
 refine entr (vs:=[.agg (ucells u ua).toArray,.agg (encTy t).toArray]) [0,1,2,3,4,5,13] tabok Tryz.func238 (by kernel_rfl) ?_
 refine bx (cs:=ucells u ua) fun b1 w1 k1 => ?_
 refine bx (cs:=encTy t) fun b2 w2 k2 => ?_
 have B2:=k1.bl.trans k2.bl
 have x1:=Bl.box k2.bl k1.box
 have go:∀ (w3:World) (k3:Dr w2 w3),tcls t=true->Ret Tryz.prog 66 #[.agg (ucells u ua).toArray,I t.cls] w3 fun v w'=>v = .string (nm u t.cls)/\Bl w3 w':=fun w3 k3 hc=>r_text (hU.bl (B2.trans k3.bl)) (ht hc)
 refine ld (k2.box.cell rfl) ?_
 by_cases h2:t.kind=2
 ·have hc:tcls t=true:=by simp [tcls,h2]
  refine spn (I 0) ?_ (hb:=by simp [h2])
  refine brt ?_ (hp:=by simp [h2])
  refine dh T [0,1,2,3,4,5,6,7] fun w3 k3 => ?_
  refine ld ((k3.box k2.box).cell rfl) ?_ (hm:=trivial)
  refine lda (k3.box x1).at ?_ (hm:=trivial)
  refine ld ((k3.box k2.box).cell rfl) ?_ (hm:=trivial)
  refine cl (go w3 k3 hc) ?_
  rintro _ w4 ⟨rfl,B4⟩
  refine rt2 ⟨?_,(B2.trans k3.bl).trans B4⟩
  unfold tpth
  rw [if_pos hc]
 ·refine spt (I 0) ?_ (hb:=by simp [h2])
  refine ld (k2.box.cell rfl) ?_
  by_cases h4:t.kind=4
  ·have hc:tcls t=true:=by simp [tcls,h4]
   refine brt ?_ (hp:=by simp [h4])
   refine dh T [0,1,2,3,4,5,6,7] fun w3 k3 => ?_
   refine ld ((k3.box k2.box).cell rfl) ?_ (hm:=trivial)
   refine lda (k3.box x1).at ?_ (hm:=trivial)
   refine ld ((k3.box k2.box).cell rfl) ?_ (hm:=trivial)
   refine cl (go w3 k3 hc) ?_
   rintro _ w4 ⟨rfl,B4⟩
   refine rt2 ⟨?_,(B2.trans k3.bl).trans B4⟩
   unfold tpth
   rw [if_pos hc]
  ·have hc:¬tcls t=true:=by simp [tcls,h2,h4]
   refine brf ?_ (hp:=by simp [h4])
   refine ld (k2.box.cell rfl) ?_
   refine rt2 ⟨?_,B2⟩
   unfold tpth
   rw [if_neg hc]
set_option maxHeartbeats 1000000 in
theorem r_likeTypes {u v:Unt} {ua va:UA} (hU:UnR T w u ua) (hV:UnR T w v va) {l m:List Ty} {a1 a2:Option Addr} {c1 c2:Nat} (h1:Sl eTy T w a1 l) (h2:Sl eTy T w a2 m) (ht:∀ t∈l,tcls t=true->inP u t.cls) (hr:∀ t∈m,tcls t=true->inP v t.cls) :
  Ret Tryz.prog 191 #[.agg (ucells u ua).toArray,.agg (ucells v va).toArray,.slice a1 l.length c1,.slice a2 m.length c2] w fun r w'=>r = .bool (likeL u v l m)/\Bl w w':=by
 have hb1:=h1.big
 have hb2:=h2.big
 refine entr (vs:=[.agg (ucells u ua).toArray,.agg (ucells v va).toArray,.slice a1 l.length c1,.slice a2 m.length c2]) [0,1,2,3,4,5,8,9,10,11,12,13,18,22,50] tabok Tryz.func191 (by kernel_rfl) ?_
 refine bx (cs:=ucells u ua) fun b1 w1 k1 => ?_
 refine bx (cs:=ucells v va) fun b2 w2 k2 => ?_
 have B2:=k1.bl.trans k2.bl
 have x1:=Bl.box k2.bl k1.box
 by_cases hl:l.length=m.length
 rotate_left
 ·refine brt ?_ (hp:=by simp;omega)
  refine rt1 ⟨?_,B2⟩
  unfold likeL
  rw [decide_eq_false hl];rfl
 refine brf ?_ (hp:=by simp;omega)
 refine lpk (vals:=[]) l.length 9 [] [(2,.slice a1 l.length c1),(3,.slice a2 m.length c2),(4,.pointer (some ⟨b1,0,none⟩)),(5,.pointer (some ⟨b2,0,none⟩))]
  (fun k vals w'=>vals=[]/\((l.zip m).take k).all (fun q=>likeT u v q.1 q.2)=true/\Bl w2 w') ⟨rfl,rfl,Bl.refl _⟩ ?_
 rintro k vals w3 hk ⟨rfl,hall,B3⟩ ih
 have B23:=B2.trans B3
 by_cases hlt:k<l.length
 ·refine brT ?_
  obtain ⟨t,bf,of,cs,hx,rfl,_,hAt,rfl⟩:=at_some (h1.bl B23) hlt
  obtain ⟨r,bg,og,cs',hy,rfl,_,hAr,rfl⟩:=at_some (h2.bl B23) (show k<m.length by omega)
  have hz:(l.zip m)[k]? = some (t,r):=List.getElem?_zip_eq_some.2 ⟨hx,hy⟩
  refine dh T (List.range 11) fun w4 k4 => ?_
  have B4:=B23.trans k4.bl
  have x14:=k4.box (Bl.box B3 x1)
  have x24:=k4.box (Bl.box B3 k2.box)
  refine lda x14.at ?_ (hm:=trivial)
  refine ix ?_
  refine lda (hAt.bl k4.bl) ?_ (hm:=trivial)
  refine cl (r_typePath (hU.bl B4) (ht t (List.mem_of_getElem? hx))) ?_
  rintro _ w5 ⟨rfl,B5⟩
  refine dh T (List.range 11) fun w6 k6 => ?_
  have B46:=B5.trans k6.bl
  refine lda (k6.box (Bl.box B5 x24)).at ?_ (hm:=trivial)
  refine ix ?_
  refine lda (((hAr.bl k4.bl).bl B5).bl k6.bl) ?_ (hm:=trivial)
  refine cl (r_typePath (hV.bl (B4.trans B46)) (hr r (List.mem_of_getElem? hy))) ?_
  rintro _ w7 ⟨rfl,B7⟩
  have B47:=B46.trans B7
  by_cases hq:t.kind=r.kind/\tpth u t=tpth v r
  ·have hy:likeT u v t r=true:=by unfold likeT;rw [decide_eq_true hq.1,decide_eq_true hq.2];rfl
   refine brf ?_ (hp:=by simp [hq.1,hq.2])
   exact ih hlt ⟨rfl,all_snocV (p:=fun q:Ty×Ty=>likeT u v q.1 q.2) hall hz hy,(B3.trans k4.bl).trans B47⟩
  ·have hn:likeT u v t r=false:=by
    unfold likeT
    by_cases q1:t.kind=r.kind
    ·rw [decide_eq_false (show ¬tpth u t=tpth v r from fun q2=>hq ⟨q1,q2⟩),Bool.and_false]
    ·rw [decide_eq_false q1];rfl
   refine brt ?_ (hp:=by
    by_cases q1:t.kind=r.kind
    ·have q2:¬tpth u t=tpth v r:=fun q2=>hq ⟨q1,q2⟩
     simp [q2]
    ·simp [q1])
   refine rt1 ⟨?_,B4.trans B47⟩
   unfold likeL
   rw [all_no (p:=fun q:Ty×Ty=>likeT u v q.1 q.2) hz hn,Bool.and_false]
 ·refine brF ?_
  obtain rfl:k=l.length:=by omega
  rw [List.take_of_length_le (by rw [List.length_zip];omega)] at hall
  refine rt1 ⟨?_,B23⟩
  unfold likeL
  rw [decide_eq_true hl,hall];rfl
end Go.Proofs.YtkmdfjpafkcleaaGreatDoor
namespace Go.Proofs.YtkmdfjpafkcleaaGreatDoor
open Eng Go.RowKit
variable {us:List Unt} {b:Nat} {w:World} {s:PgS}
def numF (us:List Unt) (s:PgS) (p:ByteArray):Int:=plcW s.ord 0 ((clsF us p).getD (0,0))
def lnkT (us:List Unt) (s:PgS) (u:Unt) (t:Ty):Ty:=if tcls t=true then ⟨t.kind,numF us s (nm u t.cls)⟩ else ⟨t.kind,0⟩
set_option maxHeartbeats 1000000 in
theorem r_linked (H:Pg us b s w) (hs:s.cls=clsW us) (hC:∀ u∈us,CkU u) {u:Unt} {ua:UA} (hU:UnR T w u ua) {t:Ty} (ht:tcls t=true->inP u t.cls) :
  Ret Tryz.prog 61 #[.pointer (some ⟨b,0,none⟩),.agg (ucells u ua).toArray,.agg (encTy t).toArray] w fun v w'=>v = .agg (encTy (lnkT us s u t)).toArray/\Bl w w':=by
 refine entr (vs:=[.pointer (some ⟨b,0,none⟩),.agg (ucells u ua).toArray,.agg (encTy t).toArray]) [0,1,2,4,5,6,14] tabok Tryz.func61 (by kernel_rfl) ?_
 refine bx (cs:=ucells u ua) fun b1 w1 k1 => ?_
 refine bx (cs:=encTy t) fun b2 w2 k2 => ?_
 refine al fun b6 w3 k3 => ?_
 have y3:=k3.blk
 have z1:=k1.size
 have y1:=k1.blk
 have y2:=k2.blk
 have z2:=k2.size
 have B3:=(k1.bl.trans k2.bl).trans k3.bl
 have x1:=Bl.box (k2.bl.trans k3.bl) k1.box
 have x2:=Bl.box k3.bl k2.box
 have big:tcls t=true->∀ (w4:World),Dr w3 w4->Ret Tryz.prog 66 #[.agg (ucells u ua).toArray,I t.cls] w4 fun v w'=>v = .string (nm u t.cls)/\Bl w4 w':=fun hc w4 k4=>r_text (hU.bl (B3.trans k4.bl)) (ht hc)
 refine ld (x2.cell rfl) ?_
 by_cases h2:t.kind=2
 ·have hc:tcls t=true:=by simp [tcls,h2]
  refine spn (I 0) ?_ (hb:=by simp [h2])
  refine brt ?_ (hp:=by simp [h2])
  refine dh (fun i=>i<b6) (List.range 10) fun w4 k4 => ?_
  have B4:=B3.trans k4.bl
  refine ld ((k4.box x2).cell rfl) ?_ (hm:=by show b2<_;omega)
  refine lda (k4.box x1).at ?_ (hm:=by show b1<_;omega)
  refine ld ((k4.box x2).cell rfl) ?_ (hm:=by show b2<_;omega)
  refine cl (big hc w4 k4) ?_
  rintro _ w5 ⟨rfl,B5⟩
  refine cl (r_number (H.bl (B4.trans B5)) hs hC _) ?_
  rintro _ w6 ⟨rfl,B6⟩
  refine bd ?_
  refine sta (cs':=encTy ⟨t.kind,numF us s (nm u t.cls)⟩) (Bl.box ((k4.bl.trans B5).trans B6) k3.box) (fun w7 k7 x7 => ?_) (hm:=wrS (by show ¬b6<b6;omega))
  refine rtc (cs:=encTy ⟨t.kind,numF us s (nm u t.cls)⟩) x7.at ⟨?_,Below.trans ((B4.trans B5).trans B6) (k7.below (by omega))⟩
  unfold lnkT
  rw [if_pos hc]
 ·refine spt (I 0) ?_ (hb:=by simp [h2])
  refine ld (x2.cell rfl) ?_
  by_cases h4:t.kind=4
  ·have hc:tcls t=true:=by simp [tcls,h4]
   refine brt ?_ (hp:=by simp [h4])
   refine dh (fun i=>i<b6) (List.range 10) fun w4 k4 => ?_
   have B4:=B3.trans k4.bl
   refine ld ((k4.box x2).cell rfl) ?_ (hm:=by show b2<_;omega)
   refine lda (k4.box x1).at ?_ (hm:=by show b1<_;omega)
   refine ld ((k4.box x2).cell rfl) ?_ (hm:=by show b2<_;omega)
   refine cl (big hc w4 k4) ?_
   rintro _ w5 ⟨rfl,B5⟩
   refine cl (r_number (H.bl (B4.trans B5)) hs hC _) ?_
   rintro _ w6 ⟨rfl,B6⟩
   refine bd ?_
   refine sta (cs':=encTy ⟨t.kind,numF us s (nm u t.cls)⟩) (Bl.box ((k4.bl.trans B5).trans B6) k3.box) (fun w7 k7 x7 => ?_) (hm:=wrS (by show ¬b6<b6;omega))
   refine rtc (cs:=encTy ⟨t.kind,numF us s (nm u t.cls)⟩) x7.at ⟨?_,Below.trans ((B4.trans B5).trans B6) (k7.below (by omega))⟩
   unfold lnkT
   rw [if_pos hc]
  ·have hc:¬tcls t=true:=by simp [tcls,h2,h4]
   refine brf ?_ (hp:=by simp [h4])
   refine ld (x2.cell rfl) ?_
   refine bd ?_
   refine sta (cs':=encTy ⟨t.kind,0⟩) k3.box fun w7 k7 x7 => ?_
   refine rtc (cs:=encTy ⟨t.kind,0⟩) x7.at ⟨?_,Below.trans B3 (k7.below (by omega))⟩
   unfold lnkT
   rw [if_neg hc]
set_option maxHeartbeats 1000000 in
theorem r_linkedAll (H:Pg us b s w) (hs:s.cls=clsW us) (hC:∀ u∈us,CkU u) {u:Unt} {ua:UA} (hU:UnR T w u ua) {l:List Ty} {a:Option Addr} {c:Nat} (hl:Sl eTy T w a l) (hln:l.length<=100) (ht:∀ t∈l,tcls t=true->inP u t.cls) :
  Ret Tryz.prog 65 #[.pointer (some ⟨b,0,none⟩),.agg (ucells u ua).toArray,.slice a l.length c] w fun v w'=>∃ a' c',v = .slice a' (l.map (lnkT us s u)).length c'/\OwP 2 encTy w' w.heap.size 51 a' c' (l.map (lnkT us s u))/\Bl w w':=by
 refine entr (vs:=[.pointer (some ⟨b,0,none⟩),.agg (ucells u ua).toArray,.slice a l.length c]) [0,1,2,4,6,7,8,12] tabok Tryz.func65 (by kernel_rfl) ?_
 refine bx (cs:=ucells u ua) fun b1 w1 k1 => ?_
 refine lpk (vals:=[.slice none 0 0]) l.length 8 [7] [(0,.pointer (some ⟨b,0,none⟩)),(2,.slice a l.length c),(4,.pointer (some ⟨b1,0,none⟩))]
  (fun k vals w'=>∃ a' c',vals=[.slice a' ((l.take k).map (lnkT us s u)).length c']/\OwP 2 encTy w' w1.heap.size 51 a' c' ((l.take k).map (lnkT us s u))/\Bl w1 w') ⟨none,0,rfl,Ow.nil ..,Bl.refl _⟩ ?_
 rintro k vals w2 hk ⟨a',c',rfl,O2,B12⟩ ih
 have B2:=k1.bl.trans B12
 by_cases hlt:k<l.length
 ·refine brT ?_
  obtain ⟨t,bf,of,cs,hx,rfl,_,hAt0,rfl⟩:=at_some hl hlt
  have hbf:bf<w.heap.size:=cell_lt (hAt0 0 _ rfl)
  have z1:=k1.size
  have y1:=k1.blk
  refine dh (fun i=>i<w1.heap.size) (List.range 11) fun w3 k3 => ?_
  have B3:=B2.trans k3.bl
  refine lda (Bl.box (B12.trans k3.bl) k1.box).at ?_ (hm:=by show b1<_;omega)
  refine ix ?_
  refine lda (hAt0.bl B3) ?_ (hm:=by show bf<_;omega)
  refine cl (r_linked (H.bl B3) hs hC (hU.bl B3) (ht t (List.mem_of_getElem? hx))) ?_
  rintro _ w4 ⟨rfl,B4⟩
  refine bs fun b5 w5 k5 => ?_
  have B25:=(k3.bl.trans B4).trans k5.bl
  have B15:=B12.trans B25
  have O5:=O2.bl B25
  have hlen:((l.take k).map (lnkT us s u)).length<=100:=by rw [List.length_map,List.length_take];omega
  have e1:(l.take (k+1)).map (lnkT us s u)=(l.take k).map (lnkT us s u)++[lnkT us s u t]:=map_snoc hx
  refine apl (l1:=[lnkT us s u t]) O5 (.inr ⟨b5,0,rfl,k5.box.at⟩) B15.size (fun a6 c6 w6 O6 A6 _ => ?_) (hb:=by simp only [List.length_cons,List.length_nil];omega) (hn:=by simp only [List.length_cons,List.length_nil];omega) (hm:=apS (S:=fun i=>i<w1.heap.size) fun g hg=>by have:=(O2.lt hg).1;omega)
  exact ih hlt ⟨a6,c6,by rw [e1],by rw [e1];exact O6,Eng.Ow.below O5 A6 B15 B15.size⟩
 ·refine brF ?_
  obtain rfl:k=l.length:=by omega
  rw [List.take_length] at O2 ⊢
  exact rt1 ⟨a',c',rfl,O2.base k1.bl.size,B2⟩
end Go.Proofs.YtkmdfjpafkcleaaGreatDoor
namespace Go.Proofs.YtkmdfjpafkcleaaGreatDoor
open Eng Go.RowKit
variable {us:List Unt} {b:Nat} {w:World} {s:PgS}
set_option maxHeartbeats 1000000 in
theorem r_selBelow (H:Pg us b s w) (z:ByteArray) (hln:s.sel.length<=100) :
  Ret Tryz.prog 131 #[.pointer (some ⟨b,0,none⟩),.string z] w fun v w'=>(∃ a' c',v = .slice a' (atS s.sel z) c')/\Bl w w':=by
 refine entr (vs:=[.pointer (some ⟨b,0,none⟩),.string z]) [0,1,4,5,23] tabok Tryz.func131 (by kernel_rfl) ?_
 refine lpk (vals:=[]) s.sel.length 5 [] [(0,.pointer (some ⟨b,0,none⟩)),(1,.string z)] (fun k vals w'=>vals=[]/\(∀ i x,i<k->s.sel[i]? = some x->toL x<toL z)/\Bl w w') ⟨rfl,fun i x hi=>by omega,Bl.refl _⟩ ?_
 rintro k vals w2 hk ⟨rfl,hlt,B2⟩ ih
 obtain ⟨au,cu,ac,cc,as',cs,am,cm,ao,co,al',cl',az,cz,hx,h1,h2,h3,h4,h5,h6,h7,h8⟩:=H.bl B2
 have fin:atS s.sel z=k->∀ {C:Cx},True:=fun _ _=>trivial
 refine ld (hx.cell rfl) ?_
 by_cases hin:k<s.sel.length
 ·obtain ⟨x,bd,od,cs,hd,rfl,_,hAt,rfl⟩:=at_some h7 hin
  refine spt (.slice none 0 0) ?_ (hb:=by simp [hin])
  refine ld (hx.cell rfl) ?_
  refine spt (.pointer none) ?_ (hb:=by simp)
  refine ix ?_
  refine spt (.string ⟨#[]⟩) ?_ (hb:=by simp)
  refine ld (hAt 0 _ rfl) ?_
  refine spt (.bool false) ?_ (hb:=by simp)
  refine sop lss_run ?_
  by_cases hp:toL x<toL z
  ·refine brt ?_ (hp:=by simp [hp])
   refine ih hin ⟨rfl,fun i y hi hy => ?_,B2⟩
   rcases Nat.lt_or_ge i k with q | q
   ·exact hlt i y q hy
   ·obtain rfl:i=k:=by omega
    rw [hd] at hy;obtain rfl:=Option.some.inj hy;exact hp
  ·refine brf ?_ (hp:=by simp [hp])
   have e:=atS_eq (l:=s.sel) (s:=z) hk hlt fun y hy=>by rw [hd] at hy;obtain rfl:=Option.some.inj hy;exact hp
   refine ld (hx.cell rfl) ?_
   refine sl 0 k ?_
   exact rt1 ⟨⟨_,_,by rw [e]⟩,B2⟩
 ·refine spn (.slice none 0 0) ?_ (hb:=by simp [hin])
  refine spn (.pointer none) ?_ (hb:=by simp [hin])
  refine spn (.string ⟨#[]⟩) ?_ (hb:=by simp [hin])
  refine spn (.bool false) ?_ (hb:=by simp [hin])
  refine brf ?_ (hp:=by simp [hin])
  obtain rfl:k=s.sel.length:=by omega
  have e:=atS_eq (l:=s.sel) (s:=z) hk hlt fun y hy=>by simp at hy
  refine ld (hx.cell rfl) ?_
  refine sl 0 s.sel.length ?_
  exact rt1 ⟨⟨_,_,by rw [e]⟩,B2⟩
end Go.Proofs.YtkmdfjpafkcleaaGreatDoor
namespace Go.Proofs.YtkmdfjpafkcleaaGreatDoor
open Eng Go.RowKit
structure OnB (w:World) (b:Nat) (w':World):Prop where
 lt:b<w.heap.size
 below:Below b w w'
 blk:∀ i,i<w.heap.size->i≠b->w'.heap[i]? = w.heap[i]?
theorem OnB.refl {w:World} {b:Nat} (h:b<w.heap.size):OnB w b w:=⟨h,Below.refl _ _,fun _ _ _=>rfl⟩
theorem OnB.le {w w':World} {b:Nat} (h:OnB w b w'):w.heap.size<=w'.heap.size:=h.below.size
theorem OnB.trans {w w' w'':World} {b:Nat} (h:OnB w b w') (k:OnB w' b w''):OnB w b w'' :=
 ⟨h.lt,h.below.trans k.below,fun i hi hn=>(k.blk i (Nat.lt_of_lt_of_le hi h.le) hn).trans (h.blk i hi hn)⟩
theorem OnB.bl {w w' w'':World} {b:Nat} (h:OnB w b w') (k:Bl w' w''):OnB w b w'' :=
 ⟨h.lt,h.below.trans (k.mono (by have:=h.lt;have:=h.le;omega)),fun i hi hn=>(k.block i (Nat.lt_of_lt_of_le hi h.le)).trans (h.blk i hi hn)⟩
theorem OnB.wr {w w' w'':World} {b:Nat} (h:OnB w b w') (k:Wr w' b w''):OnB w b w'' :=
 ⟨h.lt,h.below.trans (k.below (Nat.le_refl _)),fun i hi hn=>(k.block i hn).trans (h.blk i hi hn)⟩
theorem OnB.ap {w w' w'':World} {b:Nat} {a:Option Addr} (h:OnB w b w') (k:Ap w' a w'') (ha:∀ g,a=some ⟨g,0,none⟩->w.heap.size<=g):OnB w b w'' :=
 ⟨h.lt,h.below.trans (k.below (by have:=h.lt;have:=h.le;omega) fun g hg=>by have:=ha g hg;have:=h.lt;omega),fun i hi hn=>(k.block i (Nat.lt_of_lt_of_le hi h.le) fun e=>by have:=ha i e;omega).trans (h.blk i hi hn)⟩
theorem OnB.kp {w w':World} {b:Nat} (h:OnB w b w'):Kp (fun i=>i≠b) w w':=fun i o v s x=>by
 rw [World.cell?_of_block (w:=w) (h.blk i (cell_lt x) s)];exact x
theorem OnB.toBl {w0 w w':World} {b:Nat} (h:OnB w b w') (k:Bl w0 w) (hb:w0.heap.size<=b):Bl w0 w':=Below.trans k (Below.mono (B':=w0.heap.size) h.below hb)
structure PgR where
 au:Option Addr
 cu:Nat
 ac:Option Addr
 cc:Nat
 as':Option Addr
 cs:Nat
 am:Option Addr
 cm:Nat
 ao:Option Addr
 co:Nat
 al:Option Addr
 cl:Nat
 az:Option Addr
 cz:Nat
abbrev pgcells (us:List Unt) (s:PgS) (r:PgR):List Value:=[.slice r.au us.length r.cu,.slice r.ac s.cls.length r.cc,.slice r.as' s.sta.length r.cs,.slice r.am s.mth.length r.cm,.slice r.ao s.ord.length r.co,.slice r.al s.las.length r.cl,.slice r.az s.sel.length r.cz]
structure PgH (us:List Unt) (b:Nat) (s:PgS) (r:PgR) (w:World):Prop where
 box:Box w b tPr (pgcells us s r)
 u:Sl eUnt (fun i=>i≠b) w r.au us
 c:Sl eWh (fun i=>i≠b) w r.ac s.cls
 t:Sl eWh (fun i=>i≠b) w r.as' s.sta
 m:Sl eWh (fun i=>i≠b) w r.am s.mth
 o:Sl eWh (fun i=>i≠b) w r.ao s.ord
 l:Sl eWh (fun i=>i≠b) w r.al s.las
 z:Sl eStr (fun i=>i≠b) w r.az s.sel
 cz:s.sel.length<=r.cz
theorem PgH.pg {us:List Unt} {b:Nat} {s:PgS} {r:PgR} {w:World} (h:PgH us b s r w):Pg us b s w :=
 ⟨r.au,r.cu,r.ac,r.cc,r.as',r.cs,r.am,r.cm,r.ao,r.co,r.al,r.cl,r.az,r.cz,h.box,h.u.sub fun _ _=>trivial,h.c.sub fun _ _=>trivial,h.t.sub fun _ _=>trivial,h.m.sub fun _ _=>trivial,h.o.sub fun _ _=>trivial,h.l.sub fun _ _=>trivial,h.z.sub fun _ _=>trivial,h.cz⟩
theorem PgH.bl {us:List Unt} {b:Nat} {s:PgS} {r:PgR} {w w':World} (h:PgH us b s r w) (k:Bl w w'):PgH us b s r w' :=
 ⟨Bl.box k h.box,h.u.bl k,h.c.bl k,h.t.bl k,h.m.bl k,h.o.bl k,h.l.bl k,h.z.bl k,h.cz⟩
theorem PgH.ord {us:List Unt} {b:Nat} {s:PgS} {r:PgR} {w w':World} (h:PgH us b s r w) (k:OnB w b w') {out:List (Nat×Nat)} {ao:Option Addr} {co:Nat} (hx:Box w' b tPr (pgcells us { s with ord:=out } { r with ao:=ao,co:=co })) (ho:Sl eWh (fun i=>i≠b) w' ao out):PgH us b { s with ord:=out } { r with ao:=ao,co:=co } w' :=
 ⟨hx,h.u.kp k.kp,h.c.kp k.kp,h.t.kp k.kp,h.m.kp k.kp,ho,h.l.kp k.kp,h.z.kp k.kp,h.cz⟩
theorem PgH.las {us:List Unt} {b:Nat} {s:PgS} {r:PgR} {w w':World} (h:PgH us b s r w) (k:OnB w b w') {out:List (Nat×Nat)} {ao:Option Addr} {co:Nat} (hx:Box w' b tPr (pgcells us { s with las:=out } { r with al:=ao,cl:=co })) (ho:Sl eWh (fun i=>i≠b) w' ao out):PgH us b { s with las:=out } { r with al:=ao,cl:=co } w' :=
 ⟨hx,h.u.kp k.kp,h.c.kp k.kp,h.t.kp k.kp,h.m.kp k.kp,h.o.kp k.kp,ho,h.z.kp k.kp,h.cz⟩
theorem PgH.sel {us:List Unt} {b:Nat} {s:PgS} {r:PgR} {w w':World} (h:PgH us b s r w) (k:OnB w b w') {out:List ByteArray} {ao:Option Addr} {co:Nat} (hx:Box w' b tPr (pgcells us { s with sel:=out } { r with az:=ao,cz:=co })) (ho:Sl eStr (fun i=>i≠b) w' ao out) (hc:out.length<=co):PgH us b { s with sel:=out } { r with az:=ao,cz:=co } w' :=
 ⟨hx,h.u.kp k.kp,h.c.kp k.kp,h.t.kp k.kp,h.m.kp k.kp,h.o.kp k.kp,h.l.kp k.kp,ho,hc⟩
structure PgL (us:List Unt) (b:Nat) (cls sta mth ord las:List (Nat×Nat)) (sel:List ByteArray) (au:Option Addr) (cu:Nat) (ac:Option Addr) (cc:Nat) (as':Option Addr) (cs:Nat) (am:Option Addr) (cm:Nat) (ao:Option Addr) (co:Nat) (al:Option Addr) (cl:Nat) (az:Option Addr) (cz:Nat) (w:World):Prop where
 box:Box w b tPr [.slice au us.length cu,.slice ac cls.length cc,.slice as' sta.length cs,.slice am mth.length cm,.slice ao ord.length co,.slice al las.length cl,.slice az sel.length cz]
 u:Sl eUnt (fun i=>i≠b) w au us
 c:Sl eWh (fun i=>i≠b) w ac cls
 t:Sl eWh (fun i=>i≠b) w as' sta
 m:Sl eWh (fun i=>i≠b) w am mth
 o:Sl eWh (fun i=>i≠b) w ao ord
 l:Sl eWh (fun i=>i≠b) w al las
 z:Sl eStr (fun i=>i≠b) w az sel
theorem PgH.lit {us:List Unt} {b:Nat} {cls sta mth ord las:List (Nat×Nat)} {sel:List ByteArray} {au:Option Addr} {cu:Nat} {ac:Option Addr} {cc:Nat} {as':Option Addr} {cs:Nat} {am:Option Addr} {cm:Nat} {ao:Option Addr} {co:Nat} {al:Option Addr} {cl:Nat} {az:Option Addr} {cz:Nat} {w:World}
  (h:PgH us b ⟨cls,sta,mth,ord,las,sel⟩ ⟨au,cu,ac,cc,as',cs,am,cm,ao,co,al,cl,az,cz⟩ w):PgL us b cls sta mth ord las sel au cu ac cc as' cs am cm ao co al cl az cz w:=⟨h.box,h.u,h.c,h.t,h.m,h.o,h.l,h.z⟩
def ndC (us:List Unt) (d:Nat×Nat):List (Nat×Nat):=match clsAt us d with
 | some (u,c)=>if c.super<0 then [] else [(clsF us (nm u c.super)).getD (0,0)]
 | none=>[]
theorem ndC_at {us:List Unt} {d:Nat×Nat} {u:Unt} {c:Cls} (h:clsAt us d=some (u,c)):ndC us d=if c.super<0 then [] else [(clsF us (nm u c.super)).getD (0,0)]:=by unfold ndC;rw [h]
variable {us:List Unt} {b:Nat} {w:World} {s:PgS} {r:PgR}
set_option maxHeartbeats 4000000 in
theorem r_placeClasses (H:PgH us b s r w) (hs:s.cls=clsW us) (ho:s.ord=[]) (hao:r.ao=none) (hco:r.co=0) (hC:∀ u∈us,CkU u) {needs:ByteArray->List ByteArray} (hP:PlOk (clsW us) (pthC us) (ndC us) needs)
  {names:List ByteArray} (hn:names.Perm ((clsW us).map (pthC us))) (hl:(clsW us).length<=100) :
  Ret Tryz.prog 120 #[.pointer (some ⟨b,0,none⟩)] w fun v w'=>OnB w b w'/\∃ t out ao co,v = .bool t/\PgH us b { s with ord:=out } { r with ao:=ao,co:=co } w'/\(∀ x∈out,x∈clsW us)/\out.Nodup /\
   (t=true->out.length=(clsW us).length/\orderL needs names=some (out.map (pthC us)))/\(t=false->orderL needs names=none):=by
 obtain ⟨cls,stt,mth,ord,las,sel⟩:=s
 obtain ⟨au,cu,ac,cc,as',cs,am,cm,ao,co,al',cl',az,cz⟩:=r
 dsimp only at hs ho hao hco H ⊢
 subst hs ho hao hco
 obtain ⟨P0,e0⟩:=pl_start hP hn
 refine entr (vs:=[.pointer (some ⟨b,0,none⟩)]) [0,2,3,4,5,6,7,8,20,27,43,50,63,80,83] tabok Tryz.func120 (by kernel_rfl) ?_
 have hb:=H.box.lt
 refine lp (vals:=[]) (m:=(clsW us).length) [] [(0,.pointer (some ⟨b,0,none⟩))] (fun n vals w'=>vals=[]/\∃ out ao co left,n=(clsW us).length-out.length/\out.length<=(clsW us).length/\PgH us b ⟨clsW us,stt,mth,out,las,sel⟩ ⟨au,cu,ac,cc,as',cs,am,cm,ao,co,al',cl',az,cz⟩ w' /\
  OwP 2 encWh w' w.heap.size tWh ao co out/\OnB w b w'/\PlSt (clsW us) (pthC us) left out/\orderL needs names=placeL needs left.length left (out.map (pthC us))) ⟨rfl,trivial⟩ ⟨rfl,[],none,0,sortL names,rfl,Nat.zero_le _,H,Ow.nil ..,OnB.refl hb,P0,e0⟩ ?_
 rintro n vals w1 ⟨rfl,out,ao,co,left,rfl,hle,H1,O1,B1,P1,e1⟩ ih
 refine dh T (List.range 11) fun w2 k2 => ?_
 have H2:=H1.bl k2.bl
 refine ld (H2.lit.box.cell rfl) ?_ (hm:=trivial)
 refine ld (H2.lit.box.cell rfl) ?_ (hm:=trivial)
 by_cases hlt:out.length<(clsW us).length
 rotate_left
 ·refine brF ?_
  refine rt1 ⟨B1.bl k2.bl,true,out,ao,co,rfl,H2,P1.sub,P1.nd,fun _=>⟨by omega,by rw [e1];exact pl_end P1 hlt⟩,fun h=>by cases h⟩
 refine brT ?_
 refine lpk (vals:=[I (-1)]) (clsW us).length 4 [3] [(0,.pointer (some ⟨b,0,none⟩))] (fun k vals w'=>∃ best:Int,vals=[I best]/\BestOf (clsW us) (pthC us) (rdyB (ndC us) out) k best/\Bl w2 w') ⟨-1,rfl,best_zero,Bl.refl _⟩ ?_
 rintro k vals w3 hk ⟨best,rfl,hbest,B3⟩ ih2
 have H3:=H2.bl B3
 have O3:=O1.bl (k2.bl.trans B3)
 have OB3:=(B1.bl k2.bl).bl B3
 refine ld (H3.lit.box.cell rfl) ?_
 by_cases hlt2:k<(clsW us).length
 ·refine brT ?_
  refine ld (H3.lit.box.cell rfl) ?_
  obtain ⟨d,bd,od,cs2,hd,rfl,_,hAt,rfl⟩:=at_some H3.lit.c hlt2
  obtain ⟨⟨u,c⟩,ha⟩:=mem_clsW.1 (List.mem_of_getElem? hd)
  refine ix ?_
  refine lda hAt ?_
  refine al fun b5 w4 k4 => ?_
  have y4:=k4.blk
  refine sta (cs':=encWh d) k4.box fun w5 k5 x5 => ?_
  have B35:Bl w3 w5:=Below.trans k4.bl (k5.below (by omega))
  refine dh T (List.range 7) fun w6 k6 => ?_
  have B36:=B35.trans k6.bl
  have H6:=H3.bl B36
  refine ld (H6.lit.box.cell rfl) ?_ (hm:=trivial)
  refine lda (k6.box x5).at ?_ (hm:=trivial)
  refine cl (r_placed (H6.lit.o.sub fun _ _=>trivial) d) ?_
  rintro _ w7 ⟨rfl,B7⟩
  have B37:=B36.trans B7
  have B57:=k6.bl.trans B7
  by_cases hin:d∈out
  ·have hq:=(plcW_iff out 0 d).1 hin
   refine brT ?_
   exact ih2 hlt2 ⟨best,rfl,best_not hbest hd (by simp [rdyB,hin]),B3.trans B37⟩
  have hq:=(plcW_iff out 0 d).2 hin
  refine brF ?_
  refine lda (Bl.box B57 x5).at ?_
  refine cl (r_super (H3.bl B37).pg.u hC ha) ?_
  rintro _ w8 ⟨rfl,B8⟩
  have B38:=B37.trans B8
  refine jn (t:=decide (0<=c.super)) [] [(0,.pointer (some ⟨b,0,none⟩)),(3,I best),(4,I k),(5,.pointer (some ⟨b5,0,none⟩))] (fun vals w'=>vals=[]/\rdyB (ndC us) out d=true/\Bl w5 w') (fun h0 jo => ?_) (fun h0 jo => ?_) ?_
  ·rw [decide_eq_true_eq] at h0
   have hsu:supF u c=nm u c.super:=by unfold supF;rw [if_neg (by omega)]
   refine cl (r_class (H3.bl B38).pg rfl hC _) ?_
   rintro _ w9 ⟨rfl,B9⟩
   refine al fun b8 w10 k10 => ?_
   have y10:=k10.blk
   refine sta (cs':=encWh ((clsF us (supF u c)).getD (0,0))) k10.box fun w11 k11 x11 => ?_
   have B911:Bl w9 w11:=Below.trans k10.bl (k11.below (by omega))
   refine dh T (List.range 7) fun w12 k12 => ?_
   have B312:=((B38.trans B9).trans B911).trans k12.bl
   have H12:=H3.bl B312
   refine ld (H12.lit.box.cell rfl) ?_ (hm:=trivial)
   refine lda (k12.box x11).at ?_ (hm:=trivial)
   refine cl (r_placed (H12.lit.o.sub fun _ _=>trivial) _) ?_
   rintro _ w13 ⟨rfl,B13⟩
   have hnd:ndC us d=[(clsF us (supF u c)).getD (0,0)]:=by rw [ndC_at ha,if_neg (by omega),hsu]
   by_cases hin2:(clsF us (supF u c)).getD (0,0)∈out
   ·have hq2:=(plcW_iff out 0 _).1 hin2
    refine brF ?_
    exact jo ⟨rfl,by unfold rdyB;rw [hnd];simp [hin,hin2],(((B57.trans B8).trans B9).trans B911).trans (k12.bl.trans B13)⟩
   ·have hq2:=(plcW_iff out 0 _).2 hin2
    refine brT ?_
    exact ih2 hlt2 ⟨best,rfl,best_not hbest hd (by unfold rdyB;rw [hnd];simp [hin2]),(B3.trans B312).trans B13⟩
  ·rw [decide_eq_false_iff_not] at h0
   have hnd:ndC us d=[]:=by rw [ndC_at ha,if_pos (by omega)]
   exact jo ⟨rfl,by unfold rdyB;rw [hnd];simp [hin],B57.trans B8⟩
  rintro vals w14 ⟨rfl,hr,B514⟩
  have B314:=B35.trans B514
  refine dh T [0,1,2,3,4,6,7,8,9,10,11,12,13,5,14,15,16] fun w15 k15 => ?_
  have B315:=B314.trans k15.bl
  have x15:=k15.box (Bl.box B514 x5)
  have H15:=H3.bl B315
  by_cases hb0:best<0
  ·refine spn (.agg #[I 0,I 0]) ?_ (hb:=by simp [hb0])
   refine spn (.slice none 0 0) ?_ (hb:=by simp [hb0])
   refine spn (.pointer none) ?_ (hb:=by simp [hb0])
   refine spn (.agg #[I 0,I 0]) ?_ (hb:=by simp [hb0])
   refine spn (.string ⟨#[]⟩) ?_ (hb:=by simp [hb0])
   refine spn (.string ⟨#[]⟩) ?_ (hb:=by simp [hb0])
   refine spn (.bool false) ?_ (hb:=by simp [hb0])
   refine brt ?_ (hp:=by simp [hb0])
   exact ih2 hlt2 ⟨(k:Int),rfl,best_first hbest hd hr hb0,B3.trans B315⟩
  ·have hbest':=hbest
   rcases hbest with ⟨q,_⟩ | ⟨m,y,rfl,hmk,hy,_⟩
   ·omega
   obtain ⟨⟨u',c'⟩,ha'⟩:=mem_clsW.1 (List.mem_of_getElem? hy)
   obtain ⟨b',o',cs',e',_,hAt',rfl⟩:=H15.lit.c.el m y hy
   simp only [Option.some.injEq,Addr.mk.injEq,and_true] at e'
   obtain ⟨rfl,rfl⟩:=e'
   refine spt (.agg #[I 0,I 0]) ?_ (hb:=by simp [hb0])
   refine lda x15.at ?_ (hm:=trivial)
   refine spt (.slice none 0 0) ?_ (hb:=by simp)
   refine ld (H15.lit.box.cell rfl) ?_ (hm:=trivial)
   refine spt (.pointer none) ?_ (hb:=by simp)
   refine ix ?_ (hb:=(List.getElem?_eq_some_iff.1 hy).1)
   refine spt (.agg #[I 0,I 0]) ?_ (hb:=by simp)
   refine lda hAt' ?_ (hm:=trivial)
   refine spt (.string ⟨#[]⟩) ?_ (hb:=by simp)
   refine cl (r_cpath H15.pg.u hC ha) ?_
   rintro _ w16 ⟨rfl,B16⟩
   refine spt (.string ⟨#[]⟩) ?_ (hb:=by simp)
   refine cl (r_cpath (H15.bl B16).pg.u hC ha') ?_
   rintro _ w17 ⟨rfl,B17⟩
   have B317:=(B315.trans B16).trans B17
   refine spt (.bool false) ?_ (hb:=by simp)
   refine sop lss_run ?_
   by_cases hp:toL (pthC us d)<toL (pthC us y)
   ·refine brt ?_ (hp:=by simp [hp])
    exact ih2 hlt2 ⟨(k:Int),rfl,best_less hbest' hd hr rfl hy hp,B3.trans B317⟩
   ·refine brf ?_ (hp:=by simp [hp])
    exact ih2 hlt2 ⟨(m:Int),rfl,best_more hbest' hd rfl hy hp,B3.trans B317⟩
 ·refine brF ?_
  obtain rfl:k=(clsW us).length:=by omega
  by_cases hb0:best<0
  ·refine brT ?_ (hp:=hb0)
   refine rt1 ⟨OB3,false,out,ao,co,rfl,H3,P1.sub,P1.nd,fun h=>(by cases h),fun _ => ?_⟩
   rw [e1]
   refine pl_none hP P1 hlt ?_
   rcases hbest with ⟨rfl,q⟩ | ⟨m,y,rfl,_⟩
   ·exact .inl ⟨rfl,q⟩
   ·omega
  ·refine brF ?_ (hp:=hb0)
   have hbest':=hbest
   rcases hbest with ⟨q,_⟩ | ⟨m,x,rfl,hmk,hx,_⟩
   ·omega
   obtain ⟨left',P',e'⟩:=pl_some hP P1 hx hbest'
   obtain ⟨bc,oc,cs2,rfl,hne,hA0,rfl⟩:=H.lit.c.el m x hx
   have hbc:bc<w.heap.size:=cell_lt (hA0 0 _ rfl)
   refine dht 3 (fun i=>i<w.heap.size) (List.range 14) fun w4 k4 => ?_
   have H4:=H3.bl k4.bl
   have O4:=O3.bl k4.bl
   have OB4:=OB3.bl k4.bl
   refine ld (H4.lit.box.cell rfl) ?_ (hm:=by show b<_;exact hb)
   refine ld (H4.lit.box.cell rfl) ?_ (hm:=by show b<_;exact hb)
   refine ix ?_ (hb:=hmk)
   refine lda (hA0.kp OB4.kp hne) ?_ (hm:=by show bc<_;exact hbc)
   refine bs fun b5 w5 k5 => ?_
   have O5:=O4.bl k5.bl
   have OB5:=OB4.bl k5.bl
   have hga:∀ g,ao=some ⟨g,0,none⟩->w.heap.size<=g:=fun g hg=>(O5.lt hg).1
   refine apl (l1:=[x]) O5 (.inr ⟨b5,0,rfl,k5.box.at⟩) OB5.le (fun a6 c6 w6 O6 A6 _ => ?_) (hb:=by simp only [List.length_cons,List.length_nil];omega) (hn:=by simp only [List.length_cons,List.length_nil];omega) (hm:=apS (S:=fun i=>i<w.heap.size) fun g hg=>by have:=hga g hg;omega)
   have OB6:=OB5.ap A6 hga
   refine st (A6.box (H4.bl k5.bl).lit.box fun e=>by have:=hga b e;omega) (fun w7 k7 x7 => ?_)
   have hg6:∀ g,a6=some ⟨g,0,none⟩->g≠b:=fun g hg=>by have:=(O6.lt hg).1;omega
   have O7:=O6.wr k7 hg6
   have OB7:=OB6.wr k7
   have hlen:(out++[x]).length=out.length+1:=by simp
   exact again (ih _ _ _ _ (by omega) ⟨rfl,trivial⟩ rfl ⟨rfl,out++[x],a6,c6,left',rfl,by omega,H.ord OB7 x7 (owp_sl O7 (by omega) hg6),O7,OB7,P',by rw [e1,e']⟩)
end Go.Proofs.YtkmdfjpafkcleaaGreatDoor
namespace Go.Proofs.YtkmdfjpafkcleaaGreatDoor
open Eng Go.RowKit
variable {us:List Unt}
theorem clsF_get (h:Good us) (p:ByteArray):clsF us p=getM (decl us).classes p:=(get_clsW h p).symm
theorem clsF_has (h:Good us) (p:ByteArray):(clsF us p).isSome=hasM (decl us).classes p:=by rw [clsF_get h];rfl
theorem find_filter {α:Type} (p q:α->Bool):∀ l:List α,(l.filter p).find? q=l.find? fun a=>p a&&q a
 | []=>rfl
 | x::l=>by
  cases hp:p x with
  | true =>
   rw [List.filter_cons_of_pos hp]
   cases hq:q x with
   | true=>rw [List.find?_cons_of_pos hq,List.find?_cons_of_pos (by simp [hp,hq])]
   | false=>rw [List.find?_cons_of_neg (by simp [hq]),List.find?_cons_of_neg (by simp [hq]),find_filter p q l]
  | false=>rw [List.filter_cons_of_neg (by simp [hp]),List.find?_cons_of_neg (by simp [hp]),find_filter p q l]
theorem calF_get (h:Good us) (p:ByteArray):calF us p=getM (decl us).calls p:=by
 rw [get_calW h,find_filter];rfl
theorem calF_has (h:Good us) (p:ByteArray):(calF us p).isSome=hasM (decl us).calls p:=by rw [calF_get h];rfl
theorem find_any {α:Type} (p:α->Bool) (l:List α):(l.find? p).isSome=l.any p:=by
 rw [Bool.eq_iff_iff,List.find?_isSome,List.any_eq_true]
theorem staO_has (h:Good us) (p:ByteArray):staO us p (staW us)=hasM (decl us).statics p:=by
 unfold staO hasM
 rw [get_staW h,find_any]
theorem fldF_has (p:ByteArray):(fldF us p).isSome=(getM (decl us).fields p).getD false:=by
 rw [Bool.eq_iff_iff,get_fld]
 unfold fldF
 rw [List.findSome?_isSome_iff]
 constructor
 ·rintro ⟨d,hd,h⟩
  obtain ⟨⟨u,c⟩,ha⟩:=mem_clsW.1 hd
  obtain ⟨hu,hc⟩:=clsAt_un ha
  rw [Option.isSome_map] at h
  unfold fldK at h
  rw [ha] at h
  simp only at h
  rw [List.find?_isSome] at h
  obtain ⟨k,hk,h⟩:=h
  obtain ⟨f,hf⟩:=some_of_lt (List.mem_range.1 hk)
  rw [fhit_at ha hf,decide_eq_true_eq] at h
  exact ⟨u,List.mem_of_getElem? hu,c,List.mem_of_getElem? hc,f,List.mem_of_getElem? hf,h.symm⟩
 ·rintro ⟨u,hu,c,hc,f,hf,e⟩
  obtain ⟨n,hn⟩:=List.mem_iff_getElem?.1 hu
  obtain ⟨k,hk⟩:=List.mem_iff_getElem?.1 hc
  obtain ⟨j,hj⟩:=List.mem_iff_getElem?.1 hf
  have ha:=clsAt_mk hn hk
  refine ⟨(n,k),mem_clsW.2 ⟨_,ha⟩,?_⟩
  rw [Option.isSome_map]
  unfold fldK
  rw [ha]
  simp only
  rw [List.find?_isSome]
  exact ⟨j,List.mem_range.2 (List.getElem?_eq_some_iff.1 hj).1,by rw [fhit_at ha hj,decide_eq_true_eq,e]⟩
theorem selF_has (z:ByteArray):selF us z=hasM (decl us).named z:=by
 rw [Bool.eq_iff_iff,has_nmd]
 unfold selF
 rw [List.any_eq_true]
 constructor
 ·rintro ⟨d,hd,h⟩
  obtain ⟨⟨u,m⟩,ha⟩:=mem_mthW.1 hd
  obtain ⟨hu,hm⟩:=mthAt_un ha
  unfold selB at h
  rw [sentB_at ha,mnm_at ha,Bool.and_eq_true,decide_eq_true_eq,decide_eq_true_eq] at h
  exact ⟨(u,m),⟨List.mem_of_getElem? hu,List.mem_of_getElem? hm,by show ¬m.cls<0;omega⟩,h.2.symm⟩
 ·rintro ⟨⟨u,m⟩,⟨hu,hm,h0⟩,e⟩
  obtain ⟨n,hn⟩:=List.mem_iff_getElem?.1 hu
  obtain ⟨k,hk⟩:=List.mem_iff_getElem?.1 hm
  have ha:=mthAt_mk hn hk
  refine ⟨(n,k),mem_mthW.2 ⟨_,ha⟩,?_⟩
  have h0:¬m.cls<0:=h0
  unfold selB
  rw [sentB_at ha,mnm_at ha,Bool.and_eq_true,decide_eq_true_eq,decide_eq_true_eq]
  exact ⟨by omega,e.symm⟩
theorem all_cong {α:Type} {l:List α} {f g:α->Bool} (h:∀ x∈l,f x=g x):l.all f=l.all g:=by
 rw [Bool.eq_iff_iff,List.all_eq_true,List.all_eq_true]
 exact ⟨fun q x hx=>by rw [<-h x hx];exact q x hx,fun q x hx=>by rw [h x hx];exact q x hx⟩
theorem tyF_is (h:Good us) {u:Unt} {t:Ty} (ht:tyP u t):tyF us u t=isTypeL (decl us) u t:=by
 rw [isType_tcls ht]
 unfold tyF
 rw [clsF_has h]
theorem resF_is (h:Good us) (u:Unt) (i:Ins):resF us u i=operL (decl us) u i:=by
 unfold resF operL
 simp only [clsF_has h,calF_has h,staO_has h,fldF_has,selF_has]
 by_cases h12:i.op=12
 ·simp only [h12,if_true]
  by_cases h3:i.a=3
  ·simp [h3]
  ·simp [h3]
 by_cases h14:i.op=14
 ·simp [h14]
 by_cases h24:i.op=24
 ·simp [h24]
 by_cases h16:i.op=16
 ·simp [h16]
 by_cases h17:i.op=17
 ·simp [h17]
 by_cases h18:i.op=18
 ·simp [h18]
 by_cases h22:i.op=22
 ·simp [h22]
 by_cases h23:i.op=23
 ·simp [h23]
 by_cases h25:i.op=25
 ·simp [h25]
 by_cases h26:i.op=26
 ·simp [h26]
 simp [h12,h14,h24,h16,h17,h18,h22,h23,h25,h26]
theorem namC_is (h:Good us) {u:Unt} (hu:u∈us) {c:Cls} (hc:c∈u.classes):namC us u c=defC (decl us) u c:=by
 unfold namC defC
 rw [clsF_has h,all_cong fun f hf=>tyF_is h ((tyU_of (h.ck u hu)).f c hc f hf)]
theorem namM_is (h:Good us) {n:Nat} {u:Unt} (hu:us[n]? = some u) {m:Mth} (hm:m∈u.methods):namM us n u m=defM (decl us) u m:=by
 have hum:=List.mem_of_getElem? hu
 have hT:=tyU_of (h.ck u hum)
 unfold namM defM
 rw [all_cong (l:=m.code) fun i _=>resF_is h u i,all_cong (l:=m.params) fun t ht=>tyF_is h (hT.p m hm t ht),all_cong (l:=m.locals) fun t ht=>tyF_is h (hT.l m hm t ht),tyF_is h (hT.r m hm),List.all_append,List.all_append,List.all_cons,List.all_nil,Bool.and_true,clsF_has h]
 have e:(hasM (decl us).classes (nm u m.cls)&&decide (((clsF us (nm u m.cls)).getD (0,0)).1=n))=(hasM (decl us).classes (nm u m.cls)&&preL u.name (nm u m.cls)):=by
  cases hg:getM (decl us).classes (nm u m.cls) with
  | none=>unfold hasM;rw [hg];rfl
  | some d =>
   have:=unit_pre h hu hg
   rw [clsF_get h,hg]
   congr 1
   rw [Bool.eq_iff_iff,decide_eq_true_eq]
   exact this
 rw [e]
 simp only [Bool.and_assoc]
theorem namU_is (h:Good us) {n:Nat} {u:Unt} (hu:us[n]? = some u):namU us n u=defU (decl us) u:=by
 have hum:=List.mem_of_getElem? hu
 have hT:=tyU_of (h.ck u hum)
 unfold namU defU
 rw [all_cong (l:=u.classes) fun c hc=>namC_is h hum hc,all_cong (l:=u.statics) fun f hf=>tyF_is h (hT.s f hf),all_cong (l:=u.methods) fun m hm=>namM_is h hu hm]
theorem defined_of (h:Good us) (q:∀ n u,us[n]? = some u->namU us n u=true):definedL us (decl us)=true :=
 List.all_eq_true.2 fun u hu=>by
  obtain ⟨n,hn⟩:=List.mem_iff_getElem?.1 hu
  rw [<-namU_is h hn];exact q n u hn
theorem defined_no (h:Good us) {n:Nat} {u:Unt} (hu:us[n]? = some u) (q:namU us n u=false):definedL us (decl us)=false:=all_no hu (by rw [<-namU_is h hu];exact q)
theorem dfn_cls (hd:definedL us (decl us)=true) {u:Unt} {c:Cls} (hu:u∈us) (hc:c∈u.classes):c.super<0∨hasM (decl us).classes (nm u c.super)=true:=by
 have h1:=List.all_eq_true.1 hd _ hu
 unfold defU at h1
 simp only [Bool.and_eq_true] at h1
 have h2:=List.all_eq_true.1 h1.1 _ hc
 unfold defC at h2
 simp only [Bool.and_eq_true,Bool.or_eq_true,decide_eq_true_eq,List.all_eq_true] at h2
 exact h2.1
theorem dfn_code (hd:definedL us (decl us)=true) {u:Unt} {m:Mth} (hu:u∈us) (hm:m∈u.methods) {i:Ins} (hi:i∈m.code):operL (decl us) u i=true:=by
 have h1:=List.all_eq_true.1 hd _ hu
 unfold defU at h1
 simp only [Bool.and_eq_true] at h1
 have h2:=List.all_eq_true.1 h1.2.2 _ hm
 unfold defM at h2
 simp only [Bool.and_eq_true] at h2
 exact List.all_eq_true.1 h2.2.2 _ hi
theorem cls_dotW {d:Nat×Nat} {u:Unt} {c:Cls} (h:clsAt us d=some (u,c)):¬pthC us d=nost:=fun e=>by
 rw [pthC_at h] at e
 have:=cls_dot (x:=(u,c))
 rw [show cpath u c=nost from e] at this
 cases this
theorem sup_found (h:Good us) (hd:definedL us (decl us)=true) {u:Unt} {c:Cls} (hu:u∈us) (hc:c∈u.classes) (h0:¬c.super<0) :
  ∃ e,clsF us (nm u c.super)=some e/\e∈clsW us/\pthC us e=nm u c.super/\¬nm u c.super=nost:=by
 have h1:=(dfn_cls hd hu hc).resolve_left h0
 obtain ⟨e,he⟩:=Option.isSome_iff_exists.1 h1
 obtain ⟨h2,h3⟩:=get_cls_at h he
 obtain ⟨⟨v,x⟩,hx⟩:=mem_clsW.1 h2
 exact ⟨e,by rw [clsF_get h,he],h2,h3,by rw [<-h3];exact cls_dotW hx⟩
theorem clsOf_at (h:Good us) {d:Nat×Nat} {u:Unt} {c:Cls} (hd:clsAt us d=some (u,c)):clsOf us (decl us) (pthC us d)=some (u,c):=by
 unfold clsOf
 rw [get_cls_of h (mem_clsW.2 ⟨_,hd⟩),Option.bind_some,hd]
theorem supL_at (h:Good us) {d:Nat×Nat} {u:Unt} {c:Cls} (hd:clsAt us d=some (u,c)):supL us (decl us) (pthC us d)=supF u c:=by
 unfold supL
 rw [clsOf_at h hd]
 unfold supF
 by_cases h0:c.super<0
 ·simp only;rw [if_pos h0,if_neg (by omega)]
 ·simp only;rw [if_neg h0,if_pos (by omega)]
theorem plC (h:Good us) (hd:definedL us (decl us)=true):PlOk (clsW us) (pthC us) (ndC us) (neeC us (decl us)):=by
 refine ⟨fun x hx y hy e=>pthC_inj h hx hy e,clsW_nodup us,fun x hx => ?_,fun x hx y hy => ?_⟩
 ·obtain ⟨⟨u,c⟩,ha⟩:=mem_clsW.1 hx
  obtain ⟨hu,hc⟩:=clsAt_un ha
  unfold neeC
  rw [supL_at h ha,ndC_at ha]
  unfold supF
  by_cases h0:c.super<0
  ·rw [if_pos h0,if_pos h0,if_pos rfl];rfl
  ·obtain ⟨e,e1,e2,e3,e4⟩:=sup_found h hd (List.mem_of_getElem? hu) (List.mem_of_getElem? hc) h0
   rw [if_neg h0,if_neg h0,if_neg e4,e1,Option.getD_some,List.map_cons,List.map_nil,e3]
 ·obtain ⟨⟨u,c⟩,ha⟩:=mem_clsW.1 hx
  obtain ⟨hu,hc⟩:=clsAt_un ha
  rw [ndC_at ha] at hy
  by_cases h0:c.super<0
  ·rw [if_pos h0] at hy;cases hy
  ·obtain ⟨e,e1,e2,e3,e4⟩:=sup_found h hd (List.mem_of_getElem? hu) (List.mem_of_getElem? hc) h0
   rw [if_neg h0,e1,Option.getD_some] at hy
   rw [List.mem_singleton.1 hy];exact e2
theorem permC (h:Good us):(keysM (decl us).classes).Perm ((clsW us).map (pthC us)):=by rw [decl_clsW h,keysM_map]
def calD (us:List Unt) (u:Unt) (i:Ins):List (Nat×Nat):=if i.op=25 then [(calF us (nm u i.a)).getD (0,0)] else if i.op=26 then (mthW us).filter (selB us (nm u i.a)) else []
def ndM (us:List Unt) (d:Nat×Nat):List (Nat×Nat):=match mthAt us d with
 | some (u,m)=>m.code.flatMap (calD us u)
 | none=>[]
theorem ndM_at {d:Nat×Nat} {u:Unt} {m:Mth} (h:mthAt us d=some (u,m)):ndM us d=m.code.flatMap (calD us u):=by unfold ndM;rw [h]
theorem mthOf_is (h:Good us) (hP:PreE us) {d:Nat×Nat} {u:Unt} {m:Mth} (hd:mthAt us d=some (u,m)):mthOf us (decl us) (pthM us d)=some (u,m):=by
 have hW:=mem_mthW.2 ⟨_,hd⟩
 unfold mthOf mthD
 cases hs:sentB us d with
 | false=>rw [get_cal_of h hW hs];simp only [Option.bind_some,hd]
 | true =>
  cases hg:getM (decl us).calls (pthM us d) with
  | none=>simp only [get_snd_of h hP hW hs,Option.bind_some,hd]
  | some e =>
   obtain ⟨h1,h2,h3⟩:=get_cal_at h hg
   have:=pthM_inj h hP h1 hW h3
   subst this
   rw [h2] at hs;cases hs
theorem selB_iff {z:ByteArray} {d:Nat×Nat}:(sentB us d&&decide (((mthAt us d).map fun x=>nm x.1 x.2.name)=some z))=selB us z d:=by
 unfold selB
 cases ha:mthAt us d with
 | none=>unfold sentB;rw [ha];rfl
 | some x =>
  obtain ⟨u,m⟩:=x
  rw [mnm_at ha]
  simp
theorem calI_is (h:Good us) {u:Unt} {i:Ins} (ho:operL (decl us) u i=true):calI (decl us) u i=(calD us u i).map (pthM us):=by
 unfold calI calD
 by_cases h25:i.op=25
 ·rw [if_pos h25,if_pos h25]
  have hh:hasM (decl us).calls (nm u i.a)=true:=by
   unfold operL at ho;simpa [h25] using ho
  obtain ⟨e,he⟩:=Option.isSome_iff_exists.1 hh
  obtain ⟨_,_,h3⟩:=get_cal_at h he
  rw [calF_get h,he,Option.getD_some,List.map_cons,List.map_nil,h3]
 rw [if_neg h25,if_neg h25]
 by_cases h26:i.op=26
 ·rw [if_pos h26,if_pos h26,nmd_W]
  congr 1
  exact List.filter_congr fun d _=>selB_iff
 ·rw [if_neg h26,if_neg h26];rfl
theorem calD_W (h:Good us) {u:Unt} {i:Ins} (ho:operL (decl us) u i=true) {d:Nat×Nat} (hd:d∈calD us u i):d∈mthW us:=by
 unfold calD at hd
 by_cases h25:i.op=25
 ·rw [if_pos h25] at hd
  have hh:hasM (decl us).calls (nm u i.a)=true:=by
   unfold operL at ho;simpa [h25] using ho
  obtain ⟨e,he⟩:=Option.isSome_iff_exists.1 hh
  obtain ⟨h1,_,_⟩:=get_cal_at h he
  rw [calF_get h,he,Option.getD_some,List.mem_singleton] at hd
  rw [hd];exact h1
 rw [if_neg h25] at hd
 by_cases h26:i.op=26
 ·rw [if_pos h26] at hd;exact (List.mem_filter.1 hd).1
 ·rw [if_neg h26] at hd;cases hd
theorem plM (h:Good us) (hd:definedL us (decl us)=true):PlOk (mthW us) (pthM us) (ndM us) (calL us (decl us)):=by
 have hP:=preE_of hd
 refine ⟨fun x hx y hy e=>pthM_inj h hP hx hy e,mthW_nodup us,fun x hx => ?_,fun x hx y hy => ?_⟩
 ·obtain ⟨⟨u,m⟩,ha⟩:=mem_mthW.1 hx
  obtain ⟨hu,hm⟩:=mthAt_un ha
  unfold calL
  rw [mthOf_is h hP ha,ndM_at ha,List.map_flatMap]
  exact flatMap_congr' fun i hi=>calI_is h (dfn_code hd (List.mem_of_getElem? hu) (List.mem_of_getElem? hm) hi)
 ·obtain ⟨⟨u,m⟩,ha⟩:=mem_mthW.1 hx
  obtain ⟨hu,hm⟩:=mthAt_un ha
  rw [ndM_at ha] at hy
  obtain ⟨i,hi,hy⟩:=List.mem_flatMap.1 hy
  exact calD_W h (dfn_code hd (List.mem_of_getElem? hu) (List.mem_of_getElem? hm) hi) hy
theorem permM (h:Good us) (hP:PreE us):(keysM (decl us).calls++keysM (decl us).sends).Perm ((mthW us).map (pthM us)):=by
 rw [decl_calW h,decl_sndW h hP,keysM_map,keysM_map,<-List.map_append]
 refine List.Perm.map _ ?_
 have:=List.filter_append_perm (fun d => !sentB us d) (mthW us)
 simpa using this
end Go.Proofs.YtkmdfjpafkcleaaGreatDoor
namespace Go.Proofs.YtkmdfjpafkcleaaGreatDoor
open Eng Go.RowKit
variable {us:List Unt} {b:Nat} {w:World} {s:PgS}
theorem calD_len {u:Unt} {i:Ins} (hl:(mthW us).length<=100):(calD us u i).length<=100:=by
 unfold calD
 split
 ·simp
 ·split
  ·exact Nat.le_trans (List.length_filter_le ..) hl
  ·simp
theorem filter_snoc {α:Type} {p:α->Bool} {l:List α} {k:Nat} {x:α} (h:l[k]? = some x):(l.take (k+1)).filter p=(l.take k).filter p++if p x=true then [x] else []:=by
 rw [take_succ_some h,List.filter_append]
 cases hp:p x <;> simp [hp]
set_option maxHeartbeats 8000000 in
theorem r_callees (H:Pg us b s w) (hs3:s.mth=mthW us) (hC:∀ u∈us,CkU u) {d:Nat×Nat} {u:Unt} {m:Mth} (hd:mthAt us d=some (u,m)) (hl:(mthW us).length<=100) :
  Ret Tryz.prog 192 #[.pointer (some ⟨b,0,none⟩),.agg (encWh d).toArray] w fun v w'=>∃ a c,v = .slice a (ndM us d).length c/\Sl eWh T w' a (ndM us d)/\Bl w w':=by
 rw [ndM_at hd]
 obtain ⟨hu,hc⟩:=mthAt_un hd
 have hum:=List.mem_of_getElem? hu
 have hcm:=List.mem_of_getElem? hc
 have hI:=ixs_of (hC u hum)
 have hcode:=code_len (hC u hum) hcm
 obtain ⟨bu,ou,cu,rest,cs,ua,hx,hAt,rfl,hU,hlt⟩:=(H.u.at hu).ex
 refine entr (vs:=[.pointer (some ⟨b,0,none⟩),.agg (encWh d).toArray]) [0,1,3,4,5,6,7,8,9,11,30,38,60,67,97] tabok Tryz.func192 (by kernel_rfl) ?_
 refine bx (cs:=encWh d) fun b3 w1 k1 => ?_
 have z1:=k1.size
 have y1:=k1.blk
 have hb:=hx.lt
 have hbu:bu<w.heap.size:=cell_lt (hAt 0 _ rfl)
 refine dh (fun i=>i<w1.heap.size) (List.range 10) fun w2 k2 => ?_
 have B2:=k1.bl.trans k2.bl
 have x1:=k2.box k1.box
 refine ld ((Bl.box B2 hx).cell rfl) ?_ (hm:=by show b<_;omega)
 refine ld (x1.cell rfl) ?_ (hm:=by show b3<_;omega)
 refine ix ?_
 refine lda (hAt.bl B2) ?_ (hm:=by show bu<_;omega)
 refine al fun b5 w3 k3 => ?_
 refine sta (cs':=ucells u ua) k3.box (fun w4 k4 x4 => ?_) (hm:=wrS (by show ¬b5<_;have:=k3.blk;have:=k2.bl.size;omega))
 have y3:=k3.blk
 have B24:Bl w2 w4:=Below.trans k3.bl (k4.below (by omega))
 have B4:=B2.trans B24
 have U4:=hU.bl B4
 have x14:=Bl.box B24 x1
 obtain ⟨bc,oc,cs,e2,_,hAtc,a1,c1,a2,c2,a3,c3,rfl,_,_,hP3⟩:=U4.mth.el d.2 m hc
 have hkl:d.2<u.methods.length:=(List.getElem?_eq_some_iff.1 hc).1
 refine ld (x4.cell rfl) ?_
 refine ld (x14.cell rfl) ?_
 rw [e2]
 refine ix ?_
 refine ld (hAtc 6 _ rfl) ?_
 have hL:∀ k,((m.code.take k).flatMap (calD us u)).length<=12000:=fun k=>by
  have h1:=flatMap_le (f:=calD us u) (B:=100) (l:=m.code.take k) fun i _=>calD_len hl
  have h2:(m.code.take k).length<=m.code.length:=List.length_take_le' ..
  omega
 refine lpk (vals:=[.slice none 0 0]) m.code.length 8 [7] [(0,.pointer (some ⟨b,0,none⟩)),(5,.pointer (some ⟨b5,0,none⟩)),(6,.slice a3 m.code.length c3)]
  (fun k vals w'=>∃ a c,vals=[.slice a ((m.code.take k).flatMap (calD us u)).length c]/\OwP 2 encWh w' w4.heap.size tWh a c ((m.code.take k).flatMap (calD us u))/\Bl w4 w') ⟨none,0,rfl,Ow.nil ..,Bl.refl _⟩ ?_
 rintro k vals w5 hk ⟨a',c',rfl,O5,B5⟩ ih
 by_cases hltk:k<m.code.length
 rotate_left
 ·refine brF ?_
  obtain rfl:k=m.code.length:=by omega
  have hLk:=hL m.code.length
  rw [List.take_length] at O5 hLk ⊢
  exact rt1 ⟨a',c',rfl,owp_sl O5 (by omega) fun _ _=>trivial,B4.trans B5⟩
 refine brT ?_
 obtain ⟨i,bi,oi,cs,hi,rfl,_,hAt4,rfl⟩:=at_some hP3 hltk
 have him:=List.mem_of_getElem? hi
 have hAti:=hAt4.bl B5
 have eL:(m.code.take (k+1)).flatMap (calD us u)=(m.code.take k).flatMap (calD us u)++calD us u i:=flatMap_snoc hi
 have hLk:=hL k
 have hclen:=calD_len (us:=us) (u:=u) (i:=i) hl
 generalize hLL:(m.code.take k).flatMap (calD us u)=L at *
 have U5:=U4.bl B5
 have H5:=H.bl (B4.trans B5)
 refine ix ?_
 refine ld (hAti 0 _ rfl) ?_
 by_cases h25:i.op=25
 ·refine brT ?_ (hp:=h25)
  have ec:calD us u i=[(calF us (nm u i.a)).getD (0,0)]:=by unfold calD;rw [if_pos h25]
  have hin:inP u i.a:=hI.opa m hcm i him (by simp [h25])
  have x5:=Bl.box B5 x4
  have l5:=x5.lt
  have lbi:bi<w5.heap.size:=cell_lt (hAti 0 _ rfl)
  refine cut [9] [(0,.pointer (some ⟨b,0,none⟩)),(5,.pointer (some ⟨b5,0,none⟩)),(6,.slice (some ⟨bi,oi,none⟩) m.code.length c3),(7,.slice a' L.length c'),(8,I k)] (fun vals w'=>∃ b9,vals=[.pointer (some ⟨b9,0,none⟩)]/\Box w' b9 tWh (encWh ((calF us (nm u i.a)).getD (0,0)))/\Bl w5 w') (fun go => ?_) ?_
  ·refine dhb (· < w5.heap.size) (.row [0,1,2,3,4,5,6] (.two 7 (.two 8 (.row [9,10,11,12,13,14] .done) 12 (.row [8,9,10,11,13,14] .done)) 12 (.row [7,8,9,10,11,13,14] .done))) fun v0 q0 => ?_
   refine lda (q0.box x5).at ?_ (hm:=by show b5<_;exact l5)
   refine ix ?_
   refine ld (hAti.bl q0.bl 1 _ rfl) ?_ (hm:=by show bi<_;exact lbi)
   refine bt ?_ ?_
   ·refine cl (r_text (U5.bl q0.bl) hin) ?_
    rintro _ v1 ⟨rfl,E1⟩
    have D1:=q0.bl.trans E1
    refine bt ?_ ?_
    ·refine cl (r_called (H5.bl D1) hs3 hC _) ?_
     rintro _ v2 ⟨rfl,E2⟩
     have D2:=D1.trans E2
     have s2:=D2.size
     refine al fun b9 v3 r3 => ?_
     have yb:=r3.blk
     refine sta (cs':=encWh ((calF us (nm u i.a)).getD (0,0))) r3.box (fun v4 r4 x9 => ?_) (hm:=wrB (by show ¬b9<_;omega))
     exact go ⟨b9,rfl,x9,D2.trans (Below.trans r3.bl (r4.below (by omega)))⟩
    ·refine al fun b9 v2 r2 => ?_
     have yb:=r2.blk
     have D2:=D1.trans r2.bl
     have s1:=D1.size
     refine cl (r_called (H5.bl D2) hs3 hC _) ?_
     rintro _ v3 ⟨rfl,E3⟩
     refine sta (cs':=encWh ((calF us (nm u i.a)).getD (0,0))) (Bl.box E3 r2.box) (fun v4 r4 x9 => ?_) (hm:=wrB (by show ¬b9<_;omega))
     exact go ⟨b9,rfl,x9,Below.trans (D2.trans E3) (r4.below (by omega))⟩
   ·refine al fun b9 v1 r1 => ?_
    have yb:=r1.blk
    have D1:=q0.bl.trans r1.bl
    have s0:=q0.bl.size
    refine cl (r_text (U5.bl D1) hin) ?_
    rintro _ v2 ⟨rfl,E2⟩
    refine cl (r_called (H5.bl (D1.trans E2)) hs3 hC _) ?_
    rintro _ v3 ⟨rfl,E3⟩
    refine sta (cs':=encWh ((calF us (nm u i.a)).getD (0,0))) (Bl.box (E2.trans E3) r1.box) (fun v4 r4 x9 => ?_) (hm:=wrB (by show ¬b9<_;omega))
    exact go ⟨b9,rfl,x9,Below.trans ((D1.trans E2).trans E3) (r4.below (by omega))⟩
  rintro _ w6 ⟨b9,rfl,x9,B6⟩
  refine lda x9.at ?_
  refine bs fun b10 w7 k7 => ?_
  have B57:=B6.trans k7.bl
  have O7:=O5.bl B57
  have B47:=B5.trans B57
  refine apl (l1:=[(calF us (nm u i.a)).getD (0,0)]) O7 (.inr ⟨b10,0,rfl,k7.box.at⟩) B47.size (fun a8 c8 w8 O8 A8 _ => ?_) (hb:=by simp only [List.length_cons,List.length_nil];omega) (hn:=by simp only [List.length_cons,List.length_nil];omega)
  have B48:=Eng.Ow.below O7 A8 B47 B47.size
  have hAt8:=hAt4.bl B48
  refine ix ?_
  refine ld (hAt8 0 _ rfl) ?_
  refine brF ?_ (hp:=by omega)
  refine ih hltk ⟨a8,c8,?_,?_,B48⟩
  ·rw [eL,ec]
  ·rw [eL,ec];exact O8
 refine brF ?_ (hp:=h25)
 refine ix ?_
 refine ld (hAti 0 _ rfl) ?_
 by_cases h26:i.op=26
 rotate_left
 ·refine brF ?_ (hp:=h26)
  have ec:calD us u i=[]:=by unfold calD;rw [if_neg h25,if_neg h26]
  refine ih hltk ⟨a',c',?_,?_,B5⟩
  ·rw [eL,ec,List.append_nil]
  ·rw [eL,ec,List.append_nil];exact O5
 refine brT ?_ (hp:=h26)
 have ec:calD us u i=(mthW us).filter (selB us (nm u i.a)):=by unfold calD;rw [if_neg h25,if_pos h26]
 have hin:inP u i.a:=hI.opa m hcm i him (by simp [h26])
 have hfl:∀ j,(((mthW us).take j).filter (selB us (nm u i.a))).length<=100:=fun j=>by
  have h1:=List.length_filter_le (selB us (nm u i.a)) ((mthW us).take j)
  have h2:((mthW us).take j).length<=(mthW us).length:=List.length_take_le' ..
  omega
 refine lpk (vals:=[.slice a' L.length c']) (mthW us).length 11 [7] [(0,.pointer (some ⟨b,0,none⟩)),(5,.pointer (some ⟨b5,0,none⟩)),(6,.slice (some ⟨bi,oi,none⟩) m.code.length c3),(8,I k)]
  (fun j vals w'=>∃ a c,vals=[.slice a (L++((mthW us).take j).filter (selB us (nm u i.a))).length c]/\OwP 2 encWh w' w4.heap.size tWh a c (L++((mthW us).take j).filter (selB us (nm u i.a)))/\Bl w4 w') ⟨a',c',by simp,by simpa using O5,B5⟩ ?_
 rintro j vals w6 hj ⟨a6,c6,rfl,O6,B6⟩ ih2
 have hfj:=hfl j
 generalize hFF:((mthW us).take j).filter (selB us (nm u i.a))=F at *
 obtain ⟨au,cu',ac,cc,as',cs',am,cm,ao,co,al',cl',az,cz,hxp,h1,h2,h3,h4,h5,h6,h7,h8⟩:=H.bl B4
 rw [hs3] at hxp h4
 refine ld ((Bl.box B6 hxp).cell rfl) ?_
 by_cases hltj:j<(mthW us).length
 rotate_left
 ·refine brF ?_
  obtain rfl:j=(mthW us).length:=by omega
  rw [List.take_length] at hFF
  refine ih hltk ⟨a6,c6,?_,?_,B6⟩
  ·rw [eL,ec,hFF]
  ·rw [eL,ec,hFF];exact O6
 refine brT ?_
 obtain ⟨x,bd,od,cs,hxj,rfl,_,hAx,rfl⟩:=at_some h4 hltj
 obtain ⟨⟨v,n⟩,ha⟩:=mem_mthW.1 (List.mem_of_getElem? hxj)
 have hsn:=filter_snoc (p:=selB us (nm u i.a)) hxj
 rw [hFF] at hsn
 refine dh T [0,1,2,3,4,5,6,7,8,9,10,11,12,13,14,15,16,17,19,20,21,22,23,24,18,25,26,27] fun w7 k7 => ?_
 have B7:=B6.trans k7.bl
 refine ld ((Bl.box B7 hxp).cell rfl) ?_ (hm:=trivial)
 refine ix ?_
 refine lda (hAx.bl B7) ?_ (hm:=trivial)
 refine cl (r_sent (H.bl (B4.trans B7)).u hC ha) ?_
 rintro _ w8 ⟨rfl,B8⟩
 have B48:=B7.trans B8
 cases hsb:sentB us x with
 | false =>
  have hn:selB us (nm u i.a) x=false:=by unfold selB;rw [hsb];rfl
  rw [hn,if_neg (by decide),List.append_nil] at hsn
  refine spn (.slice none 0 0) ?_
  refine spn (.pointer none) ?_
  refine spn (.agg #[I 0,I 0]) ?_
  refine spn (.bool false) ?_
  refine spn (.pointer none) ?_
  refine spn (.pointer none) ?_
  refine spn (I 0) ?_
  refine spn (.string ⟨#[]⟩) ?_
  refine spn (.string ⟨#[]⟩) ?_
  refine brf ?_ (hp:=by rfl)
  refine ih2 hltj ⟨a6,c6,?_,?_,B48⟩
  ·rw [hsn]
  ·rw [hsn];exact O6.bl (k7.bl.trans B8)
 | true =>
  refine spt (.slice none 0 0) ?_
  refine ld ((Bl.box B48 hxp).cell rfl) ?_ (hm:=trivial)
  refine spt (.pointer none) ?_
  refine ix ?_
  refine spt (.agg #[I 0,I 0]) ?_
  refine lda (hAx.bl B48) ?_ (hm:=trivial)
  refine spt (.bool false) ?_
  refine lda (Bl.box B48 x4).at ?_ (hm:=trivial)
  refine spt (.pointer none) ?_
  refine ix ?_
  refine spt (I 0) ?_
  refine ld (hAt4.bl B48 1 _ rfl) ?_ (hm:=trivial)
  refine spt (.string ⟨#[]⟩) ?_
  refine cl (r_mname (H.bl (B4.trans B48)).u hC ha) ?_
  rintro _ w9 ⟨rfl,B9⟩
  refine spt (.string ⟨#[]⟩) ?_
  refine cl (r_text (U4.bl (B48.trans B9)) hin) ?_
  rintro _ w10 ⟨rfl,B10⟩
  have B410:=(B48.trans B9).trans B10
  by_cases hp:nm v n.name=nm u i.a
  ·have hy:selB us (nm u i.a) x=true:=by unfold selB;rw [hsb,mnm_at ha,hp];simp
   rw [hy,if_pos rfl] at hsn
   refine brt ?_ (hp:=by simp [hp])
   refine ld ((Bl.box B410 hxp).cell rfl) ?_
   refine ix ?_
   refine lda (hAx.bl B410) ?_
   refine bs fun b12 w12 k12 => ?_
   have B12:=B410.trans k12.bl
   have O12:=O6.bl ((((k7.bl.trans B8).trans B9).trans B10).trans k12.bl)
   refine apl (l1:=[x]) O12 (.inr ⟨b12,0,rfl,k12.box.at⟩) B12.size (fun a13 c13 w13 O13 A13 _ => ?_) (hb:=by simp only [List.length_append,List.length_cons,List.length_nil];omega) (hn:=by simp only [List.length_append,List.length_cons,List.length_nil];omega)
   refine ih2 hltj ⟨a13,c13,?_,?_,Eng.Ow.below O12 A13 B12 B12.size⟩
   ·rw [hsn,<-List.append_assoc]
   ·rw [hsn,<-List.append_assoc];exact O13
  ·have hn:selB us (nm u i.a) x=false:=by unfold selB;rw [mnm_at ha];simp [hp]
   rw [hn,if_neg (by decide),List.append_nil] at hsn
   refine brf ?_ (hp:=by simp [hp])
   refine ih2 hltj ⟨a6,c6,?_,?_,B410⟩
   ·rw [hsn]
   ·rw [hsn];exact O6.bl ((((k7.bl.trans B8).trans B9).trans B10))
end Go.Proofs.YtkmdfjpafkcleaaGreatDoor
namespace Go.Proofs.YtkmdfjpafkcleaaGreatDoor
open Eng Go.RowKit
variable {us:List Unt} {b:Nat} {w:World} {s:PgS} {r:PgR}
set_option maxHeartbeats 8000000 in
theorem r_placeMethods (H:PgH us b s r w) (hs:s.mth=mthW us) (ho:s.las=[]) (hao:r.al=none) (hco:r.cl=0) (hC:∀ u∈us,CkU u) {needs:ByteArray->List ByteArray} (hP:PlOk (mthW us) (pthM us) (ndM us) needs)
  {names:List ByteArray} (hn:names.Perm ((mthW us).map (pthM us))) (hl:(mthW us).length<=100) :
  Ret Tryz.prog 123 #[.pointer (some ⟨b,0,none⟩)] w fun v w'=>OnB w b w'/\∃ t out ao co,v = .bool t/\PgH us b { s with las:=out } { r with al:=ao,cl:=co } w'/\(∀ x∈out,x∈mthW us)/\out.Nodup /\
   (t=true->out.length=(mthW us).length/\orderL needs names=some (out.map (pthM us)))/\(t=false->orderL needs names=none):=by
 obtain ⟨cls,stt,mth,ord,las,sel⟩:=s
 obtain ⟨au,cu,ac,cc,as',cs,am,cm,ao,co,al',cl',az,cz⟩:=r
 dsimp only at hs ho hao hco H ⊢
 subst hs ho hao hco
 obtain ⟨P0,e0⟩:=pl_start hP hn
 refine entr (vs:=[.pointer (some ⟨b,0,none⟩)]) [0,2,3,4,5,6,7,8,19,26,52,84,87] tabok Tryz.func123 (by kernel_rfl) ?_
 have hb:=H.box.lt
 refine lp (vals:=[]) (m:=(mthW us).length) [] [(0,.pointer (some ⟨b,0,none⟩))] (fun n vals w'=>vals=[]/\∃ out al' cl' left,n=(mthW us).length-out.length/\out.length<=(mthW us).length/\PgH us b ⟨cls,stt,mthW us,ord,out,sel⟩ ⟨au,cu,ac,cc,as',cs,am,cm,ao,co,al',cl',az,cz⟩ w' /\
  OwP 2 encWh w' w.heap.size tWh al' cl' out/\OnB w b w'/\PlSt (mthW us) (pthM us) left out/\orderL needs names=placeL needs left.length left (out.map (pthM us))) ⟨rfl,trivial⟩ ⟨rfl,[],none,0,sortL names,rfl,Nat.zero_le _,H,Ow.nil ..,OnB.refl hb,P0,e0⟩ ?_
 rintro n vals w1 ⟨rfl,out,al',cl',left,rfl,hle,H1,O1,B1,P1,e1⟩ ih
 refine dh T (List.range 11) fun w2 k2 => ?_
 have H2:=H1.bl k2.bl
 refine ld (H2.lit.box.cell rfl) ?_ (hm:=trivial)
 refine ld (H2.lit.box.cell rfl) ?_ (hm:=trivial)
 by_cases hlt:out.length<(mthW us).length
 rotate_left
 ·refine brF ?_
  refine rt1 ⟨B1.bl k2.bl,true,out,al',cl',rfl,H2,P1.sub,P1.nd,fun _=>⟨by omega,by rw [e1];exact pl_end P1 hlt⟩,fun h=>by cases h⟩
 refine brT ?_
 refine lpk (vals:=[I (-1)]) (mthW us).length 4 [3] [(0,.pointer (some ⟨b,0,none⟩))] (fun k vals w'=>∃ best:Int,vals=[I best]/\BestOf (mthW us) (pthM us) (rdyB (ndM us) out) k best/\Bl w2 w') ⟨-1,rfl,best_zero,Bl.refl _⟩ ?_
 rintro k vals w3 hk ⟨best,rfl,hbest,B3⟩ ih2
 have H3:=H2.bl B3
 have O3:=O1.bl (k2.bl.trans B3)
 have OB3:=(B1.bl k2.bl).bl B3
 refine ld (H3.lit.box.cell rfl) ?_
 by_cases hlt2:k<(mthW us).length
 ·refine brT ?_
  refine ld (H3.lit.box.cell rfl) ?_
  obtain ⟨d,bd,od,cs2,hd,rfl,_,hAt,rfl⟩:=at_some H3.lit.m hlt2
  obtain ⟨⟨u,c⟩,ha⟩:=mem_mthW.1 (List.mem_of_getElem? hd)
  refine ix ?_
  refine lda hAt ?_
  refine al fun b5 w4 k4 => ?_
  have y4:=k4.blk
  refine sta (cs':=encWh d) k4.box fun w5 k5 x5 => ?_
  have B35:Bl w3 w5:=Below.trans k4.bl (k5.below (by omega))
  refine dh T (List.range 8) fun w6 k6 => ?_
  have B36:=B35.trans k6.bl
  have H6:=H3.bl B36
  refine ld (H6.lit.box.cell rfl) ?_ (hm:=trivial)
  refine lda (k6.box x5).at ?_ (hm:=trivial)
  refine cl (r_placed (H6.lit.l.sub fun _ _=>trivial) d) ?_
  rintro _ w7 ⟨rfl,B7⟩
  have B37:=B36.trans B7
  have B57:=k6.bl.trans B7
  have hq:decide (plcW out 0 d<0) = !decide (d∈out):=by
   by_cases hin:d∈out
   ·have:=(plcW_iff out 0 d).1 hin
    rw [decide_eq_true hin,decide_eq_false (by omega)];rfl
   ·have:=(plcW_iff out 0 d).2 hin
    rw [decide_eq_false hin,decide_eq_true (by omega)];rfl
  refine lda (Bl.box B57 x5).at ?_
  refine cl (r_callees (H3.bl B37).pg rfl hC ha hl) ?_
  rintro _ w8 ⟨aL,cL,rfl,SL,B8⟩
  have B38:=B37.trans B8
  have B58:=B57.trans B8
  have hbigL:=SL.big
  generalize hLL:ndM us d=L at *
  refine lpk (vals:=[.bool (!decide (d∈out))]) L.length 8 [6] [(0,.pointer (some ⟨b,0,none⟩)),(3,I best),(4,I k),(5,.pointer (some ⟨b5,0,none⟩)),(7,.slice aL L.length cL)]
   (fun j vals w'=>vals=[.bool (!decide (d∈out)&&(L.take j).all fun y=>decide (y∈out))]/\Bl w8 w') ⟨by simp,Bl.refl _⟩ ?_ (hv:=by show some _=some _;simp only [hq])
  rintro j vals w9 hj ⟨rfl,B9⟩ ih3
  by_cases hgo:j<L.length/\(!decide (d∈out)&&(L.take j).all fun y=>decide (y∈out))=true
  ·obtain ⟨hltj,hv⟩:=hgo
   refine brt ?_ (hp:=by rw [hv];simp [hltj])
   obtain ⟨y,by',oy,cs3,hy,rfl,_,hAy,rfl⟩:=at_some (SL.bl B9) hltj
   refine dh T (List.range 11) fun w10 k10 => ?_
   have B310:=(B38.trans B9).trans k10.bl
   have H10:=H3.bl B310
   refine ld (H10.lit.box.cell rfl) ?_ (hm:=trivial)
   refine ix ?_
   refine lda (hAy.bl k10.bl) ?_ (hm:=trivial)
   refine cl (r_placed (H10.lit.l.sub fun _ _=>trivial) y) ?_
   rintro _ w11 ⟨rfl,B11⟩
   have hq2:decide (plcW out 0 y≥0)=decide (y∈out):=by
    by_cases hin:y∈out
    ·have:=(plcW_iff out 0 y).1 hin
     rw [decide_eq_true hin,decide_eq_true (by omega)]
    ·have:=(plcW_iff out 0 y).2 hin
     rw [decide_eq_false hin,decide_eq_false (by omega)]
   refine ih3 hltj ⟨?_,(B9.trans k10.bl).trans B11⟩
   rw [take_succ_some hy,List.all_append,<-Bool.and_assoc,hv,Bool.true_and,List.all_cons,List.all_nil,Bool.and_true,<-hq2]
  refine brf ?_ (hp:=by
   rw [Bool.and_eq_false_iff]
   by_cases q:j<L.length
   ·right;rw [<-Bool.not_eq_true];exact fun q2=>hgo ⟨q,q2⟩
   ·left;simp;omega)
  have hrd:(!decide (d∈out)&&(L.take j).all fun y=>decide (y∈out))=rdyB (ndM us) out d:=by
   unfold rdyB
   rw [hLL,Bool.eq_iff_iff]
   simp only [Bool.and_eq_true,Bool.not_eq_true',decide_eq_false_iff_not,List.all_eq_true,decide_eq_true_eq] at hgo ⊢
   constructor
   ·intro q
    by_cases hj2:j<L.length
    ·exact absurd ⟨hj2,q⟩ hgo
    ·rw [List.take_of_length_le (by omega)] at q;exact q
   ·exact fun q=>⟨q.1,fun y hy=>q.2 y (List.mem_of_mem_take hy)⟩
  have B39:=B38.trans B9
  rw [hrd]
  refine dh T [0,1,2,3,4,5,6,8,9,10,11,12,13,14,15,7,16,17,18,19] fun w15 k15 => ?_
  have B315:=B39.trans k15.bl
  have x15:=k15.box (Bl.box (B58.trans B9) x5)
  have H15:=H3.bl B315
  cases hr:rdyB (ndM us) out d with
  | false =>
   refine spn2 (.agg #[I 0,I 0]) ?_
   refine spn2 (.slice none 0 0) ?_
   refine spn2 (.pointer none) ?_
   refine spn2 (.agg #[I 0,I 0]) ?_
   refine spn2 (.string ⟨#[]⟩) ?_
   refine spn2 (.string ⟨#[]⟩) ?_
   refine spn2 (.bool false) ?_
   refine brf ?_ (hp:=by simp)
   exact ih2 hlt2 ⟨best,rfl,best_not hbest hd hr,B3.trans B315⟩
  | true =>
   by_cases hb0:best<0
   ·refine spn2 (.agg #[I 0,I 0]) ?_ (hn:=by simp [hb0])
    refine spn2 (.slice none 0 0) ?_ (hn:=by simp [hb0])
    refine spn2 (.pointer none) ?_ (hn:=by simp [hb0])
    refine spn2 (.agg #[I 0,I 0]) ?_ (hn:=by simp [hb0])
    refine spn2 (.string ⟨#[]⟩) ?_ (hn:=by simp [hb0])
    refine spn2 (.string ⟨#[]⟩) ?_ (hn:=by simp [hb0])
    refine spn2 (.bool false) ?_ (hn:=by simp [hb0])
    refine brt ?_ (hp:=by simp [hb0])
    exact ih2 hlt2 ⟨(k:Int),rfl,best_first hbest hd hr hb0,B3.trans B315⟩
   ·have hbest':=hbest
    rcases hbest with ⟨q,_⟩ | ⟨m,y,rfl,hmk,hy,_⟩
    ·omega
    obtain ⟨⟨u',c'⟩,ha'⟩:=mem_mthW.1 (List.mem_of_getElem? hy)
    obtain ⟨b',o',cs',e',_,hAt',rfl⟩:=H15.lit.m.el m y hy
    simp only [Option.some.injEq,Addr.mk.injEq,and_true] at e'
    obtain ⟨rfl,rfl⟩:=e'
    refine spt2 (.agg #[I 0,I 0]) ?_ (hy:=by simp [hb0])
    refine lda x15.at ?_ (hm:=trivial)
    refine spt (.slice none 0 0) ?_ (hb:=by simp)
    refine ld (H15.lit.box.cell rfl) ?_ (hm:=trivial)
    refine spt (.pointer none) ?_ (hb:=by simp)
    refine ix ?_ (hb:=(List.getElem?_eq_some_iff.1 hy).1)
    refine spt (.agg #[I 0,I 0]) ?_ (hb:=by simp)
    refine lda hAt' ?_ (hm:=trivial)
    refine spt (.string ⟨#[]⟩) ?_ (hb:=by simp)
    refine cl (r_mpath H15.pg.u hC ha) ?_
    rintro _ w16 ⟨rfl,B16⟩
    refine spt (.string ⟨#[]⟩) ?_ (hb:=by simp)
    refine cl (r_mpath (H15.bl B16).pg.u hC ha') ?_
    rintro _ w17 ⟨rfl,B17⟩
    have B317:=(B315.trans B16).trans B17
    refine spt (.bool false) ?_ (hb:=by simp)
    refine sop lss_run ?_
    by_cases hp:toL (pthM us d)<toL (pthM us y)
    ·refine brt ?_ (hp:=by simp [hp])
     exact ih2 hlt2 ⟨(k:Int),rfl,best_less hbest' hd hr rfl hy hp,B3.trans B317⟩
    ·refine brf ?_ (hp:=by simp [hp])
     exact ih2 hlt2 ⟨(m:Int),rfl,best_more hbest' hd rfl hy hp,B3.trans B317⟩
 ·refine brF ?_
  obtain rfl:k=(mthW us).length:=by omega
  by_cases hb0:best<0
  ·refine brT ?_ (hp:=hb0)
   refine rt1 ⟨OB3,false,out,al',cl',rfl,H3,P1.sub,P1.nd,fun h=>(by cases h),fun _ => ?_⟩
   rw [e1]
   refine pl_none hP P1 hlt ?_
   rcases hbest with ⟨rfl,q⟩ | ⟨m,y,rfl,_⟩
   ·exact .inl ⟨rfl,q⟩
   ·omega
  ·refine brF ?_ (hp:=hb0)
   have hbest':=hbest
   rcases hbest with ⟨q,_⟩ | ⟨m,x,rfl,hmk,hx,_⟩
   ·omega
   obtain ⟨left',P',e'⟩:=pl_some hP P1 hx hbest'
   obtain ⟨bc,oc,cs2,rfl,hne,hA0,rfl⟩:=H.lit.m.el m x hx
   have hbc:bc<w.heap.size:=cell_lt (hA0 0 _ rfl)
   refine dht 3 (fun i=>i<w.heap.size) (List.range 14) fun w4 k4 => ?_
   have H4:=H3.bl k4.bl
   have O4:=O3.bl k4.bl
   have OB4:=OB3.bl k4.bl
   refine ld (H4.lit.box.cell rfl) ?_ (hm:=by show b<_;exact hb)
   refine ld (H4.lit.box.cell rfl) ?_ (hm:=by show b<_;exact hb)
   refine ix ?_ (hb:=hmk)
   refine lda (hA0.kp OB4.kp hne) ?_ (hm:=by show bc<_;exact hbc)
   refine bs fun b5 w5 k5 => ?_
   have O5:=O4.bl k5.bl
   have OB5:=OB4.bl k5.bl
   have hga:∀ g,al'=some ⟨g,0,none⟩->w.heap.size<=g:=fun g hg=>(O5.lt hg).1
   refine apl (l1:=[x]) O5 (.inr ⟨b5,0,rfl,k5.box.at⟩) OB5.le (fun a6 c6 w6 O6 A6 _ => ?_) (hb:=by simp only [List.length_cons,List.length_nil];omega) (hn:=by simp only [List.length_cons,List.length_nil];omega) (hm:=apS (S:=fun i=>i<w.heap.size) fun g hg=>by have:=hga g hg;omega)
   have OB6:=OB5.ap A6 hga
   refine st (A6.box (H4.bl k5.bl).lit.box fun e=>by have:=hga b e;omega) (fun w7 k7 x7 => ?_)
   have hg6:∀ g,a6=some ⟨g,0,none⟩->g≠b:=fun g hg=>by have:=(O6.lt hg).1;omega
   have O7:=O6.wr k7 hg6
   have OB7:=OB6.wr k7
   have hlen:(out++[x]).length=out.length+1:=by simp
   exact again (ih _ _ _ _ (by omega) ⟨rfl,trivial⟩ rfl ⟨rfl,out++[x],a6,c6,left',rfl,by omega,H.las OB7 x7 (owp_sl O7 (by omega) hg6),O7,OB7,P',by rw [e1,e']⟩)
end Go.Proofs.YtkmdfjpafkcleaaGreatDoor
namespace Go.Proofs.YtkmdfjpafkcleaaGreatDoor
open Eng Go.RowKit
variable {us:List Unt}
abbrev Slot:=ByteArray×Nat×Ty
abbrev encSlot:Slot->List Value:=fun q=>[.string q.1,I q.2.1,I q.2.2.kind,I q.2.2.cls]
def eSlot:El Slot:=plainEl 4 encSlot (fun _=>rfl)
def slotF (u:Unt) (n:Nat) (f:Fld):Slot:=(nm u f.name,n,f.ty)
def layD (us:List Unt):Nat->Nat×Nat->List Slot
 | 0,_=>[]
 | n+1,d=>match clsAt us d with
  | some (u,c)=>(if c.super<0 then [] else layD us n ((clsF us (nm u c.super)).getD (0,0)))++c.fields.map (slotF u d.1)
  | none=>[]
theorem layD_at {n:Nat} {d:Nat×Nat} {u:Unt} {c:Cls} (h:clsAt us d=some (u,c)):layD us (n+1) d=(if c.super<0 then [] else layD us n ((clsF us (nm u c.super)).getD (0,0)))++c.fields.map (slotF u d.1):=by
 simp only [layD,h]
theorem flds_7 {u:Unt} (hC:CkU u) {c:Cls} (hc:c∈u.classes):c.fields.length<=7:=by
 have:=hC.lim
 simp only [limits,Bool.and_eq_true,List.all_eq_true] at this
 have:=this.1.2 c hc
 simpa [lcls] using this
theorem layD_len (hC:∀ u∈us,CkU u):∀ (n:Nat) (d:Nat×Nat),(layD us n d).length<=n*7
 | 0,_=>by simp [layD]
 | n+1,d=>by
  cases ha:clsAt us d with
  | none=>simp [layD,ha]
  | some x =>
   obtain ⟨u,c⟩:=x
   obtain ⟨hu,hc⟩:=clsAt_un ha
   have h7:=flds_7 (hC u (List.mem_of_getElem? hu)) (List.mem_of_getElem? hc)
   rw [layD_at ha,List.length_append,List.length_map]
   have ih:=layD_len hC n ((clsF us (nm u c.super)).getD (0,0))
   split
   ·simp only [List.length_nil];omega
   ·omega
structure OrdP (us:List Unt) (out:List (Nat×Nat)):Prop where
 sub:∀ x∈out,x∈clsW us
 all:∀ x∈clsW us,x∈out
 nd:out.Nodup
 len:out.length=(clsW us).length
 up:∀ (k:Nat) d u c,out[k]? = some d->clsAt us d=some (u,c)->¬c.super<0->∃ (j:Nat) (e:Nat×Nat),j<k/\out[j]? = some e/\clsF us (nm u c.super)=some e
theorem full_of {α:Type} {a b:List α} (hs:∀ x∈a,x∈b) (hn:a.Nodup) (hl:a.length=b.length):∀ x∈b,x∈a:=fun x hx=>by
 rcases Classical.em (x∈a) with h | h
 ·exact h
 ·have h1:(x::a).Nodup:=List.nodup_cons.2 ⟨h,hn⟩
  have h2:=sub_lenA h1 fun y hy=>by
   rcases List.mem_cons.1 hy with rfl | hy
   ·exact hx
   ·exact hs y hy
  rw [List.length_cons] at h2;omega
theorem ordP_of (h:Good us) (hd:definedL us (decl us)=true) {out:List (Nat×Nat)} {names:List ByteArray} (hs:∀ x∈out,x∈clsW us) (hn:out.Nodup) (hl:out.length=(clsW us).length) (ho:orderL (neeC us (decl us)) names=some (out.map (pthC us))):OrdP us out:=by
 refine ⟨hs,full_of hs hn hl,hn,hl,fun k d u c hk ha h0 => ?_⟩
 obtain ⟨hu,hc⟩:=clsAt_un ha
 obtain ⟨e,e1,e2,e3,e4⟩:=sup_found h hd (List.mem_of_getElem? hu) (List.mem_of_getElem? hc) h0
 have hp:=orderL_placed ho k (pthC us d) (by rw [List.getElem?_map,hk];rfl) (nm u c.super) (by
  unfold neeC
  rw [supL_at h ha]
  unfold supF
  rw [if_neg h0,if_neg e4];exact List.mem_singleton.2 rfl)
 obtain ⟨j,hj⟩:=List.mem_iff_getElem?.1 hp
 rw [List.getElem?_take] at hj
 split at hj
 ·rename_i hjk
  rw [List.getElem?_map] at hj
  obtain ⟨e',he',hp'⟩:=Option.map_eq_some_iff.1 hj
  have:=pthC_inj h (hs e' (List.mem_of_getElem? he')) e2 (hp'.trans e3.symm)
  subst this
  exact ⟨j,e',hjk,he',e1⟩
 ·cases hj
end Go.Proofs.YtkmdfjpafkcleaaGreatDoor
namespace Go.Proofs.YtkmdfjpafkcleaaGreatDoor
open Eng Go.RowKit
def CapS (B:Nat) (w:World) (a:Option Addr) (c:Nat) (l:List Slot):Prop:=Sl eSlot (fun i=>B<=i) w a l/\l.length<=c/\(a=none->c=0)
theorem CapS.bl {B:Nat} {w w':World} {a:Option Addr} {c:Nat} {l:List Slot} (h:CapS B w a c l) (k:Bl w w'):CapS B w' a c l:=⟨h.1.bl k,h.2⟩
theorem CapS.base {B B':Nat} {w:World} {a:Option Addr} {c:Nat} {l:List Slot} (h:CapS B w a c l) (hB:B'<=B):CapS B' w a c l:=⟨h.1.sub fun _ hi=>Nat.le_trans hB hi,h.2⟩
theorem CapS.nil (B:Nat) (w:World):CapS B w none 0 []:=⟨Sl.nil ..,Nat.le_refl _,fun _=>rfl⟩
theorem CapS.own {w:World} {B base e:Nat} {a:Option Addr} {c:Nat} {l:List Slot} (h:OwP 4 encSlot w base e a c l) (hl:l.length<=4194304) (hB:B<=base):CapS B w a c l:=⟨owp_sl h hl fun g hg=>Nat.le_trans hB (h.lt hg).1,h.capn.1,h.capn.2⟩
theorem slm_b (a:Option Addr) (n z:Nat):(if n=0 then a else a.map (·.add (0*z)))=a:=by
 split
 ·rfl
 ·cases a <;> simp [Addr.add]
variable {us:List Unt}
set_option maxHeartbeats 8000000 in
theorem r_layout (hC:∀ u∈us,CkU u) {out:List (Nat×Nat)} (O:OrdP us out):∀ (k:Nat) (d:Nat×Nat),out[k]? = some d->∀ N:Nat,k<N->N<=1000->∀ {b:Nat} {w:World} {s:PgS},Pg us b s w->s.cls=clsW us ->
  Ret Tryz.prog 60 #[.pointer (some ⟨b,0,none⟩),.agg (encWh d).toArray] w fun v w'=>∃ a c,v = .slice a (layD us N d).length c/\CapS w.heap.size w' a c (layD us N d)/\Bl w w':=by
 intro k
 induction k using Nat.strongRecOn with
 | ind k IH =>
 intro d hd N hkN hN b w s H hs
 obtain ⟨n,rfl⟩:∃ n,N=n+1:=⟨N-1,by omega⟩
 obtain ⟨⟨u,c⟩,ha⟩:=mem_clsW.1 (O.sub d (List.mem_of_getElem? hd))
 obtain ⟨hu,hc⟩:=clsAt_un ha
 have hum:=List.mem_of_getElem? hu
 have hcm:=List.mem_of_getElem? hc
 have hI:=ixs_of (hC u hum)
 have h7:=flds_7 (hC u hum) hcm
 have hLn:=layD_len hC (n+1) d
 rw [layD_at ha] at hLn ⊢
 obtain ⟨bu,ou,cu,rest,cs,ua,hx,hAt,rfl,hU,hlt⟩:=(H.u.at hu).ex
 refine entr (vs:=[.pointer (some ⟨b,0,none⟩),.agg (encWh d).toArray]) [0,1,3,4,5,6,7,8,10,11,12,19,47] tabok Tryz.func60 (by kernel_rfl) ?_
 refine bx (cs:=encWh d) fun b3 w1 k1 => ?_
 have z1:=k1.size
 have y1:=k1.blk
 have hb:=hx.lt
 have hbu:bu<w.heap.size:=cell_lt (hAt 0 _ rfl)
 refine lda k1.box.at ?_
 refine cl (r_super (H.bl k1.bl).u hC ha) ?_
 rintro _ w2 ⟨rfl,B12⟩
 obtain ⟨bs0,hbs⟩:∃ bs0,bs0=(if c.super<0 then [] else layD us n ((clsF us (nm u c.super)).getD (0,0))):=⟨_,rfl⟩
 rw [<-hbs] at hLn ⊢
 rw [List.length_append,List.length_map] at hLn
 refine jn (t:=decide (0<=c.super)) [5] [(0,.pointer (some ⟨b,0,none⟩)),(3,.pointer (some ⟨b3,0,none⟩))] (fun vals w'=>∃ a c',vals=[.slice a bs0.length c']/\CapS w.heap.size w' a c' bs0/\Bl w2 w') (fun h0 go => ?_) (fun h0 go => ?_) ?_
 ·rw [decide_eq_true_eq] at h0
  have h0':¬c.super<0:=by omega
  obtain ⟨j,e,hjk,hje,hfe⟩:=O.up k d u c hd ha h0'
  have hsu:supF u c=nm u c.super:=by unfold supF;rw [if_neg h0']
  have B2:=k1.bl.trans B12
  refine cl (r_class (H.bl B2) hs hC _) ?_
  rintro _ w3 ⟨rfl,B3⟩
  rw [hsu,hfe]
  refine al fun b8 w4 k4 => ?_
  have y4:=k4.blk
  refine sta (cs':=encWh e) k4.box fun w5 k5 x5 => ?_
  have B25:Bl w2 w5:=B3.trans (Below.trans k4.bl (k5.below (by omega)))
  refine lda x5.at ?_
  refine cl (IH j hjk e hje n (by omega) (by omega) (H.bl (B2.trans B25)) hs) ?_
  rintro _ w6 ⟨a,c',rfl,C6,B6⟩
  have eb:bs0=layD us n e:=by rw [hbs,if_neg h0',hfe];rfl
  exact go ⟨a,c',by rw [eb],by rw [eb];exact C6.base (by have:=B2.size;have:=B25.size;omega),B25.trans B6⟩
 ·rw [decide_eq_false_iff_not] at h0
  have eb:bs0=[]:=by rw [hbs,if_pos (by omega)]
  exact go ⟨none,0,by rw [eb],by rw [eb];exact CapS.nil _ _,Bl.refl _⟩
 rintro _ w3 ⟨a0,c0,rfl,C3,B23⟩
 have B13:=B12.trans B23
 have z13:=B13.size
 refine dh (fun i=>i<w1.heap.size) (List.range 10) fun w4 k4 => ?_
 have B14:=B13.trans k4.bl
 have B4:=k1.bl.trans B14
 have x34:=Bl.box B14 k1.box
 refine ld ((Bl.box B4 hx).cell rfl) ?_ (hm:=by show b<_;omega)
 refine ld (x34.cell rfl) ?_ (hm:=by show b3<_;omega)
 refine ix ?_
 refine lda (hAt.bl B4) ?_ (hm:=by show bu<_;omega)
 refine al fun b10 w5 k5 => ?_
 have y5:=k5.blk
 have z4:=B14.size
 refine sta (cs':=ucells u ua) k5.box (fun w6 k6 x10 => ?_) (hm:=wrS (by show ¬b10<_;omega))
 have B46:Bl w4 w6:=Below.trans k5.bl (k6.below (by omega))
 have B16:=B14.trans B46
 have B6:=B4.trans B46
 have U6:=hU.bl B6
 have x36:=Bl.box B46 x34
 obtain ⟨bc,oc,cs,e2,_,hAtc,af,cf,rfl,hF⟩:=U6.cls.el d.2 c hc
 have hkl:d.2<u.classes.length:=(List.getElem?_eq_some_iff.1 hc).1
 refine ld (x10.cell rfl) ?_
 refine ld (x36.cell rfl) ?_
 rw [e2]
 refine ix ?_
 refine ld (hAtc 2 _ rfl) ?_
 refine lpk (vals:=[.slice a0 bs0.length c0]) c.fields.length 12 [5] [(0,.pointer (some ⟨b,0,none⟩)),(3,.pointer (some ⟨b3,0,none⟩)),(10,.pointer (some ⟨b10,0,none⟩)),(11,.slice af c.fields.length cf)]
  (fun j vals w'=>∃ a c',vals=[.slice a (bs0++(c.fields.take j).map (slotF u d.1)).length c']/\CapS w.heap.size w' a c' (bs0++(c.fields.take j).map (slotF u d.1))/\Bl w6 w') ⟨a0,c0,by simp,by simpa using C3.bl (k4.bl.trans B46),Bl.refl _⟩ ?_
 rintro j vals w7 hj ⟨a7,c7,rfl,C7,B7⟩ ih
 by_cases hltj:j<c.fields.length
 rotate_left
 ·refine brF ?_
  obtain rfl:j=c.fields.length:=by omega
  rw [List.take_length] at C7 ⊢
  exact rt1 ⟨a7,c7,rfl,C7,B6.trans B7⟩
 refine brT ?_
 obtain ⟨f,bf,of,cs,hf,rfl,_,hAf,rfl⟩:=at_some (hF.bl B7) hltj
 have hfm:=List.mem_of_getElem? hf
 have hfn:=hI.plc.fn c hcm f hfm
 have e1:bs0++(c.fields.take (j+1)).map (slotF u d.1)=bs0++(c.fields.take j).map (slotF u d.1)++[slotF u d.1 f]:=by rw [map_snoc hf,List.append_assoc]
 have hl0:(bs0++(c.fields.take j).map (slotF u d.1)).length<=7007:=by rw [List.length_append,List.length_map,List.length_take];omega
 generalize bs0++(c.fields.take j).map (slotF u d.1)=L at *
 refine dh T [0,1,2,3,4,5,6,7,8,9,10,11,13,14,15,16,17,18,19,12,20,21,22,23] fun w8 k8 => ?_
 have B68:=B7.trans k8.bl
 refine slm 0 L.length L.length ?_ (h5:=C7.2.1)
 refine lda (Bl.box B68 x10).at ?_ (hm:=trivial)
 refine ix ?_
 refine ld (hAf.bl k8.bl 0 _ rfl) ?_ (hm:=trivial)
 refine ld ((Bl.box B68 x36).cell rfl) ?_ (hm:=trivial)
 refine ix ?_
 refine lda (At.left (cs:=encTy f.ty) (hAf.bl k8.bl).tail) ?_ (hm:=trivial)
 refine cl (r_text (U6.bl B68) hfn) ?_
 rintro _ w9 ⟨rfl,B9⟩
 refine bd (cs:=encSlot (slotF u d.1 f)) ?_
 refine bs (cs:=encSlot (slotF u d.1 f)) fun b12 w10 k10 => ?_
 have B710:=(k8.bl.trans B9).trans k10.bl
 have T8:Eng.Src w10 (if L.length=0 then a7 else a7.map (·.add (0*4))) (L.length-0) (L.flatMap encSlot):=by rw [slm_b];exact src_of (C7.bl B710).1
 refine apg (m:=1) (cap:=L.length-0) T8 (.inr ⟨b12,0,rfl,k10.box.at⟩) (fun e=>by
  rw [slm_b] at e
  have:=C7.2.1
  have:=C7.2.2 e
  omega) (by omega) (by omega) (fun a15 c15 w15 O15 B15 => ?_) (hlx:=by rw [flat_length (sz:=4) (fun _=>rfl)];omega) (h1:=rfl)
 have e7:L.flatMap encSlot++encSlot (slotF u d.1 f)=(L++[slotF u d.1 f]).flatMap encSlot:=by simp
 have e8:L.length-0+1=(L++[slotF u d.1 f]).length:=by simp
 rw [e7,e8] at O15
 rw [e8]
 exact ih hltj ⟨a15,c15,by rw [e1],by rw [e1];exact CapS.own O15 (by rw [<-e8];omega) (by have:=(B6.trans (B7.trans B710)).size;omega),(B7.trans B710).trans B15⟩
end Go.Proofs.YtkmdfjpafkcleaaGreatDoor
namespace Go.Proofs.YtkmdfjpafkcleaaGreatDoor
open Eng Go.RowKit
variable {us:List Unt} {b:Nat} {w:World} {s:PgS}
def layN (us:List Unt) (d:Nat×Nat):List Slot:=layD us (clsW us).length d
def sizE (us:List Unt) (out:List (Nat×Nat)):Int :=
 if 10<(clsW us).length∨10<(staW us).length∨16<(mthW us).length then 2
 else if (out.any fun d=>decide (7<(layN us d).length))=true then 2
 else if (out.any fun d=>dup ((layN us d).map (·.1)))=true then 9
 else 0
theorem any_snocV {α:Type} {p:α->Bool} {l:List α} {k:Nat} {x:α} (h:(l.take k).any p=false) (hx:l[k]? = some x) (hn:p x=false):(l.take (k+1)).any p=false:=by
 rw [take_succ_some hx,List.any_append,h];simp [hn]
theorem any_yes {α:Type} {p:α->Bool} {l:List α} {k:Nat} {x:α} (hx:l[k]? = some x) (hy:p x=true):l.any p=true:=List.any_eq_true.2 ⟨x,List.mem_of_getElem? hx,hy⟩
set_option maxHeartbeats 8000000 in
theorem r_sizes (H:Pg us b s w) (hs:s.cls=clsW us) (hs2:s.sta=staW us) (hs3:s.mth=mthW us) (hC:∀ u∈us,CkU u) (O:OrdP us s.ord) (hN:(clsW us).length<=1000) :
  Ret Tryz.prog 121 #[.pointer (some ⟨b,0,none⟩)] w fun v w'=>v=I (sizE us s.ord)/\Bl w w':=by
 refine entr (vs:=[.pointer (some ⟨b,0,none⟩)]) [0,2,3,4,5,6,7,29,36,49,56,71,76,89] tabok Tryz.func121 (by kernel_rfl) ?_
 have H0:=H
 obtain ⟨au,cu,ac,cc,as',cs,am,cm,ao,co,al',cl',az,cz,hx,h1,h2,h3,h4,h5,h6,h7,h8⟩:=H
 rw [hs,hs2,hs3] at hx
 have hol:=O.len
 have big1:=h2.big
 have big2:=h3.big
 have big3:=h4.big
 rw [hs] at big1
 rw [hs2] at big2
 rw [hs3] at big3
 have yes:∀ {C:Cx},True:=fun {_}=>trivial
 refine ld (hx.cell rfl) ?_
 by_cases c1:10<(clsW us).length
 ·refine spn (.slice none 0 0) ?_ (hb:=by first | (simp;done) | (simp;omega))
  refine spn (.slice none 0 0) ?_ (hb:=by first | (simp;done) | (simp;omega))
  refine brt ?_ (hp:=by first | (simp;done) | (simp;omega))
  refine rt1 ⟨?_,Bl.refl _⟩
  unfold sizE
  rw [if_pos (.inl c1)]
 refine spt (.slice none 0 0) ?_ (hb:=by first | (simp;done) | (simp;omega))
 refine ld (hx.cell rfl) ?_
 by_cases c2:10<(staW us).length
 ·refine spn (.slice none 0 0) ?_ (hb:=by first | (simp;done) | (simp;omega))
  refine brt ?_ (hp:=by first | (simp;done) | (simp;omega))
  refine rt1 ⟨?_,Bl.refl _⟩
  unfold sizE
  rw [if_pos (.inr (.inl c2))]
 refine spt (.slice none 0 0) ?_ (hb:=by first | (simp;done) | (simp;omega))
 refine ld (hx.cell rfl) ?_
 by_cases c3:16<(mthW us).length
 ·refine brt ?_ (hp:=by first | (simp;done) | (simp;omega))
  refine rt1 ⟨?_,Bl.refl _⟩
  unfold sizE
  rw [if_pos (.inr (.inr c3))]
 refine brf ?_ (hp:=by first | (simp;done) | (simp;omega))
 have c0:¬(10<(clsW us).length∨10<(staW us).length∨16<(mthW us).length):=by omega
 refine lpk (vals:=[]) s.ord.length 3 [] [(0,.pointer (some ⟨b,0,none⟩))] (fun k vals w'=>vals=[]/\((s.ord.take k).any fun d=>decide (7<(layN us d).length))=false/\Bl w w') ⟨rfl,rfl,Bl.refl _⟩ ?_
 rintro k vals w2 hk ⟨rfl,hno,B2⟩ ih
 have hx2:=Bl.box B2 hx
 refine ld (hx2.cell rfl) ?_
 by_cases hlt:k<s.ord.length
 ·refine brT ?_
  refine ld (hx2.cell rfl) ?_
  obtain ⟨d,bd,od,cs,hd,rfl,_,hAt,rfl⟩:=at_some (h5.bl B2) hlt
  refine ix ?_
  refine lda hAt ?_
  refine cl (r_layout hC O k d hd (clsW us).length (by omega) hN (H0.bl B2) hs) ?_
  rintro _ w3 ⟨a,c,rfl,C3,B3⟩
  have B23:=B2.trans B3
  by_cases hp:7<(layN us d).length
  ·refine brT ?_ (hp:=by show ((layN us d).length:Int) > 7;omega)
   refine rt1 ⟨?_,B23⟩
   unfold sizE
   rw [if_neg c0,if_pos (any_yes hd (decide_eq_true hp))]
  ·refine brF ?_ (hp:=by show ¬((layN us d).length:Int) > 7;omega)
   exact ih hlt ⟨rfl,any_snocV (p:=fun d=>decide (7<(layN us d).length)) hno hd (decide_eq_false hp),B23⟩
 refine brF ?_
 obtain rfl:k=s.ord.length:=by omega
 rw [List.take_length] at hno
 refine lpk (vals:=[]) s.ord.length 4 [] [(0,.pointer (some ⟨b,0,none⟩))] (fun k vals w'=>vals=[]/\((s.ord.take k).any fun d=>dup ((layN us d).map (·.1)))=false/\Bl w w') ⟨rfl,rfl,B2⟩ ?_
 rintro k vals w3 hk ⟨rfl,hno2,B3⟩ ih2
 have hx3:=Bl.box B3 hx
 refine ld (hx3.cell rfl) ?_
 by_cases hlt:k<s.ord.length
 ·refine brT ?_
  refine ld (hx3.cell rfl) ?_
  obtain ⟨d,bd,od,cs,hd,rfl,_,hAt,rfl⟩:=at_some (h5.bl B3) hlt
  refine ix ?_
  refine lda hAt ?_
  refine cl (r_layout hC O k d hd (clsW us).length (by omega) hN (H0.bl B3) hs) ?_
  rintro _ w4 ⟨a,c,rfl,C4,B4⟩
  have B34:=B3.trans B4
  have hbig:=C4.1.big
  have eL:layD us (clsW us).length d=layN us d:=rfl
  rw [eL] at C4 hbig ⊢
  refine lpk (vals:=[]) (layN us d).length 6 [] [(0,.pointer (some ⟨b,0,none⟩)),(4,I k),(5,.slice a (layN us d).length c)] (fun i vals w'=>vals=[]/\(∀ (i' j:Nat) (x y:Slot),i'<i->j<i'->(layN us d)[i']? = some x->(layN us d)[j]? = some y->x.1≠y.1)/\Bl w4 w') ⟨rfl,fun i' j x y h=>by omega,Bl.refl _⟩ ?_
  rintro i vals w5 hi ⟨rfl,hne,B5⟩ ih3
  by_cases hlti:i<(layN us d).length
  ·refine brT ?_
   obtain ⟨x,bx',ox,cs2,hxi,rfl,_,hAx,rfl⟩:=at_some (C4.1.bl B5) hlti
   refine lpk (vals:=[]) i 7 [] [(0,.pointer (some ⟨b,0,none⟩)),(4,I k),(5,.slice (some ⟨bx',ox,none⟩) (layN us d).length c),(6,I i)] (fun j vals w'=>vals=[]/\(∀ (j':Nat) (y:Slot),j'<j->(layN us d)[j']? = some y->x.1≠y.1)/\Bl w5 w') ⟨rfl,fun j' y h=>by omega,Bl.refl _⟩ ?_
   rintro j vals w6 hj ⟨rfl,hne2,B6⟩ ih4
   by_cases hltj:j<i
   ·refine brT ?_
    obtain ⟨y,by',oy,cs3,hyj,e',_,hAy,rfl⟩:=at_some ((C4.1.bl B5).bl B6) (i:=j) (by omega)
    simp only [Option.some.injEq,Addr.mk.injEq,and_true] at e'
    obtain ⟨rfl,rfl⟩:=e'
    refine dh T (List.range 11) fun w7 k7 => ?_
    refine ix ?_
    refine ld ((hAx.bl B6).bl k7.bl 0 _ rfl) ?_ (hm:=trivial)
    refine ix ?_ (hb:=by omega)
    refine ld (hAy.bl k7.bl 0 _ rfl) ?_ (hm:=trivial)
    by_cases hp:x.1=y.1
    ·refine brt ?_ (hp:=by simp [hp])
     refine rt1 ⟨?_,((B34.trans B5).trans B6).trans k7.bl⟩
     have hdup:dup ((layN us d).map (·.1))=true:=dup_iff.2 ⟨i,j,hltj,x.1,by rw [List.getElem?_map,hxi];rfl,by rw [List.getElem?_map,hyj,hp];rfl⟩
     unfold sizE
     rw [if_neg c0,if_neg (by rw [hno];decide),if_pos (any_yes (p:=fun d=>dup ((layN us d).map (·.1))) hd hdup)]
    ·refine brf ?_ (hp:=by simp [hp])
     refine ih4 hltj ⟨rfl,fun j' z hj' hz => ?_,B6.trans k7.bl⟩
     rcases Nat.lt_or_ge j' j with q | q
     ·exact hne2 j' z q hz
     ·obtain rfl:j'=j:=by omega
      rw [hyj] at hz;obtain rfl:=Option.some.inj hz;exact hp
   ·refine brF ?_
    obtain rfl:j=i:=by omega
    refine ih3 hlti ⟨rfl,fun i' j' p q hi' hj' hp hq => ?_,B5.trans B6⟩
    rcases Nat.lt_or_ge i' j with r | r
    ·exact hne i' j' p q r hj' hp hq
    ·obtain rfl:i'=j:=by omega
     rw [hxi] at hp;obtain rfl:=Option.some.inj hp
     exact hne2 j' q hj' hq
  ·refine brF ?_
   obtain rfl:i=(layN us d).length:=by omega
   have hdup:dup ((layN us d).map (·.1))=false:=by
    rw [<-Bool.not_eq_true]
    intro q
    obtain ⟨i,j,hij,z,hzi,hzj⟩:=dup_iff.1 q
    rw [List.getElem?_map] at hzi hzj
    obtain ⟨p,hp,rfl⟩:=Option.map_eq_some_iff.1 hzi
    obtain ⟨r,hr,e⟩:=Option.map_eq_some_iff.1 hzj
    exact hne i j p r (List.getElem?_eq_some_iff.1 hp).1 hij hp hr e.symm
   exact ih2 hlt ⟨rfl,any_snocV (p:=fun d=>dup ((layN us d).map (·.1))) hno2 hd hdup,B34.trans B5⟩
 ·refine brF ?_
  obtain rfl:k=s.ord.length:=by omega
  rw [List.take_length] at hno2
  refine rt1 ⟨?_,B3⟩
  unfold sizE
  rw [if_neg c0,if_neg (by rw [hno];decide),if_neg (by rw [hno2];decide)]
theorem putS_len (l:List ByteArray) (z:ByteArray):(putS l z).length<=l.length+1:=by
 unfold putS
 split
 ·omega
 ·have:=atS_le l z
  rw [List.length_append,List.length_cons,List.length_take,List.length_drop];omega
theorem sl_dropS {S:Nat->Prop} {w:World} {a:Option Addr} {out:List ByteArray} {c j:Nat} (h:Sl eStr S w a out) (hc:out.length<=c):Sl eStr S w (if c=j then a else a.map (·.add (j*1))) (out.drop j):=by
 split
 ·rename_i e
  rw [List.drop_of_length_le (by omega)]
  exact Sl.nil ..
 ·exact h.drop j
set_option maxHeartbeats 4000000 in
theorem r_insert (l:List ByteArray) (a:Option Addr) (c:Nat) (S:Nat->Prop) (hS:Sl eStr S w a l) (hc:l.length<=c) (hl:l.length<=1000) (z:ByteArray) :
  Ret Tryz.prog 68 #[.slice a l.length c,.string z] w fun v w'=>∃ a' c',v = .slice a' (putS l z).length c'/\Sl eStr (fun i=>S i∨w.heap.size<=i) w' a' (putS l z)/\(putS l z).length<=c'/\Bl w w':=by
 refine entr (vs:=[.slice a l.length c,.string z]) [0,1,4,5,6,18,32] tabok Tryz.func68 (by kernel_rfl) ?_
 refine lpk (vals:=[]) l.length 5 [] [(0,.slice a l.length c),(1,.string z)] (fun k vals w'=>vals=[]/\(∀ i x,i<k->l[i]? = some x->toL x<toL z)/\w=w') ⟨rfl,fun i x hi=>by omega,rfl⟩ ?_
 rintro k vals _ hk ⟨rfl,hlt,rfl⟩ ih
 have fin:∀ (hn:∀ y,l[k]? = some y->¬toL y<toL z),atS l z=k:=fun hn=>atS_eq hk hlt hn
 by_cases hin:k<l.length
 ·obtain ⟨x,bd,od,cs,hd,rfl,_,hAt,rfl⟩:=at_some hS hin
  refine spt (.pointer none) ?_ (hb:=by simp [hin])
  refine ix ?_
  refine spt (.string ⟨#[]⟩) ?_ (hb:=by simp)
  refine ld (hAt 0 _ rfl) ?_
  refine spt (.bool false) ?_ (hb:=by simp)
  refine sop lss_run ?_
  by_cases hp:toL x<toL z
  ·refine brt ?_ (hp:=by simp [hp])
   refine ih hin ⟨rfl,fun i y hi hy => ?_,rfl⟩
   rcases Nat.lt_or_ge i k with q | q
   ·exact hlt i y q hy
   ·obtain rfl:i=k:=by omega
    rw [hd] at hy;obtain rfl:=Option.some.inj hy;exact hp
  ·refine brf ?_ (hp:=by simp [hp])
   have e:=fin fun y hy=>by rw [hd] at hy;obtain rfl:=Option.some.inj hy;exact hp
   refine spt (.pointer none) ?_ (hb:=by simp [hin])
   refine ix ?_
   refine spt (.string ⟨#[]⟩) ?_ (hb:=by simp)
   refine ld (hAt 0 _ rfl) ?_
   by_cases hz:x=z
   ·refine brt ?_ (hp:=by simp [hz])
    have ep:putS l z=l:=by unfold putS;rw [e,hd,hz,if_pos rfl]
    exact rt1 ⟨some ⟨bd,od,none⟩,c,by rw [ep],by rw [ep];exact hS.sub fun _ h => .inl h,by rw [ep];exact hc,Bl.refl _⟩
   refine brf ?_ (hp:=by simp [hz])
   have hno:¬l[atS l z]? = some z:=by rw [e];rw [hd];exact fun q=>hz (Option.some.inj q)
   have ep:putS l z=[]++l.take k++[z]++l.drop k:=by unfold putS;rw [if_neg hno,e];simp
   have hll:(l.take k).length=k-0:=by rw [List.length_take];omega
   have hld:(l.drop k).length=l.length-k:=List.length_drop
   refine bs (cs:=[]) fun b6 w1 k1 => ?_
   have z1:=k1.size
   have y1:=k1.blk
   have O1:OwP 1 encStr w1 b6 9 (some ⟨b6,0,none⟩) 0 ([]:List ByteArray):=Ow.made (n:=0) k1 rfl (by omega)
   refine sl 0 k ?_
   have D1:Sl eStr S w1 (if c=0 then (some ⟨bd,od,none⟩:Option Addr) else (some ⟨bd,od,none⟩:Option Addr).map (·.add (0*1))) (l.take k):=by
    have:=sl_dropS (j:=0) ((hS.bl k1.bl).take k) (c:=c) (by omega)
    rw [List.drop_zero] at this;exact this
   rw [<-hll]
   refine apl (l0:=[]) O1 (src_of D1) (by omega) fun a2 c2 w2 O2 A2 _ => ?_
   have B2:Bl w w2:=Below.trans k1.bl (A2.below (by omega) fun g hg=>by have:=(O1.lt hg).1;omega)
   refine bs (cs:=encStr z) fun b3 w3 k3 => ?_
   have B3:=B2.trans k3.bl
   refine apl (l1:=[z]) (O2.bl k3.bl) (.inr ⟨b3,0,rfl,k3.box.at⟩) (by have:=B3.size;have:=k3.bl.size;have:=A2.size;omega) fun a4 c4 w4 O4 A4 _ => ?_
   have B4:Bl w w4:=Below.trans B3 (A4.below B3.size fun g hg=>by have:=((O2.bl k3.bl).lt hg).1;omega)
   refine sl k l.length ?_
   have D4:=sl_dropS (j:=k) (hS.bl B4) hc
   rw [<-hld]
   refine apl (l1:=l.drop k) O4 (src_of D4) (by have:=A4.size;have:=k3.bl.size;have:=A2.size;omega) fun a5 c5 w5 O5 A5 _ => ?_
   have B5:Bl w w5:=Below.trans B4 (A5.below B4.size fun g hg=>by have:=(O4.lt hg).1;omega)
   have hpl:=putS_len l z
   rw [ep] at hpl ⊢
   exact rt1 ⟨a5,c5,rfl,owp_sl O5 (by omega) (fun g hg => .inr (by have:=(O5.lt hg).1;omega)),O5.capn.1,B5⟩
 ·refine spn (.pointer none) ?_ (hb:=by simp [hin])
  refine spn (.string ⟨#[]⟩) ?_ (hb:=by simp [hin])
  refine spn (.bool false) ?_ (hb:=by simp [hin])
  refine brf ?_ (hp:=by simp [hin])
  obtain rfl:k=l.length:=by omega
  have e:=fin fun y hy=>by simp at hy
  refine spn (.pointer none) ?_ (hb:=by simp)
  refine spn (.string ⟨#[]⟩) ?_ (hb:=by simp)
  refine brf ?_ (hp:=by simp)
  have hno:¬l[atS l z]? = some z:=by rw [e];simp
  have ep:putS l z=[]++l.take l.length++[z]++l.drop l.length:=by unfold putS;rw [if_neg hno,e];simp
  have hll:(l.take l.length).length=l.length-0:=by rw [List.length_take];omega
  have hld:(l.drop l.length).length=l.length-l.length:=List.length_drop
  refine bs (cs:=[]) fun b6 w1 k1 => ?_
  have z1:=k1.size
  have y1:=k1.blk
  have O1:OwP 1 encStr w1 b6 9 (some ⟨b6,0,none⟩) 0 ([]:List ByteArray):=Ow.made (n:=0) k1 rfl (by omega)
  refine sl 0 l.length ?_
  have D1:Sl eStr S w1 (if c=0 then a else a.map (·.add (0*1))) (l.take l.length):=by
   have:=sl_dropS (j:=0) ((hS.bl k1.bl).take l.length) (c:=c) (by omega)
   rw [List.drop_zero] at this;exact this
  rw [<-hll]
  refine apl (l0:=[]) O1 (src_of D1) (by omega) fun a2 c2 w2 O2 A2 _ => ?_
  have B2:Bl w w2:=Below.trans k1.bl (A2.below (by omega) fun g hg=>by have:=(O1.lt hg).1;omega)
  refine bs (cs:=encStr z) fun b3 w3 k3 => ?_
  have B3:=B2.trans k3.bl
  refine apl (l1:=[z]) (O2.bl k3.bl) (.inr ⟨b3,0,rfl,k3.box.at⟩) (by have:=B3.size;have:=k3.bl.size;have:=A2.size;omega) fun a4 c4 w4 O4 A4 _ => ?_
  have B4:Bl w w4:=Below.trans B3 (A4.below B3.size fun g hg=>by have:=((O2.bl k3.bl).lt hg).1;omega)
  refine sl l.length l.length ?_
  have D4:=sl_dropS (j:=l.length) (hS.bl B4) hc
  rw [<-hld]
  refine apl (l1:=l.drop l.length) O4 (src_of D4) (by have:=A4.size;have:=k3.bl.size;have:=A2.size;omega) fun a5 c5 w5 O5 A5 _ => ?_
  have B5:Bl w w5:=Below.trans B4 (A5.below B4.size fun g hg=>by have:=(O4.lt hg).1;omega)
  have hpl:=putS_len l z
  rw [ep] at hpl ⊢
  exact rt1 ⟨a5,c5,rfl,owp_sl O5 (by omega) (fun g hg => .inr (by have:=(O5.lt hg).1;omega)),O5.capn.1,B5⟩
end Go.Proofs.YtkmdfjpafkcleaaGreatDoor
namespace Go.Proofs.YtkmdfjpafkcleaaGreatDoor
open Eng Go.RowKit
variable {us:List Unt} {b:Nat} {w:World} {s:PgS}
def okP (us:List Unt) (i k:Nat):Prop:=∀ (a b:Nat×Nat) (u v:Unt) (m n:Mth),(mthW us)[i]? = some a->(mthW us)[k]? = some b->mthAt us a=some (u,m)->mthAt us b=some (v,n)->0<=m.cls->0<=n.cls->nm u m.name=nm v n.name ->
 (likeL u v m.params n.params&&likeT u v m.result n.result)=true
theorem fitP_ok:FitP us↔∀ i k,k<i->okP us i k:=⟨fun h i k hk a b u v m n=>h i k a b u v m n hk,fun h i k a b u v m n hk=>h i k hk a b u v m n⟩
theorem likeL_one (u v:Unt) (t s:Ty):likeL u v [t] [s]=likeT u v t s:=by simp [likeL]
theorem okP_of {i k:Nat} {a b:Nat×Nat} {u v:Unt} {m n:Mth} (ha:(mthW us)[i]? = some a) (hb:(mthW us)[k]? = some b) (hm:mthAt us a=some (u,m)) (hn:mthAt us b=some (v,n))
  (h:0<=m.cls->0<=n.cls->nm u m.name=nm v n.name->(likeL u v m.params n.params&&likeT u v m.result n.result)=true):okP us i k:=by
 intro a' b' u' v' m' n' h1 h2 h3 h4
 rw [ha] at h1;obtain rfl:=Option.some.inj h1
 rw [hb] at h2;obtain rfl:=Option.some.inj h2
 rw [hm] at h3;obtain ⟨rfl,rfl⟩:=Prod.mk.inj (Option.some.inj h3)
 rw [hn] at h4;obtain ⟨rfl,rfl⟩:=Prod.mk.inj (Option.some.inj h4)
 exact h
set_option maxHeartbeats 8000000 in
theorem r_fitting (H:Pg us b s w) (hs3:s.mth=mthW us) (hC:∀ u∈us,CkU u) :
  Ret Tryz.prog 122 #[.pointer (some ⟨b,0,none⟩)] w fun v w'=>(∃ t,v = .bool t/\(t=true↔FitP us))/\Bl w w':=by
 refine entr (vs:=[.pointer (some ⟨b,0,none⟩)]) [0,2,3,4,5,6,7,8,9,10,17,22,57,105] tabok Tryz.func122 (by kernel_rfl) ?_
 have H0:=H
 obtain ⟨au,cu,ac,cc,as',cs,am,cm,ao,co,al',cl',az,cz,hx,h1,h2,h3,h4,h5,h6,h7,h8⟩:=H
 rw [hs3] at hx h4
 have big3:=h4.big
 have lb:=hx.lt
 refine lpk (vals:=[]) (mthW us).length 3 [] [(0,.pointer (some ⟨b,0,none⟩))] (fun i vals w'=>vals=[]/\(∀ i' k,i'<i->k<i'->okP us i' k)/\Bl w w') ⟨rfl,fun i' k h=>by omega,Bl.refl _⟩ ?_
 rintro i vals w2 hi ⟨rfl,hok,B2⟩ ih
 refine ld ((Bl.box B2 hx).cell rfl) ?_
 by_cases hlti:i<(mthW us).length
 rotate_left
 ·refine brF ?_
  obtain rfl:i=(mthW us).length:=by omega
  refine rt1 ⟨⟨true,rfl,fun _=>fitP_ok.2 fun i k hk => ?_,fun _=>rfl⟩,B2⟩
  by_cases q:i<(mthW us).length
  ·exact hok i k q hk
  ·intro a b u v m n ha
   rw [List.getElem?_eq_none (by omega)] at ha;cases ha
 refine brT ?_
 obtain ⟨a,ba,oa,cs,ha,rfl,_,hAa0,rfl⟩:=at_some h4 hlti
 obtain ⟨⟨u,m⟩,hma⟩:=mem_mthW.1 (List.mem_of_getElem? ha)
 obtain ⟨hu,hm⟩:=mthAt_un hma
 have hum:=List.mem_of_getElem? hu
 have hmm:=List.mem_of_getElem? hm
 have hTu:=tyU_of (hC u hum)
 have lba:=cell_lt (hAa0 0 _ rfl)
 refine lpk (vals:=[]) i 4 [] [(0,.pointer (some ⟨b,0,none⟩)),(3,I i)] (fun k vals w'=>vals=[]/\(∀ k',k'<k->okP us i k')/\Bl w w') ⟨rfl,fun k' h=>by omega,B2⟩ ?_
 rintro k vals w3 hk ⟨rfl,hok2,B3⟩ ih2
 by_cases hltk:k<i
 rotate_left
 ·refine brF ?_
  obtain rfl:k=i:=by omega
  refine ih hlti ⟨rfl,fun i' k' hi' hk' => ?_,B3⟩
  rcases Nat.lt_or_ge i' k with q | q
  ·exact hok i' k' q hk'
  ·obtain rfl:i'=k:=by omega
   exact hok2 k' hk'
 refine brT ?_
 obtain ⟨c,bc,oc,cs,hc,e',_,hAc0,rfl⟩:=at_some h4 (i:=k) (by omega)
 simp only [Option.some.injEq,Addr.mk.injEq,and_true] at e'
 obtain ⟨rfl,rfl⟩:=e'
 obtain ⟨⟨v,n⟩,hmc⟩:=mem_mthW.1 (List.mem_of_getElem? hc)
 obtain ⟨hv,hn⟩:=mthAt_un hmc
 have hvm:=List.mem_of_getElem? hv
 have hnm:=List.mem_of_getElem? hn
 have hTv:=tyU_of (hC v hvm)
 have next:okP us i k->∀ k',k'<k+1->okP us i k':=fun h k' hk'=>by
  rcases Nat.lt_or_ge k' k with q | q
  ·exact hok2 k' q
  ·obtain rfl:k'=k:=by omega
   exact h
 have l3:=B3.size
 refine cut [5,6] [(0,.pointer (some ⟨b,0,none⟩)),(3,I i),(4,I k)] (fun vals w'=>∃ b5 b6,vals=[.pointer (some ⟨b5,0,none⟩),.pointer (some ⟨b6,0,none⟩)]/\Bl w3 w'/\Box w' b5 tWh (encWh a)/\Box w' b6 tWh (encWh c)) (fun jo => ?_) ?_
 ·refine dhb (· < w3.heap.size) (.row [0,1,2,3,4,5,6,7,8,9,10,11,12,13] (.two 14 (.row [15,16,17] .done) 15 (.row [14,16,17] .done))) fun w8 k8 => ?_
  have B8:=B3.trans k8.bl
  refine ld ((Bl.box B8 hx).cell rfl) ?_ (hm:=by show b<_;omega)
  refine ix ?_
  refine lda (hAa0.bl B8) ?_ (hm:=by show ba<_;omega)
  refine ld ((Bl.box B8 hx).cell rfl) ?_ (hm:=by show b<_;omega)
  refine ix ?_ (hb:=by omega)
  refine lda (hAc0.bl B8) ?_ (hm:=by show ba<_;omega)
  have z8:=k8.bl.size
  refine bt ?_ ?_
  ·refine al fun b5 w9 k9 => ?_
   refine al fun b6 w10 k10 => ?_
   have y9:=k9.blk
   have y10:=k10.blk
   have z9:=k9.size
   have z10:=k10.size
   refine sta (cs':=encWh a) (Bl.box k10.bl k9.box) (fun w11 k11 x11 => ?_) (hm:=wrB (by show ¬b5<_;omega))
   refine sta (cs':=encWh c) (k11.box k10.box (by omega)) (fun w12 k12 x12 => ?_) (hm:=wrB (by show ¬b6<_;omega))
   refine jo ⟨b5,b6,rfl,?_,k12.box x11 (by omega),x12⟩
   exact Below.trans (Below.trans (k8.bl.trans (k9.bl.trans k10.bl)) (k11.below (by omega))) (k12.below (by omega))
  ·refine al fun b6 w9 k9 => ?_
   refine al fun b5 w10 k10 => ?_
   have y9:=k9.blk
   have y10:=k10.blk
   have z9:=k9.size
   have z10:=k10.size
   refine sta (cs':=encWh a) k10.box (fun w11 k11 x11 => ?_) (hm:=wrB (by show ¬b5<_;omega))
   refine sta (cs':=encWh c) (k11.box (Bl.box k10.bl k9.box) (by omega)) (fun w12 k12 x12 => ?_) (hm:=wrB (by show ¬b6<_;omega))
   refine jo ⟨b5,b6,rfl,?_,k12.box x11 (by omega),x12⟩
   exact Below.trans (Below.trans (k8.bl.trans (k9.bl.trans k10.bl)) (k11.below (by omega))) (k12.below (by omega))
 rintro _ w4 ⟨b5,b6,rfl,B34,x5,x6⟩
 have B4:=B3.trans B34
 refine dh T [0,1,2,3,4,5,6,7,8,9,10,11,12,14,15,13,16,17,18] fun w5 k5 => ?_
 have B5:=B4.trans k5.bl
 have x55:=k5.box x5
 have x65:=k5.box x6
 refine lda x55.at ?_ (hm:=trivial)
 refine cl (r_sent (H0.bl B5).u hC hma) ?_
 rintro _ w6 ⟨rfl,B56⟩
 have B6:=B5.trans B56
 by_cases hs0:0<=m.cls
 rotate_left
 ·have es:sentB us a=false:=by rw [sentB_at hma,decide_eq_false hs0]
  rw [es]
  refine spn (.agg #[I 0,I 0]) ?_
  refine spn (.bool false) ?_
  refine spn (.agg #[I 0,I 0]) ?_
  refine spn (.agg #[I 0,I 0]) ?_
  refine spn (.string ⟨#[]⟩) ?_
  refine spn (.string ⟨#[]⟩) ?_
  refine brt ?_ (hp:=by rfl)
  exact ih2 hltk ⟨rfl,next (okP_of ha hc hma hmc fun h=>absurd h hs0),B6⟩
 have es:sentB us a=true:=by rw [sentB_at hma,decide_eq_true hs0]
 rw [es]
 refine spt (.agg #[I 0,I 0]) ?_
 refine lda (Bl.box B56 x65).at ?_ (hm:=trivial)
 refine spt (.bool false) ?_
 refine cl (r_sent (H0.bl B6).u hC hmc) ?_
 rintro _ w7 ⟨rfl,B67⟩
 have B7:=B6.trans B67
 by_cases hs1:0<=n.cls
 rotate_left
 ·have es:sentB us c=false:=by rw [sentB_at hmc,decide_eq_false hs1]
  rw [es]
  refine spn (.agg #[I 0,I 0]) ?_
  refine spn (.agg #[I 0,I 0]) ?_
  refine spn (.string ⟨#[]⟩) ?_
  refine spn (.string ⟨#[]⟩) ?_
  refine brt ?_ (hp:=by rfl)
  exact ih2 hltk ⟨rfl,next (okP_of ha hc hma hmc fun _ h=>absurd h hs1),B7⟩
 have es:sentB us c=true:=by rw [sentB_at hmc,decide_eq_true hs1]
 rw [es]
 have B57:=B56.trans B67
 refine spt (.agg #[I 0,I 0]) ?_
 refine lda (Bl.box B57 x55).at ?_ (hm:=trivial)
 refine spt (.agg #[I 0,I 0]) ?_
 refine lda (Bl.box B57 x65).at ?_ (hm:=trivial)
 refine spt (.string ⟨#[]⟩) ?_
 refine cl (r_mname (H0.bl B7).u hC hma) ?_
 rintro _ w8 ⟨rfl,B78⟩
 refine spt (.string ⟨#[]⟩) ?_
 refine cl (r_mname (H0.bl (B7.trans B78)).u hC hmc) ?_
 rintro _ w9 ⟨rfl,B89⟩
 have B9:=(B7.trans B78).trans B89
 have B59:=(B57.trans B78).trans B89
 by_cases hname:nm u m.name=nm v n.name
 rotate_left
 ·refine brt ?_ (hp:=by simp [hname])
  exact ih2 hltk ⟨rfl,next (okP_of ha hc hma hmc fun _ _ h=>absurd h hname),B9⟩
 refine brf ?_ (hp:=by simp [hname])
 have x59:=Bl.box B59 x55
 have x69:=Bl.box B59 x65
 obtain ⟨bu,ou,cs,e1,_,hAu0,ua,rfl,hU⟩:=h1.el a.1 u hu
 obtain ⟨bv,ov,cs,e2,_,hAv0,va,rfl,hV⟩:=h1.el c.1 v hv
 have lbu:=cell_lt (hAu0 0 _ rfl)
 have lbv:=cell_lt (hAv0 0 _ rfl)
 have hul:a.1<us.length:=(List.getElem?_eq_some_iff.1 hu).1
 have hvl:c.1<us.length:=(List.getElem?_eq_some_iff.1 hv).1
 have l9:=B9.size
 have l59:=x59.lt
 have l69:=x69.lt
 refine cut [7,8] [(0,.pointer (some ⟨b,0,none⟩)),(3,I i),(4,I k),(5,.pointer (some ⟨b5,0,none⟩)),(6,.pointer (some ⟨b6,0,none⟩))] (fun vals w'=>∃ b7 b8,vals=[.pointer (some ⟨b7,0,none⟩),.pointer (some ⟨b8,0,none⟩)]/\Bl w9 w'/\Box w' b7 38 (ucells u ua)/\Box w' b8 38 (ucells v va)) (fun jo => ?_) ?_
 ·refine dhb (· < w9.heap.size) (.row [0,1,2,3,4,5,6,7,8,9,10,11,12,13,14,15] (.two 16 (.row [17,18,19] .done) 17 (.row [16,18,19] .done))) fun v0 q0 => ?_
  have D0:=B9.trans q0.bl
  have z0:=q0.bl.size
  refine ld ((Bl.box D0 hx).cell rfl) ?_ (hm:=by show b<_;omega)
  refine ld ((q0.box x59).cell rfl) ?_ (hm:=by show b5<_;omega)
  rw [e1]
  refine ix (j:=a.1) ?_ (hb:=hul)
  refine lda (hAu0.bl D0) ?_ (hm:=by show bu<_;omega)
  refine ld ((Bl.box D0 hx).cell rfl) ?_ (hm:=by show b<_;omega)
  refine ld ((q0.box x69).cell rfl) ?_ (hm:=by show b6<_;omega)
  rw [e2]
  refine ix (j:=c.1) ?_ (hb:=hvl)
  refine lda (hAv0.bl D0) ?_ (hm:=by show bv<_;omega)
  refine bt ?_ ?_
  ·refine al fun b7 v1 q1 => ?_
   refine al fun b8 v2 q2 => ?_
   have y1:=q1.blk
   have y2:=q2.blk
   have z1:=q1.size
   have z2:=q2.size
   refine sta (cs':=ucells u ua) (Bl.box q2.bl q1.box) (fun v3 q3 x3 => ?_) (hm:=wrB (by show ¬b7<_;omega))
   refine sta (cs':=ucells v va) (q3.box q2.box (by omega)) (fun v4 q4 x4 => ?_) (hm:=wrB (by show ¬b8<_;omega))
   refine jo ⟨b7,b8,rfl,?_,q4.box x3 (by omega),x4⟩
   exact Below.trans (Below.trans (q0.bl.trans (q1.bl.trans q2.bl)) (q3.below (by omega))) (q4.below (by omega))
  ·refine al fun b8 v1 q1 => ?_
   refine al fun b7 v2 q2 => ?_
   have y1:=q1.blk
   have y2:=q2.blk
   have z1:=q1.size
   have z2:=q2.size
   refine sta (cs':=ucells u ua) q2.box (fun v3 q3 x3 => ?_) (hm:=wrB (by show ¬b7<_;omega))
   refine sta (cs':=ucells v va) (q3.box (Bl.box q2.bl q1.box) (by omega)) (fun v4 q4 x4 => ?_) (hm:=wrB (by show ¬b8<_;omega))
   refine jo ⟨b7,b8,rfl,?_,q4.box x3 (by omega),x4⟩
   exact Below.trans (Below.trans (q0.bl.trans (q1.bl.trans q2.bl)) (q3.below (by omega))) (q4.below (by omega))
 rintro _ w10 ⟨b7,b8,rfl,B910,x7,x8⟩
 have B10:=B9.trans B910
 have U10:=hU.bl B10
 have V10:=hV.bl B10
 have x510:=Bl.box B910 x59
 have x610:=Bl.box B910 x69
 obtain ⟨bm,om,cs,e3,_,hAm,a1,c1,a2,c2,a3,c3,rfl,P1,_,_⟩:=U10.mth.el a.2 m hm
 obtain ⟨bn,on,cs,e4,_,hAn,a4,c4,a5,c5,a6,c6,rfl,P2,_,_⟩:=V10.mth.el c.2 n hn
 have hml:a.2<u.methods.length:=(List.getElem?_eq_some_iff.1 hm).1
 have hnl:c.2<v.methods.length:=(List.getElem?_eq_some_iff.1 hn).1
 have lbm:=cell_lt (hAm 0 _ rfl)
 have lbn:=cell_lt (hAn 0 _ rfl)
 have l7:=x7.lt
 have l8:=x8.lt
 have l510:=x510.lt
 have l610:=x610.lt
 refine cut [9,10] [(0,.pointer (some ⟨b,0,none⟩)),(3,I i),(4,I k),(7,.pointer (some ⟨b7,0,none⟩)),(8,.pointer (some ⟨b8,0,none⟩))] (fun vals w'=>∃ b9 b10,vals=[.pointer (some ⟨b9,0,none⟩),.pointer (some ⟨b10,0,none⟩)]/\Bl w10 w'/\Box w' b9 79 (mcells m a1 c1 a2 c2 a3 c3)/\Box w' b10 79 (mcells n a4 c4 a5 c5 a6 c6)) (fun jo => ?_) ?_
 ·refine dhb (· < w10.heap.size) (.row [0,1,2,3,4,5,6,7,8,9,10,11] (.two 12 (.row [13,14,15] .done) 13 (.row [12,14,15] .done))) fun v0 q0 => ?_
  have z0:=q0.bl.size
  refine ld ((q0.box x7).cell rfl) ?_ (hm:=by show b7<_;omega)
  refine ld ((q0.box x510).cell rfl) ?_ (hm:=by show b5<_;omega)
  rw [e3]
  refine ix (j:=a.2) ?_ (hb:=hml)
  refine lda (hAm.bl q0.bl) ?_ (hm:=by show bm<_;omega)
  refine ld ((q0.box x8).cell rfl) ?_ (hm:=by show b8<_;omega)
  refine ld ((q0.box x610).cell rfl) ?_ (hm:=by show b6<_;omega)
  rw [e4]
  refine ix (j:=c.2) ?_ (hb:=hnl)
  refine lda (hAn.bl q0.bl) ?_ (hm:=by show bn<_;omega)
  refine bt ?_ ?_
  ·refine al fun b9 v1 q1 => ?_
   refine al fun b10 v2 q2 => ?_
   have y1:=q1.blk
   have y2:=q2.blk
   have z1:=q1.size
   have z2:=q2.size
   refine sta (cs':=mcells m a1 c1 a2 c2 a3 c3) (Bl.box q2.bl q1.box) (fun v3 q3 x3 => ?_) (hm:=wrB (by show ¬b9<_;omega))
   refine sta (cs':=mcells n a4 c4 a5 c5 a6 c6) (q3.box q2.box (by omega)) (fun v4 q4 x4 => ?_) (hm:=wrB (by show ¬b10<_;omega))
   refine jo ⟨b9,b10,rfl,?_,q4.box x3 (by omega),x4⟩
   exact Below.trans (Below.trans (q0.bl.trans (q1.bl.trans q2.bl)) (q3.below (by omega))) (q4.below (by omega))
  ·refine al fun b10 v1 q1 => ?_
   refine al fun b9 v2 q2 => ?_
   have y1:=q1.blk
   have y2:=q2.blk
   have z1:=q1.size
   have z2:=q2.size
   refine sta (cs':=mcells m a1 c1 a2 c2 a3 c3) q2.box (fun v3 q3 x3 => ?_) (hm:=wrB (by show ¬b9<_;omega))
   refine sta (cs':=mcells n a4 c4 a5 c5 a6 c6) (q3.box (Bl.box q2.bl q1.box) (by omega)) (fun v4 q4 x4 => ?_) (hm:=wrB (by show ¬b10<_;omega))
   refine jo ⟨b9,b10,rfl,?_,q4.box x3 (by omega),x4⟩
   exact Below.trans (Below.trans (q0.bl.trans (q1.bl.trans q2.bl)) (q3.below (by omega))) (q4.below (by omega))
 rintro _ w11 ⟨b9,b10,rfl,B1011,x9,x10⟩
 have B11:=B10.trans B1011
 refine lda (Bl.box B1011 x7).at ?_
 refine lda (Bl.box B1011 x8).at ?_
 refine ld (x9.cell rfl) ?_
 refine ld (x10.cell rfl) ?_
 refine cl (r_likeTypes (hU.bl B11) (hV.bl B11) (P1.bl B1011) (P2.bl B1011) (fun t ht=>tyP_in (hTu.p m hmm t ht)) fun t ht=>tyP_in (hTv.p n hnm t ht)) ?_
 rintro _ w12 ⟨rfl,B1112⟩
 have B12:=B11.trans B1112
 cases hq:likeL u v m.params n.params with
 | false =>
  refine spn (.agg #[]) ?_
  refine spn (.agg #[]) ?_
  refine spn (.agg #[I 0,I 0]) ?_
  refine spn (.slice none 0 0) ?_
  refine spn (.agg #[I 0,I 0]) ?_
  refine spn (.slice none 0 0) ?_
  refine spn (.bool false) ?_
  refine brt ?_ (hp:=by rfl)
  refine rt1 ⟨⟨false,rfl,fun h=>(by cases h),fun h => ?_⟩,B12⟩
  have:=fitP_ok.1 h i k hltk a c u v m n ha hc hma hmc hs0 hs1 hname
  rw [hq] at this;cases this
 | true =>
  have B1012:=B1011.trans B1112
  have x912:=Bl.box B1112 x9
  have x1012:=Bl.box B1112 x10
  refine spt (.agg #[]) ?_
  refine lda (Bl.box B1012 x7).at ?_
  refine spt (.agg #[]) ?_
  refine lda (Bl.box B1012 x8).at ?_
  refine spt (.agg #[I 0,I 0]) ?_
  refine lda (At.left (cs:=encTy m.result) x912.at.tail.tail.tail.tail) ?_
  refine spt (.slice none 0 0) ?_
  refine bs (cs:=encTy m.result) fun b13 w13 k13 => ?_
  refine spt (.agg #[I 0,I 0]) ?_
  refine lda (At.left (cs:=encTy n.result) (Bl.box k13.bl x1012).at.tail.tail.tail.tail) ?_
  refine spt (.slice none 0 0) ?_
  refine bs (cs:=encTy n.result) fun b14 w14 k14 => ?_
  have B14:=(B12.trans k13.bl).trans k14.bl
  have S1:Sl eTy T w14 (some ⟨b13,0,none⟩) [m.result]:=(owp_sl (enc:=encTy) (Ow.made (n:=1) k13 rfl (by omega)) (by simp) (fun _ _=>trivial)).bl k14.bl
  have S2:Sl eTy T w14 (some ⟨b14,0,none⟩) [n.result]:=owp_sl (enc:=encTy) (Ow.made (n:=1) k14 rfl (by omega)) (by simp) (fun _ _=>trivial)
  refine spt (.bool false) ?_
  refine cl (r_likeTypes (hU.bl B14) (hV.bl B14) S1 S2 (fun t ht=>by rw [List.mem_singleton.1 ht];exact tyP_in (hTu.r m hmm)) fun t ht=>by rw [List.mem_singleton.1 ht];exact tyP_in (hTv.r n hnm)) ?_
  rintro _ w15 ⟨rfl,B1415⟩
  have B15:=B14.trans B1415
  rw [likeL_one]
  cases hq2:likeT u v m.result n.result with
  | false =>
   refine brt ?_ (hp:=by rfl)
   refine rt1 ⟨⟨false,rfl,fun h=>(by cases h),fun h => ?_⟩,B15⟩
   have:=fitP_ok.1 h i k hltk a c u v m n ha hc hma hmc hs0 hs1 hname
   rw [hq,hq2] at this;cases this
  | true =>
   refine brf ?_ (hp:=by rfl)
   exact ih2 hltk ⟨rfl,next (okP_of ha hc hma hmc fun _ _ _=>by rw [hq,hq2];rfl),B15⟩
end Go.Proofs.YtkmdfjpafkcleaaGreatDoor
namespace Go.Proofs.YtkmdfjpafkcleaaGreatDoor
open Eng Go.RowKit
variable {us:List Unt}
theorem own_at (h:Good us) {d:Nat×Nat} {u:Unt} {c:Cls} (hd:clsAt us d=some (u,c)):ownL us (decl us) (pthC us d)=c.fields.map fun f=>nm u f.name:=by
 unfold ownL;rw [clsOf_at h hd]
theorem lay_names (h:Good us) (hd:definedL us (decl us)=true):∀ (n:Nat) (d:Nat×Nat),d∈clsW us->(layD us n d).map (·.1)=layL us (decl us) n (pthC us d)
 | 0,_,_=>rfl
 | n+1,d,hW=>by
  obtain ⟨⟨u,c⟩,ha⟩:=mem_clsW.1 hW
  obtain ⟨hu,hc⟩:=clsAt_un ha
  rw [layD_at ha,List.map_append,List.map_map]
  simp only [layL]
  rw [supL_at h ha,own_at h ha]
  unfold supF
  have e:(c.fields.map ((fun q:Slot=>q.1) ∘ slotF u d.1))=c.fields.map fun f=>nm u f.name:=rfl
  rw [e]
  by_cases h0:c.super<0
  ·rw [if_pos h0,if_pos h0,if_pos rfl];rfl
  ·obtain ⟨e,e1,e2,e3,e4⟩:=sup_found h hd (List.mem_of_getElem? hu) (List.mem_of_getElem? hc) h0
   rw [if_neg h0,if_neg h0,if_neg e4,e1,Option.getD_some,lay_names h hd n e e2,e3]
theorem keysC_len (h:Good us):(keysM (decl us).classes).length=(clsW us).length:=by rw [(permC h).length_eq,List.length_map]
theorem lay_is (h:Good us) (hd:definedL us (decl us)=true) {d:Nat×Nat} (hW:d∈clsW us):lay us (pthC us d)=(layN us d).map (·.1):=by
 unfold lay layN
 rw [keysC_len h,lay_names h hd _ d hW]
theorem big_is (h:Good us) (hP:PreE us):bigD (decl us)=decide (10<(clsW us).length∨10<(staW us).length∨16<(mthW us).length):=by
 have e1:(decl us).classes.length=(clsW us).length:=by rw [decl_clsW h,List.length_map]
 have e2:(decl us).statics.length=(staW us).length:=by rw [decl_staW h,List.length_map]
 have e3:(decl us).calls.length+(decl us).sends.length=(mthW us).length:=by
  have:=(permM h hP).length_eq
  rw [List.length_append,keys_len',keys_len',List.length_map] at this
  exact this
 unfold bigD
 rw [e1,e2,e3,Bool.eq_iff_iff]
 simp only [Bool.or_eq_true,decide_eq_true_eq]
structure PreK (us:List Unt):Prop where
 n5:us.length<=5
 ck:∀ u∈us,checkE u=0
 du:dup (us.map fun u:Unt=>u.name)=false
 df:definedL us (decl us)=true
theorem PreK.good (K:PreK us):Good us:=⟨fun u hu=>(ckU_iff u).1 (K.ck u hu),nodup_of_dup K.du⟩
theorem run_pre (n5:us.length<=5) (ck:∀ u∈us,checkE u=0) (du:dup (us.map fun u:Unt=>u.name)=false) (df:definedL us (decl us)=false):runE us=8:=by
 unfold runE
 rw [if_neg (by omega),if_neg (by rw [chk_zero ck];decide),if_neg (by rw [du];decide),if_pos df]
theorem run_dup (n5:us.length<=5) (ck:∀ u∈us,checkE u=0) (du:dup (us.map fun u:Unt=>u.name)=true):runE us=9:=by
 unfold runE
 rw [if_neg (by omega),if_neg (by rw [chk_zero ck];decide),if_pos du]
theorem run_chk (n5:us.length<=5) (h:chkE us≠0):runE us=chkE us:=by
 unfold runE
 rw [if_neg (by omega),if_pos h]
theorem run_len (h:5<us.length):runE us=2:=by
 unfold runE
 rw [if_pos h]
theorem run_cyc (K:PreK us) (h:ordC us=none):runE us=10:=by
 unfold runE
 rw [if_neg (by have:=K.n5;omega),if_neg (by rw [chk_zero K.ck];decide),if_neg (by rw [K.du];decide),if_neg (by rw [K.df];decide),h]
theorem any_map {α β:Type} (f:α->β) (p:β->Bool) (l:List α):(l.map f).any p=l.any fun x=>p (f x):=by rw [List.any_map];rfl
theorem any_cong {α:Type} {l:List α} {f g:α->Bool} (h:∀ x∈l,f x=g x):l.any f=l.any g:=by
 rw [Bool.eq_iff_iff,List.any_eq_true,List.any_eq_true]
 exact ⟨fun ⟨x,hx,q⟩=>⟨x,hx,by rw [<-h x hx];exact q⟩,fun ⟨x,hx,q⟩=>⟨x,hx,by rw [h x hx];exact q⟩⟩
theorem run_sz (K:PreK us) {out:List (Nat×Nat)} (O:OrdP us out) (ho:ordC us=some (out.map (pthC us))) :
  runE us=if sizE us out=0 then (if unlikeL us (decl us)=true then 11 else match ordM us with | none=>10 | some _=>0) else sizE us out:=by
 have h:=K.good
 have e1:((out.map (pthC us)).any fun p=>decide (7<(lay us p).length))=out.any fun d=>decide (7<(layN us d).length):=by
  rw [any_map]
  exact any_cong fun d hd=>by rw [lay_is h K.df (O.sub d hd),List.length_map]
 have e2:((out.map (pthC us)).any fun p=>dup (lay us p))=out.any fun d=>dup ((layN us d).map (·.1)):=by
  rw [any_map]
  exact any_cong fun d hd=>by rw [lay_is h K.df (O.sub d hd)]
 have e0:runE us=if bigD (decl us)=true then 2
   else if ((out.map (pthC us)).any fun p=>decide (7<(lay us p).length))=true then 2
   else if ((out.map (pthC us)).any fun p=>dup (lay us p))=true then 9
   else if unlikeL us (decl us)=true then 11
   else match ordM us with
    | none=>10
    | some _=>0:=by
  conv=>lhs;unfold runE
  rw [if_neg (by have:=K.n5;omega),if_neg (by rw [chk_zero K.ck];decide),if_neg (by rw [K.du];decide),if_neg (by rw [K.df];decide),ho]
  rfl
 rw [e0,e1,e2,big_is h (preE_of K.df)]
 unfold sizE
 simp only [decide_eq_true_eq]
 by_cases c0:10<(clsW us).length∨10<(staW us).length∨16<(mthW us).length
 ·rw [if_pos c0,if_pos c0,if_neg (by decide)]
 rw [if_neg c0,if_neg c0]
 by_cases c1:(out.any fun d=>decide (7<(layN us d).length))=true
 ·rw [if_pos c1,if_pos c1,if_neg (by decide)]
 rw [if_neg c1,if_neg c1]
 by_cases c2:(out.any fun d=>dup ((layN us d).map (·.1)))=true
 ·rw [if_pos c2,if_pos c2,if_neg (by decide)]
 rw [if_neg c2,if_neg c2,if_pos rfl]
def selL (us:List Unt) (l:List (Nat×Nat)):List ByteArray:=(l.filter (sentB us)).foldl (fun z d=>putS z (mnm us d)) []
theorem selL_snoc {l:List (Nat×Nat)} {k:Nat} {x:Nat×Nat} (h:l[k]? = some x):selL us (l.take (k+1))=if sentB us x=true then putS (selL us (l.take k)) (mnm us x) else selL us (l.take k):=by
 unfold selL
 rw [filter_snoc h,List.foldl_append]
 cases sentB us x <;> rfl
theorem selL_len:∀ l:List (Nat×Nat),(selL us l).length<=l.length:=by
 have key:∀ (l:List (Nat×Nat)) (z:List ByteArray),(l.foldl (fun z d=>putS z (mnm us d)) z).length<=z.length+l.length:=by
  intro l
  induction l with
  | nil=>intro z;simp
  | cons d l ih =>
   intro z
   rw [List.foldl_cons,List.length_cons]
   have:=ih (putS z (mnm us d))
   have:=putS_len z (mnm us d)
   omega
 intro l
 have h1:=key (l.filter (sentB us)) []
 have h2:=List.length_filter_le (sentB us) l
 unfold selL
 rw [List.length_nil] at h1
 omega
theorem selL_oz:selL us (mthW us)=(ordsL us).oz:=by
 have e:selL us (mthW us)=(((mthW us).filter (sentB us)).map (mnm us)).foldl putS []:=by unfold selL;rw [List.foldl_map]
 obtain ⟨h1,h2⟩:=putS_all (((mthW us).filter (sentB us)).map (mnm us)) [] List.Pairwise.nil
 rw [e]
 refine ascB_eq h1 (oz_asc us) fun p => ?_
 rw [h2,mem_oz,<-selF_has]
 unfold selF selB
 simp only [List.not_mem_nil,false_or,List.mem_map,List.mem_filter,List.any_eq_true,Bool.and_eq_true,decide_eq_true_eq]
 exact ⟨fun ⟨d,⟨h1,h2⟩,h3⟩=>⟨d,h1,h2,h3⟩,fun ⟨d,h1,h2,h3⟩=>⟨d,⟨h1,h2⟩,h3⟩⟩
end Go.Proofs.YtkmdfjpafkcleaaGreatDoor
namespace Go.Proofs.YtkmdfjpafkcleaaGreatDoor
open Eng Go.RowKit
def una:Unt:=⟨⟨#[97]⟩,[⟨#[112]⟩,⟨#[120]⟩],[⟨0,-1,[⟨1,⟨1,-1⟩⟩]⟩],[],[]⟩
def unb:Unt:=⟨⟨#[98]⟩,[⟨#[113]⟩,⟨#[97,46,112]⟩],[⟨0,1,[]⟩],[],[]⟩
theorem un_keys:keysM (decl [unb,una]).classes=[⟨#[98,46,113]⟩,⟨#[97,46,112]⟩]:=by kernel_rfl
theorem un_sort:sortL [(⟨#[98,46,113]⟩:ByteArray),⟨#[97,46,112]⟩]=[⟨#[97,46,112]⟩,⟨#[98,46,113]⟩]:=by
 have e:([[98,46,113],[97,46,112]]:List (List UInt8)).mergeSort (fun x y=>decide (x<=y))=[[97,46,112],[98,46,113]]:=by
  simp [List.mergeSort,List.MergeSort.Internal.splitInTwo,List.merge]
  decide
 show (([[98,46,113],[97,46,112]]:List (List UInt8)).mergeSort (fun x y=>decide (x<=y))).map ofL=_
 rw [e]
 kernel_rfl
theorem un_oc:ordC [unb,una]=some [⟨#[97,46,112]⟩,⟨#[98,46,113]⟩]:=by
 show placeL _ (keysM (decl [unb,una]).classes).length (sortL (keysM (decl [unb,una]).classes)) []=_
 rw [un_keys,un_sort]
 kernel_rfl
theorem un_run:runE [unb,una]=0:=by
 unfold runE
 rw [un_oc]
 kernel_rfl
theorem un_cls:(modL [unb,una]).classes=[⟨⟨#[97,46,112]⟩,-1,[⟨1,0⟩],[]⟩,⟨⟨#[98,46,113]⟩,0,[⟨1,0⟩],[]⟩]:=by
 unfold modL
 rw [if_pos un_run]
 unfold modO ordsL
 rw [un_oc]
 kernel_rfl
theorem sl_new {α:Type} {E:El α} {S:Nat->Prop} {w:World} {b:Nat} {t:TypeId} {cs:List Value} {css:List (List Value)} {l:List α} (hb:Box w b t cs) (hc:cs=css.flatten) (hS:S b) (hl:css.length=l.length) (hn:l.length<=4194304)
  (h:∀ (i:Nat) (c:List Value) (x:α),css[i]? = some c->l[i]? = some x->E.rel S w c x):Sl E S w (some ⟨b,0,none⟩) l:=by
 subst hc
 have hsz:∀ c∈css,c.length=E.sz:=fun c hc=>by
  obtain ⟨i,hi⟩:=List.mem_iff_getElem?.1 hc
  obtain ⟨x,hx⟩:=some_of_lt (l:=l) (k:=i) (by have:=(List.getElem?_eq_some_iff.1 hi).1;omega)
  exact E.len (h i c x hi hx)
 refine ⟨hn,fun i x hx => ?_⟩
 obtain ⟨c,hc⟩:=some_of_lt (l:=css) (k:=i) (by have:=(List.getElem?_eq_some_iff.1 hx).1;omega)
 refine ⟨b,0,c,rfl,hS,fun j v hj => ?_,h i c x hc hx⟩
 have hj':j<E.sz:=by rw [<-hsz c (List.mem_of_getElem? hc)];exact (List.getElem?_eq_some_iff.1 hj).1
 have:=hb.at (i*E.sz+j) v (by rw [flatten_get hsz hc j hj'];exact hj)
 rw [Nat.zero_add] at this ⊢
 exact this
theorem l_sane (w:World) (hG:Gl w):Ret Tryz.prog 13 #[] w fun v w'=>v = .bool true/\Bl w w':=by
 refine entr (vs:=[]) [0,1,2,3,4] tabok Tryz.func13 (by kernel_rfl) ?_
 refine bs (cs:=[.string ⟨#[112]⟩,.string ⟨#[120]⟩]) fun b1 w1 k1 => ?_
 refine bd ?_
 refine bd ?_
 refine bs (cs:=encFld ⟨1,⟨1,-1⟩⟩) fun b2 w2 k2 => ?_
 refine bd ?_
 refine bs (cs:=ccells ⟨0,-1,[⟨1,⟨1,-1⟩⟩]⟩ (some ⟨b2,0,none⟩) 1) fun b3 w3 k3 => ?_
 refine bd ?_
 refine al fun b4 w4 k4 => ?_
 refine sta (cs':=ucells una ⟨some ⟨b1,0,none⟩,2,some ⟨b3,0,none⟩,1,none,0,none,0⟩) k4.box fun w5 k5 x5 => ?_
 have B5:=((k1.bl.trans k2.bl).trans k3.bl).trans (k4.wr k5)
 have B15:=(k2.bl.trans k3.bl).trans (k4.wr k5)
 have B25:=k3.bl.trans (k4.wr k5)
 refine bs (cs:=[.string ⟨#[113]⟩,.string ⟨#[97,46,112]⟩]) fun b6 w6 k6 => ?_
 refine bd ?_
 refine bs (cs:=ccells ⟨0,1,[]⟩ none 0) fun b7 w7 k7 => ?_
 refine bd ?_
 refine al fun b8 w8 k8 => ?_
 refine sta (cs':=ucells unb ⟨some ⟨b6,0,none⟩,2,some ⟨b7,0,none⟩,1,none,0,none,0⟩) k8.box fun w9 k9 x9 => ?_
 have B59:=(k6.bl.trans k7.bl).trans (k8.wr k9)
 refine lda x9.at ?_
 refine lda (Bl.box B59 x5).at ?_
 refine bs (cs:=ucells unb ⟨some ⟨b6,0,none⟩,2,some ⟨b7,0,none⟩,1,none,0,none,0⟩++ucells una ⟨some ⟨b1,0,none⟩,2,some ⟨b3,0,none⟩,1,none,0,none,0⟩) fun b10 w10 k10 => ?_
 have B10:=(B5.trans B59).trans k10.bl
 have l10:=k10.box.lt
 have e1:=(Bl.box ((B15.trans B59).trans k10.bl) k1.box)
 have e2:=(Bl.box ((B25.trans B59).trans k10.bl) k2.box)
 have e3:=(Bl.box (((k4.wr k5).trans B59).trans k10.bl) k3.box)
 have e6:=(Bl.box ((k7.bl.trans (k8.wr k9)).trans k10.bl) k6.box)
 have e7:=(Bl.box ((k8.wr k9).trans k10.bl) k7.box)
 have hS:Sl eUnt (· < w10.heap.size) w10 (some ⟨b10,0,none⟩) [unb,una]:=by
  refine sl_new (css:=[ucells unb ⟨some ⟨b6,0,none⟩,2,some ⟨b7,0,none⟩,1,none,0,none,0⟩,ucells una ⟨some ⟨b1,0,none⟩,2,some ⟨b3,0,none⟩,1,none,0,none,0⟩]) k10.box rfl l10 rfl (by decide) fun i c x hc hx => ?_
  match i,hc,hx with
  | 0,hc,hx =>
   obtain rfl:=Option.some.inj hc
   obtain rfl:=Option.some.inj hx
   refine ⟨_,rfl,by decide,by decide,?_,?_,Sl.nil ..,Sl.nil ..⟩
   ·exact sl_new (css:=[[.string ⟨#[113]⟩],[.string ⟨#[97,46,112]⟩]]) e6 rfl e6.lt rfl (by decide) fun i c x hc hx=>by
     match i,hc,hx with
     | 0,hc,hx=>obtain rfl:=Option.some.inj hc;obtain rfl:=Option.some.inj hx;rfl
     | 1,hc,hx=>obtain rfl:=Option.some.inj hc;obtain rfl:=Option.some.inj hx;rfl
   ·exact sl_new (css:=[ccells ⟨0,1,[]⟩ none 0]) e7 rfl e7.lt rfl (by decide) fun i c x hc hx=>by
     match i,hc,hx with
     | 0,hc,hx=>obtain rfl:=Option.some.inj hc;obtain rfl:=Option.some.inj hx;exact ⟨_,_,rfl,Sl.nil ..⟩
  | 1,hc,hx =>
   obtain rfl:=Option.some.inj hc
   obtain rfl:=Option.some.inj hx
   refine ⟨_,rfl,by decide,by decide,?_,?_,Sl.nil ..,Sl.nil ..⟩
   ·exact sl_new (css:=[[.string ⟨#[112]⟩],[.string ⟨#[120]⟩]]) e1 rfl e1.lt rfl (by decide) fun i c x hc hx=>by
     match i,hc,hx with
     | 0,hc,hx=>obtain rfl:=Option.some.inj hc;obtain rfl:=Option.some.inj hx;rfl
     | 1,hc,hx=>obtain rfl:=Option.some.inj hc;obtain rfl:=Option.some.inj hx;rfl
   ·exact sl_new (css:=[ccells ⟨0,-1,[⟨1,⟨1,-1⟩⟩]⟩ (some ⟨b2,0,none⟩) 1]) e3 rfl e3.lt rfl (by decide) fun i c x hc hx=>by
     match i,hc,hx with
     | 0,hc,hx =>
      obtain rfl:=Option.some.inj hc
      obtain rfl:=Option.some.inj hx
      refine ⟨_,_,rfl,?_⟩
      exact sl_new (css:=[encFld ⟨1,⟨1,-1⟩⟩]) e2 rfl e2.lt rfl (by decide) fun i c x hc hx=>by
       match i,hc,hx with
       | 0,hc,hx=>obtain rfl:=Option.some.inj hc;obtain rfl:=Option.some.inj hx;rfl
 refine cl (k_Link (us:=[unb,una]) (cu:=2) hS (hG.bl B10)) ?_ (hm:=fun _ _ r=>by obtain ⟨_,_,_,hB⟩:=r;exact mdW_bl hB)
 rintro _ w11 ⟨a,rfl,M,B11⟩
 rw [un_run]
 have hcs:=M.cls
 have hcl:=un_cls
 obtain ⟨md,hmd⟩:∃ md,modL [unb,una]=md:=⟨_,rfl⟩
 rw [hmd] at hcs hcl ⊢
 rw [hcl] at hcs
 have ecells:modcells md a=[.slice a.a1 2 a.c1,.slice a.a2 md.statics.length a.c2,.slice a.a3 md.methods.length a.c3,I md.sels]:=by unfold modcells;rw [hcl];rfl
 rw [ecells]
 refine al fun b12 w12 k12 => ?_
 refine sta (cs':=[.slice a.a1 2 a.c1,.slice a.a2 md.statics.length a.c2,.slice a.a3 md.methods.length a.c3,I md.sels]) k12.box fun w13 k13 x13 => ?_
 obtain ⟨g0,o0,cs0,ea,_,hA0,a1,c1,a2,c2,rfl,f0,_,_⟩:=hcs.el 0 _ rfl
 obtain ⟨g1,o1,cs1,ea',_,hA1,a3,c3,a4,c4,rfl,f1,_,_⟩:=hcs.el 1 _ rfl
 have B13:=k12.wr k13
 rw [ea] at ea'
 obtain ⟨rfl,rfl⟩:g0=g1/\o0=o1:=by simpa using ea'
 rw [ea] at x13
 have q0:=hA0.bl B13
 have q1:=hA1.bl B13
 refine ldg (fun _=>x13.cell rfl) ?_
 refine ldg (fun _=>x13.cell rfl) ?_
 refine spt (.pointer none) ?_
 refine ix (j:=0) ?_ (hb:=by decide)
 refine ldg (fun _=>q0 0 _ rfl) ?_
 refine ldg (fun _=>x13.cell rfl) ?_
 refine spt (.pointer none) ?_
 refine ix (j:=1) ?_ (hb:=by decide)
 refine ldg (fun _=>q1 0 _ rfl) ?_
 refine ldg (fun _=>x13.cell rfl) ?_
 refine spt (.pointer none) ?_
 refine ix (j:=1) ?_ (hb:=by decide)
 refine ldg (fun _=>q1 1 _ rfl) ?_
 refine ldg (fun _=>x13.cell rfl) ?_
 refine spt (.pointer none) ?_
 refine ix (j:=1) ?_ (hb:=by decide)
 refine ldg (fun _=>q1 2 _ rfl) ?_
 exact rt1 ⟨rfl,(B10.trans B11).trans B13⟩
end Go.Proofs.YtkmdfjpafkcleaaGreatDoor
namespace Go.Proofs.YtkmdfjpafkcleaaGreatDoor
open Eng Go.RowKit
theorem l_great (us:List Unt) (au:Option Addr) (cu:Nat) (w:World) (hS:Sl eUnt T w au us):Ret Tryz.prog 12 #[.slice au us.length cu] w fun v w'=>∃ b,v = .bool b/\Bl w w':=by
 refine entr (vs:=[.slice au us.length cu]) [0,2,3,4,5,6,7,8,16,54,74,94] tabok Tryz.func12 (by kernel_rfl) ?_
 have hbig:=hS.big
 refine lpk us.length 4 [3] [(0,.slice au us.length cu)] (fun k vals w'=>(∃ n,vals=[I n])/\Bl w w') ⟨⟨_,rfl⟩,Bl.refl _⟩ ?_
 rintro k vals w1 hk ⟨⟨n,rfl⟩,B1⟩ ih
 refine br (fun h => ?_) (fun h => ?_)
 rotate_left
 ·exact rt1 ⟨_,rfl,B1⟩
 have hlt:k<us.length:=by
  rcases Nat.lt_or_ge k us.length with q | q
  ·exact q
  ·rw [decide_eq_false (show ¬((k:Int)<us.length) by omega)] at h
   simp at h
 clear h
 obtain ⟨u,b,o,cs,hu,rfl,_,hAt,ua,rfl,hU⟩:=at_some (hS.bl B1) hlt
 refine ix ?_
 refine lda hAt ?_
 refine al fun b5 w2 h2 => ?_
 refine sta (cs':=ucells u ua) h2.box fun w3 k3 x3 => ?_
 have B13:=h2.wr k3
 have B3:=B1.trans B13
 have hU3:=hU.bl B13
 have q1:=hU.pool.big
 have q2:=hU.cls.big
 have q3:=hU.mth.big
 refine ld (x3.cell rfl) ?_
 refine iop (quo_run (b:=16) (by decide)) ?_
 refine ld (x3.cell rfl) ?_
 refine ld (x3.cell rfl) ?_
 refine ld (x3.cell rfl) ?_
 refine ld (x3.cell rfl) ?_
 refine lpk u.pool.length 6 [3] [(0,.slice (some ⟨b,o,none⟩) us.length cu),(4,I k),(5,.pointer (some ⟨b5,0,none⟩))] (fun j vals w'=>(∃ n,vals=[I n])/\w3=w') ⟨⟨_,rfl⟩,rfl⟩ ?_
 rintro j vals _ hj ⟨⟨n1,rfl⟩,rfl⟩ ih1
 refine ld (x3.cell rfl) ?_
 refine br (fun h => ?_) (fun h => ?_)
 ·have hlj:j<u.pool.length:=by
   rcases Nat.lt_or_ge j u.pool.length with q | q
   ·exact q
   ·rw [decide_eq_false (show ¬((j:Int)<u.pool.length) by omega)] at h
    simp at h
  obtain ⟨s,b2,o2,cs2,hs,e2,_,hA2,rfl⟩:=at_some hU3.pool hlj
  refine ld (x3.cell rfl) ?_
  rw [e2]
  refine ix ?_
  refine ld (hA2 0 _ rfl) ?_
  refine iop (quo_run (b:=32) (by decide)) ?_
  exact ih1 hlj ⟨⟨_,rfl⟩,rfl⟩
 clear ih1 h
 refine lpk u.classes.length 7 [3] [(0,.slice (some ⟨b,o,none⟩) us.length cu),(4,I k),(5,.pointer (some ⟨b5,0,none⟩))] (fun j vals w'=>(∃ n,vals=[I n])/\w3=w') ⟨⟨_,rfl⟩,rfl⟩ ?_
 rintro j vals _ hj ⟨⟨n1,rfl⟩,rfl⟩ ih1
 refine ld (x3.cell rfl) ?_
 refine br (fun h => ?_) (fun h => ?_)
 ·have hlj:j<u.classes.length:=by
   rcases Nat.lt_or_ge j u.classes.length with q | q
   ·exact q
   ·rw [decide_eq_false (show ¬((j:Int)<u.classes.length) by omega)] at h
    simp at h
  obtain ⟨c,b2,o2,cs2,hs,e2,_,hA2,af,cf,rfl,hF⟩:=at_some hU3.cls hlj
  refine ld (x3.cell rfl) ?_
  rw [e2]
  refine ix ?_
  refine ld (hA2 2 _ rfl) ?_
  exact ih1 hlj ⟨⟨_,rfl⟩,rfl⟩
 clear ih1 h
 refine lpk u.methods.length 8 [3] [(0,.slice (some ⟨b,o,none⟩) us.length cu),(4,I k),(5,.pointer (some ⟨b5,0,none⟩))] (fun j vals w'=>(∃ n,vals=[I n])/\Bl w3 w') ⟨⟨_,rfl⟩,Bl.refl _⟩ ?_
 rintro j vals w4 hj ⟨⟨n1,rfl⟩,B34⟩ ih1
 have x4:=Bl.box B34 x3
 refine ld (x4.cell rfl) ?_
 refine br (fun h => ?_) (fun h => ?_)
 ·have hlj:j<u.methods.length:=by
   rcases Nat.lt_or_ge j u.methods.length with q | q
   ·exact q
   ·rw [decide_eq_false (show ¬((j:Int)<u.methods.length) by omega)] at h
    simp at h
  obtain ⟨m,b2,o2,cs2,hs,e2,_,hA2,a1,c1,a2,c2,a3,c3,rfl,h1,h2,h3⟩:=at_some (hU3.bl B34).mth hlj
  refine dh T (List.range 26) fun w8 h8 => ?_
  have hx9:=h8.box x4
  have hAt8:=hA2.bl h8.bl
  refine ld (hx9.cell rfl) ?_ (hm:=trivial)
  rw [e2]
  refine ix ?_
  refine ld (hAt8 2 _ rfl) ?_ (hm:=trivial)
  refine ld (hx9.cell rfl) ?_ (hm:=trivial)
  rw [e2]
  refine ix ?_
  refine ld (hAt8 3 _ rfl) ?_ (hm:=trivial)
  refine ld (hx9.cell rfl) ?_ (hm:=trivial)
  rw [e2]
  refine ix ?_
  refine ld (hAt8 6 _ rfl) ?_ (hm:=trivial)
  exact ih1 hlj ⟨⟨_,rfl⟩,B34.trans h8.bl⟩
 exact ih hlt ⟨⟨_,rfl⟩,B3.trans B34⟩
end Go.Proofs.YtkmdfjpafkcleaaGreatDoor
namespace Go.Proofs.YtkmdfjpafkcleaaGreatDoor
open Eng Go.RowKit
theorem Sl.ltU {S:Nat->Prop} {w:World} {a:Option Addr} {l:List Unt} (h:Sl eUnt S w a l):Sl eUnt (· < w.heap.size) w a l :=
 ⟨h.big,fun i x hx=>by
  obtain ⟨b,o,cs,e,_,hat,ua,rfl,hU⟩:=h.el i x hx
  exact ⟨b,o,_,e,cell_lt (hat 0 _ rfl),hat,ua,rfl,hU.lt⟩⟩
end Go.Proofs.YtkmdfjpafkcleaaGreatDoor
namespace Go.Proofs.YtkmdfjpafkcleaaGreatDoor
open Eng Go.RowKit
variable {us:List Unt}
def plcs {α:Type} (g:Unt->List α) (us:List Unt):List (Nat×Nat):=idxF us fun u n=>idxF (g u) fun _ k=>[(n,k)]
def plcp {α:Type} (g:Unt->List α) (us:List Unt) (n:Nat) (u:Unt) (k:Nat):List (Nat×Nat):=plcs g (us.take n)++idxF ((g u).take k) fun _ j=>[(n,j)]
theorem plcp_zero {α:Type} (g:Unt->List α) (us:List Unt) (n:Nat) (u:Unt):plcp g us n u 0=plcs g (us.take n):=by unfold plcp;rw [List.take_zero,idxF_nil,List.append_nil]
theorem plcp_succ {α:Type} {g:Unt->List α} {us:List Unt} {n:Nat} {u:Unt} {k:Nat} {x:α} (h:(g u)[k]? = some x):plcp g us n u (k+1)=plcp g us n u k++[(n,k)]:=by unfold plcp;rw [idxF_snoc h,List.append_assoc]
theorem plcp_end {α:Type} {g:Unt->List α} {us:List Unt} {n:Nat} {u:Unt} (h:us[n]? = some u):plcp g us n u (g u).length=plcs g (us.take (n+1)):=by unfold plcp plcs;rw [List.take_length,idxF_snoc h]
theorem idxF_one {α:Type} (n:Nat):∀ (l:List α),(idxF l fun _ j=>[(n,j)]).length=l.length:=fun l=>by
 have e:∀ m:List (α×Nat),(m.flatMap fun q=>[(n,q.2)]).length=m.length:=fun m=>by
  induction m with
  | nil=>rfl
  | cons x m ih=>rw [List.flatMap_cons,List.length_append,ih,List.length_cons];simp;omega
 unfold idxF
 rw [e,List.length_zipIdx]
theorem plcs_len {α:Type} {g:Unt->List α} {us:List Unt} {m:Nat} (h:∀ u∈us,(g u).length<=m):(plcs g us).length<=us.length*m:=by
 unfold plcs idxF
 have:=flatMap_le (f:=fun q:Unt×Nat=>(g q.1).zipIdx.flatMap fun p=>[(q.2,p.2)]) (B:=m) (l:=us.zipIdx) fun q hq=>by
  have hm:q.1∈us:=by
   obtain ⟨x,k⟩:=q
   exact List.mem_of_getElem? (List.mem_zipIdx_iff_getElem?.1 hq)
  have:=idxF_one q.2 (g q.1)
  unfold idxF at this
  rw [this];exact h _ hm
 rw [List.length_zipIdx] at this
 exact this
theorem plcp_len {α:Type} {g:Unt->List α} {us:List Unt} {m:Nat} (h:∀ u∈us,(g u).length<=m) {n:Nat} {u:Unt} (hu:us[n]? = some u) (k:Nat):(plcp g us n u k).length<=us.length*m+m:=by
 unfold plcp
 rw [List.length_append,idxF_one]
 have h1:=plcs_len (us:=us.take n) fun v hv=>h v (List.mem_of_mem_take hv)
 have h2:(us.take n).length<=us.length:=List.length_take_le' ..
 have h3:=h u (List.mem_of_getElem? hu)
 have h4:((g u).take k).length<=(g u).length:=List.length_take_le' ..
 have h5:=Nat.mul_le_mul_right m h2
 omega
structure Bd3 (B:Nat) (ac:Option Addr) (cc:Nat) (c:List (Nat×Nat)) (as':Option Addr) (cs:Nat) (t:List (Nat×Nat)) (am:Option Addr) (cm:Nat) (m:List (Nat×Nat)) (w:World):Prop where
 c:OwP 2 encWh w B tWh ac cc c
 t:OwP 2 encWh w B tWh as' cs t
 m:OwP 2 encWh w B tWh am cm m
 ct:∀ g,ac=some ⟨g,0,none⟩->as'≠some ⟨g,0,none⟩
 cm:∀ g,ac=some ⟨g,0,none⟩->am≠some ⟨g,0,none⟩
 tm:∀ g,as'=some ⟨g,0,none⟩->am≠some ⟨g,0,none⟩
section
variable {B:Nat} {ac:Option Addr} {cc:Nat} {c:List (Nat×Nat)} {as':Option Addr} {cs:Nat} {t:List (Nat×Nat)} {am:Option Addr} {cm:Nat} {m:List (Nat×Nat)} {w w':World}
theorem Bd3.bl (h:Bd3 B ac cc c as' cs t am cm m w) (k:Bl w w'):Bd3 B ac cc c as' cs t am cm m w':=⟨h.c.bl k,h.t.bl k,h.m.bl k,h.ct,h.cm,h.tm⟩
theorem Bd3.wr (h:Bd3 B ac cc c as' cs t am cm m w) {b:Nat} (k:Wr w b w') (hb:b<B):Bd3 B ac cc c as' cs t am cm m w' :=
 ⟨h.c.wr k fun g hg=>by have:=(h.c.lt hg).1;omega,h.t.wr k fun g hg=>by have:=(h.t.lt hg).1;omega,h.m.wr k fun g hg=>by have:=(h.m.lt hg).1;omega,h.ct,h.cm,h.tm⟩
theorem Bd3.appC (h:Bd3 B ac cc c as' cs t am cm m w) {a':Option Addr} {c':Nat} {l:List (Nat×Nat)} (hA:Ap w ac w') (hO:OwP 2 encWh w' B tWh a' c' l) (hf:∀ g,a'=some ⟨g,0,none⟩->ac=some ⟨g,0,none⟩∨w.heap.size<=g):Bd3 B a' c' l as' cs t am cm m w':=by
 refine ⟨hO,Eng.Ow.oth h.t hA fun g hg e=>h.ct g e hg,Eng.Ow.oth h.m hA fun g hg e=>h.cm g e hg,fun g hg e => ?_,fun g hg e => ?_,h.tm⟩
 ·rcases hf g hg with q | q
  ·exact h.ct g q e
  ·have:=(h.t.lt e).2;omega
 ·rcases hf g hg with q | q
  ·exact h.cm g q e
  ·have:=(h.m.lt e).2;omega
theorem Bd3.appT (h:Bd3 B ac cc c as' cs t am cm m w) {a':Option Addr} {c':Nat} {l:List (Nat×Nat)} (hA:Ap w as' w') (hO:OwP 2 encWh w' B tWh a' c' l) (hf:∀ g,a'=some ⟨g,0,none⟩->as'=some ⟨g,0,none⟩∨w.heap.size<=g):Bd3 B ac cc c a' c' l am cm m w':=by
 refine ⟨Eng.Ow.oth h.c hA fun g hg e=>h.ct g hg e,hO,Eng.Ow.oth h.m hA fun g hg e=>h.tm g e hg,fun g hg e => ?_,h.cm,fun g hg e => ?_⟩
 ·rcases hf g e with q | q
  ·exact h.ct g hg q
  ·have:=(h.c.lt hg).2;omega
 ·rcases hf g hg with q | q
  ·exact h.tm g q e
  ·have:=(h.m.lt e).2;omega
theorem Bd3.appM (h:Bd3 B ac cc c as' cs t am cm m w) {a':Option Addr} {c':Nat} {l:List (Nat×Nat)} (hA:Ap w am w') (hO:OwP 2 encWh w' B tWh a' c' l) (hf:∀ g,a'=some ⟨g,0,none⟩->am=some ⟨g,0,none⟩∨w.heap.size<=g):Bd3 B ac cc c as' cs t a' c' l w':=by
 refine ⟨Eng.Ow.oth h.c hA fun g hg e=>h.cm g hg e,Eng.Ow.oth h.t hA fun g hg e=>h.tm g hg e,hO,h.ct,fun g hg e => ?_,fun g hg e => ?_⟩
 ·rcases hf g e with q | q
  ·exact h.cm g hg q
  ·have:=(h.c.lt hg).2;omega
 ·rcases hf g e with q | q
  ·exact h.tm g hg q
  ·have:=(h.t.lt hg).2;omega
end
structure RdP (us:List Unt) (s:PgS):Prop where
 k:runE us=0
 cls:s.cls=clsW us
 sta:s.sta=staW us
 mth:s.mth=mthW us
 o:OrdP us s.ord
 oc:s.ord.map (pthC us)=(ordsL us).oc
 ls:∀ x∈s.las,x∈mthW us
 la:∀ x∈mthW us,x∈s.las
 ln:s.las.Nodup
 om:s.las.map (pthM us)=(ordsL us).om
 sel:s.sel=(ordsL us).oz
def RdQ (us:List Unt) (w:World) (v:Value) (w':World):Prop:=Bl w w'/\((∃ b s,v = .tuple #[.pointer (some ⟨b,0,none⟩),I 0]/\Pg us b s w'/\RdP us s)∨(runE us≠0/\v = .tuple #[.pointer none,I (runE us)]))
set_option maxHeartbeats 16000000 in
theorem r_read {w:World} {au:Option Addr} {cu:Nat} (hS:Sl eUnt T w au us):Ret Tryz.prog 55 #[.slice au us.length cu] w (RdQ us w):=by
 have hbig:=hS.big
 refine entr (vs:=[.slice au us.length cu]) [0,2,3,4,5,6,7,8,9,10,11,12,13,14,17,24,33,38,43,56,64,86,108,126,132,135,139,143,146,153,164] tabok Tryz.func55 (by kernel_rfl) ?_
 by_cases h5:5<us.length
 ·refine brT ?_
  exact rt2 ⟨Bl.refl _,.inr ⟨by rw [run_len h5];decide,by rw [run_len h5]⟩⟩
 refine brF ?_
 refine bd (cs:=[.slice au us.length cu,.slice none 0 0,.slice none 0 0,.slice none 0 0,.slice none 0 0,.slice none 0 0,.slice none 0 0]) ?_
 refine bx (cs:=[.slice au us.length cu,.slice none 0 0,.slice none 0 0,.slice none 0 0,.slice none 0 0,.slice none 0 0,.slice none 0 0]) fun b w1 k1 => ?_
 have z1:=k1.size
 have y1:=k1.blk
 have lb:b<w1.heap.size:=by omega
 have toBl:∀ {w'},OnB w1 b w'->Bl w w':=fun h=>h.toBl k1.bl (by omega)
 refine lpk (vals:=[]) us.length 5 [] [(0,.slice au us.length cu),(4,.pointer (some ⟨b,0,none⟩))] (fun k vals w'=>vals=[]/\(∀ u∈us.take k,checkE u=0)/\Bl w1 w') ⟨rfl,by simp,Bl.refl _⟩ ?_
 rintro k vals w2 hk ⟨rfl,hck,B2⟩ ih
 by_cases hlt:k<us.length
 ·refine brT ?_
  obtain ⟨u,bu,ou,cs,hu,rfl,_,hAt,ua,rfl,hU⟩:=at_some (hS.bl (k1.bl.trans B2)) hlt
  refine ix ?_
  refine lda hAt ?_
  refine cl (r_Check u ua w2 hU) ?_
  rintro _ w3 ⟨rfl,B3⟩
  by_cases he:checkE u=0
  ·refine brF ?_ (hp:=by simp [he])
   refine ih hlt ⟨rfl,fun v hv => ?_,B2.trans B3⟩
   rw [take_succ_some hu,List.mem_append,List.mem_singleton] at hv
   rcases hv with hv | rfl
   ·exact hck v hv
   ·exact he
  ·refine brT ?_ (hp:=by simp [he])
   have e1:=chk_take hck hu he
   have e2:runE us=checkE u:=by rw [run_chk (by omega) (by rw [e1];exact he),e1]
   exact rt2 ⟨(k1.bl.trans B2).trans B3,.inr ⟨by rw [e2];exact he,by rw [e2]⟩⟩
 refine brF ?_
 obtain rfl:k=us.length:=by omega
 rw [List.take_length] at hck
 have hC:∀ u∈us,CkU u:=fun u hu=>(ckU_iff u).1 (hck u hu)
 have l10:∀ u∈us,u.classes.length<=10:=fun u hu=>by have:=(lim_of (hC u hu).lim).cls;omega
 have s10:∀ u∈us,u.statics.length<=10:=fun u hu=>by have:=(lim_of (hC u hu).lim).sta;omega
 have m16:∀ u∈us,u.methods.length<=16:=fun u hu=>by have:=(lim_of (hC u hu).lim).mth;omega
 refine lpk (vals:=[]) us.length 7 [] [(0,.slice au us.length cu),(4,.pointer (some ⟨b,0,none⟩))] (fun n vals w'=>vals=[]/\(∀ (i j:Nat) (x y:Unt),i<n->j<i->us[i]? = some x->us[j]? = some y->x.name≠y.name)/\OnB w1 b w' /\
  ∃ ac cc as' cs am cm,Box w' b tPr [.slice au us.length cu,.slice ac (plcs (·.classes) (us.take n)).length cc,.slice as' (plcs (·.statics) (us.take n)).length cs,.slice am (plcs (·.methods) (us.take n)).length cm,.slice none 0 0,.slice none 0 0,.slice none 0 0] /\
   Bd3 w1.heap.size ac cc (plcs (·.classes) (us.take n)) as' cs (plcs (·.statics) (us.take n)) am cm (plcs (·.methods) (us.take n)) w')
  ⟨rfl,fun i j x y h=>by omega,(OnB.refl lb).bl B2,none,0,none,0,none,0,Bl.box B2 k1.box,⟨Ow.nil ..,Ow.nil ..,Ow.nil ..,fun g h=>(by cases h),fun g h=>(by cases h),fun g h=>(by cases h)⟩⟩ ?_
 rintro n vals w3 hn ⟨rfl,hne,B3,ac,cc,as',cs,am,cm,x3,D3⟩ ih
 by_cases hltn:n<us.length
 ·refine brT ?_
  obtain ⟨u,bu,ou,cs0,hu,rfl,_,hAt0,ua,rfl,hU0⟩:=at_some hS hltn
  have hum:=List.mem_of_getElem? hu
  have hAt:∀ {w'},OnB w1 b w'->At w' bu (ou+n*eUnt.sz) (ucells u ua):=fun h=>hAt0.bl (toBl h)
  have q10:=l10 u hum
  have qs10:=s10 u hum
  have q16:=m16 u hum
  refine lpk (vals:=[]) n 8 [] [(0,.slice (some ⟨bu,ou,none⟩) us.length cu),(4,.pointer (some ⟨b,0,none⟩)),(7,I n)] (fun i vals w'=>vals=[]/\(∀ (j:Nat) (y:Unt),j<i->us[j]? = some y->u.name≠y.name)/\Bl w3 w') ⟨rfl,fun j y h=>by omega,Bl.refl _⟩ ?_
  rintro i vals w4 hi ⟨rfl,hne2,B4⟩ ih2
  by_cases hlti:i<n
  ·refine brT ?_
   obtain ⟨v,bv,ov,cs1,hv,e',_,hAv0,va,rfl,hV0⟩:=at_some hS (i:=i) (by omega)
   simp only [Option.some.injEq,Addr.mk.injEq,and_true] at e'
   obtain ⟨rfl,rfl⟩:=e'
   refine dh T (List.range 11) fun w5 k5 => ?_
   have B5:=(B3.bl B4).bl k5.bl
   refine ix ?_ (hb:=by omega)
   refine ld (hAv0.bl (toBl B5) 0 _ rfl) ?_ (hm:=trivial)
   refine ix ?_
   refine ld (hAt B5 0 _ rfl) ?_ (hm:=trivial)
   by_cases hp:v.name=u.name
   ·refine brt ?_ (hp:=by simp [hp])
    have hdup:dup (us.map fun u:Unt=>u.name)=true:=dup_iff.2 ⟨n,i,hlti,u.name,by rw [List.getElem?_map,hu];rfl,by rw [List.getElem?_map,hv,<-hp];rfl⟩
    have e2:=run_dup (by omega) hck hdup
    exact rt2 ⟨toBl B5,.inr ⟨by rw [e2];decide,by rw [e2]⟩⟩
   ·refine brf ?_ (hp:=by simp [hp])
    refine ih2 hlti ⟨rfl,fun j z hj hz => ?_,B4.trans k5.bl⟩
    rcases Nat.lt_or_ge j i with q | q
    ·exact hne2 j z q hz
    ·obtain rfl:j=i:=by omega
     rw [hv] at hz;obtain rfl:=Option.some.inj hz;exact fun e=>hp e.symm
  refine brF ?_
  obtain rfl:i=n:=by omega
  have hne3:∀ (i' j:Nat) (x y:Unt),i'<i+1->j<i'->us[i']? = some x->us[j]? = some y->x.name≠y.name:=fun i' j x y h1 h2 h3 h4=>by
   rcases Nat.lt_or_ge i' i with q | q
   ·exact hne i' j x y q h2 h3 h4
   ·obtain rfl:i'=i:=by omega
    rw [hu] at h3;obtain rfl:=Option.some.inj h3
    exact hne2 j y h2 h4
  have U4:=B3.bl B4
  have X4:=Bl.box B4 x3
  have D4:=D3.bl B4
  have z4:plcp (·.classes) us i u 0=plcs (·.classes) (us.take i):=plcp_zero ..
  rw [<-z4] at X4 D4
  refine lpk (vals:=[]) u.classes.length 9 [] [(0,.slice (some ⟨bu,ou,none⟩) us.length cu),(4,.pointer (some ⟨b,0,none⟩)),(7,I i)] (fun j vals w'=>vals=[]/\OnB w1 b w'/\∃ ac cc as' cs am cm,Box w' b tPr [.slice (some ⟨bu,ou,none⟩) us.length cu,.slice ac (plcp (·.classes) us i u j).length cc,.slice as' (plcs (·.statics) (us.take i)).length cs,.slice am (plcs (·.methods) (us.take i)).length cm,.slice none 0 0,.slice none 0 0,.slice none 0 0]/\Bd3 w1.heap.size ac cc (plcp (·.classes) us i u j) as' cs (plcs (·.statics) (us.take i)) am cm (plcs (·.methods) (us.take i)) w') ⟨rfl,U4,ac,cc,as',cs,am,cm,X4,D4⟩ ?_
  clear X4 D4 z4
  rintro j vals w5 hj ⟨rfl,U5,ac,cc,as',cs,am,cm,X5,D5⟩ ih3
  refine ix ?_
  refine ld (hAt U5 2 _ rfl) ?_
  by_cases hltj:j<u.classes.length
  ·refine brT ?_
   obtain ⟨x,hx⟩:=some_of_lt hltj
   have hpl:=plcp_len (g:=fun u:Unt=>u.classes) l10 hu j
   refine ld (X5.cell rfl) ?_
   refine bd (cs:=encWh (i,j)) ?_
   refine bs (cs:=encWh (i,j)) fun b6 w6 k6 => ?_
   have D6:=D5.bl k6.bl
   have U6:=U5.bl k6.bl
   have hga:∀ g,ac=some ⟨g,0,none⟩->w1.heap.size<=g:=fun g hg=>(D6.c.lt hg).1
   refine apl (l1:=[(i,j)]) D6.c (.inr ⟨b6,0,rfl,k6.box.at⟩) U6.le (fun a7 c7 w7 O7 A7 F7 => ?_) (hb:=by simp only [List.length_cons,List.length_nil];omega) (hn:=by simp only [List.length_cons,List.length_nil];omega)
   have D7:=D6.appC A7 O7 F7
   have U7:=U6.ap A7 hga
   refine st (A7.box (Bl.box k6.bl X5) fun e=>by have:=hga b e;omega) (fun w8 k8 x8 => ?_)
   have e1:plcp (·.classes) us i u (j+1)=plcp (·.classes) us i u j++[(i,j)]:=plcp_succ (g:=fun u:Unt=>u.classes) hx
   refine ih3 hltj ⟨rfl,U7.wr k8,a7,c7,as',cs,am,cm,?_,?_⟩
   ·rw [e1];exact x8
   ·rw [e1];exact D7.wr k8 (by omega)
  refine brF ?_
  obtain rfl:j=u.classes.length:=by omega
  have e5:plcp (·.classes) us i u u.classes.length=plcs (·.classes) (us.take (i+1)):=plcp_end (g:=fun u:Unt=>u.classes) hu
  rw [e5] at X5 D5
  have U11:=U5
  have X11:=X5
  have D11:=D5
  clear U5 X5 D5 ih3
  have z11:plcp (·.statics) us i u 0=plcs (·.statics) (us.take i):=plcp_zero ..
  rw [<-z11] at X11 D11
  refine lpk (vals:=[]) u.statics.length 10 [] [(0,.slice (some ⟨bu,ou,none⟩) us.length cu),(4,.pointer (some ⟨b,0,none⟩)),(7,I i)] (fun j vals w'=>vals=[]/\OnB w1 b w'/\∃ ac cc as' cs am cm,Box w' b tPr [.slice (some ⟨bu,ou,none⟩) us.length cu,.slice ac (plcs (·.classes) (us.take (i+1))).length cc,.slice as' (plcp (·.statics) us i u j).length cs,.slice am (plcs (·.methods) (us.take i)).length cm,.slice none 0 0,.slice none 0 0,.slice none 0 0]/\Bd3 w1.heap.size ac cc (plcs (·.classes) (us.take (i+1))) as' cs (plcp (·.statics) us i u j) am cm (plcs (·.methods) (us.take i)) w') ⟨rfl,U11,ac,cc,as',cs,am,cm,X11,D11⟩ ?_
  clear X11 D11 z11
  rintro j vals w5 hj ⟨rfl,U5,ac,cc,as',cs,am,cm,X5,D5⟩ ih3
  refine ix ?_
  refine ld (hAt U5 3 _ rfl) ?_
  by_cases hltj:j<u.statics.length
  ·refine brT ?_
   obtain ⟨x,hx⟩:=some_of_lt hltj
   have hpl:=plcp_len (g:=fun u:Unt=>u.statics) s10 hu j
   refine ld (X5.cell rfl) ?_
   refine bd (cs:=encWh (i,j)) ?_
   refine bs (cs:=encWh (i,j)) fun b6 w6 k6 => ?_
   have D6:=D5.bl k6.bl
   have U6:=U5.bl k6.bl
   have hga:∀ g,as'=some ⟨g,0,none⟩->w1.heap.size<=g:=fun g hg=>(D6.t.lt hg).1
   refine apl (l1:=[(i,j)]) D6.t (.inr ⟨b6,0,rfl,k6.box.at⟩) U6.le (fun a7 c7 w7 O7 A7 F7 => ?_) (hb:=by simp only [List.length_cons,List.length_nil];omega) (hn:=by simp only [List.length_cons,List.length_nil];omega)
   have D7:=D6.appT A7 O7 F7
   have U7:=U6.ap A7 hga
   refine st (A7.box (Bl.box k6.bl X5) fun e=>by have:=hga b e;omega) (fun w8 k8 x8 => ?_)
   have e1:plcp (·.statics) us i u (j+1)=plcp (·.statics) us i u j++[(i,j)]:=plcp_succ (g:=fun u:Unt=>u.statics) hx
   refine ih3 hltj ⟨rfl,U7.wr k8,ac,cc,a7,c7,am,cm,?_,?_⟩
   ·rw [e1];exact x8
   ·rw [e1];exact D7.wr k8 (by omega)
  refine brF ?_
  obtain rfl:j=u.statics.length:=by omega
  have e5:plcp (·.statics) us i u u.statics.length=plcs (·.statics) (us.take (i+1)):=plcp_end (g:=fun u:Unt=>u.statics) hu
  rw [e5] at X5 D5
  have U12:=U5
  have X12:=X5
  have D12:=D5
  clear U5 X5 D5 ih3
  have z12:plcp (·.methods) us i u 0=plcs (·.methods) (us.take i):=plcp_zero ..
  rw [<-z12] at X12 D12
  refine lpk (vals:=[]) u.methods.length 11 [] [(0,.slice (some ⟨bu,ou,none⟩) us.length cu),(4,.pointer (some ⟨b,0,none⟩)),(7,I i)] (fun j vals w'=>vals=[]/\OnB w1 b w'/\∃ ac cc as' cs am cm,Box w' b tPr [.slice (some ⟨bu,ou,none⟩) us.length cu,.slice ac (plcs (·.classes) (us.take (i+1))).length cc,.slice as' (plcs (·.statics) (us.take (i+1))).length cs,.slice am (plcp (·.methods) us i u j).length cm,.slice none 0 0,.slice none 0 0,.slice none 0 0]/\Bd3 w1.heap.size ac cc (plcs (·.classes) (us.take (i+1))) as' cs (plcs (·.statics) (us.take (i+1))) am cm (plcp (·.methods) us i u j) w') ⟨rfl,U12,ac,cc,as',cs,am,cm,X12,D12⟩ ?_
  clear X12 D12 z12
  rintro j vals w5 hj ⟨rfl,U5,ac,cc,as',cs,am,cm,X5,D5⟩ ih3
  refine ix ?_
  refine ld (hAt U5 4 _ rfl) ?_
  by_cases hltj:j<u.methods.length
  ·refine brT ?_
   obtain ⟨x,hx⟩:=some_of_lt hltj
   have hpl:=plcp_len (g:=fun u:Unt=>u.methods) m16 hu j
   refine ld (X5.cell rfl) ?_
   refine bd (cs:=encWh (i,j)) ?_
   refine bs (cs:=encWh (i,j)) fun b6 w6 k6 => ?_
   have D6:=D5.bl k6.bl
   have U6:=U5.bl k6.bl
   have hga:∀ g,am=some ⟨g,0,none⟩->w1.heap.size<=g:=fun g hg=>(D6.m.lt hg).1
   refine apl (l1:=[(i,j)]) D6.m (.inr ⟨b6,0,rfl,k6.box.at⟩) U6.le (fun a7 c7 w7 O7 A7 F7 => ?_) (hb:=by simp only [List.length_cons,List.length_nil];omega) (hn:=by simp only [List.length_cons,List.length_nil];omega)
   have D7:=D6.appM A7 O7 F7
   have U7:=U6.ap A7 hga
   refine st (A7.box (Bl.box k6.bl X5) fun e=>by have:=hga b e;omega) (fun w8 k8 x8 => ?_)
   have e1:plcp (·.methods) us i u (j+1)=plcp (·.methods) us i u j++[(i,j)]:=plcp_succ (g:=fun u:Unt=>u.methods) hx
   refine ih3 hltj ⟨rfl,U7.wr k8,ac,cc,as',cs,a7,c7,?_,?_⟩
   ·rw [e1];exact x8
   ·rw [e1];exact D7.wr k8 (by omega)
  refine brF ?_
  obtain rfl:j=u.methods.length:=by omega
  have e5:plcp (·.methods) us i u u.methods.length=plcs (·.methods) (us.take (i+1)):=plcp_end (g:=fun u:Unt=>u.methods) hu
  rw [e5] at X5 D5
  have U13:=U5
  have X13:=X5
  have D13:=D5
  clear U5 X5 D5 ih3
  exact ih hltn ⟨rfl,hne3,U13,ac,cc,as',cs,am,cm,X13,D13⟩
 refine brF ?_
 obtain rfl:n=us.length:=by omega
 rw [List.take_length] at x3 D3
 have hdup:dup (us.map fun u:Unt=>u.name)=false:=by
  rw [<-Bool.not_eq_true]
  intro q
  obtain ⟨i,j,hij,z,hzi,hzj⟩:=dup_iff.1 q
  rw [List.getElem?_map] at hzi hzj
  obtain ⟨p,hp,rfl⟩:=Option.map_eq_some_iff.1 hzi
  obtain ⟨r,hr,e⟩:=Option.map_eq_some_iff.1 hzj
  exact hne i j p r (List.getElem?_eq_some_iff.1 hp).1 hij hp hr e.symm
 have hG:Good us:=⟨hC,nodup_of_dup hdup⟩
 have n1:(clsW us).length<=50:=by have h:(clsW us).length<=us.length*10:=plcs_len (g:=fun u:Unt=>u.classes) l10;omega
 have n2:(staW us).length<=50:=by have h:(staW us).length<=us.length*10:=plcs_len (g:=fun u:Unt=>u.statics) s10;omega
 have n3:(mthW us).length<=80:=by have h:(mthW us).length<=us.length*16:=plcs_len (g:=fun u:Unt=>u.methods) m16;omega
 have H3:PgH us b ⟨clsW us,staW us,mthW us,[],[],[]⟩ ⟨au,cu,ac,cc,as',cs,am,cm,none,0,none,0,none,0⟩ w3:=by
  refine ⟨x3,(hS.ltU.bl (toBl B3)).sub fun i hi=>(by show i≠b;omega),owp_sl D3.c (by show (clsW us).length<=_;omega) fun g hg => ?_,owp_sl D3.t (by show (staW us).length<=_;omega) fun g hg => ?_,owp_sl D3.m (by show (mthW us).length<=_;omega) fun g hg => ?_,Sl.nil ..,Sl.nil ..,Sl.nil ..,Nat.le_refl _⟩
  ·have:=(D3.c.lt hg).1;show g≠b;omega
  ·have:=(D3.t.lt hg).1;show g≠b;omega
  ·have:=(D3.m.lt hg).1;show g≠b;omega
 refine lpk (vals:=[]) us.length 12 [] [(0,.slice au us.length cu),(4,.pointer (some ⟨b,0,none⟩))] (fun k vals w'=>vals=[]/\(∀ (n:Nat) (u:Unt),n<k->us[n]? = some u->namU us n u=true)/\Bl w3 w') ⟨rfl,fun n u h=>by omega,Bl.refl _⟩ ?_
 rintro k vals w4 hk ⟨rfl,hnam,B4⟩ ih4
 by_cases hltk:k<us.length
 ·refine brT ?_
  obtain ⟨u,hu⟩:=some_of_lt hltk
  refine cl (r_names (H3.bl B4).pg rfl rfl rfl hC hu) ?_
  rintro _ w5 ⟨rfl,B5⟩
  cases hq:namU us k u with
  | false =>
   refine brt ?_ (hp:=by rfl)
   have e2:=run_pre (by omega) hck hdup (defined_no hG hu hq)
   exact rt2 ⟨toBl ((B3.bl B4).bl B5),.inr ⟨by rw [e2];decide,by rw [e2]⟩⟩
  | true =>
   refine brf ?_ (hp:=by rfl)
   refine ih4 hltk ⟨rfl,fun n v hn hv => ?_,B4.trans B5⟩
   rcases Nat.lt_or_ge n k with q | q
   ·exact hnam n v q hv
   ·obtain rfl:n=k:=by omega
    rw [hu] at hv;obtain rfl:=Option.some.inj hv;exact hq
 refine brF ?_
 obtain rfl:k=us.length:=by omega
 have hdf:definedL us (decl us)=true:=defined_of hG fun n u hu=>hnam n u (List.getElem?_eq_some_iff.1 hu).1 hu
 have K:PreK us:=⟨by omega,hck,hdup,hdf⟩
 have hP:=preE_of hdf
 refine cl (r_placeClasses (H3.bl B4) rfl rfl rfl rfl hC (plC hG hdf) (permC hG) (by omega)) ?_
 rintro _ w5 ⟨U5,t,out,ao,co,rfl,H5,hos,hon,hoT,hoF⟩
 have B5:=(B3.bl B4).trans U5
 cases t with
 | false =>
  refine brt ?_ (hp:=by rfl)
  have e2:=run_cyc K (hoF rfl)
  exact rt2 ⟨toBl B5,.inr ⟨by rw [e2];decide,by rw [e2]⟩⟩
 | true =>
 refine brf ?_ (hp:=by rfl)
 obtain ⟨hol,hoc⟩:=hoT rfl
 have hoc:ordC us=some (out.map (pthC us)):=hoc
 have O:=ordP_of hG hdf hos hon hol hoc
 have erun:=run_sz K O hoc
 refine cl (r_sizes H5.pg rfl rfl rfl hC O (by omega)) ?_
 rintro _ w6 ⟨rfl,B56⟩
 have B6:=B5.bl B56
 by_cases hsz:sizE us out=0
 rotate_left
 ·refine brT ?_ (hp:=by exact hsz)
  rw [if_neg hsz] at erun
  exact rt2 ⟨toBl B6,.inr ⟨by rw [erun];exact hsz,by rw [erun]⟩⟩
 refine brF ?_ (hp:=by simp [hsz])
 rw [if_pos hsz] at erun
 refine cl (r_fitting (H5.bl B56).pg rfl hC) ?_
 rintro _ w7 ⟨⟨t,rfl,hfit⟩,B67⟩
 have B7:=B6.bl B67
 cases t with
 | false =>
  refine brt ?_ (hp:=by rfl)
  have hun:unlikeL us (decl us)=true:=by
   cases hq:unlikeL us (decl us) with
   | true=>rfl
   | false=>exact absurd (hfit.2 ((fit_iff hG hP).2 hq)) (by decide)
  rw [if_pos hun] at erun
  exact rt2 ⟨toBl B7,.inr ⟨by rw [erun];decide,by rw [erun]⟩⟩
 | true =>
 refine brf ?_ (hp:=by rfl)
 have hun:=(fit_iff hG hP).1 (hfit.1 rfl)
 rw [hun,if_neg (by decide)] at erun
 refine cl (r_placeMethods ((H5.bl B56).bl B67) rfl rfl rfl rfl hC (plM hG hdf) (permM hG hP) (by omega)) ?_
 rintro _ w8 ⟨U8,t,las,al',cl',rfl,H8,hls,hln,hlT,hlF⟩
 have B8:=B7.trans U8
 cases t with
 | false =>
  refine brt ?_ (hp:=by rfl)
  have hom:ordM us=none:=hlF rfl
  rw [hom] at erun
  have erun:runE us=10:=erun
  exact rt2 ⟨toBl B8,.inr ⟨by rw [erun];decide,by rw [erun]⟩⟩
 | true =>
 refine brf ?_ (hp:=by rfl)
 obtain ⟨hll,hom⟩:=hlT rfl
 have hom:ordM us=some (las.map (pthM us)):=hom
 rw [hom] at erun
 have erun:runE us=0:=erun
 dsimp only at H8
 refine lpk (vals:=[]) (mthW us).length 14 [] [(0,.slice au us.length cu),(4,.pointer (some ⟨b,0,none⟩))] (fun k vals w'=>vals=[]/\OnB w8 b w'/\∃ az cz,PgH us b ⟨clsW us,staW us,mthW us,out,las,selL us ((mthW us).take k)⟩ ⟨au,cu,ac,cc,as',cs,am,cm,ao,co,al',cl',az,cz⟩ w') ⟨rfl,OnB.refl H8.box.lt,none,0,H8⟩ ?_
 rintro k vals w9 hk ⟨rfl,U9,az,cz,H9⟩ ih5
 have B9:=B8.trans U9
 refine ld (H9.lit.box.cell rfl) ?_
 by_cases hltk:k<(mthW us).length
 ·refine brT ?_
  obtain ⟨d,bd,od,cs2,hd,rfl,hne9,hAd,rfl⟩:=at_some H9.lit.m hltk
  obtain ⟨⟨u,c⟩,ha⟩:=mem_mthW.1 (List.mem_of_getElem? hd)
  have esn:=selL_snoc (us:=us) hd
  refine ld (H9.lit.box.cell rfl) ?_
  refine ix ?_
  refine lda hAd ?_
  refine cl (r_sent H9.pg.u hC ha) ?_
  rintro _ w10 ⟨rfl,B10⟩
  have H10:=H9.bl B10
  cases hsb:sentB us d with
  | false =>
   refine brf ?_ (hp:=by rfl)
   rw [hsb,if_neg (by decide)] at esn
   exact ih5 hltk ⟨rfl,U9.bl B10,az,cz,by rw [esn];exact H10⟩
  | true =>
   refine brt ?_ (hp:=by rfl)
   rw [hsb,if_pos rfl,mnm_at ha] at esn
   have hsl:=selL_len (us:=us) ((mthW us).take k)
   have hsl2:((mthW us).take k).length<=(mthW us).length:=List.length_take_le' ..
   have lb10:=H10.lit.box.lt
   have ld10:bd<w10.heap.size:=cell_lt (hAd.bl B10 0 _ rfl)
   refine dht 3 (fun i=>i<w10.heap.size) (List.range 15) fun w11 k11 => ?_
   have H11:=H10.bl k11.bl
   refine ld (H11.lit.box.cell rfl) ?_ (hm:=by show b<_;omega)
   refine ld (H11.lit.box.cell rfl) ?_ (hm:=by show b<_;omega)
   refine ix ?_
   refine lda ((hAd.bl B10).bl k11.bl) ?_ (hm:=by show bd<_;omega)
   refine cl (r_mname H11.pg.u hC ha) ?_
   rintro _ w12 ⟨rfl,B12⟩
   have H12:=H11.bl B12
   have lb12:=H12.lit.box.lt
   refine cl (r_insert _ _ _ _ H12.lit.z H12.cz (by omega) _) ?_ (hm:=fun _ _ r=>by obtain ⟨_,_,_,_,_,hB⟩:=r;exact mdW_bl hB)
   rintro _ w13 ⟨az',cz',rfl,S13,hcz,B13⟩
   refine st (Bl.box B13 H12.lit.box) (fun w14 k14 x14 => ?_)
   have U14:OnB w10 b w14:=(((OnB.refl lb10).bl k11.bl).bl B12).bl B13 |>.wr k14
   have U914:OnB w9 b w14:=((OnB.refl H9.box.lt).bl B10).trans U14
   refine ih5 hltk ⟨rfl,(U9.bl B10).trans U14,az',cz',?_⟩
   rw [esn]
   refine H9.sel U914 x14 ((S13.sub fun i hi => ?_).kp (k14.kp fun i hi=>hi)) hcz
   rcases hi with hi | hi
   ·exact hi
   ·show i≠b;omega
 refine brF ?_
 obtain rfl:k=(mthW us).length:=by omega
 rw [List.take_length] at H9
 have e1:(ordsL us).oc=out.map (pthC us):=by unfold ordsL;rw [hoc];rfl
 have e2:(ordsL us).om=las.map (pthM us):=by unfold ordsL;rw [hom];rfl
 exact rt2 ⟨toBl B9,.inl ⟨b,_,rfl,H9.pg,⟨erun,rfl,rfl,rfl,O,e1.symm,hls,full_of hls hln hll,hln,e2.symm,selL_oz⟩⟩⟩
end Go.Proofs.YtkmdfjpafkcleaaGreatDoor
namespace Go.Proofs.YtkmdfjpafkcleaaGreatDoor
open Eng Go.RowKit
variable {us:List Unt} {s:PgS}
theorem plcW_idx {f:Nat×Nat->ByteArray}:∀ (l:List (Nat×Nat)) (k:Nat) (d:Nat×Nat),(∀ x∈l,f x=f d->x=d)->plcW l k d=Lib.idxFromS (l.map f) (f d) k
 | [],_,_,_=>rfl
 | x::l,k,d,h=>by
  simp only [plcW,List.map_cons,Lib.idxFromS]
  by_cases e:x=d
  ·rw [if_pos e,if_pos (by rw [e])]
  ·rw [if_neg e,if_neg fun q=>e (h x (List.mem_cons_self ..) q)]
   exact plcW_idx l (k+1) d fun y hy=>h y (List.mem_cons_of_mem _ hy)
theorem plc_cls (R:RdP us s) {e:Nat×Nat} (he:e∈clsW us):plcW s.ord 0 e=idxB (ordsL us).oc (pthC us e):=by
 have K:=runK_of R.k
 rw [plcW_idx (f:=pthC us) s.ord 0 e fun x hx q=>pthC_inj K.good (R.o.sub x hx) he q,R.oc];rfl
theorem plc_mth (R:RdP us s) {e:Nat×Nat} (he:e∈mthW us):plcW s.las 0 e=idxB (ordsL us).om (pthM us e):=by
 have K:=runK_of R.k
 rw [plcW_idx (f:=pthM us) s.las 0 e fun x hx q=>pthM_inj K.good (preE_of K.df) (R.ls x hx) he q,R.om];rfl
theorem num_is (R:RdP us s) {p:ByteArray} (h:hasM (decl us).classes p=true):numF us s p=idxB (ordsL us).oc p:=by
 have K:=runK_of R.k
 obtain ⟨e,he⟩:=Option.isSome_iff_exists.1 h
 obtain ⟨h1,h2⟩:=get_cls_at K.good he
 unfold numF
 rw [clsF_get K.good,he,Option.getD_some,plc_cls R h1,h2]
theorem lnk_is (R:RdP us s) {u:Unt} {t:Ty} (ht:tyP u t) (hi:isTypeL (decl us) u t=true):lnkT us s u t=kindM (ordsL us).oc u t:=by
 rw [isType_tcls ht] at hi
 unfold lnkT kindM
 rcases ht with ⟨h1,h2⟩ | ⟨h1,h2⟩
 ·rw [if_pos h1] at hi
  rw [if_pos h1,if_neg (by have:=h2.1;omega),num_is R hi]
 ·rw [if_neg (by rw [h1];decide),if_pos (by omega)]
theorem cal_is (R:RdP us s) {p:ByteArray} (h:hasM (decl us).calls p=true):plcW s.las 0 ((calF us p).getD (0,0))=idxB (ordsL us).om p:=by
 have K:=runK_of R.k
 obtain ⟨e,he⟩:=Option.isSome_iff_exists.1 h
 obtain ⟨h1,_,h2⟩:=get_cal_at K.good he
 rw [calF_get K.good,he,Option.getD_some,plc_mth R h1,h2]
theorem snd_is (R:RdP us s) {z:ByteArray} (h:hasM (decl us).named z=true):(atS s.sel z:Int)=idxB (ordsL us).oz z:=by
 rw [R.sel]
 exact (idxB_asc (oz_asc us) (mem_oz.2 h)).symm
theorem staN_less (p:ByteArray) (l:List (Nat×Nat)):staN us p l=lessN (l.map (pthS us)) p:=by
 unfold staN lessN
 rw [List.filter_map,List.length_map,List.countP_eq_length_filter];rfl
theorem sta_is (K:RunK us) {p:ByteArray} (h:hasM (decl us).statics p=true):(staN us p (staW us):Int)=idxB (ordsL us).os p:=by
 have hm:p∈(ordsL us).os:=(sortL_perm' _).mem_iff.2 (hasM_iff.1 h)
 rw [staN_less,lessN_perm (os_perm K).symm,lessN_asc (os_asc us),idxB_asc (os_asc us) hm]
theorem lay_nodup (R:RdP us s) {d:Nat×Nat} (hd:d∈clsW us):((layN us d).map (·.1)).Nodup:=by
 have K:=runK_of R.k
 have h:=K.dl
 rw [List.any_eq_false] at h
 have h2:=h (pthC us d) (by rw [<-R.oc];exact List.mem_map.2 ⟨d,R.o.all d hd,rfl⟩)
 rw [<-lay_is K.good K.df hd]
 exact nodup_of_dup (by simpa using h2)
theorem fld_at {p:ByteArray} (h:(fldF us p).isSome=true):∃ d k u c f,fldF us p=some (d,k)/\d∈clsW us/\clsAt us d=some (u,c)/\c.fields[k]? = some f/\dots (cpath u c) (nm u f.name)=p:=by
 obtain ⟨⟨d,k⟩,he⟩:=Option.isSome_iff_exists.1 h
 have h1:=he
 unfold fldF at h1
 obtain ⟨d',hd',h2⟩:=List.exists_of_findSome?_eq_some h1
 obtain ⟨k',hk',h3⟩:=Option.map_eq_some_iff.1 h2
 obtain ⟨rfl,rfl⟩:=Prod.mk.inj h3
 obtain ⟨⟨u,c⟩,ha⟩:=mem_clsW.1 hd'
 unfold fldK at hk'
 rw [ha] at hk'
 have h4:=List.find?_some hk'
 have h5:=List.mem_range.1 (List.mem_of_find?_eq_some hk')
 obtain ⟨f,hf⟩:=some_of_lt h5
 rw [fhit_at ha hf,decide_eq_true_eq] at h4
 exact ⟨_,_,u,c,f,he,hd',ha,hf,h4⟩
theorem lay_split {d:Nat×Nat} {u:Unt} {c:Cls} (ha:clsAt us d=some (u,c)):∃ bs,layN us d=bs++c.fields.map (slotF u d.1):=by
 have hW:=mem_clsW.2 ⟨_,ha⟩
 obtain ⟨n,hn⟩:∃ n,(clsW us).length=n+1:=⟨(clsW us).length-1,by have:=List.length_pos_of_mem hW;omega⟩
 unfold layN
 rw [hn,layD_at ha]
 exact ⟨_,rfl⟩
theorem fld_is (R:RdP us s) {d:Nat×Nat} {k:Nat} {u:Unt} {c:Cls} {f:Fld} (ha:clsAt us d=some (u,c)) (hf:c.fields[k]? = some f):(((layN us d).length-c.fields.length+k:Nat):Int)=fldM us (ordsL us).oc (dots (cpath u c) (nm u f.name)):=by
 have K:=runK_of R.k
 obtain ⟨hu,hc⟩:=clsAt_un ha
 have hum:=List.mem_of_getElem? hu
 have hcm:=List.mem_of_getElem? hc
 have hfm:=List.mem_of_getElem? hf
 have hW:=mem_clsW.2 ⟨_,ha⟩
 have hoc:pthC us d∈(ordsL us).oc:=by rw [<-R.oc];exact List.mem_map.2 ⟨d,R.o.all d hW,rfl⟩
 have hnd:=lay_nodup R hW
 obtain ⟨e1,e2,e3⟩:=cutI_dots (x:=cpath u c) (f_plain (K.good.ck u hum) hcm hfm)
 unfold fldM layA
 rw [e2,e3,<-pthC_at ha,if_pos (hasB_iff.2 hoc),lay_is K.good K.df hW]
 obtain ⟨bs,hb⟩:=lay_split ha
 rw [hb] at hnd ⊢
 symm
 refine idxB_at hnd ?_
 rw [List.length_append,List.length_map,List.map_append,List.map_map,List.getElem?_append_right (by rw [List.length_map];omega),List.length_map]
 rw [show bs.length+c.fields.length-c.fields.length+k-bs.length=k by omega,List.getElem?_map,hf];rfl
def slotT (us:List Unt) (oc:List ByteArray) (q:Slot):Ty:=kindM oc ((us[q.2.1]?).getD ⟨nost,[],[],[],[]⟩) q.2.2
theorem lay_types (h:Good us) (hd:definedL us (decl us)=true) (oc:List ByteArray):∀ (n:Nat) (d:Nat×Nat),d∈clsW us->(layD us n d).map (slotT us oc)=ftL us (decl us) oc n (pthC us d)
 | 0,_,_=>rfl
 | n+1,d,hW=>by
  obtain ⟨⟨u,c⟩,ha⟩:=mem_clsW.1 hW
  obtain ⟨hu,hc⟩:=clsAt_un ha
  rw [layD_at ha,List.map_append,List.map_map]
  simp only [ftL]
  have e0:ownT us (decl us) oc (pthC us d)=c.fields.map fun f=>kindM oc u f.ty:=by unfold ownT;rw [clsOf_at h ha]
  have e:(c.fields.map (slotT us oc ∘ slotF u d.1))=c.fields.map fun f=>kindM oc u f.ty:=by
   refine List.map_congr_left fun f _ => ?_
   show kindM oc ((us[d.1]?).getD _) f.ty=_
   rw [hu];rfl
  rw [supL_at h ha,e0,e]
  unfold supF
  by_cases h0:c.super<0
  ·rw [if_pos h0,if_pos h0,if_pos rfl];rfl
  ·obtain ⟨e,e1,e2,e3,e4⟩:=sup_found h hd (List.mem_of_getElem? hu) (List.mem_of_getElem? hc) h0
   rw [if_neg h0,if_neg h0,if_neg e4,e1,Option.getD_some,lay_types h hd oc n e e2,e3]
theorem lay_in:∀ (n:Nat) (d:Nat×Nat) (q:Slot),q∈layD us n d->∃ u c f,us[q.2.1]? = some u/\c∈u.classes/\f∈c.fields/\q.2.2=f.ty
 | 0,_,_,h=>by simp [layD] at h
 | n+1,d,q,h=>by
  cases ha:clsAt us d with
  | none=>simp [layD,ha] at h
  | some x =>
   obtain ⟨u,c⟩:=x
   obtain ⟨hu,hc⟩:=clsAt_un ha
   rw [layD_at ha,List.mem_append] at h
   rcases h with h | h
   ·split at h
    ·cases h
    ·exact lay_in n _ q h
   ·obtain ⟨f,hf,rfl⟩:=List.mem_map.1 h
    exact ⟨u,c,f,hu,List.mem_of_getElem? hc,hf,rfl⟩
def mclD (us:List Unt) (d:Nat×Nat):ByteArray:=match mthAt us d with
 | some (u,c)=>nm u c.cls
 | none=>nost
theorem mclD_at {d:Nat×Nat} {u:Unt} {c:Mth} (h:mthAt us d=some (u,c)):mclD us d=nm u c.cls:=by unfold mclD;rw [h]
def hitM (us:List Unt) (z q:ByteArray) (x:Nat×Nat):Bool:=sentB us x&&decide (mnm us x=z)&&decide (mclD us x=q)
def fndM (us:List Unt) (z q:ByteArray) (l:List (Nat×Nat)):Int:=foldI (fun f x i=>if hitM us z q x=true then (i:Int) else f) l (-1)
theorem fndM_snoc {z q:ByteArray} {l:List (Nat×Nat)} {k:Nat} {x:Nat×Nat} (h:l[k]? = some x):fndM us z q (l.take (k+1))=if hitM us z q x=true then (k:Int) else fndM us z q (l.take k):=foldI_snoc h
theorem fndM_is (R:RdP us s) {d:Nat×Nat} (hd:d∈clsW us) {z:ByteArray} (hz:z∈(ordsL us).oz):fndM us z (pthC us d) s.las=idxB (ordsL us).om (dots (pthC us d) z):=by
 have K:=runK_of R.k
 have hq:pthC us d∈(ordsL us).oc:=by rw [<-R.oc];exact List.mem_map.2 ⟨d,R.o.all d hd,rfl⟩
 have hit:∀ x∈s.las,hitM us z (pthC us d) x=true↔pthM us x=dots (pthC us d) z:=fun x hx=>by
  obtain ⟨⟨u,m⟩,ha⟩:=mem_mthW.1 (R.ls x hx)
  unfold hitM
  rw [sentB_at ha,mnm_at ha,mclD_at ha,pthM_at ha]
  simp only [Bool.and_eq_true,decide_eq_true_eq]
  constructor
  ·rintro ⟨⟨h1,h2⟩,h3⟩
   unfold mpath
   rw [if_neg (by omega),<-h3,<-h2]
  ·intro e
   obtain ⟨h1,h2,h3⟩:=sent_of K ha hq (oz_plain K hz) e
   exact ⟨⟨h1,h3⟩,h2⟩
 have hn:(s.las.map (pthM us)).Nodup:=by rw [R.om];exact om_nodup K
 have key:=foldI_ind (f:=fun (f:Int) x i=>if hitM us z (pthC us d) x=true then (i:Int) else f) (l:=s.las) (b := -1) (fun k acc=>(∀ i x,i<k->s.las[i]? = some x->hitM us z (pthC us d) x=true->acc=i)/\((∀ i x,i<k->s.las[i]? = some x->¬hitM us z (pthC us d) x=true)->acc = -1))
  ⟨fun i x h=>by omega,fun _=>rfl⟩ fun k x acc hx ⟨h1,h2⟩=>by
   by_cases hh:hitM us z (pthC us d) x=true
   ·simp only [hh,if_true]
    refine ⟨fun i y hi hy hyt => ?_,fun h=>absurd hh (h k x (by omega) hx)⟩
    have e:=((hit y (List.mem_of_getElem? hy)).1 hyt).trans ((hit x (List.mem_of_getElem? hx)).1 hh).symm
    rw [nodup_at hn hy hx e]
   ·simp only [hh]
    refine ⟨fun i y hi hy hyt => ?_,fun h=>h2 fun i y hi hy=>h i y (by omega) hy⟩
    rcases Nat.lt_or_ge i k with r | r
    ·exact h1 i y r hy hyt
    ·obtain rfl:i=k:=by omega
     rw [hx] at hy;obtain rfl:=Option.some.inj hy;exact absurd hyt hh
 obtain ⟨k1,k2⟩:=key
 unfold fndM
 by_cases hex:∃ x∈s.las,hitM us z (pthC us d) x=true
 ·obtain ⟨x,hx,hxt⟩:=hex
  obtain ⟨i,hi⟩:=List.mem_iff_getElem?.1 hx
  rw [k1 i x (List.getElem?_eq_some_iff.1 hi).1 hi hxt]
  symm
  refine idxB_at (om_nodup K) ?_
  rw [<-R.om,List.getElem?_map,hi,<-(hit x hx).1 hxt];rfl
 ·rw [k2 fun i x _ hx hxt=>hex ⟨x,List.mem_of_getElem? hx,hxt⟩,idxB_no fun hm => ?_]
  rw [<-R.om,List.mem_map] at hm
  obtain ⟨x,hx,e⟩:=hm
  exact hex ⟨x,hx,(hit x hx).2 e⟩
theorem fndM_ge (z q:ByteArray) (l:List (Nat×Nat)) : -1<=fndM us z q l:=by
 refine foldI_ind (f:=fun (f:Int) x i=>if hitM us z q x=true then (i:Int) else f) (l:=l) (b := -1) (fun _ acc => -1<=acc) (by omega) fun k x acc _ h => ?_
 show -1<=(if hitM us z q x=true then (k:Int) else acc)
 split
 ·omega
 ·exact h
end Go.Proofs.YtkmdfjpafkcleaaGreatDoor
namespace Go.Proofs.YtkmdfjpafkcleaaGreatDoor
open Eng Go.RowKit
variable {us:List Unt}
def pathsV (a1:Option Addr) (l1:List ByteArray) (c1:Nat) (a2:Option Addr) (l2:List ByteArray) (c2:Nat) (a3:Option Addr) (l3:List ByteArray) (c3:Nat) (a4:Option Addr) (l4:List ByteArray) (c4:Nat) (e:Int):Value :=
 .tuple #[.slice a1 l1.length c1,.slice a2 l2.length c2,.slice a3 l3.length c3,.slice a4 l4.length c4,I e]
def ordX (us:List Unt):Ords:=if runE us=0 then ordsL us else ⟨[],[],[],[]⟩
def PathsQ (us:List Unt) (w:World) (v:Value) (w':World):Prop:=Bl w w'/\∃ a1 c1 a2 c2 a3 c3 a4 c4,v=pathsV a1 (ordX us).oc c1 a2 (ordX us).os c2 a3 (ordX us).om c3 a4 (ordX us).oz c4 (runE us)/\Sl eStr T w' a1 (ordX us).oc/\Sl eStr T w' a2 (ordX us).os/\Sl eStr T w' a3 (ordX us).om/\Sl eStr T w' a4 (ordX us).oz
theorem pthS_os (K:RunK us):((staW us).map (pthS us)).foldl putS []=(ordsL us).os:=by
 obtain ⟨h1,h2⟩:=putS_all ((staW us).map (pthS us)) [] List.Pairwise.nil
 refine ascB_eq h1 (os_asc us) fun p => ?_
 rw [h2,(os_perm K).mem_iff]
 simp
theorem putS_fold_len:∀ (l z:List ByteArray),(l.foldl putS z).length<=z.length+l.length
 | [],z=>by simp
 | x::l,z=>by
  have:=putS_fold_len l (putS z x)
  have:=putS_len z x
  rw [List.foldl_cons,List.length_cons];omega
set_option maxHeartbeats 8000000 in
theorem r_Paths {w:World} {au:Option Addr} {cu:Nat} (hS:Sl eUnt T w au us):Ret Tryz.prog 22 #[.slice au us.length cu] w (PathsQ us w):=by
 refine entr (vs:=[.slice au us.length cu]) [0,2,3,4,5,6,7,8,9,10,11,12,13,14,21,29,50,70] tabok Tryz.func22 (by kernel_rfl) ?_
 refine cl (r_read hS) ?_
 rintro v w1 ⟨B1,⟨b,s,rfl,H,R⟩ | ⟨hne,rfl⟩⟩
 rotate_left
 ·refine brT ?_ (hp:=by exact hne)
  refine rt (vs:=[.slice none 0 0,.slice none 0 0,.slice none 0 0,.slice none 0 0,I (runE us)]) ?_
  have e:ordX us=⟨[],[],[],[]⟩:=by unfold ordX;rw [if_neg hne]
  refine ⟨B1,none,0,none,0,none,0,none,0,by rw [e];rfl,?_,?_,?_,?_⟩ <;> (rw [e];exact Sl.nil ..)
 refine brF ?_
 have K:=runK_of R.k
 have hC:=K.ck
 obtain ⟨g1,g2,g3,g4⟩:=big_of K
 have e:ordX us=ordsL us:=by unfold ordX;rw [if_pos R.k]
 have n1:s.ord.length<=10:=by have:=congrArg List.length R.oc;rw [List.length_map] at this;omega
 have n2:(staW us).length<=10:=by have:=(os_perm K).length_eq;rw [List.length_map] at this;omega
 have n3:s.las.length<=16:=by have:=congrArg List.length R.om;rw [List.length_map] at this;omega
 refine lpk (vals:=[.slice none 0 0]) s.ord.length 12 [9] [(7,.pointer (some ⟨b,0,none⟩)),(10,.slice none 0 0),(11,.slice none 0 0)]
  (fun k vals w'=>∃ a c,vals=[.slice a ((s.ord.take k).map (pthC us)).length c]/\OwP 1 encStr w' w1.heap.size 9 a c ((s.ord.take k).map (pthC us))/\Bl w1 w') ⟨none,0,rfl,Ow.nil ..,Bl.refl _⟩ ?_
 rintro k vals w2 hk ⟨a2,c2,rfl,O2,B2⟩ ih
 obtain ⟨au',cu',ac,cc,as',cs,am,cm,ao,co,al',cl',az,cz,hx,h1,h2,h3,h4,h5,h6,h7,h8⟩:=H.bl B2
 refine ld (hx.cell rfl) ?_
 by_cases hlt:k<s.ord.length
 ·refine brT ?_
  refine ld (hx.cell rfl) ?_
  obtain ⟨d,bd,od,cs1,hd,rfl,_,hAt,rfl⟩:=at_some h5 hlt
  obtain ⟨⟨u,c⟩,ha⟩:=mem_clsW.1 (R.o.sub d (List.mem_of_getElem? hd))
  refine ix ?_
  refine lda hAt ?_
  refine cl (r_cpath (H.bl B2).u hC ha) ?_
  rintro _ w3 ⟨rfl,B3⟩
  refine bs fun b4 w4 k4 => ?_
  have B24:=B3.trans k4.bl
  have B4:=B2.trans B24
  have e1:(s.ord.take (k+1)).map (pthC us)=(s.ord.take k).map (pthC us)++[pthC us d]:=map_snoc hd
  have hl:((s.ord.take k).map (pthC us)).length<=10:=by rw [List.length_map,List.length_take];omega
  refine apl (l1:=[pthC us d]) (O2.bl B24) (.inr ⟨b4,0,rfl,k4.box.at⟩) B4.size (fun a5 c5 w5 O5 A5 _ => ?_) (hb:=by simp only [List.length_cons,List.length_nil];omega) (hn:=by simp only [List.length_cons,List.length_nil];omega)
  exact ih hlt ⟨a5,c5,by rw [e1],by rw [e1];exact O5,Eng.Ow.below (O2.bl B24) A5 B4 B4.size⟩
 refine brF ?_
 obtain rfl:k=s.ord.length:=by omega
 rw [List.take_length,R.oc] at O2 ⊢
 have S2:Sl eStr T w2 a2 (ordsL us).oc:=owp_sl O2 (by omega) fun _ _=>trivial
 have H2:=H.bl B2
 clear hx h1 h2 h3 h4 h5 h6 h7 h8 ih
 refine lpk (vals:=[.slice none 0 0]) (staW us).length 13 [10] [(7,.pointer (some ⟨b,0,none⟩)),(9,.slice a2 (ordsL us).oc.length c2),(11,.slice none 0 0)]
  (fun k vals w'=>∃ a c,vals=[.slice a ((((staW us).take k).map (pthS us)).foldl putS []).length c]/\Sl eStr T w' a ((((staW us).take k).map (pthS us)).foldl putS [])/\((((staW us).take k).map (pthS us)).foldl putS []).length<=c/\Bl w2 w') ⟨none,0,rfl,Sl.nil ..,Nat.le_refl _,Bl.refl _⟩ ?_
 rintro k vals w3 hk ⟨a3,c3,rfl,S3,hc3,B3⟩ ih
 obtain ⟨au',cu',ac,cc,as',cs,am,cm,ao,co,al',cl',az,cz,hx,h1,h2,h3,h4,h5,h6,h7,h8⟩:=H2.bl B3
 rw [R.sta] at hx h3
 refine ld (hx.cell rfl) ?_
 by_cases hlt:k<(staW us).length
 ·refine brT ?_
  refine ld (hx.cell rfl) ?_
  obtain ⟨d,bd,od,cs1,hd,rfl,_,hAt,rfl⟩:=at_some h3 hlt
  obtain ⟨⟨u,c⟩,ha⟩:=mem_staW.1 (List.mem_of_getElem? hd)
  refine ix ?_
  refine lda hAt ?_
  refine cl (r_spath (H2.bl B3).u hC ha) ?_
  rintro _ w4 ⟨rfl,B4⟩
  have e1:(((staW us).take (k+1)).map (pthS us)).foldl putS []=putS ((((staW us).take k).map (pthS us)).foldl putS []) (pthS us d):=by rw [map_snoc hd,List.foldl_append];rfl
  have hl:((((staW us).take k).map (pthS us)).foldl putS []).length<=10:=by
   have:=putS_fold_len (((staW us).take k).map (pthS us)) []
   rw [List.length_nil,List.length_map,List.length_take] at this;omega
  refine cl (r_insert _ _ _ _ (S3.bl B4) hc3 (by omega) _) ?_
  rintro _ w5 ⟨a5,c5,rfl,S5,hc5,B5⟩
  exact ih hlt ⟨a5,c5,by rw [e1],by rw [e1];exact S5.sub fun _ _=>trivial,by rw [e1];exact hc5,(B3.trans B4).trans B5⟩
 refine brF ?_
 obtain rfl:k=(staW us).length:=by omega
 rw [List.take_length,pthS_os K] at S3 ⊢
 have H3:=H2.bl B3
 have S23:=S2.bl B3
 clear hx h1 h2 h3 h4 h5 h6 h7 h8 ih
 refine lpk (vals:=[.slice none 0 0]) s.las.length 14 [11] [(7,.pointer (some ⟨b,0,none⟩)),(9,.slice a2 (ordsL us).oc.length c2),(10,.slice a3 (ordsL us).os.length c3)]
  (fun k vals w'=>∃ a c,vals=[.slice a ((s.las.take k).map (pthM us)).length c]/\OwP 1 encStr w' w3.heap.size 9 a c ((s.las.take k).map (pthM us))/\Bl w3 w') ⟨none,0,rfl,Ow.nil ..,Bl.refl _⟩ ?_
 rintro k vals w4 hk ⟨a4,c4,rfl,O4,B4⟩ ih
 obtain ⟨au',cu',ac,cc,as',cs,am,cm,ao,co,al',cl',az,cz,hx,h1,h2,h3,h4,h5,h6,h7,h8⟩:=H3.bl B4
 refine ld (hx.cell rfl) ?_
 by_cases hlt:k<s.las.length
 ·refine brT ?_
  refine ld (hx.cell rfl) ?_
  obtain ⟨d,bd,od,cs1,hd,rfl,_,hAt,rfl⟩:=at_some h6 hlt
  obtain ⟨⟨u,c⟩,ha⟩:=mem_mthW.1 (R.ls d (List.mem_of_getElem? hd))
  refine ix ?_
  refine lda hAt ?_
  refine cl (r_mpath (H3.bl B4).u hC ha) ?_
  rintro _ w5 ⟨rfl,B5⟩
  refine bs fun b6 w6 k6 => ?_
  have B46:=B5.trans k6.bl
  have B6:=B4.trans B46
  have e1:(s.las.take (k+1)).map (pthM us)=(s.las.take k).map (pthM us)++[pthM us d]:=map_snoc hd
  have hl:((s.las.take k).map (pthM us)).length<=16:=by rw [List.length_map,List.length_take];omega
  refine apl (l1:=[pthM us d]) (O4.bl B46) (.inr ⟨b6,0,rfl,k6.box.at⟩) B6.size (fun a7 c7 w7 O7 A7 _ => ?_) (hb:=by simp only [List.length_cons,List.length_nil];omega) (hn:=by simp only [List.length_cons,List.length_nil];omega)
  exact ih hlt ⟨a7,c7,by rw [e1],by rw [e1];exact O7,Eng.Ow.below (O4.bl B46) A7 B6 B6.size⟩
 refine brF ?_
 obtain rfl:k=s.las.length:=by omega
 rw [List.take_length,R.om] at O4 ⊢
 have S4:Sl eStr T w4 a4 (ordsL us).om:=owp_sl O4 (by omega) fun _ _=>trivial
 have H4:=H3.bl B4
 rw [R.sel] at hx h7
 refine bs (cs:=[]) fun b5 w5 k5 => ?_
 have z5:=k5.size
 have y5:=k5.blk
 have O5:OwP 1 encStr w5 b5 9 (some ⟨b5,0,none⟩) 0 ([]:List ByteArray):=Ow.made (n:=0) k5 rfl (by omega)
 refine ld ((Bl.box k5.bl hx).cell rfl) ?_
 refine apl (l0:=[]) O5 (src_of (h7.bl k5.bl)) (by omega) fun a6 c6 w6 O6 A6 _ => ?_
 have B46:Bl w4 w6:=Below.trans k5.bl (A6.below (by omega) fun g hg=>by have:=(O5.lt hg).1;omega)
 rw [List.nil_append] at O6 ⊢
 refine rt (vs:=[.slice a2 (ordsL us).oc.length c2,.slice a3 (ordsL us).os.length c3,.slice a4 (ordsL us).om.length c4,.slice a6 (ordsL us).oz.length c6,I 0]) ?_
 refine ⟨(((B1.trans B2).trans B3).trans B4).trans B46,a2,c2,a3,c3,a4,c4,a6,c6,?_,?_,?_,?_,?_⟩
 ·rw [e,R.k];rfl
 ·rw [e];exact (S23.bl B4).bl B46
 ·rw [e];exact (S3.bl B4).bl B46
 ·rw [e];exact S4.bl B46
 ·rw [e];exact owp_sl O6 (by omega) fun _ _=>trivial
def sameS (a b:List ByteArray):Bool:=decide (a=b)
theorem l_strings {w:World} {a b:List ByteArray} {pa pb:Option Addr} {ca cb:Nat} (hA:Sl eStr T w pa a) (hB:Sl eStr T w pb b):Ret Tryz.prog 23 #[.slice pa a.length ca,.slice pb b.length cb] w fun v w'=>v = .bool (sameS a b)/\Bl w w':=by
 have q1:=hA.big
 have q2:=hB.big
 refine entr (vs:=[.slice pa a.length ca,.slice pb b.length cb]) [0,1,4,5,10,14,25] tabok Tryz.func23 (by kernel_rfl) ?_
 by_cases hl:a.length=b.length
 rotate_left
 ·refine brT ?_ (hp:=by omega)
  refine rt1 ⟨?_,Bl.refl _⟩
  unfold sameS
  rw [decide_eq_false fun e=>hl (by rw [e])]
 refine brF ?_ (hp:=by omega)
 refine lpk (vals:=[]) a.length 5 [] [(0,.slice pa a.length ca),(1,.slice pb b.length cb)] (fun k vals w'=>vals=[]/\(∀ i,i<k->a[i]? = b[i]?)/\Bl w w') ⟨rfl,fun i h=>by omega,Bl.refl _⟩ ?_
 rintro k vals w2 hk ⟨rfl,heq,B2⟩ ih
 by_cases hlt:k<a.length
 ·refine brT ?_
  obtain ⟨x,bx',ox,cs,hx,rfl,_,hAx,rfl⟩:=at_some hA hlt
  obtain ⟨y,by',oy,cs',hy,rfl,_,hAy,rfl⟩:=at_some hB (i:=k) (by omega)
  refine dh T (List.range 9) fun w3 k3 => ?_
  have B3:=B2.trans k3.bl
  refine ix ?_
  refine ld (hAx.bl B3 0 _ rfl) ?_ (hm:=trivial)
  refine ix ?_ (hb:=by omega)
  refine ld (hAy.bl B3 0 _ rfl) ?_ (hm:=trivial)
  by_cases hp:x=y
  ·refine brf ?_ (hp:=by simp [hp])
   refine ih hlt ⟨rfl,fun i hi => ?_,B3⟩
   rcases Nat.lt_or_ge i k with q | q
   ·exact heq i q
   ·obtain rfl:i=k:=by omega
    rw [hx,hy,hp]
  ·refine brt ?_ (hp:=by simp [hp])
   refine rt1 ⟨?_,B3⟩
   unfold sameS
   rw [decide_eq_false fun e=>hp (by rw [e,hy] at hx;exact (Option.some.inj hx).symm)]
 ·refine brF ?_
  obtain rfl:k=a.length:=by omega
  refine rt1 ⟨?_,B2⟩
  unfold sameS
  rw [decide_eq_true (List.ext_getElem? fun i => ?_)]
  rcases Nat.lt_or_ge i a.length with q | q
  ·exact heq i q
  ·rw [List.getElem?_eq_none q,List.getElem?_eq_none (by omega)]
end Go.Proofs.YtkmdfjpafkcleaaGreatDoor
