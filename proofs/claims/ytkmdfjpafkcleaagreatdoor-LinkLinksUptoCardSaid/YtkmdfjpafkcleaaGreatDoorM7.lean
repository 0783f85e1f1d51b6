import Derived.Test.YtkmdfjpafkcleaaGreatDoorM6
import Derived.Test.YtkmdfjpafkcleaaGreatDoorM5
import Derived.Test.YtkmdfjpafkcleaaGreatDoorM2
import Derived.Test.YtkmdfjpafkcleaaGreatDoorM3
import Derived.Test.YtkmdfjpafkcleaaGreatDoorShelf
import Derived.Sort.OwnSortedInts
import Derived.Lib.RowBridge
import Derived.Test.YtkmdfjpafkcleaaGreatDoorM1
import Derived.Test.YtkmdfjpafkcleaaGreatDoorM4
/- Walks: Link, the document: an instruction with the module's numbers. -/
namespace Go.Proofs.YtkmdfjpafkcleaaGreatDoor
open Eng Go.RowKit
variable {us:List Unt} {b:Nat} {w:World} {s:PgS}
theorem oper_c {D:Dcl} {u:Unt} {i:Ins} (ho:operL D u i=true) (h:i.op=14∨i.op=24):hasM D.classes (nm u i.a)=true:=by
 unfold operL at ho;rcases h with h | h <;> simpa [h] using ho
theorem oper_n {D:Dcl} {u:Unt} {i:Ins} (ho:operL D u i=true) (h:i.op=16):hasM D.classes (nm u i.b)=true:=by
 unfold operL at ho;simpa [h] using ho
theorem oper_0 {D:Dcl} {u:Unt} {i:Ins} (ho:operL D u i=true) (h:i.op=12) (h3:¬i.a=3):hasM D.classes (nm u i.b)=true:=by
 unfold operL at ho;simpa [h,h3] using ho
theorem oper_f {D:Dcl} {u:Unt} {i:Ins} (ho:operL D u i=true) (h:i.op=17∨i.op=18):(getM D.fields (nm u i.a)).getD false=true:=by
 unfold operL at ho;rcases h with h | h <;> simpa [h] using ho
theorem oper_s {D:Dcl} {u:Unt} {i:Ins} (ho:operL D u i=true) (h:i.op=22∨i.op=23):hasM D.statics (nm u i.a)=true:=by
 unfold operL at ho;rcases h with h | h <;> simpa [h] using ho
theorem oper_l {D:Dcl} {u:Unt} {i:Ins} (ho:operL D u i=true) (h:i.op=25):hasM D.calls (nm u i.a)=true:=by
 unfold operL at ho;simpa [h] using ho
theorem oper_d {D:Dcl} {u:Unt} {i:Ins} (ho:operL D u i=true) (h:i.op=26):hasM D.named (nm u i.a)=true:=by
 unfold operL at ho;simpa [h] using ho
theorem ord_at (R:RdP us s) {d:Nat×Nat} (hd:d∈clsW us):∃ k,s.ord[k]? = some d/\k<(clsW us).length:=by
 obtain ⟨k,hk⟩:=List.mem_iff_getElem?.1 (R.o.all d hd)
 exact ⟨k,hk,by rw [<-R.o.len];exact (List.getElem?_eq_some_iff.1 hk).1⟩
theorem RdP.sizes (R:RdP us s):(clsW us).length<=10/\(staW us).length<=10/\(mthW us).length<=16/\s.sel.length<=16/\s.ord.length<=10/\s.las.length<=16:=by
 have K:=runK_of R.k
 obtain ⟨g1,g2,g3,g4⟩:=big_of K
 have h1:=(oc_perm K).length_eq
 have h2:=(os_perm K).length_eq
 have h3:=(om_perm K).length_eq
 have h4:=congrArg List.length R.oc
 have h5:=congrArg List.length R.om
 have h6:=congrArg List.length R.sel
 rw [List.length_map] at h1 h2 h3 h4 h5
 omega
set_option maxHeartbeats 8000000 in
theorem r_operand (H:Pg us b s w) (R:RdP us s) {u:Unt} (hum:u∈us) {ua:UA} (hU:UnR T w u ua) {m:Mth} (hm:m∈u.methods) {i:Ins} (hi:i∈m.code) :
  Ret Tryz.prog 67 #[.pointer (some ⟨b,0,none⟩),.agg (ucells u ua).toArray,.agg (encIns i).toArray] w fun v w'=>v = .agg (encIns (instM us (ordsL us) u i)).toArray/\Bl w w':=by
 have K:=runK_of R.k
 have hC:=K.ck
 have hI:=ixs_of (hC u hum)
 have ho:=dfn_code K.df hum hm hi
 obtain ⟨sz1,sz2,sz3,sz4,sz5,sz6⟩:=R.sizes
 refine entr (vs:=[.pointer (some ⟨b,0,none⟩),.agg (ucells u ua).toArray,.agg (encIns i).toArray]) [0,1,2,4,5,6,7,8,10,13,14,18,26,36,45,81,94,112] tabok Tryz.func67 (by kernel_rfl) ?_
 refine bx (cs:=ucells u ua) fun b4 w0 k0 => ?_
 refine bx (cs:=encIns i) fun b5 w1 k1 => ?_
 refine al fun b6 w2 k2 => ?_
 have y0:=k0.blk
 have z0:=k0.size
 have y1:=k1.blk
 have z1:=k1.size
 have y2:=k2.blk
 have z2:=k2.size
 have x4:=Bl.box (k1.bl.trans k2.bl) k0.box
 have x5:=Bl.box k2.bl k1.box
 have x6:=k2.box
 have B2:=(k0.bl.trans k1.bl).trans k2.bl
 have H2:=H.bl B2
 have U2:=hU.bl B2
 refine ld (x5.cell rfl) ?_
 refine cut [] [(5,.pointer (some ⟨b5,0,none⟩)),(6,.pointer (some ⟨b6,0,none⟩))] (fun vals w'=>vals=[]/\Box w' b5 120 (encIns (instM us (ordsL us) u i))/\Box w' b6 120 [I 0,I 0,I 0]/\Bl w w') (fun go => ?_) ?_
 rotate_left
 ·rintro _ w3 ⟨rfl,x3,x33,B3⟩
  refine lda x3.at ?_
  refine sta (cs':=encIns (instM us (ordsL us) u i)) x33 (fun w4 k4 x4 => ?_)
  have l3:=x33.lt
  exact rtc (cs:=encIns (instM us (ordsL us) u i)) x4.at ⟨rfl,Below.trans B3 (k4.below (by omega))⟩
 have one:∀ {w' w4:World},Bl w2 w'->Wr w' b5 w4->Bl w w4/\Box w4 b6 120 [I 0,I 0,I 0]:=fun B k=>⟨Below.trans (B2.trans B) (k.below (by omega)),k.box (Bl.box B x6) (by omega)⟩
 by_cases h12:i.op=12
 ·refine brT ?_ (hp:=h12)
  refine ld (x5.cell rfl) ?_
  by_cases h3:i.a=3
  ·refine brF ?_ (hp:=by simp [h3])
   have e:instM us (ordsL us) u i=i:=by unfold instM;simp [h12,h3]
   exact go ⟨rfl,by rw [e];exact x5,x6,B2⟩
  refine brT ?_ (hp:=by simp [h3])
  refine lda x4.at ?_
  refine ld (x5.cell rfl) ?_
  refine cl (r_text U2 (hI.opb m hm i hi (.inr ⟨h12,h3⟩))) ?_
  rintro _ w3 ⟨rfl,B3⟩
  refine cl (r_number (H2.bl B3) R.cls hC _) ?_
  rintro _ w4 ⟨rfl,B4⟩
  have B24:=B3.trans B4
  refine stx (Bl.box B24 x5) (fun w5 k5 x55 => ?_) (ho:=by show 2<3;decide)
  obtain ⟨B5,g⟩:=one B24 k5
  have e:instM us (ordsL us) u i=⟨i.op,i.a,numF us s (nm u i.b)⟩:=by unfold instM;rw [num_is R (oper_0 ho h12 h3)];simp [h12,h3]
  exact go ⟨rfl,by rw [e];exact x55,g,B5⟩
 refine brF ?_ (hp:=h12)
 by_cases h14:i.op=14
 ·refine brT ?_ (hp:=h14)
  refine brT ?_ (hp:=h14)
  refine lda x4.at ?_
  refine ld (x5.cell rfl) ?_
  refine cl (r_text U2 (hI.opa m hm i hi (by simp [h14]))) ?_
  rintro _ w3 ⟨rfl,B3⟩
  refine cl (r_number (H2.bl B3) R.cls hC _) ?_
  rintro _ w4 ⟨rfl,B4⟩
  have B24:=B3.trans B4
  refine stx (Bl.box B24 x5) (fun w5 k5 x55 => ?_) (ho:=by show 1<3;decide)
  obtain ⟨B5,g⟩:=one B24 k5
  have e:instM us (ordsL us) u i=⟨i.op,numF us s (nm u i.a),i.b⟩:=by unfold instM;rw [num_is R (oper_c ho (.inl h14))];simp [h14]
  exact go ⟨rfl,by rw [e];exact x55,g,B5⟩
 refine brF ?_ (hp:=h14)
 by_cases h24:i.op=24
 ·refine brT ?_ (hp:=h24)
  refine lda x4.at ?_
  refine ld (x5.cell rfl) ?_
  refine cl (r_text U2 (hI.opa m hm i hi (by simp [h24]))) ?_
  rintro _ w3 ⟨rfl,B3⟩
  refine cl (r_number (H2.bl B3) R.cls hC _) ?_
  rintro _ w4 ⟨rfl,B4⟩
  have B24:=B3.trans B4
  refine stx (Bl.box B24 x5) (fun w5 k5 x55 => ?_) (ho:=by show 1<3;decide)
  obtain ⟨B5,g⟩:=one B24 k5
  have e:instM us (ordsL us) u i=⟨i.op,numF us s (nm u i.a),i.b⟩:=by unfold instM;rw [num_is R (oper_c ho (.inr h24))];simp [h24]
  exact go ⟨rfl,by rw [e];exact x55,g,B5⟩
 refine brF ?_ (hp:=h24)
 by_cases h16:i.op=16
 ·refine brT ?_ (hp:=h16)
  refine lda x4.at ?_
  refine ld (x5.cell rfl) ?_
  refine cl (r_text U2 (hI.opb m hm i hi (.inl h16))) ?_
  rintro _ w3 ⟨rfl,B3⟩
  refine cl (r_number (H2.bl B3) R.cls hC _) ?_
  rintro _ w4 ⟨rfl,B4⟩
  have B24:=B3.trans B4
  refine stx (Bl.box B24 x5) (fun w5 k5 x55 => ?_) (ho:=by show 2<3;decide)
  obtain ⟨B5,g⟩:=one B24 k5
  have e:instM us (ordsL us) u i=⟨i.op,i.a,numF us s (nm u i.b)⟩:=by unfold instM;rw [num_is R (oper_n ho h16)];simp [h16]
  exact go ⟨rfl,by rw [e];exact x55,g,B5⟩
 refine brF ?_ (hp:=h16)
 have fld:(h178:i.op=17∨i.op=18)->∃ d k u' c f,fldF us (nm u i.a)=some (d,k)/\clsAt us d=some (u',c)/\c.fields[k]? = some f/\instM us (ordsL us) u i=⟨i.op,(((layN us d).length-c.fields.length+k:Nat):Int),i.b⟩:=fun h178=>by
  obtain ⟨d,k,u',c,f,e1,e2,e3,e4,e5⟩:=fld_at (us:=us) (p:=nm u i.a) (by rw [fldF_has];exact oper_f ho h178)
  refine ⟨d,k,u',c,f,e1,e3,e4,?_⟩
  rw [fld_is R e3 e4,e5]
  unfold instM
  rcases h178 with h | h <;> simp [h]
 by_cases h178:i.op=17∨i.op=18
 ·have hin:inP u i.a:=hI.opa m hm i hi (by rcases h178 with h | h <;> simp [h])
  obtain ⟨d,k,u',c,f,e1,e3,e4,einst⟩:=fld h178
  obtain ⟨hu',hc'⟩:=clsAt_un e3
  have hW:=mem_clsW.2 ⟨_,e3⟩
  obtain ⟨j,hj,hjN⟩:=ord_at R hW
  obtain ⟨bs0,hsp⟩:=lay_split e3
  have hlen:(layN us d).length<=7:=by
   have h7:=lay_7 K (p:=pthC us d) (by rw [<-R.oc];exact List.mem_map.2 ⟨d,R.o.all d hW,rfl⟩)
   rw [lay_is K.good K.df hW,List.length_map] at h7;exact h7
  have hkc:k<c.fields.length:=(List.getElem?_eq_some_iff.1 e4).1
  have hcl:c.fields.length<=(layN us d).length:=by rw [hsp,List.length_append,List.length_map];omega
  have ew:IntKind.i64.wrap (IntKind.i64.wrap (((layN us d).length:Int)-(c.fields.length:Int))+(k:Int))=(((layN us d).length-c.fields.length+k:Nat):Int):=by
   rw [wrap_fit (a:=((layN us d).length:Int)-(c.fields.length:Int)) (by omega) (by omega),wrap_fit (by omega) (by omega)];omega
  by_cases h17:i.op=17
  ·refine brT ?_ (hp:=h17)
   refine brT ?_ (hp:=h17)
   refine lda x4.at ?_
   refine ld (x5.cell rfl) ?_
   refine cl (r_text U2 hin) ?_
   rintro _ w3 ⟨rfl,B3⟩
   refine cl (r_field (H2.bl B3) R.cls hC _) ?_
   rintro _ w4 ⟨rfl,B4⟩
   rw [e1,show fldV (some (d,k)) = .tuple #[.agg (encWh d).toArray,I k,.bool true] from rfl]
   refine al fun b7 w5 k5 => ?_
   have y5:=k5.blk
   refine sta (cs':=encWh d) k5.box fun w6 k6 x7 => ?_
   have B26:=(B3.trans B4).trans (Below.trans k5.bl (k6.below (by omega)))
   obtain ⟨bu,ou,cu,rest,cs,ua',hx,hAt,rfl,hU',hlt⟩:=((H2.bl B26).u.at hu').ex
   obtain ⟨bc,oc,cs,e2,_,hAtc,af,cf,rfl,hF⟩:=hU'.cls.el d.2 c hc'
   have hkl:d.2<u'.classes.length:=(List.getElem?_eq_some_iff.1 hc').1
   refine dht 2 T [0,1,4,5,6,7,8,9,10,11,12,13,14,15,16,17,18,20,2,3,19,21] fun w7 k7 => ?_
   refine lda (k7.box x7).at ?_ (hm:=trivial)
   refine ld ((k7.box hx).cell rfl) ?_ (hm:=trivial)
   refine ld ((k7.box x7).cell rfl) ?_ (hm:=trivial)
   refine ix ?_
   refine ld (hAt.bl k7.bl 2 _ rfl) ?_ (hm:=trivial)
   refine ld ((k7.box x7).cell rfl) ?_ (hm:=trivial)
   rw [e2]
   refine ix ?_
   refine ld (hAtc.bl k7.bl 2 _ rfl) ?_ (hm:=trivial)
   have B27:=B26.trans k7.bl
   refine cl (r_layout hC R.o j d hj (clsW us).length hjN (by omega) (H2.bl B27) R.cls) ?_ (hm:=fun _ _ r=>by obtain ⟨_,_,_,_,hB⟩:=r;exact mdW_bl hB)
   rintro _ w8 ⟨a,c',rfl,C8,B8⟩
   have B28:=B27.trans B8
   refine stx (Bl.box B28 x5) (fun w9 k9 x9 => ?_) (ho:=by show 1<3;decide)
   obtain ⟨B9,g⟩:=one B28 k9
   refine go ⟨rfl,?_,g,B9⟩
   rw [einst,<-ew];exact x9
  have h18:i.op=18:=by omega
  refine brF ?_ (hp:=h17)
  refine brT ?_ (hp:=h18)
  refine lda x4.at ?_
  refine ld (x5.cell rfl) ?_
  refine cl (r_text U2 hin) ?_
  rintro _ w3 ⟨rfl,B3⟩
  refine cl (r_field (H2.bl B3) R.cls hC _) ?_
  rintro _ w4 ⟨rfl,B4⟩
  rw [e1,show fldV (some (d,k)) = .tuple #[.agg (encWh d).toArray,I k,.bool true] from rfl]
  refine al fun b7 w5 k5 => ?_
  have y5:=k5.blk
  refine sta (cs':=encWh d) k5.box fun w6 k6 x7 => ?_
  have B26:=(B3.trans B4).trans (Below.trans k5.bl (k6.below (by omega)))
  obtain ⟨bu,ou,cu,rest,cs,ua',hx,hAt,rfl,hU',hlt⟩:=((H2.bl B26).u.at hu').ex
  obtain ⟨bc,oc,cs,e2,_,hAtc,af,cf,rfl,hF⟩:=hU'.cls.el d.2 c hc'
  have hkl:d.2<u'.classes.length:=(List.getElem?_eq_some_iff.1 hc').1
  refine dht 2 T [0,1,4,5,6,7,8,9,10,11,12,13,14,15,16,17,18,20,2,3,19,21] fun w7 k7 => ?_
  refine lda (k7.box x7).at ?_ (hm:=trivial)
  refine ld ((k7.box hx).cell rfl) ?_ (hm:=trivial)
  refine ld ((k7.box x7).cell rfl) ?_ (hm:=trivial)
  refine ix ?_
  refine ld (hAt.bl k7.bl 2 _ rfl) ?_ (hm:=trivial)
  refine ld ((k7.box x7).cell rfl) ?_ (hm:=trivial)
  rw [e2]
  refine ix ?_
  refine ld (hAtc.bl k7.bl 2 _ rfl) ?_ (hm:=trivial)
  have B27:=B26.trans k7.bl
  refine cl (r_layout hC R.o j d hj (clsW us).length hjN (by omega) (H2.bl B27) R.cls) ?_ (hm:=fun _ _ r=>by obtain ⟨_,_,_,_,hB⟩:=r;exact mdW_bl hB)
  rintro _ w8 ⟨a,c',rfl,C8,B8⟩
  have B28:=B27.trans B8
  refine stx (Bl.box B28 x5) (fun w9 k9 x9 => ?_) (ho:=by show 1<3;decide)
  obtain ⟨B9,g⟩:=one B28 k9
  refine go ⟨rfl,?_,g,B9⟩
  rw [einst,<-ew];exact x9
 have h17:¬i.op=17:=fun q=>h178 (.inl q)
 have h18:¬i.op=18:=fun q=>h178 (.inr q)
 refine brF ?_ (hp:=h17)
 refine brF ?_ (hp:=h18)
 by_cases h22:i.op=22
 ·refine brT ?_ (hp:=h22)
  refine brT ?_ (hp:=h22)
  refine lda x4.at ?_
  refine ld (x5.cell rfl) ?_
  refine cl (r_text U2 (hI.opa m hm i hi (by simp [h22]))) ?_
  rintro _ w3 ⟨rfl,B3⟩
  refine cl (r_static (H2.bl B3) R.sta hC _) ?_
  rintro _ w4 ⟨rfl,B4⟩
  have B24:=B3.trans B4
  refine stx (Bl.box B24 x5) (fun w5 k5 x55 => ?_) (ho:=by show 1<3;decide)
  obtain ⟨B5,g⟩:=one B24 k5
  have e:instM us (ordsL us) u i=⟨i.op,(staN us (nm u i.a) (staW us):Int),i.b⟩:=by unfold instM;rw [sta_is K (oper_s ho (.inl h22))];simp [h22]
  exact go ⟨rfl,by rw [e];exact x55,g,B5⟩
 refine brF ?_ (hp:=h22)
 by_cases h23:i.op=23
 ·refine brT ?_ (hp:=h23)
  refine lda x4.at ?_
  refine ld (x5.cell rfl) ?_
  refine cl (r_text U2 (hI.opa m hm i hi (by simp [h23]))) ?_
  rintro _ w3 ⟨rfl,B3⟩
  refine cl (r_static (H2.bl B3) R.sta hC _) ?_
  rintro _ w4 ⟨rfl,B4⟩
  have B24:=B3.trans B4
  refine stx (Bl.box B24 x5) (fun w5 k5 x55 => ?_) (ho:=by show 1<3;decide)
  obtain ⟨B5,g⟩:=one B24 k5
  have e:instM us (ordsL us) u i=⟨i.op,(staN us (nm u i.a) (staW us):Int),i.b⟩:=by unfold instM;rw [sta_is K (oper_s ho (.inr h23))];simp [h23]
  exact go ⟨rfl,by rw [e];exact x55,g,B5⟩
 refine brF ?_ (hp:=h23)
 by_cases h25:i.op=25
 ·refine brT ?_ (hp:=h25)
  refine lda x4.at ?_
  refine ld (x5.cell rfl) ?_
  refine cl (r_text U2 (hI.opa m hm i hi (by simp [h25]))) ?_
  rintro _ w3 ⟨rfl,B3⟩
  refine cl (r_called (H2.bl B3) R.mth hC _) ?_
  rintro _ w4 ⟨rfl,B4⟩
  refine al fun b7 w5 k5 => ?_
  have y5:=k5.blk
  refine sta (cs':=encWh ((calF us (nm u i.a)).getD (0,0))) k5.box fun w6 k6 x7 => ?_
  have B26:=(B3.trans B4).trans (Below.trans k5.bl (k6.below (by omega)))
  refine dht 2 T [0,1,2,3,4,5] fun w7 k7 => ?_
  have B27:=B26.trans k7.bl
  obtain ⟨au,cu,ac,cc,as',cs,am,cm,ao,co,al',cl',az,cz,hx,h1,h2,h3,h4,h5,h6,h7,h8⟩:=H2.bl B27
  refine ld (hx.cell rfl) ?_ (hm:=trivial)
  refine lda (k7.box x7).at ?_ (hm:=trivial)
  refine cl (r_placed h6 _) ?_
  rintro _ w8 ⟨rfl,B8⟩
  have B28:=B27.trans B8
  refine stx (Bl.box B28 x5) (fun w9 k9 x55 => ?_) (ho:=by show 1<3;decide)
  obtain ⟨B9,g⟩:=one B28 k9
  have e:instM us (ordsL us) u i=⟨i.op,plcW s.las 0 ((calF us (nm u i.a)).getD (0,0)),i.b⟩:=by unfold instM;rw [cal_is R (oper_l ho h25)];simp [h25]
  exact go ⟨rfl,by rw [e];exact x55,g,B9⟩
 refine brF ?_ (hp:=h25)
 by_cases h26:i.op=26
 ·refine brT ?_ (hp:=h26)
  refine lda x4.at ?_
  refine ld (x5.cell rfl) ?_
  refine cl (r_text U2 (hI.opa m hm i hi (by simp [h26]))) ?_
  rintro _ w3 ⟨rfl,B3⟩
  refine cl (r_selBelow (H2.bl B3) _ (by omega)) ?_
  rintro _ w4 ⟨⟨a',c',rfl⟩,B4⟩
  have B24:=B3.trans B4
  refine stx (Bl.box B24 x5) (fun w5 k5 x55 => ?_) (ho:=by show 1<3;decide)
  obtain ⟨B5,g⟩:=one B24 k5
  have e:instM us (ordsL us) u i=⟨i.op,(atS s.sel (nm u i.a):Int),i.b⟩:=by unfold instM;rw [snd_is R (oper_d ho h26)];simp [h26]
  exact go ⟨rfl,by rw [e];exact x55,g,B5⟩
 refine brF ?_ (hp:=h26)
 have e:instM us (ordsL us) u i=i:=by unfold instM;simp [h12,h14,h24,h16,h17,h18,h22,h23,h25,h26]
 exact go ⟨rfl,by rw [e];exact x5,x6,B2⟩
end Go.Proofs.YtkmdfjpafkcleaaGreatDoor
namespace Go.Proofs.YtkmdfjpafkcleaaGreatDoor
open Eng Go.RowKit
variable {us:List Unt} {b:Nat} {w:World} {s:PgS}
abbrev tblV (us:List Unt) (p z:ByteArray):Int:=nearM us (decl us) (ordsL us).om ((keysM (decl us).classes).length+1) p z
theorem near_nost (om:List ByteArray) (z:ByteArray):∀ n,nearM us (decl us) om n nost z = -1
 | 0=>rfl
 | n+1=>by simp [nearM]
theorem oc_get (R:RdP us s) {j:Nat} {e:Nat×Nat} (h:s.ord[j]? = some e):(ordsL us).oc[j]? = some (pthC us e):=by rw [<-R.oc,List.getElem?_map,h];rfl
theorem near_step (R:RdP us s) {j:Nat} {e:Nat×Nat} {u:Unt} {c:Cls} (ha:clsAt us e=some (u,c)) {z:ByteArray} (hz:z∈(ordsL us).oz) :
  nearM us (decl us) (ordsL us).om (j+1) (pthC us e) z=if 0<=fndM us z (pthC us e) s.las then fndM us z (pthC us e) s.las else nearM us (decl us) (ordsL us).om j (supF u c) z:=by
 have K:=runK_of R.k
 simp only [nearM]
 rw [if_neg (cls_dotW ha),fndM_is R (mem_clsW.2 ⟨_,ha⟩) hz,supL_at K.good ha]
set_option maxHeartbeats 16000000 in
theorem r_table (H:Pg us b s w) (R:RdP us s) {d:Nat×Nat} (hd:d∈clsW us) :
  Ret Tryz.prog 57 #[.pointer (some ⟨b,0,none⟩),.agg (encWh d).toArray] w fun v w'=>∃ a c,v = .slice a ((ordsL us).oz.map (tblV us (pthC us d))).length c/\OwP 1 encInt w' w.heap.size 3 a c ((ordsL us).oz.map (tblV us (pthC us d)))/\Bl w w':=by
 have K:=runK_of R.k
 have hC:=K.ck
 obtain ⟨sz1,sz2,sz3,sz4,sz5,sz6⟩:=R.sizes
 rw [R.sel] at sz4
 refine entr (vs:=[.pointer (some ⟨b,0,none⟩),.agg (encWh d).toArray]) [0,1,3,4,5,6,7,8,9,10,11,12,13,20,28,35,69,78] tabok Tryz.func57 (by kernel_rfl) ?_
 refine bx (cs:=encWh d) fun b3 w1 k1 => ?_
 have z1:=k1.size
 have H1:=H.bl k1.bl
 refine lpk (vals:=[.slice none 0 0]) (ordsL us).oz.length 6 [5] [(0,.pointer (some ⟨b,0,none⟩)),(3,.pointer (some ⟨b3,0,none⟩))]
  (fun k vals w'=>∃ a c,vals=[.slice a (((ordsL us).oz.take k).map (tblV us (pthC us d))).length c]/\OwP 1 encInt w' w1.heap.size 3 a c (((ordsL us).oz.take k).map (tblV us (pthC us d)))/\Bl w1 w') ⟨none,0,rfl,Ow.nil ..,Bl.refl _⟩ ?_
 rintro k vals w2 hk ⟨a2,c2,rfl,O2,B2⟩ ih
 have H2:=H1.bl B2
 obtain ⟨au,cu,ac,cc,as',cs,am,cm,ao,co,al',cl',az,cz,hx,h1,h2,h3,h4,h5,h6,h7,h8⟩:=H2
 rw [R.sel] at hx h7
 refine ld (hx.cell rfl) ?_
 by_cases hlt:k<(ordsL us).oz.length
 rotate_left
 ·refine brF ?_
  obtain rfl:k=(ordsL us).oz.length:=by omega
  rw [List.take_length] at O2 ⊢
  exact rt1 ⟨a2,c2,rfl,O2.base (by omega),k1.bl.trans B2⟩
 refine brT ?_
 obtain ⟨z,bz,oz,cs1,hz,rfl,_,hAz0,rfl⟩:=at_some h7 hlt
 have hzm:=List.mem_of_getElem? hz
 have e1:((ordsL us).oz.take (k+1)).map (tblV us (pthC us d))=((ordsL us).oz.take k).map (tblV us (pthC us d))++[tblV us (pthC us d) z]:=map_snoc hz
 have hl0:(((ordsL us).oz.take k).map (tblV us (pthC us d))).length<=16:=by rw [List.length_map,List.length_take];omega
 generalize hLL:((ordsL us).oz.take k).map (tblV us (pthC us d))=L at *
 obtain ⟨j0,hj0,hj0N⟩:=ord_at R hd
 have eV0:tblV us (pthC us d) z=nearM us (decl us) (ordsL us).om (j0+1) (pthC us d) z:=near_fuel K _ z _ _ j0 _ (oc_get R hj0) (by rw [keysC_len K.good];omega) (by omega)
 generalize hV:tblV us (pthC us d) z=V at *
 refine lda (Bl.box B2 k1.box).at ?_
 refine al fun b8 w3 k3 => ?_
 have y3:=k3.blk
 refine sta (cs':=encWh d) k3.box fun w4 k4 x8 => ?_
 have B24:Bl w2 w4:=Below.trans k3.bl (k4.below (by omega))
 have l8:=x8.lt
 have toBl:∀ {w'},OnB w4 b8 w'->Bl w2 w':=fun h=>h.toBl B24 (by omega)
 refine lp (vals:=[I (-1),.bool true]) (m:=j0+1) [7,9] [(0,.pointer (some ⟨b,0,none⟩)),(3,.pointer (some ⟨b3,0,none⟩)),(5,.slice a2 L.length c2),(6,I k),(8,.pointer (some ⟨b8,0,none⟩))]
  (fun m vals w'=>∃ (e:Nat×Nat) (found:Int) (has:Bool),vals=[I found,.bool has]/\Box w' b8 tWh (encWh e)/\OnB w4 b8 w'/\((has=true/\found = -1/\∃ j,s.ord[j]? = some e/\m=j+1/\V=nearM us (decl us) (ordsL us).om (j+1) (pthC us e) z)∨((has=false∨0<=found)/\found=V)))
  ⟨rfl,rfl,rfl,rfl,rfl,trivial⟩ ⟨d,-1,true,rfl,x8,OnB.refl l8,.inl ⟨rfl,rfl,j0,hj0,rfl,eV0⟩⟩ ?_
 rintro m vals w5 ⟨e,found,has,rfl,x5,U5,hcase⟩ ih2
 rcases hcase with ⟨rfl,rfl,j,hj,rfl,hVj⟩ | ⟨hstop,rfl⟩
 rotate_left
 ·refine brf ?_ (hp:=by
   rcases hstop with h | h
   ·simp [h]
   ·simp;omega)
  have B5:=toBl U5
  refine bs (cs:=encInt found) fun b6 w6 k6 => ?_
  have B6:=B5.trans k6.bl
  have B16:=B2.trans B6
  refine apl (l1:=[found]) (O2.bl B6) (.inr ⟨b6,0,rfl,k6.box.at⟩) B16.size (fun a7 c7 w7 O7 A7 _ => ?_) (hb:=by simp only [List.length_cons,List.length_nil];omega) (hn:=by simp only [List.length_cons,List.length_nil];omega)
  exact ih hlt ⟨a7,c7,by rw [e1],by rw [e1];exact O7,Eng.Ow.below (O2.bl B6) A7 B16 B16.size⟩
 refine brt ?_ (hp:=by simp)
 obtain ⟨⟨u,c⟩,ha⟩:=mem_clsW.1 (R.o.sub e (List.mem_of_getElem? hj))
 obtain ⟨hu,hc⟩:=clsAt_un ha
 have B25:=toBl U5
 have X5:=Bl.box B25 hx
 have g6:=h6.bl B25
 refine lpk (vals:=[I (-1)]) s.las.length 10 [7] [(0,.pointer (some ⟨b,0,none⟩)),(3,.pointer (some ⟨b3,0,none⟩)),(5,.slice a2 L.length c2),(6,I k),(8,.pointer (some ⟨b8,0,none⟩))]
  (fun i vals w'=>vals=[I (fndM us z (pthC us e) (s.las.take i))]/\Bl w5 w') ⟨rfl,Bl.refl _⟩ ?_
 rintro i vals w6 hi ⟨rfl,B6⟩ ih3
 have B26:=B25.trans B6
 have X6:=Bl.box B6 X5
 have H6:=(H1.bl B2).bl B26
 have x86:=Bl.box B6 x5
 refine ld (X6.cell rfl) ?_
 by_cases hlti:i<s.las.length
 ·refine brT ?_
  refine ld (X6.cell rfl) ?_
  obtain ⟨x,bx',ox,cs2,hxi,rfl,_,hAx,rfl⟩:=at_some (g6.bl B6) hlti
  obtain ⟨⟨v,n⟩,hm⟩:=mem_mthW.1 (R.ls x (List.mem_of_getElem? hxi))
  obtain ⟨hv,hn⟩:=mthAt_un hm
  have hIv:=ixs_of (hC v (List.mem_of_getElem? hv))
  have efs:=fndM_snoc (us:=us) (z:=z) (q:=pthC us e) hxi
  refine ix ?_
  refine lda hAx ?_
  refine al fun b11 w7 k7 => ?_
  have y7:=k7.blk
  refine sta (cs':=encWh x) k7.box fun w8 k8 x11 => ?_
  have B68:Bl w6 w8:=Below.trans k7.bl (k8.below (by omega))
  refine dh T [0,1,2,3,4,5,7,8,9,10,11,12,13,6,14,15,16,17,18,20,21,19,22,23,24] fun w9 k9 => ?_
  have B69:=B68.trans k9.bl
  have B29:=B26.trans B69
  have H9:=H6.bl B69
  have x119:=k9.box x11
  refine lda x119.at ?_ (hm:=trivial)
  refine cl (r_sent H9.u hC hm) ?_
  rintro _ w10 ⟨rfl,B10⟩
  have B610:=B69.trans B10
  have H10:=H9.bl B10
  have no:hitM us z (pthC us e) x=false->fndM us z (pthC us e) (s.las.take (i+1))=fndM us z (pthC us e) (s.las.take i):=fun h=>by rw [efs,h,if_neg (by decide)]
  by_cases hs0:0<=n.cls
  rotate_left
  ·have es:sentB us x=false:=by rw [sentB_at hm,decide_eq_false hs0]
   have hh:hitM us z (pthC us e) x=false:=by unfold hitM;rw [es];rfl
   rw [es]
   refine spn (.agg #[I 0,I 0]) ?_
   refine spn (.slice none 0 0) ?_
   refine spn (.pointer none) ?_
   refine spn (.string ⟨#[]⟩) ?_
   refine spn (.string ⟨#[]⟩) ?_
   refine spn (.agg #[I 0,I 0]) ?_
   refine spn (.agg #[I 0,I 0]) ?_
   refine spn (.string ⟨#[]⟩) ?_
   refine spn (.string ⟨#[]⟩) ?_
   refine brf ?_ (hp:=by rfl)
   exact ih3 hlti ⟨by rw [no hh],B6.trans B610⟩
  have es:sentB us x=true:=by rw [sentB_at hm,decide_eq_true hs0]
  rw [es]
  refine spt (.agg #[I 0,I 0]) ?_
  refine lda (Bl.box B10 x119).at ?_ (hm:=trivial)
  refine spt (.slice none 0 0) ?_
  refine ld ((Bl.box B610 X6).cell rfl) ?_ (hm:=trivial)
  refine spt (.pointer none) ?_
  refine ix ?_
  refine spt (.string ⟨#[]⟩) ?_
  refine ld (hAz0.bl (B29.trans B10) 0 _ rfl) ?_ (hm:=trivial)
  refine spt (.string ⟨#[]⟩) ?_
  refine cl (r_mname H10.u hC hm) ?_
  rintro _ w11 ⟨rfl,B11⟩
  have B611:=B610.trans B11
  by_cases hname:nm v n.name=z
  rotate_left
  ·have hh:hitM us z (pthC us e) x=false:=by unfold hitM;rw [mnm_at hm];simp [hname]
   refine spn (.agg #[I 0,I 0]) ?_ (hb:=by simp [hname])
   refine spn (.agg #[I 0,I 0]) ?_ (hb:=by simp [hname])
   refine spn (.string ⟨#[]⟩) ?_ (hb:=by simp [hname])
   refine spn (.string ⟨#[]⟩) ?_ (hb:=by simp [hname])
   refine brf ?_ (hp:=by simp [hname])
   exact ih3 hlti ⟨by rw [no hh],B6.trans B611⟩
  refine spt (.agg #[I 0,I 0]) ?_ (hb:=by simp [hname])
  refine lda (Bl.box (B10.trans B11) x119).at ?_ (hm:=trivial)
  refine spt (.agg #[I 0,I 0]) ?_ (hb:=by simp)
  refine lda (Bl.box B611 x86).at ?_ (hm:=trivial)
  refine spt (.string ⟨#[]⟩) ?_ (hb:=by simp)
  refine cl (r_mclass (H10.bl B11).u hC hm ((hIv.plc.mc n (List.mem_of_getElem? hn)).resolve_left fun q=>by omega)) ?_
  rintro _ w12 ⟨rfl,B12⟩
  refine spt (.string ⟨#[]⟩) ?_ (hb:=by simp)
  refine cl (r_cpath ((H10.bl B11).bl B12).u hC ha) ?_
  rintro _ w13 ⟨rfl,B13⟩
  have B613:=(B611.trans B12).trans B13
  by_cases hq:nm v n.cls=pthC us e
  ·have hh:hitM us z (pthC us e) x=true:=by unfold hitM;rw [mnm_at hm,mclD_at hm,es];simp [hname,hq]
   refine brt ?_ (hp:=by simp [hq])
   exact ih3 hlti ⟨by rw [efs,hh,if_pos rfl],B6.trans B613⟩
  ·have hh:hitM us z (pthC us e) x=false:=by unfold hitM;rw [mclD_at hm];simp [hq]
   refine brf ?_ (hp:=by simp [hq])
   exact ih3 hlti ⟨by rw [no hh],B6.trans B613⟩
 refine brF ?_
 obtain rfl:i=s.las.length:=by omega
 rw [List.take_length]
 have hst:=near_step R (j:=j) ha hzm
 rw [<-hVj] at hst
 have hge:=fndM_ge (us:=us) z (pthC us e) s.las
 refine lda x86.at ?_
 refine cl (r_super H6.u hC ha) ?_
 rintro _ w7 ⟨rfl,B7⟩
 have U7:=(U5.bl B6).bl B7
 by_cases h0:0<=c.super
 ·have h0':¬c.super<0:=by omega
  have hsu:supF u c=nm u c.super:=by unfold supF;rw [if_neg h0']
  obtain ⟨j',e',hjj,hje,hfe⟩:=R.o.up j e u c hj ha h0'
  obtain ⟨q1,q2⟩:=get_cls_at K.good (by rw [<-clsF_get K.good];exact hfe)
  refine brt ?_ (hp:=by simp [h0])
  refine cl (r_class (H6.bl B7) R.cls hC _) ?_
  rintro _ w8 ⟨rfl,B8⟩
  rw [hsu,hfe]
  refine sta (cs':=encWh e') (Bl.box (B7.trans B8) x86) fun w9 k9 x9 => ?_
  have U9:=(U7.bl B8).wr k9
  by_cases hF:0<=fndM us z (pthC us e) s.las
  ·rw [if_pos hF] at hst
   exact again (ih2 0 _ _ _ (by omega) ⟨rfl,rfl,rfl,rfl,rfl,trivial⟩ rfl ⟨e',_,_,rfl,x9,U9,.inr ⟨.inr hF,hst.symm⟩⟩)
  ·rw [if_neg hF,hsu,<-q2] at hst
   have hF1:fndM us z (pthC us e) s.las = -1:=by omega
   have eV:=near_fuel K (ordsL us).om z j (j'+1) j' (pthC us e') (oc_get R hje) hjj (by omega)
   rw [eV] at hst
   exact again (ih2 (j'+1) _ _ _ (by omega) ⟨rfl,rfl,rfl,rfl,rfl,trivial⟩ rfl ⟨e',_,_,rfl,x9,U9,.inl ⟨decide_eq_true h0,hF1,j',hje,rfl,hst⟩⟩)
 ·have hsu:supF u c=nost:=by unfold supF;rw [if_pos (by omega)]
  refine brf ?_ (hp:=by simp [h0])
  have hVF:fndM us z (pthC us e) s.las=V:=by
   by_cases hF:0<=fndM us z (pthC us e) s.las
   ·rw [if_pos hF] at hst;exact hst.symm
   ·rw [if_neg hF,hsu,near_nost] at hst;omega
  exact again (ih2 0 _ _ _ (by omega) ⟨rfl,rfl,rfl,rfl,rfl,trivial⟩ rfl ⟨e,_,_,rfl,Bl.box B7 x86,U7,.inr ⟨.inl (decide_eq_false h0),hVF⟩⟩)
end Go.Proofs.YtkmdfjpafkcleaaGreatDoor
namespace Go.Proofs.YtkmdfjpafkcleaaGreatDoor
open Eng Go.RowKit Go.Sort
theorem compactI_at {zs:List Int} {x:Int}:x∈Lib.compact zs↔∃ j,j<zs.length/\Lib.keeps zs.toArray j=true/\zs.getD j 0=x:=by
 unfold Lib.compact Lib.compactUpTo
 simp only [List.mem_map,List.mem_filter,List.mem_range]
 constructor
 ·rintro ⟨j,⟨h1,h2⟩,h3⟩
  exact ⟨j,h1,h2,by simpa [h1] using h3⟩
 ·rintro ⟨j,h1,h2,h3⟩
  exact ⟨j,⟨h1,h2⟩,by simpa [h1] using h3⟩
theorem keepsI_iff {zs:List Int} {j:Nat} (h:j<zs.length):Lib.keeps zs.toArray j=true↔j=0∨zs.getD (j-1) 0≠zs.getD j 0:=by
 unfold Lib.keeps
 rw [decide_eq_true_eq]
 constructor
 ·rintro (h0 | h1)
  ·exact .inl h0
  ·refine .inr fun e => ?_
   simp [h,show j-1<zs.length by omega] at h1 e
   exact h1 e.symm
 ·rintro (h0 | h1)
  ·exact .inl h0
  ·refine .inr ?_
   simp [h,show j-1<zs.length by omega] at h1 ⊢
   exact fun e=>h1 e.symm
theorem compactI_mem {zs:List Int} {x:Int}:x∈Lib.compact zs↔x∈zs:=by
 rw [compactI_at]
 constructor
 ·rintro ⟨j,h1,_,rfl⟩
  simp [h1]
 ·intro hx
  obtain ⟨i,hi,rfl⟩:=List.getElem_of_mem hx
  have key:∀ n,n<zs.length->∃ j,j<zs.length/\Lib.keeps zs.toArray j=true/\zs.getD j 0=zs.getD n 0:=by
   intro n
   induction n with
   | zero=>intro h;exact ⟨0,h,(keepsI_iff h).2 (.inl rfl),rfl⟩
   | succ n ih =>
    intro h
    by_cases e:zs.getD n 0=zs.getD (n+1) 0
    ·obtain ⟨j,h1,h2,h3⟩:=ih (by omega)
     exact ⟨j,h1,h2,h3.trans e⟩
    ·exact ⟨n+1,h,(keepsI_iff h).2 (.inr (by simpa using e)),rfl⟩
  obtain ⟨j,h1,h2,h3⟩:=key i hi
  exact ⟨j,h1,h2,by rw [h3];simp [hi]⟩
theorem compactI_lt {zs:List Int} (hs:zs.Pairwise (· <= ·)):AscI (Lib.compact zs):=by
 have hp:∀ i j,i<=j->j<zs.length->zs.getD i 0<=zs.getD j 0:=fun i j hij hj=>by
  rcases Nat.eq_or_lt_of_le hij with rfl | h
  ·exact Int.le_refl _
  ·have:=List.pairwise_iff_getElem.1 hs i j (by omega) hj h
   simpa [hj,show i<zs.length by omega] using this
 unfold AscI Lib.compact Lib.compactUpTo
 rw [List.pairwise_map]
 have hr:((List.range zs.toArray.size).filter (Lib.keeps zs.toArray)).Pairwise (· < ·):=List.pairwise_lt_range.filter _
 refine List.Pairwise.imp_of_mem (fun {i j} hi hj hij => ?_) hr
 simp only [List.mem_filter,List.mem_range] at hi hj
 have h1:=hp i (j-1) (by omega) (by omega)
 have h2:=hp (j-1) j (by omega) hj.1
 have h3:zs.getD (j-1) 0≠zs.getD j 0:=by
  rcases (keepsI_iff hj.1).1 hj.2 with q | q
  ·omega
  ·exact q
 have h5:zs.getD i 0<zs.getD j 0:=by omega
 simpa [hi.1,hj.1] using h5
def sortI (l:List Int):List Int:=l.mergeSort fun x y=>decide (x<=y)
theorem sortI_le (l:List Int):(sortI l).Pairwise (· <= ·):=by
 have:=List.pairwise_mergeSort (le:=fun x y:Int=>decide (x<=y)) (fun a b c h1 h2=>by simp at *;omega) (fun a b=>by simp;omega) l
 exact this.imp fun h=>of_decide_eq_true h
theorem compactI_srt (l:List Int):Lib.compact (sortI l)=srtI l:=srtI_of (compactI_lt (sortI_le l)) fun x=>by rw [compactI_mem];exact List.mem_mergeSort
theorem encI_map (l:List Int):l.flatMap encInt=l.map (Value.int .i64):=by
 induction l with
 | nil=>rfl
 | cons x l ih=>rw [List.flatMap_cons,ih];rfl
theorem ap_grownI {w w':World} {g:Nat} (h:w.grownBy w' (some g)):Ap w (some ⟨g,0,none⟩) w':=by
 obtain ⟨q1,q2,q3,q4,q5⟩:=h
 first
  | exact ⟨q1,q2,q3,q4,fun k hk hne=>q5 k hk fun e=>hne (by cases e;rfl)⟩
  | exact ⟨q1,q3,q2,q4,fun k hk hne=>q5 k hk fun e=>hne (by cases e;rfl)⟩
theorem c_SortI (l:List Int) (base:Nat) (a:Option Addr) (cap:Nat) (w:World) (hO:OwP 1 encInt w base 3 a cap l) (hl:l.length<=4194304) :
  Ret Tryz.prog 134 #[.slice a l.length cap] w fun _ w'=>OwP 1 encInt w' base 3 a cap (sortI l)/\Ap w a w':=by
 have hsl:(sortI l).length=l.length:=by unfold sortI;rw [List.length_mergeSort]
 refine ⟨by kernel_rfl,?_⟩
 unfold OwP at hO ⊢
 rw [encI_map] at hO ⊢
 obtain ⟨_,h2⟩:=hO.own
 rcases h2 with ⟨h3,h4⟩ | ⟨g,cap',cur,h2,hg,hgb,r1,r2,r3,r4⟩
 ·simp only [Value.slice.injEq] at h3
  obtain ⟨rfl,h0,rfl⟩:=h3
  have:l=[]:=List.eq_nil_of_length_eq_zero h0
  subst this
  refine (Tryz.slices_Sort_int_none none 0 w).mono ?_
  rintro e w' ⟨rfl,rfl⟩
  have e0:sortI ([]:List Int)=[]:=by simp [sortI]
  rw [e0]
  exact ⟨Ow.nil ..,⟨rfl,rfl,rfl,Nat.le_refl _,fun _ _ _=>rfl⟩⟩
 ·simp only [Value.slice.injEq] at h2
  obtain ⟨rfl,_,rfl⟩:=h2
  have hH:Holds (Value.int .i64) w g 0 l.toArray:=holds_of_blockI hgb (by simpa using r4)
  refine (Tryz.slices_Sort_int g 0 cap l w hH (Array.getElem?_eq_some_iff.1 hgb).1 (by omega)).mono ?_
  rintro e w' ⟨rfl,n,os,rfl⟩
  refine ⟨⟨?_⟩,ap_grownI (grownBy_sortedI _)⟩
  have:=ownsRow_sortedI (ss:=l) (ts:=sortI l) (os:=os) (n:=n) hsl hg hgb r1 r2 r3
  rw [hsl]
  exact this
theorem c_CompactI (zs:List Int) (base:Nat) (a:Option Addr) (cap:Nat) (w:World) (hO:OwP 1 encInt w base 3 a cap zs) (hl:zs.length<=4194304) :
  Ret Tryz.prog 135 #[.slice a zs.length cap] w fun v w'=>v = .slice a (Lib.compact zs).length cap/\OwP 1 encInt w' base 3 a cap (Lib.compact zs)/\Ap w a w':=by
 have hle:=Lib.compact_length_le zs
 refine ⟨by kernel_rfl,?_⟩
 unfold OwP at hO ⊢
 rw [encI_map] at hO ⊢
 obtain ⟨_,h2⟩:=hO.own
 rcases h2 with ⟨h3,h4⟩ | ⟨g,cap',cur,h2,hg,hgb,r1,r2,r3,r4⟩
 ·simp only [Value.slice.injEq] at h3
  obtain ⟨rfl,h0,rfl⟩:=h3
  have:zs=[]:=List.eq_nil_of_length_eq_zero h0
  subst this
  refine (Tryz.slices_Compact_int_empty none 0 w).mono ?_
  rintro e w' ⟨rfl,rfl⟩
  exact ⟨rfl,Ow.nil ..,⟨rfl,rfl,rfl,Nat.le_refl _,fun _ _ _=>rfl⟩⟩
 ·simp only [Value.slice.injEq] at h2
  obtain ⟨rfl,_,rfl⟩:=h2
  have hH:Holds (Value.int .i64) w g 0 zs.toArray:=holds_of_blockI hgb (by simpa using r4)
  refine (Tryz.slices_Compact_int g 0 cap zs w hH (by omega) r1).mono ?_
  rintro e w' ⟨rfl,q,hw⟩
  rw [<-Go.Sort.grow_empty (putRow _ _ _ _ _)] at hw
  have e1:(Lib.compact zs++List.replicate (zs.length-(Lib.compact zs).length) 0).length=zs.length:=by rw [List.length_append,List.length_replicate];omega
  have hrow:=ownsRow_sortedI (ss:=zs) (ts:=Lib.compact zs++List.replicate (zs.length-(Lib.compact zs).length) 0) (os:=#[]) (n:=q) e1 hg hgb r1 r2 r3
  rw [<-hw] at hrow
  have hO2:Ow w' base 3 1 (some ⟨g,0,none⟩) zs.length cap ((Lib.compact zs++List.replicate (zs.length-(Lib.compact zs).length) 0).map (Value.int .i64)):=⟨hrow⟩
  have hO3:=hO2.cut hle
  refine ⟨rfl,?_,?_⟩
  ·have e2:((Lib.compact zs++List.replicate (zs.length-(Lib.compact zs).length) 0).map (Value.int .i64)).take ((Lib.compact zs).length*1)=(Lib.compact zs).map (Value.int .i64):=by
    rw [Nat.mul_one,List.map_append,List.take_left' (by simp)]
   rw [e2] at hO3;exact hO3
  ·rw [hw];exact ap_grownI (grownBy_sortedI _)
end Go.Proofs.YtkmdfjpafkcleaaGreatDoor
namespace Go.Proofs.YtkmdfjpafkcleaaGreatDoor
open Eng Go.RowKit
theorem IndexFunc_int (l:List Int) (a:Option Addr) (cap:Nat) (g:FuncId) (caps:List Value) (p:Int->Bool) (S:Nat->Prop) (w:World) (hS:Sl eInt S w a l)
  (hp:∀ x cs,x∈l->∀ w',Bl w w'->(eInt).rel S w' cs x->Ret Tryz.prog g ([asV cs]++caps).toArray w' fun v w''=>v = .bool (p x)/\Bl w' w'') :
  Ret Tryz.prog 193 #[.slice a l.length cap,.func (.func g) #[] caps.toArray] w fun v w'=>(∃ i:Int,v=I i/\decide (i≥0)=l.any p)/\Bl w w':=by
 refine entr (vs:=[.slice a l.length cap,.func (.func g) #[] caps.toArray]) [0,1,4,5,7,8,9,16] tabok Tryz.func193 (by kernel_rfl) ?_
 have hbig:=hS.big
 refine lp [8] [(0,.slice a l.length cap),(1,.func (.func g) #[] caps.toArray),(7,I l.length)] (fun m vals w'=>∃ k:Nat,m=l.length-k/\k<=l.length/\vals=[I k]/\(l.take k).any p=false/\Bl w w') ⟨rfl,rfl,rfl,trivial⟩ ⟨0,rfl,Nat.zero_le _,rfl,rfl,Bl.refl _⟩ ?_
 rintro m vals w1 ⟨k,rfl,hk,rfl,ha,hB⟩ ih
 by_cases hlt:k<l.length
 ·refine brT ?_
  obtain ⟨x,b,o,cs,hx,rfl,hSb,hAt,rfl⟩:=at_some (hS.bl hB) hlt
  refine ix ?_
  refine ld (hAt 0 _ rfl) ?_
  refine cl (hp x _ (List.mem_of_getElem? hx) _ hB rfl) ?_
  rintro _ w2 ⟨rfl,hB2⟩
  refine br (fun h => ?_) (fun h => ?_)
  ·exact rt1 ⟨⟨k,rfl,by rw [any_hit hx h];simp⟩,hB.trans hB2⟩
  ·refine again (ih _ _ _ _ (by omega) ⟨rfl,rfl,rfl,trivial⟩ rfl ⟨k+1,rfl,by omega,lst1 (inc hlt),any_snoc hx ha h,hB.trans hB2⟩)
 ·refine brF ?_
  obtain rfl:k=l.length:=by omega
  exact rt1 ⟨⟨-1,rfl,by rw [any_end ha];rfl⟩,hB⟩
theorem ContainsFunc_int (l:List Int) (a:Option Addr) (cap:Nat) (g:FuncId) (caps:List Value) (p:Int->Bool) (S:Nat->Prop) (w:World) (hS:Sl eInt S w a l)
  (hp:∀ x cs,x∈l->∀ w',Bl w w'->(eInt).rel S w' cs x->Ret Tryz.prog g ([asV cs]++caps).toArray w' fun v w''=>v = .bool (p x)/\Bl w' w'') :
  Ret Tryz.prog 132 #[.slice a l.length cap,.func (.func g) #[] caps.toArray] w fun v w'=>v = .bool (l.any p)/\Bl w w':=by
 refine entr (vs:=[.slice a l.length cap,.func (.func g) #[] caps.toArray]) [0,1,4] tabok Tryz.func132 (by kernel_rfl) ?_
 refine cl (IndexFunc_int l a cap g caps p S w hS hp) ?_
 rintro _ w1 ⟨⟨i,rfl,hi⟩,hB⟩
 exact rt1 ⟨vb hi,hB⟩
theorem IndexFunc_typ (l:List Ty) (a:Option Addr) (cap:Nat) (g:FuncId) (caps:List Value) (p:Ty->Bool) (S:Nat->Prop) (w:World) (hS:Sl eTy S w a l)
  (hp:∀ x cs,x∈l->∀ w',Bl w w'->(eTy).rel S w' cs x->Ret Tryz.prog g ([asV cs]++caps).toArray w' fun v w''=>v = .bool (p x)/\Bl w' w'') :
  Ret Tryz.prog 223 #[.slice a l.length cap,.func (.func g) #[] caps.toArray] w fun v w'=>(∃ i:Int,v=I i/\decide (i≥0)=l.any p)/\Bl w w':=by
 refine entr (vs:=[.slice a l.length cap,.func (.func g) #[] caps.toArray]) [0,1,4,5,7,8,9,16] tabok Tryz.func223 (by kernel_rfl) ?_
 have hbig:=hS.big
 refine lp [8] [(0,.slice a l.length cap),(1,.func (.func g) #[] caps.toArray),(7,I l.length)] (fun m vals w'=>∃ k:Nat,m=l.length-k/\k<=l.length/\vals=[I k]/\(l.take k).any p=false/\Bl w w') ⟨rfl,rfl,rfl,trivial⟩ ⟨0,rfl,Nat.zero_le _,rfl,rfl,Bl.refl _⟩ ?_
 rintro m vals w1 ⟨k,rfl,hk,rfl,ha,hB⟩ ih
 by_cases hlt:k<l.length
 ·refine brT ?_
  obtain ⟨x,b,o,cs,hx,rfl,hSb,hAt,rfl⟩:=at_some (hS.bl hB) hlt
  refine ix ?_
  refine lda hAt ?_
  refine cl (hp x _ (List.mem_of_getElem? hx) _ hB rfl) ?_
  rintro _ w2 ⟨rfl,hB2⟩
  refine br (fun h => ?_) (fun h => ?_)
  ·exact rt1 ⟨⟨k,rfl,by rw [any_hit hx h];simp⟩,hB.trans hB2⟩
  ·refine again (ih _ _ _ _ (by omega) ⟨rfl,rfl,rfl,trivial⟩ rfl ⟨k+1,rfl,by omega,lst1 (inc hlt),any_snoc hx ha h,hB.trans hB2⟩)
 ·refine brF ?_
  obtain rfl:k=l.length:=by omega
  exact rt1 ⟨⟨-1,rfl,by rw [any_end ha];rfl⟩,hB⟩
theorem ContainsFunc_typ (l:List Ty) (a:Option Addr) (cap:Nat) (g:FuncId) (caps:List Value) (p:Ty->Bool) (S:Nat->Prop) (w:World) (hS:Sl eTy S w a l)
  (hp:∀ x cs,x∈l->∀ w',Bl w w'->(eTy).rel S w' cs x->Ret Tryz.prog g ([asV cs]++caps).toArray w' fun v w''=>v = .bool (p x)/\Bl w' w'') :
  Ret Tryz.prog 168 #[.slice a l.length cap,.func (.func g) #[] caps.toArray] w fun v w'=>v = .bool (l.any p)/\Bl w w':=by
 refine entr (vs:=[.slice a l.length cap,.func (.func g) #[] caps.toArray]) [0,1,4] tabok Tryz.func168 (by kernel_rfl) ?_
 refine cl (IndexFunc_typ l a cap g caps p S w hS hp) ?_
 rintro _ w1 ⟨⟨i,rfl,hi⟩,hB⟩
 exact rt1 ⟨vb hi,hB⟩
theorem l_EqualT (l m:List Ty) (a1 a2:Option Addr) (c1 c2:Nat) (w:World) (h1:Sl eTy T w a1 l) (h2:Sl eTy T w a2 m):Ret Tryz.prog 172 #[.slice a1 l.length c1,.slice a2 m.length c2] w fun v w'=>v = .bool (decide (l=m))/\Bl w w':=by
 refine entr (vs:=[.slice a1 l.length c1,.slice a2 m.length c2]) [0,1,4,5,10,12,13,14,24] tabok Tryz.func172 (by kernel_rfl) ?_
 have hb1:=h1.big
 have hb2:=h2.big
 refine br (fun h => ?_) (fun h => ?_)
 ·exact rt1 ⟨vb (same_len (of_decide_eq_true h)).symm,Bl.refl _⟩
 have hl:=Classical.not_not.1 (of_decide_eq_false h)
 refine lpk l.length 13 [] [(0,.slice a1 l.length c1),(1,.slice a2 m.length c2),(12,I l.length)] (fun k vals w'=>vals=[]/\l.take k=m.take k/\Bl w w') ⟨rfl,rfl,Bl.refl _⟩ ?_
 rintro k vals w2 hk ⟨rfl,ha,hB⟩ ih
 by_cases hlt:k<l.length
 ·refine brT ?_
  obtain ⟨x,b,o,cs,hx,rfl,_,hAt,rfl⟩:=at_some (h1.bl hB) hlt
  obtain ⟨y,b',o',cs',hy,rfl,_,hAt',rfl⟩:=at_some (h2.bl hB) (i:=k) (by omega)
  refine dh T (List.range 9) fun w8 h8 => ?_
  have hC:=hAt.bl h8.bl
  have hC':=hAt'.bl h8.bl
  refine ix ?_
  refine lda hC ?_ (hm:=trivial)
  refine ix ?_
  refine lda hC' ?_ (hm:=trivial)
  refine neA (fun w=>eq_ty x y) ?_
  refine br (fun h => ?_) (fun h => ?_)
  ·exact rt1 ⟨vb (same_no hx hy (fun e=>by rw [decide_eq_true e] at h;cases h)).symm,hB.trans h8.bl⟩
  ·exact ih hlt ⟨rfl,same_go hx hy (Classical.byContradiction fun e=>by rw [decide_eq_false e] at h;cases h) ha,hB.trans h8.bl⟩
 refine brF ?_
 exact rt1 ⟨vb (same_end hl ha (by omega)).symm,hB⟩
end Go.Proofs.YtkmdfjpafkcleaaGreatDoor
namespace Go.Proofs.YtkmdfjpafkcleaaGreatDoor
open Eng Go.RowKit
theorem k_isClass (m:Mod) (a:MA) (n:Int) (w:World) (_hn:m.classes.length<=4194304):Ret Tryz.prog 224 #[.agg (modcells m a).toArray,I n] w fun v w'=>v = .bool (decide (0<=n)&&decide (n<m.classes.length))/\Bl w w':=by
 refine entr (vs:=[.agg (modcells m a).toArray,I n]) [0,1,2,4] tabok Tryz.func224 (by kernel_rfl) ?_
 refine bx (cs:=modcells m a) fun b1 w1 k1 => ?_
 refine ldg (fun _=>k1.box.cell rfl) ?_
 exact rt1 ⟨rfl,k1.bl⟩
theorem k_isTypeM (m:Mod) (a:MA) (t:Ty) (least:Int) (_hl:least=0∨least=1) (w:World) (hn:m.classes.length<=4194304) :
  Ret Tryz.prog 170 #[.agg (modcells m a).toArray,.agg (encTy t).toArray,I least] w fun v w'=>v = .bool (ityp m t least)/\Bl w w':=by
 refine entr (vs:=[.agg (modcells m a).toArray,.agg (encTy t).toArray,I least]) [0,1,2,3,4,6,8,9,16] tabok Tryz.func170 (by kernel_rfl) ?_
 refine bx (cs:=modcells m a) fun b1 w1 k1 => ?_
 refine bx (cs:=encTy t) fun b2 w2 k2 => ?_
 have B2:=k1.bl.trans k2.bl
 have x1:=Bl.box k2.bl k1.box
 have x2:=k2.box
 refine ld (x2.cell rfl) ?_
 by_cases h2:t.kind=2
 ·refine brT ?_ (hp:=h2)
  refine brT ?_ (hp:=h2)
  refine lda x1.at ?_
  refine ld (x2.cell rfl) ?_
  refine cl (k_isClass m a t.cls w2 hn) ?_
  rintro _ w3 ⟨rfl,B3⟩
  exact rt1 ⟨congrArg Value.bool (ityp_obj (.inl h2)).symm,B2.trans B3⟩
 refine brF ?_ (hp:=h2)
 by_cases h4:t.kind=4
 ·refine brT ?_ (hp:=h4)
  refine lda x1.at ?_
  refine ld (x2.cell rfl) ?_
  refine cl (k_isClass m a t.cls w2 hn) ?_
  rintro _ w3 ⟨rfl,B3⟩
  exact rt1 ⟨congrArg Value.bool (ityp_obj (.inr h4)).symm,B2.trans B3⟩
 refine brF ?_ (hp:=h4)
 have e:(t.kind=0∨t.kind=1∨t.kind=3)->ityp m t least=(decide (least<=t.kind)&&decide (t.cls=0)):=fun h=>by
  unfold ityp
  rw [if_neg (by omega),if_pos h]
 by_cases h0:t.kind=0
 ·refine brT ?_ (hp:=h0)
  refine brT ?_ (hp:=h0)
  refine ld (x2.cell rfl) ?_
  refine ldg (fun _=>x2.cell rfl) ?_
  exact rt1 ⟨congrArg Value.bool (e (.inl h0)).symm,B2⟩
 refine brF ?_ (hp:=h0)
 by_cases h1:t.kind=1
 ·refine brT ?_ (hp:=h1)
  refine brT ?_ (hp:=h1)
  refine ld (x2.cell rfl) ?_
  refine ldg (fun _=>x2.cell rfl) ?_
  exact rt1 ⟨congrArg Value.bool (e (.inr (.inl h1))).symm,B2⟩
 refine brF ?_ (hp:=h1)
 by_cases h3:t.kind=3
 ·refine brT ?_ (hp:=h3)
  refine ld (x2.cell rfl) ?_
  refine ldg (fun _=>x2.cell rfl) ?_
  exact rt1 ⟨congrArg Value.bool (e (.inr (.inr h3))).symm,B2⟩
 refine brF ?_ (hp:=h3)
 refine rt1 ⟨congrArg Value.bool ?_,B2⟩
 unfold ityp
 rw [if_neg (by omega),if_neg (by omega)]
theorem k_areTypes1 (m:Mod) (a:MA) (t:Ty) (b:Nat) (w:World) (hx:At w b 0 (modcells m a)) (hn:m.classes.length<=4194304):Ret Tryz.prog 169 #[.agg (encTy t).toArray,.pointer (some ⟨b,0,none⟩)] w fun v w'=>v = .bool (!ityp m t 1)/\Bl w w':=by
 refine entr (vs:=[.agg (encTy t).toArray,.pointer (some ⟨b,0,none⟩)]) [0,1,2,3] tabok Tryz.func169 (by kernel_rfl) ?_
 refine bx (cs:=encTy t) fun b2 w2 k2 => ?_
 refine lda (hx.bl k2.bl) ?_
 refine lda k2.box.at ?_
 refine cl (k_isTypeM m a t 1 (.inr rfl) w2 hn) ?_
 rintro _ w3 ⟨rfl,B3⟩
 exact rt1 ⟨rfl,k2.bl.trans B3⟩
theorem k_areTypes (m:Mod) (a:MA) (l:List Ty) (al:Option Addr) (ce:Nat) (most:Int) (w:World) (hS:Sl eTy T w al l) (hn:m.classes.length<=4194304) :
  Ret Tryz.prog 111 #[.agg (modcells m a).toArray,.slice al l.length ce,I most] w fun v w'=>v = .bool (decide ((l.length:Int)<=most)&&l.all fun t=>ityp m t 1)/\Bl w w':=by
 have hbig:=hS.big
 refine entr (vs:=[.agg (modcells m a).toArray,.slice al l.length ce,I most]) [0,1,2,3,6] tabok Tryz.func111 (by kernel_rfl) ?_
 refine bx (cs:=modcells m a) fun b1 w1 k1 => ?_
 by_cases hle:(l.length:Int)<=most
 ·refine spt (.bool false) ?_ (hb:=decide_eq_true hle)
  refine cl (ContainsFunc_typ l al ce 169 [.pointer (some ⟨b1,0,none⟩)] (fun t => !ityp m t 1) T w1 (hS.bl k1.bl) fun t cs ht w' k hr => ?_) ?_
  ·obtain rfl:cs=encTy t:=hr
   exact k_areTypes1 m a t b1 w' (Bl.box k k1.box).at hn
  rintro _ w2 ⟨rfl,B2⟩
  refine rt1 ⟨congrArg Value.bool ?_,k1.bl.trans B2⟩
  rw [decide_eq_true hle,List.all_eq_not_any_not]
 ·refine spn (.bool false) ?_ (hb:=decide_eq_false hle)
  refine rt1 ⟨congrArg Value.bool ?_,k1.bl⟩
  rw [decide_eq_false hle];simp
theorem k_above (m:Mod) (a:MA) {kk:Nat} (hd:Desc m kk) (x y:Int) (hx:x<kk) (hx0 : -1<=x) (hy:0<=y) (w:World) (hM:MdR T w m a) :
  Ret Tryz.prog 72 #[.agg (modcells m a).toArray,I x,I y] w fun v w'=>v = .bool (decide (y∈upM m x))/\Bl w w':=by
 have hbig:=hM.cls.big
 have hdl:=hd.1
 refine entr (vs:=[.agg (modcells m a).toArray,I x,I y]) [0,1,2,3,6,9] tabok Tryz.func72 (by kernel_rfl) ?_
 refine bx (cs:=modcells m a) fun b1 w1 k1 => ?_
 have x1:=k1.box
 refine lp (vals:=[I x]) [1] [(2,I y),(3,.pointer (some ⟨b1,0,none⟩))] (fun n vals w'=>(∃ z:Int,vals=[I z]/\n=(z+1).toNat /\ -1<=z/\z<kk/\(y∈upM m x↔y∈upM m z))/\w1=w') ⟨rfl,rfl,trivial⟩ (m:=(x+1).toNat) ⟨⟨x,rfl,rfl,hx0,hx,Iff.rfl⟩,rfl⟩ ?_
 rintro n vals _ ⟨⟨z,rfl,rfl,hz0,hzk,hzy⟩,rfl⟩ ih
 by_cases hgt:y<z
 ·refine brT ?_
  obtain ⟨j,rfl⟩:=Int.eq_ofNat_of_zero_le (show 0<=z by omega)
  obtain ⟨c,b,o,cs,hc,e2,_,hAt,a1,c1,a2,c2,rfl,_⟩:=at_some (hM.bl k1.bl).cls (i:=j) (by omega)
  refine ld (x1.cell rfl) ?_
  rw [e2]
  refine ix ?_
  refine ld (hAt 1 _ rfl) ?_
  have hs:=sup_lt hd (a:=(j:Int)) (by omega) hzk
  rw [mem_step hd (by omega) hzk (by omega)] at hzy
  rw [supM_at hc] at hs hzy
  exact again (ih _ _ _ _ (by omega) ⟨rfl,rfl,trivial⟩ rfl ⟨⟨c.super,rfl,rfl,hs.1,by omega,hzy⟩,rfl⟩)
 ·refine brF ?_
  refine rt1 ⟨congrArg Value.bool (Bool.eq_iff_iff.2 ?_),k1.bl⟩
  rw [decide_eq_true_eq,decide_eq_true_eq,hzy]
  constructor
  ·rintro rfl;exact upM_self hy
  ·intro h
   have:=upM_mem_le hd hzk h
   omega
theorem k_entry (m:Mod) (a:MA) (k s j:Nat) (hd:Desc m (k+1)) {y:MM} (hy:m.methods[j]? = some y) (hT:∀ (i:Nat) z,i<=k->m.classes[i]? = some z->s<z.table.length) (w:World) (hM:MdR T w m a) :
  Ret Tryz.prog 171 #[.agg (modcells m a).toArray,I k,I s,I j] w fun v w'=>(∃ b,v = .bool b/\(b=true↔∃ z,y.cls∈upM m k/\m.classes[y.cls.toNat]? = some z/\z.table[s]? = some (j:Int)))/\Bl w w':=by
 have hdl:=hd.1
 refine entr (vs:=[.agg (modcells m a).toArray,I k,I s,I j]) [0,1,2,3,4,8,9] tabok Tryz.func171 (by kernel_rfl) ?_
 refine bx (cs:=modcells m a) fun b1 w1 k1 => ?_
 have x1:=k1.box
 obtain ⟨y',b,o,cs,hy',e2,_,hAt,a3,c3,a4,c4,a5,c5,rfl,_⟩:=at_some (hM.bl k1.bl).mth (i:=j) (List.getElem?_eq_some_iff.1 hy).1
 obtain rfl:y=y':=by rw [hy] at hy';exact Option.some.inj hy'
 refine ld (x1.cell rfl) ?_
 rw [e2]
 refine ix ?_ (hb:=(List.getElem?_eq_some_iff.1 hy).1)
 refine ld (hAt 1 _ rfl) ?_
 have no:¬y.cls∈upM m k->(false=true↔∃ z,y.cls∈upM m k/\m.classes[y.cls.toNat]? = some z/\z.table[s]? = some (j:Int)):=fun h=>⟨(fun q=>(by cases q)),fun ⟨_,q,_⟩=>absurd q h⟩
 by_cases hA:0<=y.cls/\y.cls<=k
 rotate_left
 ·refine spn (.agg (modcells m a).toArray) ?_ (hb:=by first | (simp;done) | (simp;omega))
  refine spn (.bool false) ?_ (hb:=by first | (simp;done) | (simp;omega))
  refine spn (.slice none 0 0) ?_ (hb:=by first | (simp;done) | (simp;omega))
  refine spn (.pointer (some ⟨0,0,none⟩)) ?_ (hb:=by first | (simp;done) | (simp;omega))
  refine spn (.slice none 0 0) ?_ (hb:=by first | (simp;done) | (simp;omega))
  refine spn (.pointer (some ⟨0,0,none⟩)) ?_ (hb:=by first | (simp;done) | (simp;omega))
  refine spn (I 0) ?_ (hb:=by first | (simp;done) | (simp;omega))
  refine rt1 ⟨⟨false,congrArg Value.bool ?_,no fun q=>hA (upM_mem_le hd (by omega) q)⟩,k1.bl⟩
  first | (simp;done) | (simp;omega)
 obtain ⟨o',ho'⟩:=Int.eq_ofNat_of_zero_le hA.1
 refine spt (.agg (modcells m a).toArray) ?_ (hb:=by first | (simp;done) | (simp;omega))
 refine lda x1.at ?_
 refine spt (.bool false) ?_ (hb:=by first | rfl | (simp;done) | (simp;omega))
 refine cl (k_above m a hd (k:Int) y.cls (by omega) (by omega) hA.1 w1 (hM.bl k1.bl)) ?_
 rintro _ w2 ⟨rfl,B2⟩
 have x2:=Bl.box B2 x1
 have B02:=k1.bl.trans B2
 by_cases hin:y.cls∈upM m k
 rotate_left
 ·rw [decide_eq_false hin]
  refine spn (.slice none 0 0) ?_ (hb:=by first | rfl | (simp;done) | (simp;omega))
  refine spn (.pointer (some ⟨0,0,none⟩)) ?_ (hb:=by first | rfl | (simp;done) | (simp;omega))
  refine spn (.slice none 0 0) ?_ (hb:=by first | rfl | (simp;done) | (simp;omega))
  refine spn (.pointer (some ⟨0,0,none⟩)) ?_ (hb:=by first | rfl | (simp;done) | (simp;omega))
  refine spn (I 0) ?_ (hb:=by first | rfl | (simp;done) | (simp;omega))
  refine rt1 ⟨⟨false,congrArg Value.bool ?_,no hin⟩,B02⟩
  first | rfl | (simp;done) | (simp;omega)
 rw [decide_eq_true hin]
 obtain ⟨z,b6,o6,cs6,hz,e6,_,hA6,a7,c7,a8,c8,rfl,_,hT6,_⟩:=at_some (hM.bl B02).cls (i:=o') (by omega)
 obtain ⟨q,b9,o9,cs9,hq,e9,_,hA9,rfl⟩:=at_some hT6 (i:=s) (hT o' z (by omega) hz)
 refine ldg (fun _=>x2.cell rfl) ?_
 rw [e6]
 refine spt (.pointer (some ⟨0,0,none⟩)) ?_ (hb:=by first | rfl | (simp;done) | (simp;omega))
 refine ix (j:=o') ?_ (hij:=ho') (hb:=by omega)
 refine ldg (fun _=>hA6 3 _ rfl) ?_
 rw [e9]
 refine spt (.pointer (some ⟨0,0,none⟩)) ?_ (hb:=by first | rfl | (simp;done) | (simp;omega))
 refine ix (j:=s) ?_ (hb:=hT o' z (by omega) hz)
 refine ldg (fun _=>hA9 0 _ rfl) ?_
 refine rt1 ⟨⟨decide (q=j),congrArg Value.bool ?_,?_⟩,B02⟩
 ·first | rfl | (simp;done) | (simp;omega)
 ·rw [decide_eq_true_eq,ho',Int.toNat_natCast,hz]
  constructor
  ·rintro rfl;exact ⟨z,by rw [<-ho'];exact hin,rfl,hq⟩
  ·rintro ⟨z',_,e1,e3⟩
   obtain rfl:=Option.some.inj e1
   rw [hq] at e3;exact Option.some.inj e3
end Go.Proofs.YtkmdfjpafkcleaaGreatDoor
namespace Go.Proofs.YtkmdfjpafkcleaaGreatDoor
open Eng Go.RowKit
set_option maxHeartbeats 2000000 in
theorem k_class (m:Mod) (a:MA) (k:Nat) (c:MC) (w:World) (hM:MdR T w m a) (hc:m.classes[k]? = some c) (hP:∀ i x,i<k->m.classes[i]? = some x->ClsP m i x) (hc10:m.classes.length<=10) (_hm16:m.methods.length<=16) (hz0:0<=m.sels) (hz1:m.sels<=16) :
  Ret Tryz.prog 112 #[.agg (modcells m a).toArray,I k] w fun v w'=>(∃ b,v = .bool b/\(b=true↔ClsP m k c))/\Bl w w':=by
 have hlt:k<m.classes.length:=(List.getElem?_eq_some_iff.1 hc).1
 have hd:Desc m k:=desc_of (by omega) hP
 refine entr (vs:=[.agg (modcells m a).toArray,I k]) [0,1,2,4,5,6,7,8,39,41,42,43,44,57,67,88,92] tabok Tryz.func112 (by kernel_rfl) ?_
 refine bx (cs:=modcells m a) fun b1 w1 k1 => ?_
 have x1:=k1.box
 obtain ⟨c',b,o,cs,hc',e2,_,hAt,a3,c3,a4,c4,rfl,hF,hTb,_,hcap⟩:=at_some (hM.bl k1.bl).cls hlt
 obtain rfl:c=c':=by rw [hc] at hc';exact Option.some.inj hc'
 have no:(ClsP m k c->False)->(false=true↔ClsP m k c):=fun h=>⟨(fun q=>(by cases q)),fun q=>(h q).elim⟩
 refine ld (x1.cell rfl) ?_
 rw [e2]
 refine ix ?_
 refine lda hAt ?_
 refine al fun b5 w2 h2 => ?_
 refine sta (cs':=mccells c a3 c3 a4 c4) h2.box fun w3 k3 x3 => ?_
 have B13:=h2.wr k3
 have B3:=k1.bl.trans B13
 have y3:=Bl.box B13 x1
 have q1:=hF.big
 have q2:=hTb.big
 refine ld (x3.cell rfl) ?_
 refine ldg (fun _=>x3.cell rfl) ?_
 by_cases hA:c.super < -1∨(k:Int)<=c.super
 ·refine spn (.agg (modcells m a).toArray) ?_ (hb:=by first | rfl | (simp;done) | (simp;omega))
  refine ldg (fun _=>x3.cell rfl) ?_
  refine spn (.bool false) ?_ (hb:=by first | rfl | (simp;done) | (simp;omega))
  refine ldg (fun _=>x3.cell rfl) ?_
  refine ldg (fun _=>y3.cell rfl) ?_
  refine brt ?_ (hp:=by first | rfl | (simp;done) | (simp;omega))
  exact rt1 ⟨⟨false,rfl,no fun q=>by have:=q.s1;have:=q.s2;omega⟩,B3⟩
 refine spt (.agg (modcells m a).toArray) ?_ (hb:=by first | rfl | (simp;done) | (simp;omega))
 refine lda y3.at ?_
 refine ldg (fun _=>x3.cell rfl) ?_
 refine spt (.bool false) ?_ (hb:=by first | rfl | (simp;done) | (simp;omega))
 refine cl (k_areTypes m a c.fields a3 c3 7 w3 (hF.bl B13) (by omega)) ?_
 rintro _ w4 ⟨rfl,B34⟩
 have B4:=B3.trans B34
 have x4:=Bl.box B34 x3
 have y4:=Bl.box B34 y3
 refine ldg (fun _=>x4.cell rfl) ?_
 refine ldg (fun _=>y4.cell rfl) ?_
 by_cases hfl:(c.fields.length:Int)<=7
 rotate_left
 ·rw [decide_eq_false hfl]
  refine brt ?_ (hp:=by first | rfl | (simp;done) | (simp;omega))
  exact rt1 ⟨⟨false,rfl,no fun q=>by have:=q.fl;omega⟩,B4⟩
 rw [decide_eq_true hfl]
 cases hft:c.fields.all fun t=>ityp m t 1 with
 | false =>
  refine brt ?_ (hp:=by first | rfl | (simp;done) | (simp;omega))
  exact rt1 ⟨⟨false,rfl,no fun q=>by rw [List.all_eq_true.2 q.ft] at hft;cases hft⟩,B4⟩
 | true =>
 by_cases htl:(c.table.length:Int)=m.sels
 rotate_left
 ·refine brt ?_ (hp:=by first | (simp;done) | (simp;exact htl) | (simp;omega))
  exact rt1 ⟨⟨false,rfl,no fun q=>htl q.tl⟩,B4⟩
 refine brf ?_ (hp:=by first | (simp;done) | (simp;exact htl) | (simp;omega))
 have hd1:Desc m (k+1):=⟨by omega,fun i x hi hx=>by
  rcases Nat.lt_or_ge i k with q | q
  ·exact hd.2 i x q hx
  ·obtain rfl:i=k:=by omega
   rw [hc] at hx;obtain rfl:=Option.some.inj hx;exact ⟨by omega,by omega⟩⟩
 have hTl:∀ (i:Nat) z,i<=k->m.classes[i]? = some z->z.table.length=c.table.length:=fun i z hi hz=>by
  rcases Nat.lt_or_ge i k with q | q
  ·have:=(hP i z q hz).tl;omega
  ·obtain rfl:i=k:=by omega
   rw [hc] at hz;obtain rfl:=Option.some.inj hz;rfl
 refine ld (x4.cell rfl) ?_
 refine lpk c.table.length 43 [] [(1,I k),(2,.pointer (some ⟨b1,0,none⟩)),(5,.pointer (some ⟨b5,0,none⟩)),(41,.slice a4 c.table.length c4),(42,I c.table.length)] (fun s vals w'=>vals=[]/\(∀ (i:Nat) x,i<s->c.table[i]? = some x->EntP m k c i x)/\Bl w4 w') ⟨rfl,fun i x h=>by omega,Bl.refl _⟩ ?_
 rintro s vals w5 hs ⟨rfl,hen,B45⟩ ih
 have x5:=Bl.box B45 x4
 have y5:=Bl.box B45 y4
 have B5:=B4.trans B45
 have B15:=(B13.trans B34).trans B45
 by_cases hsl:s<c.table.length
 ·refine brT ?_
  obtain ⟨v,b6,o6,cs6,hv,e6,_,hA6,rfl⟩:=at_some (hTb.bl B15) hsl
  have noE:(EntP m k c s v->False)->(false=true↔ClsP m k c):=fun h=>no fun q=>h (q.tb s v hv)
  have next:∀ w9,Bl w5 w9->EntP m k c s v->(∀ (i:Nat) x,i<s+1->c.table[i]? = some x->EntP m k c i x)/\Bl w4 w9:=fun w9 B9 he=>⟨fun i x hi hx=>by
   rcases Nat.lt_or_ge i s with q | q
   ·exact hen i x q hx
   ·obtain rfl:i=s:=by omega
    rw [hv] at hx;obtain rfl:=Option.some.inj hx;exact he,B45.trans B9⟩
  have ek:Eng.Sub [(41,Value.slice a4 c.table.length c4)] [(41,Value.slice a4 c.table.length c4)]:=⟨rfl,trivial⟩
  subst e6
  refine ix ?_
  refine ld (hA6 0 _ rfl) ?_
  refine ldg (fun _=>y5.cell rfl) ?_
  by_cases hB:v < -1∨(m.methods.length:Int)<=v
  ·refine brt ?_ (hp:=by first | rfl | (simp;done) | (simp;omega))
   exact rt1 ⟨⟨false,rfl,noE fun q=>by have:=q.lo;have:=q.hi;omega⟩,B5⟩
  refine brf ?_ (hp:=by first | rfl | (simp;done) | (simp;omega))
  by_cases hv0:0<=v
  ·obtain ⟨j,rfl⟩:=Int.eq_ofNat_of_zero_le hv0
   obtain ⟨y,hy⟩:=some_of_lt (l:=m.methods) (k:=j) (by omega)
   refine spt (.agg (modcells m a).toArray) ?_ (hb:=by first | rfl | (simp;done) | (simp;omega))
   refine lda y5.at ?_
   refine spt (.bool false) ?_ (hb:=by first | rfl | (simp;done) | (simp;omega))
   refine cl (k_entry m a k s j hd1 hy (fun i z hi hz=>by rw [hTl i z hi hz];exact hsl) w5 (hM.bl B5)) ?_ (hm:=fun _ _ r=>mdW_bl r.2)
   rintro _ w6 ⟨⟨be,rfl,hbe⟩,B6⟩
   cases be with
   | false =>
    refine brt ?_ (hp:=by first | rfl | (simp;done) | (simp;omega))
    refine rt1 ⟨⟨false,rfl,noE fun q => ?_⟩,B5.trans B6⟩
    obtain ⟨y',z,e1,e2,e3,e4⟩:=q.own hv0
    rw [Int.toNat_natCast,hy] at e1;obtain rfl:=Option.some.inj e1
    have:=hbe.2 ⟨z,e2,e3,e4⟩
    cases this
   | true =>
    refine brf ?_ (hp:=by first | rfl | (simp;done) | (simp;omega))
    refine ld ((Bl.box B6 x5).cell rfl) ?_
    refine spn (.slice none 0 0) ?_ (hb:=by first | rfl | (simp;done) | (simp;omega))
    refine spn (I 0) ?_ (hb:=by first | rfl | (simp;done) | (simp;omega))
    refine spn (.pointer (some ⟨0,0,none⟩)) ?_ (hb:=by first | rfl | (simp;done) | (simp;omega))
    refine spn (.slice none 0 0) ?_ (hb:=by first | rfl | (simp;done) | (simp;omega))
    refine spn (.pointer (some ⟨0,0,none⟩)) ?_ (hb:=by first | rfl | (simp;done) | (simp;omega))
    refine spn (I 0) ?_ (hb:=by first | rfl | (simp;done) | (simp;omega))
    refine brf ?_ (hp:=by first | rfl | (simp;done) | (simp;omega))
    obtain ⟨z,e2',e3,e4⟩:=hbe.1 rfl
    have nx:=next w6 B6 ⟨by omega,by omega,fun _=>⟨y,z,by rw [Int.toNat_natCast];exact hy,e2',e3,e4⟩,fun h=>by omega⟩
    exact ih hsl ⟨rfl,nx.1,nx.2⟩
  ·refine spn (.agg (modcells m a).toArray) ?_ (hb:=by first | rfl | (simp;done) | (simp;omega))
   refine spn (.bool false) ?_ (hb:=by first | rfl | (simp;done) | (simp;omega))
   refine brf ?_ (hp:=by first | rfl | (simp;done) | (simp;omega))
   refine ld (x5.cell rfl) ?_
   by_cases hs0:0<=c.super
   ·obtain ⟨j,hj⟩:=Int.eq_ofNat_of_zero_le hs0
    obtain ⟨u,b8,o8,cs8,hu,e8,_,hA8,a9,c9,a10,c10,rfl,hF8,hT8,_⟩:=at_some (hM.bl B5).cls (i:=j) (by omega)
    have huj:m.classes[c.super.toNat]? = some u:=by rw [hj,Int.toNat_natCast];exact hu
    have hlu:=hTl j u (by omega) hu
    obtain ⟨q,b11,o11,cs11,hq,e11,_,hA11,rfl⟩:=at_some hT8 (i:=s) (by omega)
    refine ldg (fun _=>y5.cell rfl) ?_
    refine ldg (fun _=>x5.cell rfl) ?_
    rw [e8]
    refine spt (.pointer (some ⟨0,0,none⟩)) ?_ (hb:=by first | rfl | (simp;done) | (simp;omega))
    refine ix (j:=j) ?_ (hij:=hj) (hb:=by omega)
    refine ldg (fun _=>hA8 3 _ rfl) ?_
    rw [e11]
    refine spt (.pointer (some ⟨0,0,none⟩)) ?_ (hb:=by first | rfl | (simp;done) | (simp;omega))
    refine ix (j:=s) ?_ (hb:=by omega)
    refine ldg (fun _=>hA11 0 _ rfl) ?_
    by_cases hq0:0<=q
    ·refine brt ?_ (hp:=by first | rfl | (simp;done) | (simp;omega))
     exact rt1 ⟨⟨false,rfl,noE fun e=>by have:=e.up (by omega) hs0 u q huj hq;omega⟩,B5⟩
    ·refine brf ?_ (hp:=by first | rfl | (simp;done) | (simp;omega))
     have nx:=next w5 (Bl.refl _) ⟨by omega,by omega,fun h=>by omega,fun _ hs' y z hy hz=>by rw [huj] at hy;obtain rfl:=Option.some.inj hy;rw [hq] at hz;obtain rfl:=Option.some.inj hz;omega⟩
     exact ih hsl ⟨rfl,nx.1,nx.2⟩
   ·refine spn (.slice none 0 0) ?_ (hb:=by first | rfl | (simp;done) | (simp;omega))
    refine spn (I 0) ?_ (hb:=by first | rfl | (simp;done) | (simp;omega))
    refine spn (.pointer (some ⟨0,0,none⟩)) ?_ (hb:=by first | rfl | (simp;done) | (simp;omega))
    refine spn (.slice none 0 0) ?_ (hb:=by first | rfl | (simp;done) | (simp;omega))
    refine spn (.pointer (some ⟨0,0,none⟩)) ?_ (hb:=by first | rfl | (simp;done) | (simp;omega))
    refine spn (I 0) ?_ (hb:=by first | rfl | (simp;done) | (simp;omega))
    refine brf ?_ (hp:=by first | rfl | (simp;done) | (simp;omega))
    have nx:=next w5 (Bl.refl _) ⟨by omega,by omega,fun h=>by omega,fun _ hs' y z hy hz=>absurd hs' hs0⟩
    exact ih hsl ⟨rfl,nx.1,nx.2⟩
 refine brF ?_
 clear ih
 have hent:∀ s n,c.table[s]? = some n->EntP m k c s n:=fun i x hx=>hen i x (by have:=(List.getElem?_eq_some_iff.1 hx).1;omega) hx
 have yes:(0<=c.super->∀ y,m.classes[c.super.toNat]? = some y->y.fields.length<=c.fields.length/\c.fields.take y.fields.length=y.fields)->ClsP m k c:=fun h=>⟨by omega,by omega,by omega,List.all_eq_true.1 hft,htl,hent,h⟩
 refine ld (x5.cell rfl) ?_
 by_cases hs0:0<=c.super
 rotate_left
 ·refine brT ?_
  exact rt1 ⟨⟨true,rfl,⟨fun _=>yes fun h=>absurd h hs0,fun _=>rfl⟩⟩,B5⟩
 refine brF ?_
 obtain ⟨j,hj⟩:=Int.eq_ofNat_of_zero_le hs0
 obtain ⟨u,b6,o6,cs6,hu,e6,_,hA6,a7,c7,a8,c8,rfl,hF6,hT6,_⟩:=at_some (hM.bl B5).cls (i:=j) (by omega)
 have q3:=hF6.big
 have huj:m.classes[c.super.toNat]? = some u:=by rw [hj,Int.toNat_natCast];exact hu
 refine ld (y5.cell rfl) ?_
 refine ld (x5.cell rfl) ?_
 rw [e6]
 refine ix (j:=j) ?_ (hij:=hj) (hb:=by omega)
 refine ld (hA6 2 _ rfl) ?_
 refine ld (x5.cell rfl) ?_
 by_cases hle:u.fields.length<=c.fields.length
 ·refine ldg (fun _=>x5.cell rfl) ?_
  refine spt (.slice none 0 0) ?_ (hb:=by first | rfl | (simp;done) | (simp;omega))
  refine sl 0 u.fields.length ?_
  refine spt (.bool false) ?_ (hb:=by first | rfl | (simp;done) | (simp;omega))
  have eF:Sl eTy T w5 (if c3=0 then a3 else a3.map (·.add (0*2))) (c.fields.take u.fields.length):=by
   have e:(if c3=0 then a3 else a3.map (·.add (0*2)))=a3:=by
    split
    ·rfl
    ·cases a3 <;> simp [Addr.add]
   rw [e]
   exact (hF.bl B15).take _
  have el:u.fields.length-0=(c.fields.take u.fields.length).length:=by rw [List.length_take];omega
  rw [el]
  refine cl (l_EqualT u.fields (c.fields.take u.fields.length) a7 _ c7 _ w5 hF6 eF) ?_
  rintro _ w6 ⟨rfl,B6⟩
  refine rt1 ⟨⟨decide (u.fields=c.fields.take u.fields.length),congrArg Value.bool ?_,?_⟩,B5.trans B6⟩
  ·first | rfl | (simp;done) | (simp;omega)
  ·rw [decide_eq_true_eq]
   constructor
   ·intro h;exact yes fun _ y hy=>by rw [huj] at hy;obtain rfl:=Option.some.inj hy;exact ⟨hle,h.symm⟩
   ·intro h;exact (h.up hs0 u huj).2.symm
 ·refine ldg (fun _=>x5.cell rfl) ?_
  refine spn (.slice none 0 0) ?_ (hb:=by first | rfl | (simp;done) | (simp;omega))
  refine spn (.bool false) ?_ (hb:=by first | rfl | (simp;done) | (simp;omega))
  refine rt1 ⟨⟨false,congrArg Value.bool ?_,no fun q=>hle (q.up hs0 u huj).1⟩,B5⟩
  first | rfl | (simp;done) | (simp;omega)
end Go.Proofs.YtkmdfjpafkcleaaGreatDoor
namespace Go.Proofs.YtkmdfjpafkcleaaGreatDoor
open Eng Go.RowKit
theorem sortI_len (l:List Int):(sortI l).length=l.length:=by unfold sortI;rw [List.length_mergeSort]
theorem k_targets (m:Mod) (a:MA) (s:Nat) (hT:∀ c∈m.classes,s<c.table.length) (w:World) (hM:MdR T w m a) :
  Ret Tryz.prog 71 #[.agg (modcells m a).toArray,I s] w fun v w'=>∃ a c,v = .slice a (trgM m s).length c/\OwP 1 encInt w' w.heap.size 3 a c (trgM m s)/\Bl w w':=by
 have hbig:=hM.cls.big
 refine entr (vs:=[.agg (modcells m a).toArray,I s]) [0,1,2,4,5,7,8,10,11,12,13,22] tabok Tryz.func71 (by kernel_rfl) ?_
 refine bx (cs:=modcells m a) fun b1 w1 k1 => ?_
 have x1:=k1.box
 have y1:=k1.blk
 have z1:=k1.size
 refine ld (x1.cell rfl) ?_
 obtain ⟨ac,eac⟩:∃ ac,a.a1=ac:=⟨_,rfl⟩
 rw [eac]
 refine lpk m.classes.length 12 [5] [(1,I s),(2,.pointer (some ⟨b1,0,none⟩)),(10,.slice ac m.classes.length a.c1),(11,I m.classes.length)] (fun k vals w'=>∃ a c,vals=[.slice a (rT s (m.classes.take k)).length c]/\OwP 1 encInt w' w1.heap.size 3 a c (rT s (m.classes.take k))/\Bl w1 w') ⟨none,0,rfl,Ow.nil ..,Bl.refl _⟩ ?_
 rintro k vals w2 hk ⟨a2,c2,rfl,O2,B2⟩ ih
 have B02:=k1.bl.trans B2
 have z2:=B2.size
 by_cases hlt:k<m.classes.length
 ·refine brT ?_
  obtain ⟨c,b,o,cs,hc,e2,_,hAt,a3,c3,a4,c4,rfl,_,hF,_⟩:=at_some (hM.bl B02).cls hlt
  have hcm:=List.mem_of_getElem? hc
  obtain ⟨n,b5,o5,cs5,hn,e5,_,hA5,rfl⟩:=at_some hF (hT c hcm)
  obtain rfl:ac=some ⟨b,o,none⟩:=by rw [<-eac,e2]
  refine ix ?_
  refine lda hAt ?_
  refine al fun b7 w3 h3 => ?_
  refine sta (cs':=mccells c a3 c3 a4 c4) h3.box fun w4 k4 x4 => ?_
  have B24:=h3.wr k4
  have z4:=B24.size
  refine ld (x4.cell rfl) ?_
  rw [e5]
  refine ix (j:=s) ?_ (hb:=hT c hcm)
  refine ld (hA5.bl B24 0 _ rfl) ?_
  have hl:=rT_len s (m.classes.take k)
  rw [List.length_take] at hl
  by_cases h0:0<=n
  ·refine brT ?_ (hp:=h0)
   refine bs (cs:=encInt n) fun b6 w6 k6 => ?_
   have B26:=B24.trans k6.bl
   have z6:=k6.size
   refine apl (l1:=[n]) (O2.bl B26) (.inr ⟨b6,0,rfl,k6.box.at⟩) (by omega) fun a7 c7 w7 O7 A7 _ => ?_
   have e7:rT s (m.classes.take (k+1))=rT s (m.classes.take k)++[n]:=by rw [rT_snoc hc hn,if_pos h0]
   refine ih hlt ⟨a7,c7,by rw [e7],by rw [e7];exact O7,Below.trans (B2.trans B26) (A7.below (by omega) fun g hg=>(O2.lt hg).1)⟩
  ·refine brF ?_ (hp:=h0)
   have e7:rT s (m.classes.take (k+1))=rT s (m.classes.take k):=by rw [rT_snoc hc hn,if_neg h0,List.append_nil]
   exact ih hlt ⟨a2,c2,by rw [e7],by rw [e7];exact O2.bl B24,B2.trans B24⟩
 refine brF ?_
 obtain rfl:k=m.classes.length:=by omega
 rw [List.take_length] at O2 ⊢
 have hl:=rT_len s m.classes
 refine cl (c_SortI (rT s m.classes) w1.heap.size a2 c2 w2 O2 (by omega)) ?_ (hm:=by intros;trivial)
 rintro _ w3 ⟨O3,A3⟩
 rw [show (rT s m.classes).length=(sortI (rT s m.classes)).length from (sortI_len _).symm]
 refine cl (c_CompactI (sortI (rT s m.classes)) w1.heap.size a2 c2 w3 O3 (by rw [sortI_len];omega)) ?_ (hm:=by intros;trivial)
 rintro _ w4 ⟨rfl,O4,A4⟩
 have et:Lib.compact (sortI (rT s m.classes))=trgM m s:=compactI_srt _
 rw [et] at O4 ⊢
 refine rt1 ⟨a2,c2,rfl,O4.base (by omega),?_⟩
 exact Below.trans (Below.trans B02 (A3.below B02.size fun g hg=>by have:=(O2.lt hg).1;omega)) (A4.below (by have:=A3.size;have:=B02.size;omega) fun g hg=>by have:=(O2.lt hg).1;omega)
theorem k_operand1 (x:Int) (k:Nat) (b:Nat) (w:World) (hx:w.cell? ⟨b,0,none⟩=some (I k)):Ret Tryz.prog 226 #[I x,.pointer (some ⟨b,0,none⟩)] w fun v w'=>v = .bool (decide ((k:Int)<=x))/\Bl w w':=by
 refine entr (vs:=[I x,.pointer (some ⟨b,0,none⟩)]) [0,1,3] tabok Tryz.func226 (by kernel_rfl) ?_
 refine ld hx ?_
 exact rt1 ⟨rfl,Bl.refl _⟩
end Go.Proofs.YtkmdfjpafkcleaaGreatDoor
namespace Go.Proofs.YtkmdfjpafkcleaaGreatDoor
open Eng Go.RowKit
theorem val_a {i:Ins} (hv:validI i false=true) (h:i.op=14∨i.op=24):0<=i.a:=by
 obtain ⟨op,a,b⟩:=i
 simp only at h ⊢
 rcases h with rfl | rfl <;> (simp [validI,inR,rngs,mosts] at hv;omega)
theorem val_b {i:Ins} (hv:validI i false=true) (h:i.op=16∨i.op=12):0<=i.b:=by
 obtain ⟨op,a,b⟩:=i
 simp only at h ⊢
 rcases h with rfl | rfl <;> (simp [validI,inR,rngs,mosts] at hv;omega)
theorem k_operandM (m:Mod) (a:MA) (k:Nat) (i:Ins) (hv:validI i false=true) (hk:k<=m.methods.length) (hC:∀ y∈m.methods,-1<=y.cls) (hT:∀ c∈m.classes,(c.table.length:Int)=m.sels) (w:World) (hM:MdR T w m a) :
  Ret Tryz.prog 175 #[.agg (modcells m a).toArray,I k,.agg (encIns i).toArray] w fun v w'=>v = .bool (oprB m k i)/\Bl w w':=by
 have hbig:=hM.cls.big
 refine entr (vs:=[.agg (modcells m a).toArray,I k,.agg (encIns i).toArray]) [0,1,2,3,4,5,6,8,9,16,22,33,43,60] tabok Tryz.func175 (by kernel_rfl) ?_
 refine bx (cs:=modcells m a) fun b1 w1 k1 => ?_
 refine bx (cs:=[I k]) fun b2 w2 k2 => ?_
 refine bx (cs:=encIns i) fun b3 w3 k3 => ?_
 have B3:=(k1.bl.trans k2.bl).trans k3.bl
 have x1:=Bl.box (k2.bl.trans k3.bl) k1.box
 have x2:=Bl.box k3.bl k2.box
 have x3:=k3.box
 refine ld (x3.cell rfl) ?_
 by_cases h14:i.op=14
 ·refine brT ?_ (hp:=h14)
  refine brT ?_ (hp:=h14)
  refine lda x1.at ?_
  refine ld (x3.cell rfl) ?_
  refine cl (k_isClass m a i.a w3 (by omega)) ?_
  rintro _ w4 ⟨rfl,B4⟩
  refine rt1 ⟨congrArg Value.bool ?_,B3.trans B4⟩
  rw [opr_new (.inl h14),decide_eq_true (val_a hv (.inl h14)),Bool.true_and]
 refine brF ?_ (hp:=h14)
 by_cases h24:i.op=24
 ·refine brT ?_ (hp:=h24)
  refine lda x1.at ?_
  refine ld (x3.cell rfl) ?_
  refine cl (k_isClass m a i.a w3 (by omega)) ?_
  rintro _ w4 ⟨rfl,B4⟩
  refine rt1 ⟨congrArg Value.bool ?_,B3.trans B4⟩
  rw [opr_new (.inr h24),decide_eq_true (val_a hv (.inr h24)),Bool.true_and]
 refine brF ?_ (hp:=h24)
 by_cases h16:i.op=16
 ·refine brT ?_ (hp:=h16)
  refine lda x1.at ?_
  refine ld (x3.cell rfl) ?_
  refine cl (k_isClass m a i.b w3 (by omega)) ?_
  rintro _ w4 ⟨rfl,B4⟩
  refine rt1 ⟨congrArg Value.bool ?_,B3.trans B4⟩
  rw [opr_rfs h16,decide_eq_true (val_b hv (.inl h16)),Bool.true_and]
 refine brF ?_ (hp:=h16)
 by_cases h12:i.op=12
 ·refine brT ?_ (hp:=h12)
  refine ld (x3.cell rfl) ?_
  by_cases h3:i.a=3
  ·refine spn (.agg (modcells m a).toArray) ?_ (hb:=by first | rfl | (simp;done) | (simp;omega))
   refine spn (I 0) ?_ (hb:=by first | rfl | (simp;done) | (simp;omega))
   refine spn (.bool false) ?_ (hb:=by first | rfl | (simp;done) | (simp;omega))
   refine rt1 ⟨congrArg Value.bool ?_,B3⟩
   rw [opr_nul h12,decide_eq_true h3];rfl
  ·refine spt (.agg (modcells m a).toArray) ?_ (hb:=by first | rfl | (simp;done) | (simp;omega))
   refine lda x1.at ?_
   refine ldg (fun _=>x3.cell rfl) ?_
   refine spt (.bool false) ?_ (hb:=by first | rfl | (simp;done) | (simp;omega))
   refine cl (k_isClass m a i.b w3 (by omega)) ?_
   rintro _ w4 ⟨rfl,B4⟩
   refine rt1 ⟨congrArg Value.bool ?_,B3.trans B4⟩
   rw [opr_nul h12,decide_eq_true (val_b hv (.inr h12)),Bool.true_and,decide_eq_false h3]
 refine brF ?_ (hp:=h12)
 by_cases h22:i.op=22
 ·refine brT ?_ (hp:=h22)
  refine brT ?_ (hp:=h22)
  refine ld (x3.cell rfl) ?_
  refine ld (x1.cell rfl) ?_
  exact rt1 ⟨congrArg Value.bool (opr_sta (.inl h22)).symm,B3⟩
 refine brF ?_ (hp:=h22)
 by_cases h23:i.op=23
 ·refine brT ?_ (hp:=h23)
  refine ld (x3.cell rfl) ?_
  refine ld (x1.cell rfl) ?_
  exact rt1 ⟨congrArg Value.bool (opr_sta (.inr h23)).symm,B3⟩
 refine brF ?_ (hp:=h23)
 by_cases h25:i.op=25
 ·refine brT ?_ (hp:=h25)
  have h0:=val_call hv (.inl h25)
  refine ld (x3.cell rfl) ?_
  refine ld (x2.cell rfl) ?_
  by_cases hlt:i.a<k
  ·obtain ⟨j,hj⟩:=Int.eq_ofNat_of_zero_le h0
   obtain ⟨y,b,o,cs,hy,e2,_,hAt,a3,c3,a4,c4,a5,c5,rfl,_⟩:=at_some (hM.bl B3).mth (i:=j) (by omega)
   refine ldg (fun _=>x1.cell rfl) ?_
   refine ldg (fun _=>x3.cell rfl) ?_
   rw [e2]
   refine ixg (j:=j) (len:=m.methods.length) (fun _=>by omega) ?_ (hij:=hj)
   refine ldg (fun _=>hAt 1 _ rfl) ?_
   refine rt1 ⟨congrArg Value.bool ?_,B3⟩
   have hcy:=hC y (List.mem_of_getElem? hy)
   have em:mcl m i.a=y.cls:=by unfold mcl;rw [hj,Int.toNat_natCast,hy];rfl
   rw [opr_cal h25,em]
   congr 1
   exact decide_eq_decide.2 (by omega)
  ·refine spn (.slice none 0 0) ?_ (hb:=by first | rfl | (simp;done) | (simp;omega))
   refine spn (I 0) ?_ (hb:=by first | rfl | (simp;done) | (simp;omega))
   refine spn (.pointer (some ⟨0,0,none⟩)) ?_ (hb:=by first | rfl | (simp;done) | (simp;omega))
   refine spn (I 0) ?_ (hb:=by first | rfl | (simp;done) | (simp;omega))
   refine rt1 ⟨congrArg Value.bool ?_,B3⟩
   rw [opr_cal h25,decide_eq_false hlt];rfl
 refine brF ?_ (hp:=h25)
 by_cases h26:i.op=26
 ·refine brT ?_ (hp:=h26)
  have h0:=val_call hv (.inr h26)
  refine ld (x3.cell rfl) ?_
  refine ld (x1.cell rfl) ?_
  by_cases hlt:i.a<m.sels
  ·obtain ⟨j,hj⟩:=Int.eq_ofNat_of_zero_le h0
   refine spt (.agg (modcells m a).toArray) ?_ (hb:=by first | rfl | (simp;done) | (simp;omega))
   refine lda x1.at ?_
   refine ldg (fun _=>x3.cell rfl) ?_
   refine spt (.slice none 0 0) ?_ (hb:=by first | rfl | (simp;done) | (simp;omega))
   rw [hj]
   refine cl (k_targets m a j (fun c hc=>by have:=hT c hc;omega) w3 (hM.bl B3)) ?_ (hm:=fun _ _ r=>by obtain ⟨_,_,_,_,hB⟩:=r;exact mdW_bl hB)
   rintro _ w4 ⟨a4,c4,rfl,O4,B4⟩
   have hlen:=trg_len (m:=m) j
   refine spt (.bool false) ?_ (hb:=by first | rfl | (simp;done) | (simp;omega))
   refine cl (ContainsFunc_int (trgM m j) a4 c4 226 [.pointer (some ⟨b2,0,none⟩)] (fun t=>decide ((k:Int)<=t)) T w4 (owp_sl O4 (by omega) fun _ _=>trivial) fun t cs ht w' kk hr => ?_) ?_
   ·obtain rfl:cs=encInt t:=hr
    exact k_operand1 t k b2 w' ((Bl.box (B4.trans kk) x2).cell rfl)
   rintro _ w5 ⟨rfl,B5⟩
   refine rt1 ⟨congrArg Value.bool ?_,(B3.trans B4).trans B5⟩
   rw [opr_snd h26,hj,Int.toNat_natCast,decide_eq_true (show (j:Int)<m.sels by omega),Bool.true_and,Bool.true_and,List.not_any_eq_all_not]
   congr 1
   funext t
   rw [<-decide_not]
   exact decide_eq_decide.2 (by omega)
  ·refine spn (.agg (modcells m a).toArray) ?_ (hb:=by first | rfl | (simp;done) | (simp;omega))
   refine spn (I 0) ?_ (hb:=by first | rfl | (simp;done) | (simp;omega))
   refine spn (.slice none 0 0) ?_ (hb:=by first | rfl | (simp;done) | (simp;omega))
   refine spn (.bool false) ?_ (hb:=by first | rfl | (simp;done) | (simp;omega))
   refine rt1 ⟨congrArg Value.bool ?_,B3⟩
   rw [opr_snd h26,decide_eq_false hlt];rfl
 refine brF ?_ (hp:=h26)
 exact rt1 ⟨congrArg Value.bool (opr_no h12 (by omega) h16 (by omega) h25 h26).symm,B3⟩
end Go.Proofs.YtkmdfjpafkcleaaGreatDoor
namespace Go.Proofs.YtkmdfjpafkcleaaGreatDoor
open Eng Go.RowKit
theorem k_method1 (m:Mod) (a:MA) (k:Nat) (i:Ins) (b b2:Nat) (w:World) (hx:At w b 0 (modcells m a)) (hx2:w.cell? ⟨b2,0,none⟩=some (I k)) (hv:validI i false=true) (hk:k<=m.methods.length) (hC:∀ y∈m.methods,-1<=y.cls) (hT:∀ c∈m.classes,(c.table.length:Int)=m.sels) (hM:MdR T w m a) :
  Ret Tryz.prog 174 #[.agg (encIns i).toArray,.pointer (some ⟨b,0,none⟩),.pointer (some ⟨b2,0,none⟩)] w fun v w'=>v = .bool (!oprB m k i)/\Bl w w':=by
 refine entr (vs:=[.agg (encIns i).toArray,.pointer (some ⟨b,0,none⟩),.pointer (some ⟨b2,0,none⟩)]) [0,1,2,3,4] tabok Tryz.func174 (by kernel_rfl) ?_
 refine bx (cs:=encIns i) fun b3 w3 k3 => ?_
 refine lda (hx.bl k3.bl) ?_
 refine ld (Bl.cl k3.bl hx2) ?_
 refine lda k3.box.at ?_
 refine cl (k_operandM m a k i hv hk hC hT w3 (hM.bl k3.bl)) ?_
 rintro _ w4 ⟨rfl,B4⟩
 exact rt1 ⟨rfl,k3.bl.trans B4⟩
def room (x:MM):Int:=10-x.params.length-(if 0<=x.cls then 1 else 0)
set_option maxHeartbeats 4000000 in
theorem k_method (m:Mod) (a:MA) (k:Nat) (x:MM) (w:World) (hM:MdR T w m a) (hx:m.methods[k]? = some x) (hc10:m.classes.length<=10) (_hm16:m.methods.length<=16) (hC:∀ y∈m.methods,-1<=y.cls) (hT:∀ c∈m.classes,(c.table.length:Int)=m.sels) :
  Ret Tryz.prog 113 #[.agg (modcells m a).toArray,I k] w fun v w'=>(∃ b,v = .bool b/\(b=true↔MthP m k x))/\Bl w w':=by
 have hlt:k<m.methods.length:=(List.getElem?_eq_some_iff.1 hx).1
 obtain ⟨x',b,o,cs,hx',e2,_,hAt,a3,c3,a4,c4,a5,c5,rfl,f1,f2,f3,_⟩:=at_some hM.mth hlt
 obtain rfl:x=x':=by rw [hx] at hx';exact Option.some.inj hx'
 have q1:=f1.big
 have q2:=f2.big
 have q3:=f3.big
 have no:(MthP m k x->False)->(false=true↔MthP m k x):=fun h=>⟨(fun q=>(by cases q)),fun q=>(h q).elim⟩
 refine entr (vs:=[.agg (modcells m a).toArray,I k]) [0,1,2,3,4,5,6,19] tabok Tryz.func113 (by kernel_rfl) ?_
 refine bx (cs:=modcells m a) fun b1 w1 k1 => ?_
 refine bx (cs:=[I k]) fun b2 w2 k2 => ?_
 have B2:=k1.bl.trans k2.bl
 have x1:=Bl.box k2.bl k1.box
 have x2:=k2.box
 refine ld (x1.cell rfl) ?_
 refine ld (x2.cell rfl) ?_
 rw [e2]
 refine ix ?_
 refine lda (hAt.bl B2) ?_
 refine al fun b5 w3 h3 => ?_
 refine sta (cs':=mmcells x a3 c3 a4 c4 a5 c5) h3.box fun w4 k4 x4 => ?_
 have B24:=h3.wr k4
 have B4:=B2.trans B24
 have y4:=Bl.box B24 x1
 have z4:=Bl.box B24 x2
 refine ld (x4.cell rfl) ?_
 refine ld (x4.cell rfl) ?_
 rw [show IntKind.wrap .i64 (10-(x.params.length:Int))=10-(x.params.length:Int) from wrap_fit (by omega) (by omega)]
 refine jn [6] [(2,.pointer (some ⟨b1,0,none⟩)),(3,.pointer (some ⟨b2,0,none⟩)),(5,.pointer (some ⟨b5,0,none⟩))] (fun vals w'=>vals=[I (room x)]/\w4=w') (fun h jo => ?_) (fun h jo => ?_) ?_
 ·have h':0<=x.cls:=of_decide_eq_true h
  refine jo ⟨?_,rfl⟩
  rw [wrap_fit (by omega) (by omega)]
  unfold room;rw [if_pos h']
 ·have h':¬0<=x.cls:=of_decide_eq_false h
  refine jo ⟨?_,rfl⟩
  unfold room;rw [if_neg h',Int.sub_zero]
 rintro vals _ ⟨rfl,rfl⟩
 refine ld (x4.cell rfl) ?_
 refine ldg (fun _=>x4.cell rfl) ?_
 refine ldg (fun _=>y4.cell rfl) ?_
 by_cases hA : -1<=x.cls/\x.cls<m.classes.length
 rotate_left
 ·refine spn (.agg (modcells m a).toArray) ?_ (hb:=by first | rfl | (simp;done) | (simp;omega))
  refine ldg (fun _=>x4.cell rfl) ?_
  refine spn (.bool false) ?_ (hb:=by first | rfl | (simp;done) | (simp;omega))
  refine spn (.agg (modcells m a).toArray) ?_ (hb:=by first | rfl | (simp;done) | (simp;omega))
  refine ldg (fun _=>x4.cell rfl) ?_
  refine spn (.bool false) ?_ (hb:=by first | rfl | (simp;done) | (simp;omega))
  refine spn (.agg (modcells m a).toArray) ?_ (hb:=by first | rfl | (simp;done) | (simp;omega))
  refine spn (.agg (encTy x.result).toArray) ?_ (hb:=by first | rfl | (simp;done) | (simp;omega))
  refine spn (.bool false) ?_ (hb:=by first | rfl | (simp;done) | (simp;omega))
  refine ldg (fun _=>x4.cell rfl) ?_
  refine spn (I 0) ?_ (hb:=by first | rfl | (simp;done) | (simp;omega))
  refine ldg (fun _=>x4.cell rfl) ?_
  refine spn (.bool false) ?_ (hb:=by first | rfl | (simp;done) | (simp;omega))
  refine rt1 ⟨⟨false,congrArg Value.bool ?_,no fun q=>by have:=q.c1;have:=q.c2;omega⟩,B4⟩
  first | rfl | (simp;done) | (simp;omega)
 have hrl:∀ q:MthP m k x,(x.locals.length:Int)<=room x:=fun q=>by have:=q.ll;unfold room;omega
 refine spt (.agg (modcells m a).toArray) ?_ (hb:=by first | rfl | (simp;done) | (simp;omega))
 refine lda y4.at ?_
 refine ldg (fun _=>x4.cell rfl) ?_
 refine spt (.bool false) ?_ (hb:=by first | rfl | (simp;done) | (simp;omega))
 refine cl (k_areTypes m a x.params a3 c3 4 w4 (f1.bl B4) (by omega)) ?_
 rintro _ w5 ⟨rfl,B45⟩
 have B5:=B4.trans B45
 have x5:=Bl.box B45 x4
 have y5:=Bl.box B45 y4
 have z5:=Bl.box B45 z4
 obtain ⟨t1,et1⟩:∃ t,(decide ((x.params.length:Int)<=4)&&x.params.all fun t=>ityp m t 1)=t:=⟨_,rfl⟩
 rw [et1]
 cases t1 with
 | false =>
  refine spn (.agg (modcells m a).toArray) ?_ (hb:=by first | rfl | (simp;done) | (simp;omega))
  refine ldg (fun _=>x5.cell rfl) ?_
  refine spn (.bool false) ?_ (hb:=by first | rfl | (simp;done) | (simp;omega))
  refine spn (.agg (modcells m a).toArray) ?_ (hb:=by first | rfl | (simp;done) | (simp;omega))
  refine spn (.agg (encTy x.result).toArray) ?_ (hb:=by first | rfl | (simp;done) | (simp;omega))
  refine spn (.bool false) ?_ (hb:=by first | rfl | (simp;done) | (simp;omega))
  refine ldg (fun _=>x5.cell rfl) ?_
  refine spn (I 0) ?_ (hb:=by first | rfl | (simp;done) | (simp;omega))
  refine ldg (fun _=>x5.cell rfl) ?_
  refine spn (.bool false) ?_ (hb:=by first | rfl | (simp;done) | (simp;omega))
  refine rt1 ⟨⟨false,congrArg Value.bool ?_,no fun q=>by rw [List.all_eq_true.2 q.pt,decide_eq_true (show (x.params.length:Int)<=4 by have:=q.pl;omega)] at et1;cases et1⟩,B5⟩
  first | rfl | (simp;done) | (simp;omega)
 | true =>
 refine spt (.agg (modcells m a).toArray) ?_ (hb:=by first | rfl | (simp;done) | (simp;omega))
 refine lda y5.at ?_
 refine ldg (fun _=>x5.cell rfl) ?_
 refine spt (.bool false) ?_ (hb:=by first | rfl | (simp;done) | (simp;omega))
 refine cl (k_areTypes m a x.locals a4 c4 (room x) w5 (f2.bl B5) (by omega)) ?_
 rintro _ w6 ⟨rfl,B56⟩
 have B6:=B5.trans B56
 have x6:=Bl.box B56 x5
 have y6:=Bl.box B56 y5
 have z6:=Bl.box B56 z5
 obtain ⟨t2,et2⟩:∃ t,(decide ((x.locals.length:Int)<=room x)&&x.locals.all fun t=>ityp m t 1)=t:=⟨_,rfl⟩
 rw [et2]
 cases t2 with
 | false =>
  refine spn (.agg (modcells m a).toArray) ?_ (hb:=by first | rfl | (simp;done) | (simp;omega))
  refine spn (.agg (encTy x.result).toArray) ?_ (hb:=by first | rfl | (simp;done) | (simp;omega))
  refine spn (.bool false) ?_ (hb:=by first | rfl | (simp;done) | (simp;omega))
  refine ldg (fun _=>x6.cell rfl) ?_
  refine spn (I 0) ?_ (hb:=by first | rfl | (simp;done) | (simp;omega))
  refine ldg (fun _=>x6.cell rfl) ?_
  refine spn (.bool false) ?_ (hb:=by first | rfl | (simp;done) | (simp;omega))
  refine rt1 ⟨⟨false,congrArg Value.bool ?_,no fun q=>by rw [List.all_eq_true.2 q.lt,decide_eq_true (hrl q)] at et2;cases et2⟩,B6⟩
  first | rfl | (simp;done) | (simp;omega)
 | true =>
 refine spt (.agg (modcells m a).toArray) ?_ (hb:=by first | rfl | (simp;done) | (simp;omega))
 refine lda y6.at ?_
 refine spt (.agg (encTy x.result).toArray) ?_ (hb:=by first | rfl | (simp;done) | (simp;omega))
 refine lda (At.left (cs:=encTy x.result) x6.at.tail.tail.tail.tail) ?_
 refine spt (.bool false) ?_ (hb:=by first | rfl | (simp;done) | (simp;omega))
 refine cl (k_isTypeM m a x.result 0 (.inl rfl) w6 (by omega)) ?_
 rintro _ w7 ⟨rfl,B67⟩
 have B7:=B6.trans B67
 have x7:=Bl.box B67 x6
 have y7:=Bl.box B67 y6
 have z7:=Bl.box B67 z6
 cases hr:ityp m x.result 0 with
 | false =>
  refine ldg (fun _=>x7.cell rfl) ?_
  refine spn (I 0) ?_ (hb:=by first | rfl | (simp;done) | (simp;omega))
  refine ldg (fun _=>x7.cell rfl) ?_
  refine spn (.bool false) ?_ (hb:=by first | rfl | (simp;done) | (simp;omega))
  refine rt1 ⟨⟨false,congrArg Value.bool ?_,no fun q=>by rw [q.rt] at hr;cases hr⟩,B7⟩
  first | rfl | (simp;done) | (simp;omega)
 | true =>
 refine ldg (fun _=>x7.cell rfl) ?_
 refine spt (I 0) ?_ (hb:=by first | rfl | (simp;done) | (simp;omega))
 refine cl (u_codeCheck x.code a5 c5 false T w7 (f3.bl B7)) ?_
 rintro _ w8 ⟨rfl,B78⟩
 have B8:=B7.trans B78
 have x8:=Bl.box B78 x7
 have y8:=Bl.box B78 y7
 have z8:=Bl.box B78 z7
 by_cases hcd:codeE x.code false=0
 rotate_left
 ·refine ldg (fun _=>x8.cell rfl) ?_
  refine spn (.bool false) ?_ (hb:=by first | (simp;done) | (simp;exact hcd))
  refine rt1 ⟨⟨false,congrArg Value.bool ?_,no fun q=>hcd q.cd⟩,B8⟩
  first | (simp;done) | (simp;exact hcd)
 have hval:=code_all hcd
 refine ldg (fun _=>x8.cell rfl) ?_
 refine spt (.bool false) ?_ (hb:=by first | (simp;done) | (simp;exact hcd))
 refine cl (ContainsFunc_ins x.code a5 c5 174 [.pointer (some ⟨b1,0,none⟩),.pointer (some ⟨b2,0,none⟩)] (fun i => !oprB m k i) T w8 (f3.bl B8) fun i cs hi w' kk hr => ?_) ?_
 ·obtain rfl:cs=encIns i:=hr
  exact k_method1 m a k i b1 b2 w' (Bl.box kk y8).at ((Bl.box kk z8).cell rfl) (hval i hi) (by omega) hC hT (hM.bl (B8.trans kk))
 rintro _ w9 ⟨rfl,B9⟩
 simp only [Bool.and_eq_true,decide_eq_true_eq] at et1 et2
 refine rt1 ⟨⟨x.code.all (oprB m k),congrArg Value.bool ?_,?_⟩,B8.trans B9⟩
 ·rw [List.all_eq_not_any_not];simp
 ·rw [List.all_eq_true]
  exact ⟨fun h=>⟨hA.1,hA.2,by omega,by have:=et2.1;unfold room at this;omega,List.all_eq_true.1 et1.2,List.all_eq_true.1 et2.2,hr,hcd,h⟩,fun q=>q.op⟩
end Go.Proofs.YtkmdfjpafkcleaaGreatDoor
namespace Go.Proofs.YtkmdfjpafkcleaaGreatDoor
open Eng Go.RowKit
theorem chkE_no {m:Mod} (h:¬ModP m):mchkE m=1:=by unfold mchkE;rw [if_neg h]
theorem chkE_yes {m:Mod} (h:ModP m):mchkE m=0:=by unfold mchkE;rw [if_pos h]
end Go.Proofs.YtkmdfjpafkcleaaGreatDoor
namespace Go.Proofs.YtkmdfjpafkcleaaGreatDoor
open Eng Go.RowKit
def mmD (m:Mod) (t:Int):MM:=(m.methods[t.toNat]?).getD ⟨⟨#[]⟩,0,[],[],⟨0,0⟩,[]⟩
def alkB (m:Mod) (t t0:Int):Bool:=decide ((mmD m t).result=(mmD m t0).result)&&decide ((mmD m t).params=(mmD m t0).params)
theorem mmD_at {m:Mod} {j:Nat} {x:MM} (h:m.methods[j]? = some x):mmD m (j:Int)=x:=by unfold mmD;rw [Int.toNat_natCast,h];rfl
set_option maxHeartbeats 1000000 in
theorem k_alike1 (m:Mod) (a:MA) (j j0 b b5:Nat) (tr:List Int) (at':Option Addr) (ct:Nat) (w:World) (hx:Box w b 94 (modcells m a)) (hx5:w.cell? ⟨b5,0,none⟩=some (.slice at' tr.length ct)) (hS:Sl eInt T w at' tr) (h0:tr[0]? = some (j0:Int)) (hj:j<m.methods.length) (hj0:j0<m.methods.length) (hM:MdR T w m a) :
  Ret Tryz.prog 176 #[I j,.pointer (some ⟨b,0,none⟩),.pointer (some ⟨b5,0,none⟩)] w fun v w'=>v = .bool (!alkB m j j0)/\Bl w w':=by
 have lb:=hx.lt
 have lb5:=cell_lt hx5
 have hbig:=hM.mth.big
 have htl:0<tr.length:=(List.getElem?_eq_some_iff.1 h0).1
 obtain ⟨t0,b8,o8,cs8,h0',e8,s8,hA8,rfl⟩:=at_some hS (i:=0) htl
 obtain rfl:t0=(j0:Int):=by rw [h0] at h0';exact (Option.some.inj h0').symm
 obtain ⟨x0,b9,o9,cs9,hx0,e9,s9,hA9,a10,c10,a11,c11,a12,c12,rfl,f1,f2,f3,_⟩:=at_some hM.mth (i:=j) hj
 obtain ⟨y0,b9',o9',cs9',hy0,e9',s9',hA9',a10',c10',a11',c11',a12',c12',rfl,g1,g2,g3,_⟩:=at_some hM.mth (i:=j0) hj0
 obtain ⟨rfl,rfl⟩:b9=b9'/\o9=o9':=by rw [e9] at e9';simpa using e9'
 have lb8:=cell_lt (hA8 0 _ rfl)
 have lb9:=cell_lt (hA9 0 _ rfl)
 have lb9':=cell_lt (hA9' 0 _ rfl)
 refine entr (vs:=[I j,.pointer (some ⟨b,0,none⟩),.pointer (some ⟨b5,0,none⟩)]) [0,1,2,4,5,6] tabok Tryz.func176 (by kernel_rfl) ?_
 refine cut [5,6] [] (fun vals w'=>∃ b13 b14,vals=[.pointer (some ⟨b13,0,none⟩),.pointer (some ⟨b14,0,none⟩)]/\Bl w w'/\Box w' b13 54 (mmcells x0 a10 c10 a11 c11 a12 c12)/\Box w' b14 54 (mmcells y0 a10' c10' a11' c11' a12' c12')) (fun jo => ?_) ?_
 ·refine dhb (· < w.heap.size) (.row [0,1,2,3,4,5,6,7,8,9,10,11,12,13] (.two 14 (.row [15,16,17] .done) 15 (.row [14,16,17] .done))) fun w8 k8 => ?_
  have B8:=k8.bl
  refine ld ((k8.box hx).cell rfl) ?_ (hm:=lb)
  rw [e9]
  refine ix (j:=j) ?_
  refine lda (hA9.bl B8) ?_ (hm:=lb9)
  refine ld ((k8.box hx).cell rfl) ?_ (hm:=lb)
  refine ld (Bl.cl B8 hx5) ?_ (hm:=lb5)
  rw [e8]
  refine ix (j:=0) ?_ (hb:=by omega)
  refine ld (hA8.bl B8 0 _ rfl) ?_ (hm:=lb8)
  rw [e9]
  refine ix (j:=j0) ?_
  refine lda (hA9'.bl B8) ?_ (hm:=lb9')
  refine bt ?_ ?_
  ·refine al fun b13 w9 k9 => ?_
   refine al fun b14 w10 k10 => ?_
   have y9:=k9.blk
   have y10:=k10.blk
   have z9:=k9.size
   have z10:=k10.size
   have z8:=B8.size
   have v13:=Bl.box k10.bl k9.box
   have v14:=k10.box
   refine sta (cs':=mmcells x0 a10 c10 a11 c11 a12 c12) v13 (fun w11 k11 x11 => ?_) (hm:=wrB (by show ¬b13<_;omega))
   refine sta (cs':=mmcells y0 a10' c10' a11' c11' a12' c12') (k11.box v14 (by omega)) (fun w12 k12 x12 => ?_) (hm:=wrB (by show ¬b14<_;omega))
   refine jo ⟨b13,b14,rfl,?_,k12.box x11 (by omega),x12⟩
   exact Below.trans (Below.trans (B8.trans (k9.bl.trans k10.bl)) (k11.below (by omega))) (k12.below (by omega))
  ·refine al fun b14 w9 k9 => ?_
   refine al fun b13 w10 k10 => ?_
   have y9:=k9.blk
   have y10:=k10.blk
   have z9:=k9.size
   have z10:=k10.size
   have z8:=B8.size
   have v14:=Bl.box k10.bl k9.box
   have v13:=k10.box
   refine sta (cs':=mmcells x0 a10 c10 a11 c11 a12 c12) v13 (fun w11 k11 x11 => ?_) (hm:=wrB (by show ¬b13<_;omega))
   refine sta (cs':=mmcells y0 a10' c10' a11' c11' a12' c12') (k11.box v14 (by omega)) (fun w12 k12 x12 => ?_) (hm:=wrB (by show ¬b14<_;omega))
   refine jo ⟨b13,b14,rfl,?_,k12.box x11 (by omega),x12⟩
   exact Below.trans (Below.trans (B8.trans (k9.bl.trans k10.bl)) (k11.below (by omega))) (k12.below (by omega))
 rintro vals w13 ⟨b13,b14,rfl,B13,x13,x14⟩
 refine lda (At.left (cs:=encTy x0.result) x13.at.tail.tail.tail.tail) ?_
 refine lda (At.left (cs:=encTy y0.result) x14.at.tail.tail.tail.tail) ?_
 refine neA (fun w=>eq_ty x0.result y0.result) ?_
 have ea:alkB m j j0=(decide (x0.result=y0.result)&&decide (x0.params=y0.params)):=by unfold alkB;rw [mmD_at hx0,mmD_at hy0]
 rw [ea]
 by_cases hrr:x0.result=y0.result
 ·rw [decide_eq_true hrr]
  refine ldg (fun _=>x13.cell rfl) ?_
  refine ldg (fun _=>x14.cell rfl) ?_
  refine spt (.bool false) ?_ (hb:=by first | rfl | (simp;done) | (simp;omega))
  refine cl (l_EqualT x0.params y0.params a10 a10' c10 c10' w13 (f1.bl B13) (g1.bl B13)) ?_
  rintro _ w14 ⟨rfl,B14⟩
  exact rt1 ⟨rfl,B13.trans B14⟩
 ·rw [decide_eq_false hrr]
  refine ldg (fun _=>x13.cell rfl) ?_
  refine ldg (fun _=>x14.cell rfl) ?_
  refine spn (.bool false) ?_ (hb:=by first | rfl | (simp;done) | (simp;omega))
  exact rt1 ⟨rfl,B13⟩
theorem alk_any {m:Mod} {s:Nat} (htr:∀ t∈trgM m s,0<=t/\t<m.methods.length):((trgM m s).all fun t=>alkB m t ((trgM m s).getD 0 0))=true↔AlkP m s:=by
 have key:∀ t∈trgM m s,∀ x,m.methods[t.toNat]? = some x->mmD m t=x:=fun t ht x hx=>by unfold mmD;rw [hx];rfl
 rw [List.all_eq_true]
 constructor
 ·intro h t ht u hu x y hx hy
  have h1:=h t ht
  have h2:=h u hu
  unfold alkB at h1 h2
  simp only [Bool.and_eq_true,decide_eq_true_eq] at h1 h2
  rw [key t ht x hx] at h1
  rw [key u hu y hy] at h2
  exact ⟨h1.2.trans h2.2.symm,h1.1.trans h2.1.symm⟩
 ·intro h t ht
  have h0:(trgM m s).getD 0 0∈trgM m s:=by
   cases hl:trgM m s with
   | nil=>rw [hl] at ht;cases ht
   | cons z l=>exact List.mem_cons_self ..
  obtain ⟨x,hx⟩:=some_of_lt (l:=m.methods) (k:=t.toNat) (by have:=htr t ht;omega)
  obtain ⟨y,hy⟩:=some_of_lt (l:=m.methods) (k:=((trgM m s).getD 0 0).toNat) (by have:=htr _ h0;omega)
  obtain ⟨e1,e2⟩:=h t ht _ h0 x y hx hy
  unfold alkB
  rw [key t ht x hx,key _ h0 y hy,e1,e2];simp
theorem k_alike (m:Mod) (a:MA) (s:Nat) (hT:∀ c∈m.classes,s<c.table.length) (htr:∀ t∈trgM m s,0<=t/\t<m.methods.length) (w:World) (hM:MdR T w m a) :
  Ret Tryz.prog 114 #[.agg (modcells m a).toArray,I s] w fun v w'=>(∃ b,v = .bool b/\(b=true↔AlkP m s))/\Bl w w':=by
 have hbig:=hM.cls.big
 refine entr (vs:=[.agg (modcells m a).toArray,I s]) [0,1,2,4,5] tabok Tryz.func114 (by kernel_rfl) ?_
 refine bx (cs:=modcells m a) fun b1 w1 k1 => ?_
 have x1:=k1.box
 refine lda x1.at ?_
 refine cl (k_targets m a s hT w1 (hM.bl k1.bl)) ?_ (hm:=fun _ _ r=>by obtain ⟨_,_,_,_,hB⟩:=r;exact mdW_bl hB)
 rintro _ w2 ⟨a2,c2,rfl,O2,B2⟩
 have hlen:=trg_len (m:=m) s
 refine al fun b5 w3 k3 => ?_
 refine st k3.box fun w4 k4 x4 => ?_
 have B24:=k3.wr k4
 have O4:=O2.bl B24
 have B4:=(k1.bl.trans B2).trans B24
 have y4:=Bl.box (B2.trans B24) x1
 have S4:Sl eInt T w4 a2 (trgM m s):=owp_sl O4 (by omega) fun _ _=>trivial
 refine ld (x4.cell rfl) ?_
 refine cl (ContainsFunc_int (trgM m s) a2 c2 176 [.pointer (some ⟨b1,0,none⟩),.pointer (some ⟨b5,0,none⟩)] (fun t => !alkB m t ((trgM m s).getD 0 0)) T w4 S4 fun t cs ht w' kk hr => ?_) ?_
 ·obtain rfl:cs=encInt t:=hr
  have h0:(trgM m s)[0]? = some ((trgM m s).getD 0 0):=by
   cases hl:trgM m s with
   | nil=>rw [hl] at ht;cases ht
   | cons z l=>rfl
  have h0m:=List.mem_of_getElem? h0
  obtain ⟨j,hj⟩:=Int.eq_ofNat_of_zero_le (htr t ht).1
  obtain ⟨j0,hj0⟩:=Int.eq_ofNat_of_zero_le (htr _ h0m).1
  have r1:=(htr t ht).2
  have r2:=(htr _ h0m).2
  rw [hj0] at h0 r2 ⊢
  subst hj
  exact k_alike1 m a j j0 b1 b5 (trgM m s) a2 c2 w' (Bl.box kk y4) ((Bl.box kk x4).cell rfl) (S4.bl kk) h0 (by omega) (by omega) (hM.bl (B4.trans kk))
 rintro _ w5 ⟨rfl,B5⟩
 refine rt1 ⟨⟨(trgM m s).all fun t=>alkB m t ((trgM m s).getD 0 0),congrArg Value.bool ?_,alk_any htr⟩,B4.trans B5⟩
 rw [List.all_eq_not_any_not]
end Go.Proofs.YtkmdfjpafkcleaaGreatDoor
namespace Go.Proofs.YtkmdfjpafkcleaaGreatDoor
open Eng Go.RowKit
set_option maxHeartbeats 1000000 in
theorem k_valid (m:Mod) (a:MA) (w:World) (hM:MdR T w m a):Ret Tryz.prog 50 #[.agg (modcells m a).toArray] w fun v w'=>(∃ b,v = .bool b/\(b=true↔ModP m))/\Bl w w':=by
 have q1:=hM.cls.big
 have q2:=hM.sta.big
 have q3:=hM.mth.big
 have no:(ModP m->False)->(false=true↔ModP m):=fun h=>⟨(fun q=>(by cases q)),fun q=>(h q).elim⟩
 refine entr (vs:=[.agg (modcells m a).toArray]) [0,1,2,3,4,5,6,7,8,37,40,41,42,58,62,63,64,69,73,74,75,80,83,84,85,90] tabok Tryz.func50 (by kernel_rfl) ?_
 refine bx (cs:=modcells m a) fun b1 w1 k1 => ?_
 refine lda k1.box.at ?_
 refine al fun b3 w2 h2 => ?_
 refine sta (cs':=modcells m a) h2.box fun w3 k3 x3 => ?_
 have B13:=h2.wr k3
 have B3:=k1.bl.trans B13
 have y3:=Bl.box B13 k1.box
 refine ld (x3.cell rfl) ?_
 refine ldg (fun _=>x3.cell rfl) ?_
 refine ldg (fun _=>x3.cell rfl) ?_
 refine ldg (fun _=>x3.cell rfl) ?_
 by_cases hA:10<(m.classes.length:Int)∨16<(m.methods.length:Int)∨m.sels<0∨16<m.sels
 ·refine spn (.agg (modcells m a).toArray) ?_ (hb:=by first | rfl | (simp;done) | (simp;omega))
  refine ldg (fun _=>x3.cell rfl) ?_
  refine spn (.bool false) ?_ (hb:=by first | rfl | (simp;done) | (simp;omega))
  refine brt ?_ (hp:=by first | rfl | (simp;done) | (simp;omega))
  exact rt1 ⟨⟨false,rfl,no fun q=>by have:=q.cl;have:=q.ml;have:=q.z0;have:=q.z1;omega⟩,B3⟩
 refine spt (.agg (modcells m a).toArray) ?_ (hb:=by first | rfl | (simp;done) | (simp;omega))
 refine lda y3.at ?_
 refine ldg (fun _=>x3.cell rfl) ?_
 refine spt (.bool false) ?_ (hb:=by first | rfl | (simp;done) | (simp;omega))
 refine cl (k_areTypes m a m.statics a.a2 a.c2 10 w3 (hM.bl B3).sta (by omega)) ?_
 rintro _ w4 ⟨rfl,B34⟩
 have B4:=B3.trans B34
 have x4:=Bl.box B34 x3
 have y4:=Bl.box B34 y3
 obtain ⟨t1,et1⟩:∃ t,(decide ((m.statics.length:Int)<=10)&&m.statics.all fun t=>ityp m t 1)=t:=⟨_,rfl⟩
 rw [et1]
 cases t1 with
 | false =>
  refine brt ?_ (hp:=by first | rfl | (simp;done) | (simp;omega))
  exact rt1 ⟨⟨false,rfl,no fun q=>by rw [List.all_eq_true.2 q.sta,decide_eq_true (show (m.statics.length:Int)<=10 by have:=q.sl;omega)] at et1;cases et1⟩,B4⟩
 | true =>
 simp only [Bool.and_eq_true,decide_eq_true_eq] at et1
 refine brf ?_ (hp:=by first | rfl | (simp;done) | (simp;omega))
 refine ld (x4.cell rfl) ?_
 refine lpk m.methods.length 41 [] [(1,.pointer (some ⟨b1,0,none⟩)),(3,.pointer (some ⟨b3,0,none⟩)),(40,I m.methods.length)] (fun k vals w'=>vals=[]/\(∀ (i:Nat) y,i<k->m.methods[i]? = some y -> -1<=y.cls/\y.cls<m.classes.length)/\w4=w') ⟨rfl,fun i y h=>by omega,rfl⟩ ?_
 rintro k vals _ hk ⟨rfl,hR,rfl⟩ ih
 by_cases hlt:k<m.methods.length
 ·refine brT ?_
  obtain ⟨y,b,o,cs,hy,e2,_,hAt,a5,c5,a6,c6,a7,c7,rfl,_⟩:=at_some (hM.bl B4).mth hlt
  refine ld (x4.cell rfl) ?_
  rw [e2]
  refine ix ?_
  refine ld (hAt 1 _ rfl) ?_
  refine ldg (fun _=>x4.cell rfl) ?_
  by_cases hB:y.cls < -1∨(m.classes.length:Int)<=y.cls
  ·refine brt ?_ (hp:=by first | rfl | (simp;done) | (simp;omega))
   exact rt1 ⟨⟨false,rfl,no fun q=>by have:=(q.mth k y hy).c1;have:=(q.mth k y hy).c2;omega⟩,B4⟩
  ·refine brf ?_ (hp:=by first | rfl | (simp;done) | (simp;omega))
   refine ih hlt ⟨rfl,fun i z hi hz => ?_,rfl⟩
   rcases Nat.lt_or_ge i k with q | q
   ·exact hR i z q hz
   ·obtain rfl:i=k:=by omega
    rw [hy] at hz;obtain rfl:=Option.some.inj hz;omega
 refine brF ?_
 clear ih
 have hC:∀ y∈m.methods,-1<=y.cls:=fun y hy=>by
  obtain ⟨i,hi⟩:=List.mem_iff_getElem?.1 hy
  exact (hR i y (by have:=(List.getElem?_eq_some_iff.1 hi).1;omega) hi).1
 refine ld (x4.cell rfl) ?_
 refine lpk (vals:=[]) m.classes.length 63 [] [(1,.pointer (some ⟨b1,0,none⟩)),(3,.pointer (some ⟨b3,0,none⟩)),(62,I m.classes.length)] (fun k vals w'=>vals=[]/\(∀ (i:Nat) x,i<k->m.classes[i]? = some x->ClsP m i x)/\Bl w4 w') ⟨rfl,fun i y h=>by omega,Bl.refl _⟩ ?_
 clear hk hR hlt
 rintro k vals w5 hk ⟨rfl,hP,B45⟩ ih
 have x5:=Bl.box B45 x4
 have y5:=Bl.box B45 y4
 have B5:=B4.trans B45
 by_cases hlt:k<m.classes.length
 ·refine brT ?_
  obtain ⟨c,hc⟩:=some_of_lt hlt
  refine lda y5.at ?_
  refine cl (k_class m a k c w5 (hM.bl B5) hc hP (by omega) (by omega) (by omega) (by omega)) ?_ (hm:=fun _ _ r=>mdW_bl r.2)
  rintro _ w6 ⟨⟨b,rfl,hb⟩,B6⟩
  cases b with
  | false =>
   refine brt ?_ (hp:=by first | rfl | (simp;done) | (simp;omega))
   exact rt1 ⟨⟨false,rfl,no fun q=>by have:=hb.2 (q.cls k c hc);cases this⟩,B5.trans B6⟩
  | true =>
   refine brf ?_ (hp:=by first | rfl | (simp;done) | (simp;omega))
   refine ih hlt ⟨rfl,fun i z hi hz => ?_,B45.trans B6⟩
   rcases Nat.lt_or_ge i k with q | q
   ·exact hP i z q hz
   ·obtain rfl:i=k:=by omega
    rw [hc] at hz;obtain rfl:=Option.some.inj hz;exact hb.1 rfl
 refine brF ?_
 clear ih
 have hP':∀ (k:Nat) x,m.classes[k]? = some x->ClsP m k x:=fun i x hx=>hP i x (by have:=(List.getElem?_eq_some_iff.1 hx).1;omega) hx
 have hT:∀ c∈m.classes,(c.table.length:Int)=m.sels:=fun c hc=>by
  obtain ⟨i,hi⟩:=List.mem_iff_getElem?.1 hc
  exact (hP' i c hi).tl
 refine ld (x5.cell rfl) ?_
 refine lpk (vals:=[]) m.methods.length 74 [] [(1,.pointer (some ⟨b1,0,none⟩)),(3,.pointer (some ⟨b3,0,none⟩)),(73,I m.methods.length)] (fun k vals w'=>vals=[]/\(∀ (i:Nat) x,i<k->m.methods[i]? = some x->MthP m i x)/\Bl w5 w') ⟨rfl,fun i y h=>by omega,Bl.refl _⟩ ?_
 clear hk hP hlt
 rintro k vals w6 hk ⟨rfl,hMt,B56⟩ ih
 have x6:=Bl.box B56 x5
 have y6:=Bl.box B56 y5
 have B6:=B5.trans B56
 by_cases hlt:k<m.methods.length
 ·refine brT ?_
  obtain ⟨x,hx⟩:=some_of_lt hlt
  refine lda y6.at ?_
  refine cl (k_method m a k x w6 (hM.bl B6) hx (by omega) (by omega) hC hT) ?_ (hm:=fun _ _ r=>mdW_bl r.2)
  rintro _ w7 ⟨⟨b,rfl,hb⟩,B7⟩
  cases b with
  | false =>
   refine brt ?_ (hp:=by first | rfl | (simp;done) | (simp;omega))
   exact rt1 ⟨⟨false,rfl,no fun q=>by have:=hb.2 (q.mth k x hx);cases this⟩,B6.trans B7⟩
  | true =>
   refine brf ?_ (hp:=by first | rfl | (simp;done) | (simp;omega))
   refine ih hlt ⟨rfl,fun i z hi hz => ?_,B56.trans B7⟩
   rcases Nat.lt_or_ge i k with q | q
   ·exact hMt i z q hz
   ·obtain rfl:i=k:=by omega
    rw [hx] at hz;obtain rfl:=Option.some.inj hz;exact hb.1 rfl
 refine brF ?_
 clear ih
 have hMt':∀ (k:Nat) x,m.methods[k]? = some x->MthP m k x:=fun i x hx=>hMt i x (by have:=(List.getElem?_eq_some_iff.1 hx).1;omega) hx
 clear hMt hk
 obtain ⟨n,hn⟩:=Int.eq_ofNat_of_zero_le (show 0<=m.sels by omega)
 refine ld (x6.cell rfl) ?_
 refine lpk (vals:=[]) n 84 [] [(1,.pointer (some ⟨b1,0,none⟩)),(83,I m.sels)] (fun s vals w'=>vals=[]/\(∀ i:Nat,i<s->AlkP m i)/\Bl w6 w') ⟨rfl,fun i h=>by omega,Bl.refl _⟩ ?_
 rintro s vals w7 hs ⟨rfl,hAl,B67⟩ ih
 have y7:=Bl.box B67 y6
 have B7:=B6.trans B67
 by_cases hsl:s<n
 rotate_left
 ·refine brF ?_ (hp:=by omega)
  exact rt1 ⟨⟨true,rfl,⟨fun _=>⟨by omega,by omega,by omega,by omega,by omega,hP',List.all_eq_true.1 et1.2,hMt',fun s' h=>hAl s' (by omega)⟩,fun _=>rfl⟩⟩,B7⟩
 refine brT ?_ (hp:=by omega)
 have htr:∀ t∈trgM m s,0<=t/\t<m.methods.length:=fun t ht=>by
  obtain ⟨h0,c,hc,e⟩:=mem_trg.1 ht
  obtain ⟨k,hk⟩:=List.mem_iff_getElem?.1 hc
  cases hs:c.table[s]? with
  | none=>rw [List.getD_eq_getElem?_getD,hs] at e;simp at e;omega
  | some n =>
   rw [List.getD_eq_getElem?_getD,hs] at e
   simp only [Option.getD_some] at e
   subst e
   exact ⟨h0,((hP' k c hk).tb s n hs).hi⟩
 refine lda y7.at ?_
 refine cl (k_alike m a s (fun c hc=>by have:=hT c hc;omega) htr w7 (hM.bl B7)) ?_ (hm:=fun _ _ r=>mdW_bl r.2)
 rintro _ w8 ⟨⟨b,rfl,hb⟩,B8⟩
 cases b with
 | false =>
  refine brt ?_ (hp:=by first | rfl | (simp;done) | (simp;omega))
  exact rt1 ⟨⟨false,rfl,no fun q=>by have:=hb.2 (q.alk s (by omega));cases this⟩,B7.trans B8⟩
 | true =>
  refine brf ?_ (hp:=by first | rfl | (simp;done) | (simp;omega))
  refine ih hsl ⟨rfl,fun i hi => ?_,B67.trans B8⟩
  rcases Nat.lt_or_ge i s with q | q
  ·exact hAl i q
  ·obtain rfl:i=s:=by omega
   exact hb.1 rfl
theorem k_Check (m:Mod) (a:MA) (w:World) (hM:MdR T w m a):Ret Tryz.prog 18 #[.agg (modcells m a).toArray] w fun v w'=>v=I (mchkE m)/\Bl w w':=by
 refine entr (vs:=[.agg (modcells m a).toArray]) [0,1,2,6] tabok Tryz.func18 (by kernel_rfl) ?_
 refine bx (cs:=modcells m a) fun b1 w1 k1 => ?_
 refine lda k1.box.at ?_
 refine bd (cs:=modcells m a) ?_
 refine cl (k_valid m a w1 (hM.bl k1.bl)) ?_ (hm:=fun _ _ r=>mdW_bl r.2)
 rintro _ w2 ⟨⟨b,rfl,hb⟩,B2⟩
 cases b with
 | false =>
  refine brt ?_ (hp:=by first | rfl | (simp;done) | (simp;omega))
  rw [chkE_no fun q=>by have:=hb.2 q;cases this]
  exact rt1 ⟨rfl,k1.bl.trans B2⟩
 | true =>
  refine brf ?_ (hp:=by first | rfl | (simp;done) | (simp;omega))
  rw [chkE_yes (hb.1 rfl)]
  exact rt1 ⟨rfl,k1.bl.trans B2⟩
end Go.Proofs.YtkmdfjpafkcleaaGreatDoor
namespace Go.Proofs.YtkmdfjpafkcleaaGreatDoor
open Eng Go.RowKit
end Go.Proofs.YtkmdfjpafkcleaaGreatDoor
namespace Go.Proofs.YtkmdfjpafkcleaaGreatDoor
open Eng Go.RowKit
def tcl (t:Ty):List Int:=if t.kind=2∨t.kind=4 then [t.cls] else []
def locM (x:MM):List Ty:=(if 0<=x.cls then [⟨2,x.cls⟩] else [])++x.params++x.locals
def insC (i:Ins):List Int:=if i.op=12 then tcl ⟨i.a,i.b⟩ else if i.op=14∨i.op=24 then [i.a] else if i.op=16 then [i.b] else []
def insS (i:Ins):List Int:=if i.op=22∨i.op=23 then [i.a] else []
def needC (x:MM):List Int:=(locM x++[x.result]).flatMap tcl++x.code.flatMap insC
def needS (x:MM):List Int:=x.code.flatMap insS
def sucC (m:Mod) (c:Int):List Int:=((m.classes[c.toNat]?).map fun x=>(if 0<=x.super then [x.super] else [])++x.fields.flatMap tcl).getD []
def staC (m:Mod) (i:Int):List Int:=((m.statics[i.toNat]?).map tcl).getD []
inductive Nd where
 | m (n:Int)
 | c (n:Int)
 | s (n:Int)
deriving DecidableEq
def mths (m:Mod) (k:Int):MM:=(m.methods[k.toNat]?).getD ⟨⟨#[]⟩,-1,[],[],⟨0,0⟩,[]⟩
def suc (m:Mod):Nd->List Nd
 | .m k=>(needC (mths m k)).map .c++(needS (mths m k)).map .s++(calM m k.toNat).map .m
 | .c c=>(sucC m c).map .c
 | .s i=>(staC m i).map .c
inductive Rch (m:Mod) (R:Nd->Prop):Nd->Prop
 | root {x:Nd} (h:R x):Rch m R x
 | step {x y:Nd} (h:Rch m R x) (hy:y∈suc m x):Rch m R y
theorem Rch.mono {m:Mod} {R R':Nd->Prop} (h:∀ x,R x->R' x) {x:Nd} (k:Rch m R x):Rch m R' x:=by
 induction k with
 | root q=>exact .root (h _ q)
 | step _ hy ih=>exact .step ih hy
theorem Rch.trans {m:Mod} {R R':Nd->Prop} (h:∀ x,R x->Rch m R' x) {x:Nd} (k:Rch m R x):Rch m R' x:=by
 induction k with
 | root q=>exact h _ q
 | step _ hy ih=>exact .step ih hy
structure Dfs (m:Mod) (R V V':Nd->Prop):Prop where
 mono:∀ x,V x->V' x
 new:∀ x,V' x->V x∨Rch m R x
 cl:∀ x,V' x->¬V x->∀ y∈suc m x,V' y
 has:∀ x,R x->V' x
theorem Dfs.refl (m:Mod) {R V:Nd->Prop} (h:∀ x,R x->V x):Dfs m R V V:=⟨fun _ h=>h,fun _ h => .inl h,fun _ h k=>absurd h k,h⟩
theorem Dfs.trans {m:Mod} {R R' V V1 V2:Nd->Prop} (h:Dfs m R V V1) (k:Dfs m R' V1 V2):Dfs m (fun x=>R x∨R' x) V V2 :=
 ⟨fun x q=>k.mono x (h.mono x q),fun x q=>by
  rcases k.new x q with q | q
  ·exact (h.new x q).imp id (Rch.mono fun _ => .inl)
  ·exact .inr (q.mono fun _ => .inr),fun x q hV y hy=>by
  by_cases h1:V1 x
  ·exact k.mono y (h.cl x h1 hV y hy)
  ·exact k.cl x q h1 y hy,fun x q=>by
  rcases q with q | q
  ·exact k.mono x (h.has x q)
  ·exact k.has x q⟩
noncomputable def sel (n:Nat) (p:Int->Prop):List Int:=by
 classical exact ((List.range n).map fun i:Nat=>(i:Int)).filter fun i=>decide (p i)
end Go.Proofs.YtkmdfjpafkcleaaGreatDoor
namespace Go.Proofs.YtkmdfjpafkcleaaGreatDoor
open Go Go.RowKit Eng
abbrev MpI (α:Type):=List (Int×α)
def getI {α:Type}:MpI α->Int->Option α
 | [],_=>none
 | (k',v)::m,k=>if k'=k then some v else getI m k
def putI {α:Type}:MpI α->Int->α->MpI α
 | [],k,v=>[(k,v)]
 | (k',v')::m,k,v=>if k'=k then (k,v)::m else (k',v')::putI m k v
abbrev kvi {α:Type} (enc:α->Value) (p:Int×α):Value×Value:=(I p.1,enc p.2)
structure MapIsI {α:Type} (enc:α->Value) (w:World) (b:Nat) (m:MpI α):Prop where
 is:∃ es clock,w.heap[b]? = some (.map es clock)/\es.toList.map kv=m.map (kvi enc)/\MapKept.Stamped es clock
theorem MapIsI.lt {α:Type} {enc:α->Value} {w:World} {b:Nat} {m:MpI α} (h:MapIsI enc w b m):b<w.heap.size:=by
 obtain ⟨es,clock,h1,_⟩:=h.is
 exact (Array.getElem?_eq_some_iff.1 h1).1
theorem MapIsI.same {α:Type} {enc:α->Value} {w w':World} {b:Nat} {m:MpI α} (h:MapIsI enc w b m) (hs:w'.heap[b]? = w.heap[b]?):MapIsI enc w' b m:=by
 obtain ⟨es,clock,h1,h2⟩:=h.is
 exact ⟨⟨es,clock,hs.trans h1,h2⟩⟩
theorem MapIsI.bl {α:Type} {enc:α->Value} {w w':World} {b:Nat} {m:MpI α} (h:MapIsI enc w b m) (k:Bl w w'):MapIsI enc w' b m:=h.same (k.block b h.lt)
theorem MapIsI.wr {α:Type} {enc:α->Value} {w w':World} {b c:Nat} {m:MpI α} (h:MapIsI enc w b m) (k:Wr w c w') (hb:b≠c):MapIsI enc w' b m:=h.same (k.block b hb)
theorem MapIsI.len {α:Type} {enc:α->Value} {w:World} {b:Nat} {m:MpI α} (h:MapIsI enc w b m):∃ es clock,w.heap[b]? = some (.map es clock)/\es.size=m.length:=by
 obtain ⟨es,clock,h1,h2,_⟩:=h.is
 refine ⟨es,clock,h1,?_⟩
 have:=congrArg List.length h2
 simpa using this
theorem putI_get {α:Type} (m:MpI α) (k k':Int) (v:α):getI (putI m k v) k'=if k=k' then some v else getI m k':=by
 induction m with
 | nil=>simp [putI,getI]
 | cons p m ih =>
  obtain ⟨k0,v0⟩:=p
  simp only [putI,getI]
  by_cases h:k0=k
  ·subst h
   simp only [if_true,getI]
   by_cases h1:k0=k'
   ·simp [h1]
   ·simp [h1]
  ·simp only [if_neg h,getI,ih]
   by_cases h1:k=k'
   ·subst h1;simp [h]
   ·simp [h1]
namespace Eng
variable {C:Cx} {s:St} {w:World}
end Eng
end Go.Proofs.YtkmdfjpafkcleaaGreatDoor
namespace Go.Proofs.YtkmdfjpafkcleaaGreatDoor
open Eng Go.RowKit
end Go.Proofs.YtkmdfjpafkcleaaGreatDoor
namespace Go.Proofs.YtkmdfjpafkcleaaGreatDoor
open Eng Go.RowKit
end Go.Proofs.YtkmdfjpafkcleaaGreatDoor
namespace Go.Proofs.YtkmdfjpafkcleaaGreatDoor
open Eng Go.RowKit
end Go.Proofs.YtkmdfjpafkcleaaGreatDoor
namespace Go.Proofs.YtkmdfjpafkcleaaGreatDoor
open Eng Go.RowKit
end Go.Proofs.YtkmdfjpafkcleaaGreatDoor
namespace Go.Proofs.YtkmdfjpafkcleaaGreatDoor
open Eng Go.RowKit
end Go.Proofs.YtkmdfjpafkcleaaGreatDoor
namespace Go.Proofs.YtkmdfjpafkcleaaGreatDoor
open Eng Go.RowKit
structure Chg (bs:Nat->Prop) (w w':World):Prop where
 os:w'.os=w.os
 tape:w'.tape=w.tape
 output:w'.output=w.output
 size:w.heap.size<=w'.heap.size
 block:∀ k,k<w.heap.size->¬bs k->w'.heap[k]? = w.heap[k]?
theorem Chg.refl (bs:Nat->Prop) (w:World):Chg bs w w:=⟨rfl,rfl,rfl,Nat.le_refl _,fun _ _ _=>rfl⟩
theorem Chg.trans {bs:Nat->Prop} {w w1 w2:World} (h:Chg bs w w1) (k:Chg bs w1 w2):Chg bs w w2 :=
 ⟨k.os.trans h.os,k.tape.trans h.tape,k.output.trans h.output,Nat.le_trans h.size k.size,fun i hi hn=>(k.block i (Nat.lt_of_lt_of_le hi h.size) hn).trans (h.block i hi hn)⟩
theorem Chg.below {bs:Nat->Prop} {w w':World} (h:Chg bs w w') {B:Nat} (hB:B<=w.heap.size) (hb:∀ b,bs b->B<=b):Below B w w' :=
 ⟨h.os,h.tape,h.output,h.size,fun k hk=>h.block k (by omega) fun q=>by have:=hb k q;omega⟩
theorem Chg.box {bs:Nat->Prop} {w w':World} (h:Chg bs w w') {b:Nat} {t:TypeId} {cs:List Value} (hb:Box w b t cs) (hn:¬bs b):Box w' b t cs:=by unfold Box;rw [h.block b hb.lt hn];exact hb
theorem Chg.sub {bs bs':Nat->Prop} {w w':World} (h:Chg bs w w') (k:∀ b,bs b->bs' b):Chg bs' w w':=⟨h.os,h.tape,h.output,h.size,fun i hi hn=>h.block i hi fun q=>hn (k i q)⟩
end Go.Proofs.YtkmdfjpafkcleaaGreatDoor
namespace Go.Proofs.YtkmdfjpafkcleaaGreatDoor
open Eng Go.RowKit
def AllT (M:MpI Bool):Prop:=∀ k v,getI M k=some v->v=true
theorem AllT.put {M:MpI Bool} (h:AllT M) (n:Int):AllT (putI M n true):=fun k v hk=>by
 rw [putI_get] at hk
 split at hk
 ·exact (Option.some.inj hk).symm
 ·exact h k v hk
theorem AllT.look {M:MpI Bool} (h:AllT M) (n:Int):((getI M n).map Value.bool).getD (.bool false) = .bool (decide (getI M n=some true)):=by
 cases hk:getI M n with
 | none=>rfl
 | some v=>rw [h n v hk];rfl
structure RcS (m:Mod) (a:MA) (br b0 b1 b2:Nat) (w:World) (M0 M1 M2:MpI Bool):Prop where
 box:Box w br 130 (modcells m a++[.map (some b0),.map (some b1),.map (some b2)])
 m0:MapIsI Value.bool w b0 M0
 m1:MapIsI Value.bool w b1 M1
 m2:MapIsI Value.bool w b2 M2
 n01:b0≠b1
 n02:b0≠b2
 n12:b1≠b2
 mod:MdR T w m a
 t0:AllT M0
 t1:AllT M1
 t2:AllT M2
section
variable {m:Mod} {a:MA} {br b0 b1 b2:Nat} {w w':World} {M0 M1 M2:MpI Bool}
theorem RcS.bl (h:RcS m a br b0 b1 b2 w M0 M1 M2) (k:Bl w w'):RcS m a br b0 b1 b2 w' M0 M1 M2 :=
 ⟨Bl.box k h.box,h.m0.bl k,h.m1.bl k,h.m2.bl k,h.n01,h.n02,h.n12,h.mod.bl k,h.t0,h.t1,h.t2⟩
end
def left (N:Nat) (M:MpI Bool):Nat:=((List.range N).filter fun i:Nat => !decide (getI M (i:Int)=some true)).length
end Go.Proofs.YtkmdfjpafkcleaaGreatDoor
namespace Go.Proofs.YtkmdfjpafkcleaaGreatDoor
open Eng Go.RowKit
section
variable {m:Mod} {a:MA} {br b0 b1 b2:Nat} {w w':World} {M0 M1 M2:MpI Bool}
end
end Go.Proofs.YtkmdfjpafkcleaaGreatDoor
namespace Go.Proofs.YtkmdfjpafkcleaaGreatDoor
open Eng Go.RowKit
end Go.Proofs.YtkmdfjpafkcleaaGreatDoor
namespace Go.Proofs.YtkmdfjpafkcleaaGreatDoor
open Eng Go.RowKit
end Go.Proofs.YtkmdfjpafkcleaaGreatDoor
namespace Go.Proofs.YtkmdfjpafkcleaaGreatDoor
open Eng Go.RowKit
end Go.Proofs.YtkmdfjpafkcleaaGreatDoor
namespace Go.Proofs.YtkmdfjpafkcleaaGreatDoor
open Eng Go.RowKit
def CapL (w:World) (a:Option Addr) (c:Nat) (l:List Int):Prop:=Sl eInt T w a l/\l.length<=c/\(a=none->c=0)
theorem CapL.bl {w w':World} {a:Option Addr} {c:Nat} {l:List Int} (h:CapL w a c l) (k:Bl w w'):CapL w' a c l:=⟨h.1.bl k,h.2⟩
theorem CapL.own {w:World} {base:Nat} {a:Option Addr} {c:Nat} {l:List Int} (h:OwP 1 encInt w base 3 a c l) (hl:l.length<=4194304):CapL w a c l:=⟨owp_sl h hl fun _ _=>trivial,h.capn.1,h.capn.2⟩
end Go.Proofs.YtkmdfjpafkcleaaGreatDoor
namespace Go.Proofs.YtkmdfjpafkcleaaGreatDoor
open Eng Go.RowKit
def RenF (w:World) (b:Nat) (l:List Int):Prop:=∃ a c,Box w b 47 [.slice a l.length c]/\Sl eInt T w a l
theorem RenF.bl {w w':World} {b:Nat} {l:List Int} (h:RenF w b l) (k:Bl w w'):RenF w' b l:=by
 obtain ⟨a,c,h1,h2⟩:=h
 exact ⟨a,c,Bl.box k h1,h2.bl k⟩
end Go.Proofs.YtkmdfjpafkcleaaGreatDoor
namespace Go.Proofs.YtkmdfjpafkcleaaGreatDoor
open Eng Go.RowKit
end Go.Proofs.YtkmdfjpafkcleaaGreatDoor
namespace Go.Proofs.YtkmdfjpafkcleaaGreatDoor
open Eng Go.RowKit
section
variable {m:Mod} {me cl st:List Int}
end
end Go.Proofs.YtkmdfjpafkcleaaGreatDoor
namespace Go.Proofs.YtkmdfjpafkcleaaGreatDoor
open Eng Go.RowKit
abbrev mdz (a1:Option Addr) (n1 c1:Nat) (a2:Option Addr) (n2 c2:Nat) (a3:Option Addr) (n3 c3:Nat) (z:Int):List Value:=[.slice a1 n1 c1,.slice a2 n2 c2,.slice a3 n3 c3,I z]
end Go.Proofs.YtkmdfjpafkcleaaGreatDoor
namespace Go.Proofs.YtkmdfjpafkcleaaGreatDoor
open Eng Go.RowKit
variable {us:List Unt} {s:PgS}
theorem Eng.stv5 {C:Cx} {s:St} {w:World} {md:Option Md} {ops:Array Oper} {T:TypeId} {x y:Operand} {ty:TypeId} {pos:String} {af:Array Edge} {g:Option (Nat×Bool)} {rest:List Oper} {k:List Item} {l:Env} {c:CEnv} {tk:TK} {sz:Nat} {ag:Bool} {zr:List Value} {b o:Nat} {t:TypeId} {vs cs:List Value}
  (hb:Box w b t cs) (h:∀ w',Wr w b w'->Box w' b t (ovl cs o vs)->Wk C (.reg md ops rest k l c) w')
  (hs:adv C.tab C.n C.ks 400 s = .opn md ops ⟨none,.store T x y,ty,pos,af,g⟩ rest k l c []:=by rfl) (ht:C.tab.at T=some ⟨tk,sz,ag,zr⟩:=by rfl)
  (hx:evc l c [] x=some (.pointer (some ⟨b,o,none⟩)):=by rfl) (hy:evc l c [] y=some (.agg vs.toArray):=by rfl) (hv:vs.all Value.oneCell'=true:=by rfl) (hl:vs.length=sz:=by rfl)
  (ho:o+vs.length<=cs.length:=by omega) (hm:∀ w',Wr w b w'->mdW md w w':=by intros;exact True.intro) (hnt:notT md=true:=by rfl):Wk C s w :=
 op_unit (okW_of rfl hnt) (hm _ (setCells_ok hb).1) (w':=setCells w b o vs) (fun hT a hA=>by
  have hz:=(ti_agg (tab_at hT ht) w).2
  simp only [execOp,evc_ok hA.k hA.kc.c (p:=[]) trivial hx,evc_ok hA.k hA.kc.c (p:=[]) trivial hy,Instr.storeAt,Instr.sureAddr]
  refine (run_bind_ok (P:=C.P) (x:=()) (w':=setCells w b o vs) ?_).trans rfl
  show (storeVar T ⟨b,o,none⟩ (.agg vs.toArray)).run C.P w=_
  unfold storeVar
  rw [run_bind_ok hz,if_neg (by simp [Value.cells,hl])]
  exact storeCells_run (vs:=vs) (i:=0) hb ho hv)
  (h _ (setCells_ok hb).1 (setCells_ok (o:=o) (vs:=vs) hb).2) hs rfl
theorem flat_set5 {α:Type} {sz:Nat} {enc:α->List Value} (h:∀ x,(enc x).length=sz):∀ {l:List α} {i:Nat} {x y:α} {j:Nat} {v:Value},l[i]? = some x->j<sz->enc y=(enc x).set j v->(l.flatMap enc).set (i*sz+j) v=(l.set i y).flatMap enc
 | [],i,x,y,j,v,hx,_,_=>by simp at hx
 | z::l,0,x,y,j,v,hx,hj,he=>by
  simp at hx;subst hx
  rw [Nat.zero_mul,Nat.zero_add,List.flatMap_cons,List.set_append_left _ _ (by rw [h];exact hj),<-he]
  rfl
 | z::l,i+1,x,y,j,v,hx,hj,he=>by
  have ih:=flat_set5 h (l:=l) (i:=i) (by simpa using hx) hj he
  rw [List.flatMap_cons,List.set_append_right _ _ (by rw [h,Nat.succ_mul];omega),h,show (i+1)*sz+j-sz=i*sz+j by rw [Nat.succ_mul];omega,ih]
  rfl
theorem rep_T (n:Nat):rep n [I 0,I 0]=(List.replicate n (⟨0,0⟩:Ty)).flatMap encTy:=by
 induction n with
 | zero=>rfl
 | succ n ih=>rw [List.replicate_succ',List.flatMap_append,<-ih];rfl
theorem ty_ovl {l:List Ty} {k:Nat} {x y:Ty} (hx:l[k]? = some x):ovl (l.flatMap encTy) (0+k*2) (encTy y)=(l.set k y).flatMap encTy:=by
 have hk:=(List.getElem?_eq_some_iff.1 hx).1
 show ((((l.flatMap encTy).set (0+k*2) (I y.kind)).set (0+k*2+1) (I y.cls)))=_
 rw [Nat.zero_add]
 have e0:=flat_set5 (sz:=2) (enc:=encTy) (fun _=>rfl) hx (y:=⟨y.kind,x.cls⟩) (j:=0) (v:=I y.kind) (by omega) rfl
 have h1:(l.set k ⟨y.kind,x.cls⟩)[k]? = some ⟨y.kind,x.cls⟩:=List.getElem?_set_self hk
 have e1:=flat_set5 (sz:=2) (enc:=encTy) (fun _=>rfl) h1 (y:=y) (j:=1) (v:=I y.cls) (by omega) rfl
 rw [List.set_set] at e1
 rw [<-e1,<-e0];rfl
theorem clsM_at (R:RdP us s) {d:Nat×Nat} {u:Unt} {c:Cls} (ha:clsAt us d=some (u,c)) :
  clsM us (ordsL us) (pthC us d)=⟨pthC us d,idxB (ordsL us).oc (supF u c),(layN us d).map (slotT us (ordsL us).oc),(ordsL us).oz.map (tblV us (pthC us d))⟩:=by
 have K:=runK_of R.k
 unfold clsM layN
 rw [supL_at K.good ha,keysC_len K.good,lay_types K.good K.df _ _ d (mem_clsW.2 ⟨_,ha⟩)]
 unfold tblV
 rw [keysC_len K.good]
theorem slot_is (R:RdP us s) {n:Nat} {d:Nat×Nat} {q:Slot} (h:q∈layD us n d):∃ u,us[q.2.1]? = some u/\(tcls q.2.2=true->inP u q.2.2.cls)/\lnkT us s u q.2.2=slotT us (ordsL us).oc q:=by
 have K:=runK_of R.k
 obtain ⟨u,c,f,hu,hc,hf,e⟩:=lay_in n d q h
 have hum:=List.mem_of_getElem? hu
 have ht:=(tyU_of (K.ck u hum)).f c hc f hf
 refine ⟨u,hu,by rw [e];exact tyP_in ht,?_⟩
 unfold slotT
 rw [hu,Option.getD_some,e]
 exact lnk_is R ht ((def_cls K (x:=(u,c)) ⟨hum,hc⟩).2 f hf)
theorem staM_pth (R:RdP us s) {d:Nat×Nat} {u:Unt} {f:Fld} (ha:staAt us d=some (u,f)):staM us (ordsL us) (pthS us d)=kindM (ordsL us).oc u f.ty:=by
 have K:=runK_of R.k
 obtain ⟨hu,hf⟩:=staAt_un ha
 unfold staM
 rw [get_sta_of K.good (mem_staW.2 ⟨_,ha⟩),Option.bind_some,hu,Option.bind_some,hf];rfl
theorem sta_pos (R:RdP us s) {d:Nat×Nat} (hd:d∈staW us):(ordsL us).os[staN us (pthS us d) (staW us)]? = some (pthS us d):=by
 have K:=runK_of R.k
 have hm:pthS us d∈(ordsL us).os:=(os_perm K).mem_iff.2 (List.mem_map.2 ⟨d,hd,rfl⟩)
 have h:=sta_is K (p:=pthS us d) (hasM_iff.2 ((sortL_perm' _).mem_iff.1 hm))
 exact idxB_get h.symm
def lnkQ (us:List Unt) (w:World) (v:Value) (w':World):Prop:=∃ a,v = .tuple #[.agg (modcells (modL us) a).toArray,I (runE us)]/\MdR T w' (modL us) a/\Bl w w'
abbrev tMod:TypeId:=29
abbrev tCls:TypeId:=49
abbrev tMth:TypeId:=54
abbrev tTy:TypeId:=51
set_option maxHeartbeats 32000000 in
theorem r_Link {w:World} {au:Option Addr} {cu:Nat} (hS:Sl eUnt T w au us):Ret Tryz.prog 20 #[.slice au us.length cu] w (lnkQ us w):=by
 refine entr (vs:=[.slice au us.length cu]) [0,2,3,4,5,6,7,8,9,10,11,12,13,14,15,16,17,19,20,21,22,23,24,31,46,69,80,125,171,216,228] tabok Tryz.func20 (by kernel_rfl) ?_
 refine al fun b2 w1 k1 => ?_
 have y1:=k1.blk
 have z1:=k1.size
 refine cl (r_read (hS.bl k1.bl)) ?_
 rintro v w2 ⟨B12,⟨b,s,rfl,H,R⟩ | ⟨hne,rfl⟩⟩
 rotate_left
 ·refine brT ?_ (hp:=by exact hne)
  have e:modL us=mod0:=by unfold modL;rw [if_neg hne]
  refine bd (cs:=mdz none 0 0 none 0 0 none 0 0 0) ?_
  refine sta (cs':=mdz none 0 0 none 0 0 none 0 0 0) (Bl.box B12 k1.box) fun w3 k3 x3 => ?_
  refine rtc2 (cs:=mdz none 0 0 none 0 0 none 0 0 0) x3.at ⟨⟨none,0,none,0,none,0⟩,by rw [e];rfl,?_,Below.trans (k1.bl.trans B12) (k3.below (by omega))⟩
  rw [e]
  exact ⟨Sl.nil ..,Sl.nil ..,Sl.nil ..⟩
 refine brF ?_
 have K:=runK_of R.k
 have hC:=K.ck
 obtain ⟨sz1,sz2,sz3,sz4,sz5,sz6⟩:=R.sizes
 have eM:modL us=modO us (ordsL us):=by unfold modL;rw [if_pos R.k]
 obtain ⟨oc,hoc⟩:∃ oc,oc=(ordsL us).oc:=⟨_,rfl⟩
 have B2:=k1.bl.trans B12
 have x2:=Bl.box B12 k1.box
 obtain ⟨au',cu',ac,cc,as',cs,am,cm,ao,co,al',cl',az,cz,hx,h1,h2,h3,h4,h5,h6,h7,h8⟩:=id H
 rw [R.sel] at hx sz4
 rw [R.sta] at hx h3
 refine ld (hx.cell rfl) ?_
 refine bd (cs:=mdz none 0 0 none 0 0 none 0 0 (ordsL us).oz.length) ?_
 refine al fun b6 w3 k3 => ?_
 have y3:=k3.blk
 have z3:=k3.size
 refine sta (cs':=mdz none 0 0 none 0 0 none 0 0 (ordsL us).oz.length) k3.box fun w4 k4 x6 => ?_
 have B24:Bl w2 w4:=Below.trans k3.bl (k4.below (by omega))
 have z4:=k4.size
 have lb:=hx.lt
 have l2:=x2.lt
 have lw2:=B2.size
 refine lpk (vals:=[]) s.ord.length 7 [] [(2,.pointer (some ⟨b2,0,none⟩)),(4,.pointer (some ⟨b,0,none⟩)),(6,.pointer (some ⟨b6,0,none⟩))]
  (fun j vals w'=>vals=[]/\Nc b6 w4 w'/\∃ a1 c1,Box w' b6 tMod (mdz a1 ((s.ord.take j).map fun d=>clsM us (ordsL us) (pthC us d)).length c1 none 0 0 none 0 0 (ordsL us).oz.length)/\OwC eMC (fun i=>w4.heap.size<=i) w' w4.heap.size tCls a1 c1 ((s.ord.take j).map fun d=>clsM us (ordsL us) (pthC us d)))
  ⟨rfl,.of_bl (Bl.refl _),none,0,x6,OwC.nil ..⟩ ?_
 rintro j vals w5 hj ⟨rfl,N5,a1,c1,x65,O5⟩ ih
 have B25:Bl w2 w5:=Nc.below B24 N5 (by omega) B24.size
 have z5:=N5.size
 have hx5:=Bl.box B25 hx
 refine ld (hx5.cell rfl) ?_
 by_cases hjl:j<s.ord.length
 ·refine brT ?_
  refine ld (hx5.cell rfl) ?_
  obtain ⟨d,bd',od,cd,hd,e5,_,hAd,rfl⟩:=at_some (h5.bl B25) hjl
  have hW:=R.o.sub d (List.mem_of_getElem? hd)
  obtain ⟨⟨u,c⟩,ha⟩:=mem_clsW.1 hW
  rw [e5]
  refine ix ?_
  refine lda hAd ?_
  refine al fun b8 w6 k6 => ?_
  have y6:=k6.blk
  have z6:=k6.size
  refine sta (cs':=encWh d) k6.box fun w7 k7 x8 => ?_
  have B57:Bl w5 w7:=Below.trans k6.bl (k7.below (by omega))
  have B27:=B25.trans B57
  have z7:=k7.size
  have l8:=x8.lt
  have H7:=H.bl B27
  obtain ⟨tb,htb⟩:∃ tb,tb=(ordsL us).oz.map (tblV us (pthC us d)):=⟨_,rfl⟩
  refine cut [9] [(2,.pointer (some ⟨b2,0,none⟩)),(4,.pointer (some ⟨b,0,none⟩)),(6,.pointer (some ⟨b6,0,none⟩)),(7,I j),(8,.pointer (some ⟨b8,0,none⟩))] (fun vals w'=>∃ b9 a5 c5,vals=[.pointer (some ⟨b9,0,none⟩)]/\w7.heap.size<=b9/\Bl w7 w'/\Box w' b9 tCls (mccells ⟨pthC us d,-1,[],tb⟩ none 0 a5 c5)/\OwP 1 encInt w' w7.heap.size 3 a5 c5 tb/\a5≠some ⟨b9,0,none⟩) (fun go => ?_) ?_
  ·refine dhb (· < w7.heap.size) (.row [0,1,3,4] (.two 2 (.two 5 (.row [6,7,8] .done) 7 (.row [5,6,8] .done)) 7 (.row [2,5,6,8] .done))) fun v0 q0 => ?_
   have s0:v0.heap.size=w7.heap.size:=by rw [q0.heap]
   have D0:Bl w7 v0:=q0.bl
   refine lda (q0.box x8).at ?_ (hm:=by show b8<_;omega)
   refine lda (q0.box x8).at ?_ (hm:=by show b8<_;omega)
   refine bt ?_ ?_
   ·refine cl (r_cpath (H7.bl D0).u hC ha) ?_
    rintro _ v1 ⟨rfl,E1⟩
    have D1:=D0.trans E1
    have s1:=E1.size
    refine bt ?_ ?_
    ·refine cl (r_table (H7.bl D1) R hW) ?_ (hm:=fun _ _ r=>by obtain ⟨_,_,_,_,hB⟩:=r;exact mdW_bl hB)
     rintro _ v2 ⟨a5,c5,rfl,O5t,E2⟩
     rw [<-htb] at O5t ⊢
     have O5r:=O5t.base (base':=w7.heap.size) (by have:=D1.size;omega)
     have g5:=fun g (hg:a5=some ⟨g,0,none⟩)=>O5t.lt hg
     have D2:=D1.trans E2
     have s2:=E2.size
     have O5r_2:=O5r
     refine bd ?_
     refine al fun bb v3 r3 => ?_
     have E3:=r3.bl
     have yb:=r3.blk
     have zb:=r3.size
     have xb_3:Box v3 bb _ _:=r3.box
     have D3:=D2.trans E3
     have s3:=E3.size
     have O5r_3:=O5r_2.bl E3
     refine sta (cs':=mccells ⟨pthC us d,-1,[],tb⟩ none 0 a5 c5) xb_3 (fun wz kz xz => ?_) (hm:=wrB (by show ¬bb<_;omega))
     have h5':a5≠some ⟨bb,0,none⟩:=fun e=>by have:=g5 _ e;omega
     exact go ⟨bb,a5,c5,rfl,by omega,Below.trans D3 (kz.below (by omega)),xz,O5r_3.wr kz fun g hg e=>h5' (e▸hg),h5'⟩
    ·refine al fun bb v2 r2 => ?_
     have E2:=r2.bl
     have yb:=r2.blk
     have zb:=r2.size
     have xb_2:Box v2 bb _ _:=r2.box
     have D2:=D1.trans E2
     have s2:=E2.size
     refine cl (r_table (H7.bl D2) R hW) ?_ (hm:=fun _ _ r=>by obtain ⟨_,_,_,_,hB⟩:=r;exact mdW_bl hB)
     rintro _ v3 ⟨a5,c5,rfl,O5t,E3⟩
     rw [<-htb] at O5t ⊢
     have O5r:=O5t.base (base':=w7.heap.size) (by have:=D2.size;omega)
     have g5:=fun g (hg:a5=some ⟨g,0,none⟩)=>O5t.lt hg
     have D3:=D2.trans E3
     have s3:=E3.size
     have O5r_3:=O5r
     have xb_3:=Bl.box E3 xb_2
     refine bd ?_
     refine sta (cs':=mccells ⟨pthC us d,-1,[],tb⟩ none 0 a5 c5) xb_3 (fun wz kz xz => ?_) (hm:=wrB (by show ¬bb<_;omega))
     have h5':a5≠some ⟨bb,0,none⟩:=fun e=>by have:=g5 _ e;omega
     exact go ⟨bb,a5,c5,rfl,by omega,Below.trans D3 (kz.below (by omega)),xz,O5r_3.wr kz fun g hg e=>h5' (e▸hg),h5'⟩
   ·refine al fun bb v1 r1 => ?_
    have E1:=r1.bl
    have yb:=r1.blk
    have zb:=r1.size
    have xb_1:Box v1 bb _ _:=r1.box
    have D1:=D0.trans E1
    have s1:=E1.size
    refine cl (r_cpath (H7.bl D1).u hC ha) ?_
    rintro _ v2 ⟨rfl,E2⟩
    have D2:=D1.trans E2
    have s2:=E2.size
    have xb_2:=Bl.box E2 xb_1
    refine cl (r_table (H7.bl D2) R hW) ?_ (hm:=fun _ _ r=>by obtain ⟨_,_,_,_,hB⟩:=r;exact mdW_bl hB)
    rintro _ v3 ⟨a5,c5,rfl,O5t,E3⟩
    rw [<-htb] at O5t ⊢
    have O5r:=O5t.base (base':=w7.heap.size) (by have:=D2.size;omega)
    have g5:=fun g (hg:a5=some ⟨g,0,none⟩)=>O5t.lt hg
    have D3:=D2.trans E3
    have s3:=E3.size
    have O5r_3:=O5r
    have xb_3:=Bl.box E3 xb_2
    refine bd ?_
    refine sta (cs':=mccells ⟨pthC us d,-1,[],tb⟩ none 0 a5 c5) xb_3 (fun wz kz xz => ?_) (hm:=wrB (by show ¬bb<_;omega))
    have h5':a5≠some ⟨bb,0,none⟩:=fun e=>by have:=g5 _ e;omega
    exact go ⟨bb,a5,c5,rfl,by omega,Below.trans D3 (kz.below (by omega)),xz,O5r_3.wr kz fun g hg e=>h5' (e▸hg),h5'⟩
  rintro _ w8 ⟨b9,a5,c5,rfl,hb9,B78,x9,O5t,hne5⟩
  have z8:=B78.size
  have B28:=B27.trans B78
  have x88:=Bl.box B78 x8
  have l9:=x9.lt
  have H8:=H.bl B28
  refine lda x88.at ?_
  refine cl (r_super H8.u hC ha) ?_
  rintro _ w9 ⟨rfl,B89⟩
  have z9:=B89.size
  have B29:=B28.trans B89
  obtain ⟨sp,hsp⟩:∃ sp,sp=idxB (ordsL us).oc (supF u c):=⟨_,rfl⟩
  refine jn (t:=decide (0<=c.super)) [] [(2,.pointer (some ⟨b2,0,none⟩)),(4,.pointer (some ⟨b,0,none⟩)),(6,.pointer (some ⟨b6,0,none⟩)),(7,I j),(8,.pointer (some ⟨b8,0,none⟩)),(9,.pointer (some ⟨b9,0,none⟩))] (fun vals w'=>vals=[]/\Nc b9 w9 w'/\Box w' b9 tCls (mccells ⟨pthC us d,sp,[],tb⟩ none 0 a5 c5)) (fun h0 go => ?_) (fun h0 go => ?_) ?_
  ·rw [decide_eq_true_eq] at h0
   have hsu:supF u c=nm u c.super:=by unfold supF;rw [if_neg (by omega)]
   obtain ⟨hu,hc⟩:=clsAt_un ha
   have hh:=(dfn_cls K.df (List.mem_of_getElem? hu) (List.mem_of_getElem? hc)).resolve_left (by omega)
   refine cl (r_number (H8.bl B89) R.cls hC _) ?_
   rintro _ w10 ⟨rfl,B10⟩
   refine st (cs':=mccells ⟨pthC us d,sp,[],tb⟩ none 0 a5 c5) (Bl.box (B89.trans B10) x9) (fun w11 k11 x11 => ?_) (hcs:=by rw [hsp,hsu,<-num_is R hh];rfl)
   exact go ⟨rfl,(Nc.of_bl B10).wr k11 (.inl rfl),x11⟩
  ·rw [decide_eq_false_iff_not] at h0
   have hsu:supF u c=nost:=by unfold supF;rw [if_pos (by omega)]
   have e1:sp = -1:=by rw [hsp,hsu,idxB_no (nost_oc K)]
   exact go ⟨rfl,.of_bl (Bl.refl _),by rw [e1];exact Bl.box B89 x9⟩
  rintro _ w10 ⟨rfl,N10,x910⟩
  have z10:=N10.size
  have B810:Bl w8 w10->True:=fun _=>trivial
  have B710:Bl w7 w10:=Nc.below (B78.trans B89) N10 (by omega) (by omega)
  have B210:=B27.trans B710
  have x810:=Bl.box B710 x8
  refine lda x810.at ?_
  obtain ⟨kd,hkd,hkN⟩:=ord_at R hW
  refine cl (r_layout hC R.o kd d hkd (clsW us).length hkN (by omega) (H.bl B210) R.cls) ?_
  rintro _ w11 ⟨aL,cL,rfl,CL,B1011⟩
  have z11:=B1011.size
  obtain ⟨L,hL⟩:∃ L,L=layD us (clsW us).length d:=⟨_,rfl⟩
  have hLn:L=layN us d:=hL
  rw [<-hL] at CL ⊢
  have hL7:L.length<=7:=by
   have h7:=lay_7 K (p:=pthC us d) (by rw [<-R.oc];exact List.mem_map.2 ⟨d,R.o.all d hW,rfl⟩)
   rw [lay_is K.good K.df hW,List.length_map,<-hLn] at h7;exact h7
  have x911:=Bl.box B1011 x910
  have B711:=B710.trans B1011
  have B211:=B27.trans B711
  have l911:=x911.lt
  refine lpk (vals:=[]) L.length 13 [] [(2,.pointer (some ⟨b2,0,none⟩)),(4,.pointer (some ⟨b,0,none⟩)),(6,.pointer (some ⟨b6,0,none⟩)),(7,I j),(8,.pointer (some ⟨b8,0,none⟩)),(9,.pointer (some ⟨b9,0,none⟩)),(12,.slice aL L.length cL)]
   (fun i vals w'=>vals=[]/\Nc b9 w11 w'/\∃ a7 c7,Box w' b9 tCls [.string (pthC us d),I sp,.slice a7 ((L.take i).map (slotT us (ordsL us).oc)).length c7,.slice a5 tb.length c5]/\OwP 2 encTy w' w11.heap.size tTy a7 c7 ((L.take i).map (slotT us (ordsL us).oc)))
   ⟨rfl,.of_bl (Bl.refl _),none,0,x911,Ow.nil ..⟩ ?_
  rintro i vals w12 hi ⟨rfl,N12,a7,c7,x12,O12⟩ ih2
  have z12:=N12.size
  have B712:Bl w7 w12:=Nc.below B711 N12 (by omega) (by omega)
  have B212:=B27.trans B712
  by_cases hil:i<L.length
  ·refine brT ?_
   obtain ⟨q,bq,oq,cq,hq,rfl,hbq,hAq0,rfl⟩:=at_some CL.1 hil
   have hbq:w10.heap.size<=bq:=hbq
   obtain ⟨u',hu',hin',hsl⟩:=slot_is R (n:=(clsW us).length) (d:=d) (q:=q) (by rw [<-hL];exact List.mem_of_getElem? hq)
   obtain ⟨bu,ou,cu2,rest,cs3,ua,hxu,hAu,rfl,hU,hun⟩:=(H.u.at hu').ex
   have lbq:=cell_lt (hAq0 0 _ rfl)
   have lbu:=cell_lt (hAu 0 _ rfl)
   have lxu:=hxu.lt
   have hAq:At w12 bq (oq+i*eSlot.sz) (encSlot q):=hAq0.kp (S:=fun i=>i≠b9) (fun i o v s x=>by rw [World.cell?_of_block (w:=w11) (N12.blk i (cell_lt x) s)];exact x) (show bq≠b9 by omega)
   refine dht 2 (fun i=>i<w11.heap.size) (List.range 22) fun w13 k13 => ?_
   have B213:=B212.trans k13.bl
   have g13:w13.heap.size=w12.heap.size:=by rw [k13.heap]
   refine ld ((k13.box x12).cell rfl) ?_ (hm:=by show b9<_;omega)
   refine ld ((Bl.box B213 hxu).cell rfl) ?_ (hm:=by show b<_;omega)
   refine ix ?_
   refine ld (hAq.bl k13.bl 1 _ rfl) ?_ (hm:=by show bq<_;omega)
   refine ix (j:=q.2.1) ?_ (hb:=hun)
   refine lda (hAu.bl B213) ?_ (hm:=by show bu<_;omega)
   refine ix ?_
   refine lda (At.left (cs:=encTy q.2.2) (hAq.bl k13.bl).tail.tail) ?_ (hm:=by show bq<_;omega)
   refine cl (r_linked (H.bl B213) R.cls hC (hU.bl B213) hin') ?_
   rintro _ w14 ⟨rfl,B1314⟩
   rw [hsl]
   refine bs (cs:=encTy (slotT us (ordsL us).oc q)) fun b15 w15 k15 => ?_
   have B1215:=(k13.bl.trans B1314).trans k15.bl
   have z15:=B1215.size
   have hl:(L.take i).length<=7:=by rw [List.length_take];omega
   refine apl (l1:=[slotT us (ordsL us).oc q]) (O12.bl B1215) (.inr ⟨b15,0,rfl,k15.box.at⟩) (by omega) (fun a8 c8 w16 O16 A16 _ => ?_) (hm:=apS fun g hg q=>by have:=O12.lt hg;omega)
   have x16:=A16.box (Bl.box B1215 x12) fun e=>by have:=(O12.lt e).1;omega
   refine st x16 fun w17 k17 x17 => ?_
   have esn:(L.take (i+1)).map (slotT us (ordsL us).oc)=(L.take i).map (slotT us (ordsL us).oc)++[slotT us (ordsL us).oc q]:=map_snoc hq
   have N16:Nc b9 w11 w16:=(N12.bl B1215).ap A16 fun g hg=>(O12.lt hg).1
   exact ih2 hil ⟨rfl,N16.wr k17 (.inl rfl),a8,c8,by rw [esn];exact x17,by rw [esn];exact O16.wr k17 fun g hg e=>by have:=(O16.lt hg).1;omega⟩
  refine brF ?_
  obtain rfl:i=L.length:=by omega
  rw [List.take_length] at x12 O12
  clear ih2
  obtain ⟨rc,hrc⟩:∃ rc,rc=clsM us (ordsL us) (pthC us d):=⟨_,rfl⟩
  have er:rc=⟨pthC us d,sp,L.map (slotT us (ordsL us).oc),tb⟩:=by rw [hrc,clsM_at R ha,hsp,htb,hLn]
  have B512:=B57.trans B712
  refine ld ((Bl.box B512 x65).cell rfl) ?_
  refine lda x12.at ?_
  refine bs (cs:=mccells rc a7 c7 a5 c5) (fun b14 w13 k13 => ?_) (hcs:=by rw [er];rfl)
  have z13:=k13.size
  have B513:=B512.trans k13.bl
  obtain ⟨xs,e1',e3',hOx,e4⟩:=(O5.bl B513).row
  have hl5:((s.ord.take j).map fun d=>clsM us (ordsL us) (pthC us d)).length<=10:=by rw [List.length_map,List.length_take];omega
  refine ap hOx (.inr ⟨b14,0,rfl,k13.box.at⟩) (by omega) (fun a15 c15 w14 O14 A14 F14 => ?_)
  have hna:∀ g,a1=some ⟨g,0,none⟩->w4.heap.size<=g/\g<w5.heap.size:=fun g hg=>O5.lt hg
  have hrel:eMC.rel (fun i=>w4.heap.size<=i/\a1≠some ⟨i,0,none⟩/\i<w13.heap.size) w13 (mccells rc a7 c7 a5 c5) rc:=by
   have Oa:=(O5t.bl B89).same (w':=w10) fun g hg=>N10.blk g (by have:=(O5t.lt hg).2;omega) fun e=>hne5 (e▸hg)
   have Ob:=((Oa.bl B1011).same (w':=w12) fun g hg=>N12.blk g ((Oa.bl B1011).lt hg).2 fun e=>hne5 (e▸hg)).bl k13.bl
   rw [er]
   refine ⟨a7,c7,a5,c5,rfl,?_,?_,?_,O12.capn.1⟩
   ·exact owp_sl (O12.bl k13.bl) (by rw [List.length_map];omega) fun g hg=>by
     have q1:=O12.lt hg
     exact ⟨by omega,fun e=>by have:=(hna _ e).2;omega,by omega⟩
   ·exact owp_sl (enc:=encInt) Ob (by rw [htb,List.length_map];omega) fun g hg=>by
     have q1:=Ob.lt hg
     exact ⟨by omega,fun e=>by have:=(hna _ e).2;omega,by omega⟩
   ·show (pthC us d).size<=_
    obtain ⟨hu,hc⟩:=clsAt_un ha
    have hum:=List.mem_of_getElem? hu
    obtain ⟨q1,q2⟩:=ck_small (hC u hum)
    have q3:=q2 c.name ((ixs_of (hC u hum)).plc.cn c (List.mem_of_getElem? hc))
    rw [pthC_at ha,dots_sz];omega
  have O14':=OwC.push e1' e3' e4 O14 A14 F14 hrel
  have x14:=A14.box (Bl.box B513 x65) fun e=>by have:=(hna _ e).1;omega
  refine st x14 fun w15 k15 x15 => ?_
  have esn:(s.ord.take (j+1)).map (fun d=>clsM us (ordsL us) (pthC us d))=(s.ord.take j).map (fun d=>clsM us (ordsL us) (pthC us d))++[rc]:=by rw [map_snoc hd,hrc]
  have N14:Nc b6 w4 w14:=(N5.bl B513).ap A14 fun g hg=>(hna g hg).1
  exact ih hjl ⟨rfl,N14.wr k15 (.inl rfl),a15,c15,by rw [esn,List.length_append];exact x15,by rw [esn];exact O14'.wr k15 (by omega) fun i hi=>by omega⟩
 refine brF ?_
 obtain rfl:j=s.ord.length:=by omega
 clear ih
 rw [List.take_length] at x65 O5
 obtain ⟨CL,hCL⟩:∃ CL,CL=s.ord.map fun d=>clsM us (ordsL us) (pthC us d):=⟨_,rfl⟩
 have hCLl:CL.length=s.ord.length:=by rw [hCL,List.length_map]
 have eCL:CL=(modL us).classes:=by rw [eM,hCL];show _=(ordsL us).oc.map _;rw [<-R.oc,List.map_map];rfl
 rw [<-hCL] at x65 O5
 have SC5:Sl eMC (fun i=>w4.heap.size<=i/\i<w5.heap.size) w5 a1 CL:=O5.sl2 (by omega)
 refine ld (hx5.cell rfl) ?_
 refine mk (m:=(staW us).length) (n:=(staW us).length) fun b20 w6 k6 => ?_
 have y6:=k6.blk
 have z6:=k6.size
 have l65:=x65.lt
 refine st (Bl.box k6.bl x65) fun w7 k7 x67 => ?_
 have z7:=k7.size
 have x20:Box w7 b20 tTy ((List.replicate (staW us).length (⟨0,0⟩:Ty)).flatMap encTy):=by rw [<-rep_T];exact k7.box k6.box (by omega)
 have B27:Bl w2 w7:=Below.trans (B25.trans k6.bl) (k7.below (by omega))
 refine lpk (vals:=[]) (staW us).length 14 [] [(2,.pointer (some ⟨b2,0,none⟩)),(4,.pointer (some ⟨b,0,none⟩)),(6,.pointer (some ⟨b6,0,none⟩))]
  (fun k vals w'=>vals=[]/\Nc b20 w7 w'/\∃ row:List Ty,row.length=(staW us).length/\Box w' b20 tTy (row.flatMap encTy)/\∀ (i:Nat) d,i<k->(staW us)[i]? = some d->row[staN us (pthS us d) (staW us)]? = some (staM us (ordsL us) (pthS us d)))
  ⟨rfl,.of_bl (Bl.refl _),_,List.length_replicate,x20,fun i d h=>by omega⟩ ?_
 rintro k vals w8 hk ⟨rfl,N8,row,hrow,x208,hval⟩ ih
 have z8:=N8.size
 have B28:Bl w2 w8:=Nc.below B27 N8 (by omega) B27.size
 have hx8:=Bl.box B28 hx
 refine ld (hx8.cell rfl) ?_
 by_cases hkl:k<(staW us).length
 ·refine brT ?_
  refine ld (hx8.cell rfl) ?_
  obtain ⟨d,bd',od,cd,hd,e5,_,hAd,rfl⟩:=at_some (h3.bl B28) hkl
  obtain ⟨⟨u,f⟩,ha⟩:=mem_staW.1 (List.mem_of_getElem? hd)
  obtain ⟨hu,hf⟩:=staAt_un ha
  have hum:=List.mem_of_getElem? hu
  have hfm:=List.mem_of_getElem? hf
  have hpos:=sta_pos R (List.mem_of_getElem? hd)
  have hidx:staN us (pthS us d) (staW us)<(staW us).length:=by
   have h1:=(List.getElem?_eq_some_iff.1 hpos).1
   have h2:=(os_perm K).length_eq
   rw [List.length_map] at h2;omega
  obtain ⟨bu,ou,cu2,rest,cs3,ua,hxu,hAu,rfl,hU,hun⟩:=(H.u.at hu).ex
  have lbu:=cell_lt (hAu 0 _ rfl)
  have lxu:=hxu.lt
  rw [e5]
  refine ix ?_
  refine lda hAd ?_
  refine al fun b15 w9 k9 => ?_
  have y9:=k9.blk
  have z9:=k9.size
  refine sta (cs':=encWh d) k9.box fun w10 k10 x15 => ?_
  have z10:=k10.size
  have B810:Bl w8 w10:=Below.trans k9.bl (k10.below (by omega))
  have B210:=B28.trans B810
  have l15:=x15.lt
  refine dh (fun i=>i<w10.heap.size) (List.range 10) fun w11 k11 => ?_
  have B211:=B210.trans k11.bl
  have g11:w11.heap.size=w10.heap.size:=by rw [k11.heap]
  refine ld ((Bl.box B211 hxu).cell rfl) ?_ (hm:=by show b<_;omega)
  refine ld ((k11.box x15).cell rfl) ?_ (hm:=by show b15<_;omega)
  refine ix ?_ (hb:=hun)
  refine lda (hAu.bl B211) ?_ (hm:=by show bu<_;omega)
  refine al fun b16 w12 k12 => ?_
  have y12:=k12.blk
  have z12:=k12.size
  refine sta (cs':=ucells u ua) k12.box (fun w13 k13 x16 => ?_) (hm:=wrS (by show ¬b16<_;omega))
  have z13:=k13.size
  have B1013:Bl w10 w13:=k11.bl.trans (Below.trans k12.bl (k13.below (by omega)))
  have B213:=B210.trans B1013
  have x153:=Bl.box B1013 x15
  refine lda x153.at ?_
  refine cl (r_spath (H.bl B213).u hC ha) ?_
  rintro _ w14 ⟨rfl,B1314⟩
  refine cl (r_static (H.bl (B213.trans B1314)) R.sta hC _) ?_
  rintro _ w15 ⟨rfl,B1415⟩
  have B1315:=B1314.trans B1415
  have B215:=B213.trans B1315
  have B815:=(B810.trans B1013).trans B1315
  have x155:=Bl.box B1315 x153
  have x165:=Bl.box B1315 x16
  have x615:=Bl.box B815 (N8.box x67 (by omega))
  have x2015:=Bl.box B815 x208
  have U15:=hU.bl B215
  obtain ⟨bs',os',css,e6,_,hAs,rfl⟩:=U15.sta.el d.2 f hf
  have hfl:d.2<u.statics.length:=(List.getElem?_eq_some_iff.1 hf).1
  refine dht 2 T (List.range 13) fun w16 k16 => ?_
  have B216:=B215.trans k16.bl
  refine ld ((k16.box x615).cell rfl) ?_ (hm:=trivial)
  refine lda (k16.box x165).at ?_ (hm:=trivial)
  refine ld ((k16.box x165).cell rfl) ?_ (hm:=trivial)
  refine ld ((k16.box x155).cell rfl) ?_ (hm:=trivial)
  rw [e6]
  refine ix ?_ (hb:=hfl)
  refine lda (At.left (cs:=encTy f.ty) (hAs.bl k16.bl).tail) ?_ (hm:=trivial)
  have htP:=(tyU_of (hC u hum)).s f hfm
  refine cl (r_linked (H.bl B216) R.cls hC (hU.bl B216) (tyP_in htP)) ?_
  rintro _ w17 ⟨rfl,B1617⟩
  have B817:=(B815.trans k16.bl).trans B1617
  rw [lnk_is R htP (def_sta K (x:=(u,f)) ⟨hum,hfm⟩)]
  refine ix (j:=staN us (pthS us d) (staW us)) ?_ (hb:=hidx)
  have x2017:=Bl.box B817 x208
  have hfl2:(row.flatMap encTy).length=row.length*2:=flat_length (sz:=2) (fun _=>rfl) row
  obtain ⟨old,hold⟩:=some_of_lt (l:=row) (k:=staN us (pthS us d) (staW us)) (by omega)
  refine stv5 x2017 (fun w18 k18 x18 => ?_) (ho:=by show 0+staN us (pthS us d) (staW us)*2+2<=_;omega)
  rw [ty_ovl hold] at x18
  refine ih hkl ⟨rfl,(N8.bl B817).wr k18 (.inl rfl),_,by rw [List.length_set];exact hrow,x18,fun i d' hi hd' => ?_⟩ (hsub:=by first | (repeat (first | exact True.intro | (refine ⟨rfl,?_⟩))))
  have hpos':=sta_pos R (List.mem_of_getElem? hd')
  have hsame:staN us (pthS us d') (staW us)=staN us (pthS us d) (staW us)->pthS us d'=pthS us d:=fun q=>by rw [q,hpos] at hpos';exact (Option.some.inj hpos').symm
  rw [List.getElem?_set]
  by_cases q:staN us (pthS us d) (staW us)=staN us (pthS us d') (staW us)
  ·rw [if_pos q,if_pos (by omega),hsame q.symm,staM_pth R ha]
  ·rw [if_neg q]
   rcases Nat.lt_or_ge i k with r | r
   ·exact hval i d' r hd'
   ·obtain rfl:i=k:=by omega
    rw [hd] at hd';obtain rfl:=Option.some.inj hd';exact absurd rfl q
 refine brF ?_
 obtain rfl:k=(staW us).length:=by omega
 clear ih
 have eSL:row=(modL us).statics:=by
  rw [eM]
  show row=(ordsL us).os.map (staM us (ordsL us))
  have hol:(ordsL us).os.length=(staW us).length:=by rw [(os_perm K).length_eq,List.length_map]
  refine List.ext_getElem? fun i => ?_
  rcases Nat.lt_or_ge i row.length with q | q
  ·obtain ⟨p,hp⟩:=some_of_lt (l:=(ordsL us).os) (k:=i) (by omega)
   obtain ⟨d,hd,rfl⟩:=List.mem_map.1 ((os_perm K).mem_iff.1 (List.mem_of_getElem? hp))
   obtain ⟨m,hm⟩:=List.mem_iff_getElem?.1 hd
   have h1:=hval m d (List.getElem?_eq_some_iff.1 hm).1 hm
   have h2:=sta_pos R hd
   have hn:((ordsL us).os).Nodup:=ascB_nodup (os_asc us)
   have:staN us (pthS us d) (staW us)=i:=by
    have hlt:=(List.getElem?_eq_some_iff.1 h2).1
    exact (List.getElem?_inj hlt hn).1 (h2.trans hp.symm)
   rw [this] at h1
   rw [h1,List.getElem?_map,hp];rfl
  ·rw [List.getElem?_eq_none q,List.getElem?_eq_none (by rw [List.length_map];omega)]
 have SC8:Sl eMC (fun i=>w4.heap.size<=i/\i<w5.heap.size) w8 a1 CL:=((SC5.bl k6.bl).kp (k7.kp fun i hi=>by omega)).kp (N8.nb.kp.sub fun i hi=>by omega)
 have SS8:Sl eTy (fun i=>i=b20) w8 (some ⟨b20,0,none⟩) row:=by
  refine ⟨by omega,fun i x hx=>⟨b20,0,encTy x,rfl,rfl,fun j v hj => ?_,rfl⟩⟩
  have hj':j<2:=(List.getElem?_eq_some_iff.1 hj).1
  have:=x208.cell (o:=i*2+j) (v:=v) (by rw [flat_get (sz:=2) (fun _=>rfl) hx j hj'];exact hj)
  rw [Nat.zero_add];exact this
 have x68:=N8.box x67 (by omega)
 obtain ⟨mf,hmf⟩:∃ mf:Nat×Nat->MM,mf=fun d=>mthM us (ordsL us) (pthM us d):=⟨_,rfl⟩
 refine lpk (vals:=[]) s.las.length 19 [] [(2,.pointer (some ⟨b2,0,none⟩)),(4,.pointer (some ⟨b,0,none⟩)),(6,.pointer (some ⟨b6,0,none⟩))]
  (fun j vals w'=>vals=[]/\Nc b6 w8 w'/\∃ a3 c3,Box w' b6 tMod (mdz a1 CL.length c1 (some ⟨b20,0,none⟩) (staW us).length (staW us).length a3 ((s.las.take j).map mf).length c3 (ordsL us).oz.length)/\OwC eMM (fun i=>w8.heap.size<=i) w' w8.heap.size tMth a3 c3 ((s.las.take j).map mf))
  ⟨rfl,.of_bl (Bl.refl _),none,0,x68,OwC.nil ..⟩ ?_
 rintro j vals w9 hj ⟨rfl,N9,a3,c3,x69,O9⟩ ih
 have z9:=N9.size
 have B29:Bl w2 w9:=Nc.below B28 N9 (by omega) B28.size
 have hx9:=Bl.box B29 hx
 have l69:=x69.lt
 refine ld (hx9.cell rfl) ?_
 by_cases hjl:j<s.las.length
 ·refine brT ?_
  refine ld (hx9.cell rfl) ?_
  obtain ⟨d,bd',od,cd,hd,e5,_,hAd,rfl⟩:=at_some (h6.bl B29) hjl
  obtain ⟨⟨u,m⟩,ha⟩:=mem_mthW.1 (R.ls d (List.mem_of_getElem? hd))
  obtain ⟨hu,hm⟩:=mthAt_un ha
  have hum:=List.mem_of_getElem? hu
  have hmm:=List.mem_of_getElem? hm
  have hI:=ixs_of (hC u hum)
  have hT:=tyU_of (hC u hum)
  have hL:=lim_of (hC u hum).lim
  have q6:=code_len (hC u hum) hmm
  have dm:=def_mth K hum hmm
  obtain ⟨bu,ou,cu2,rest,cs3,ua,hxu,hAu,rfl,hU,hun⟩:=(H.u.at hu).ex
  have lbu:=cell_lt (hAu 0 _ rfl)
  have lxu:=hxu.lt
  rw [e5]
  refine ix ?_
  refine lda hAd ?_
  refine al fun b20' w10 k10 => ?_
  have y10:=k10.blk
  have z10:=k10.size
  refine sta (cs':=encWh d) k10.box fun w11 k11 xw => ?_
  have z11:=k11.size
  have B911:Bl w9 w11:=Below.trans k10.bl (k11.below (by omega))
  have B211:=B29.trans B911
  have lw:=xw.lt
  refine dh (fun i=>i<w11.heap.size) (List.range 10) fun w12 k12 => ?_
  have B212:=B211.trans k12.bl
  have g12:w12.heap.size=w11.heap.size:=by rw [k12.heap]
  refine ld ((Bl.box B212 hxu).cell rfl) ?_ (hm:=by show b<_;omega)
  refine ld ((k12.box xw).cell rfl) ?_ (hm:=by show b20'<_;omega)
  refine ix ?_ (hb:=hun)
  refine lda (hAu.bl B212) ?_ (hm:=by show bu<_;omega)
  refine al fun b21 w13 k13 => ?_
  have y13:=k13.blk
  have z13:=k13.size
  refine sta (cs':=ucells u ua) k13.box (fun w14 k14 xu => ?_) (hm:=wrS (by show ¬b21<_;omega))
  have z14:=k14.size
  have B1114:Bl w11 w14:=k12.bl.trans (Below.trans k13.bl (k14.below (by omega)))
  have B214:=B211.trans B1114
  have U14:=hU.bl B214
  obtain ⟨bm',om',csm,e6,_,hAm,p1,d1,p2,d2,p3,d3,rfl,P1,P2,P3⟩:=U14.mth.el d.2 m hm
  have hml:d.2<u.methods.length:=(List.getElem?_eq_some_iff.1 hm).1
  refine ld (xu.cell rfl) ?_
  refine ld ((Bl.box B1114 xw).cell rfl) ?_
  rw [e6]
  refine ix ?_ (hb:=hml)
  refine lda hAm ?_
  refine al fun b22 w15 k15 => ?_
  have y15:=k15.blk
  have z15:=k15.size
  refine sta (cs':=mcells m p1 d1 p2 d2 p3 d3) k15.box fun w16 k16 xm => ?_
  have z16:=k16.size
  have B1416:Bl w14 w16:=Below.trans k15.bl (k16.below (by omega))
  have B216:=B214.trans B1416
  have B916:=(B911.trans B1114).trans B1416
  have xu6:=Bl.box B1416 xu
  have xw6:=Bl.box (B1114.trans B1416) xw
  have lm:=xm.lt
  have lu6:=xu6.lt
  have lw6:=xw6.lt
  have l16:=B916.size
  obtain ⟨ps,hps⟩:∃ ps,ps=m.params.map (kindM (ordsL us).oc u):=⟨_,rfl⟩
  obtain ⟨ls,hls⟩:∃ ls,ls=m.locals.map (kindM (ordsL us).oc u):=⟨_,rfl⟩
  obtain ⟨rs,hrs⟩:∃ rs,rs=kindM (ordsL us).oc u m.result:=⟨_,rfl⟩
  have eps:m.params.map (lnkT us s u)=ps:=by rw [hps];exact List.map_congr_left fun t ht=>lnk_is R (hT.p m hmm t ht) (dm.2.1 t (List.mem_append_left _ (List.mem_append_left _ ht)))
  have els:m.locals.map (lnkT us s u)=ls:=by rw [hls];exact List.map_congr_left fun t ht=>lnk_is R (hT.l m hmm t ht) (dm.2.1 t (List.mem_append_left _ (List.mem_append_right _ ht)))
  have ers:lnkT us s u m.result=rs:=by rw [hrs];exact lnk_is R (hT.r m hmm) (dm.2.1 _ (List.mem_append_right _ (List.mem_singleton.2 rfl)))
  have npl:m.params.length<=4:=hL.pars m hmm
  have nll:m.params.length+m.locals.length<=10:=hL.locs m hmm
  have npl2:ps.length=m.params.length:=by rw [hps,List.length_map]
  have nll2:ls.length=m.locals.length:=by rw [hls,List.length_map]
  have H16:=H.bl B216
  refine cut [23] [(2,.pointer (some ⟨b2,0,none⟩)),(4,.pointer (some ⟨b,0,none⟩)),(6,.pointer (some ⟨b6,0,none⟩)),(19,I j),(20,.pointer (some ⟨b20',0,none⟩)),(21,.pointer (some ⟨b21,0,none⟩)),(22,.pointer (some ⟨b22,0,none⟩))] (fun vals w'=>∃ b23 a5 c5 a6 c6,vals=[.pointer (some ⟨b23,0,none⟩)]/\w16.heap.size<=b23/\Bl w16 w'/\Box w' b23 tMth (mmcells ⟨pthM us d,-1,ps,ls,rs,[]⟩ a5 c5 a6 c6 none 0) /\
    OwP 2 encTy w' w16.heap.size tTy a5 c5 ps/\a5≠some ⟨b23,0,none⟩/\OwP 2 encTy w' w16.heap.size tTy a6 c6 ls/\a6≠some ⟨b23,0,none⟩) (fun go => ?_) ?_
  ·refine dhb (· < w16.heap.size) (.row [0,1,3,4,5,6,8,9,10,11,13,14,15,16] (.two 2 (.two 7 (.two 12 (.two 17 (.row [18,19,20] .done) 19 (.row [17,18,20] .done)) 19 (.row [12,17,18,20] .done)) 19 (.row [7,12,17,18,20] .done)) 19 (.row [2,7,12,17,18,20] .done))) fun v0 q0 => ?_
   have s0:v0.heap.size=w16.heap.size:=by rw [q0.heap]
   have D0:Bl w16 v0:=q0.bl
   refine lda (q0.box xw6).at ?_ (hm:=by show b20'<_;omega)
   refine lda (q0.box xu6).at ?_ (hm:=by show b21<_;omega)
   refine ld ((q0.box xm).cell rfl) ?_ (hm:=by show b22<_;omega)
   refine lda (q0.box xu6).at ?_ (hm:=by show b21<_;omega)
   refine ld ((q0.box xm).cell rfl) ?_ (hm:=by show b22<_;omega)
   refine lda (q0.box xu6).at ?_ (hm:=by show b21<_;omega)
   refine lda (At.left (cs:=encTy m.result) (q0.box xm).at.tail.tail.tail.tail) ?_ (hm:=by show b22<_;omega)
   refine bt ?_ ?_
   ·refine cl (r_mpath (H16.bl D0).u hC ha) ?_
    rintro _ v1 ⟨rfl,E1⟩
    have D1:=D0.trans E1
    have s1:=E1.size
    refine bt ?_ ?_
    ·refine cl (r_linkedAll (H16.bl D1) R.cls hC (hU.bl (B216.trans D1)) ((P1.bl B1416).bl D1) (by omega) fun t ht=>tyP_in (hT.p m hmm t ht)) ?_ (hm:=fun _ _ r=>by obtain ⟨_,_,_,_,hB⟩:=r;exact mdW_bl hB)
     rintro _ v2 ⟨a5,c5,rfl,O5t,E2⟩
     rw [eps] at O5t ⊢
     have O5r:=O5t.base (base':=w16.heap.size) (by have:=D1.size;omega)
     have g5:=fun g (hg:a5=some ⟨g,0,none⟩)=>O5t.lt hg
     have D2:=D1.trans E2
     have s2:=E2.size
     have O5r_2:=O5r
     refine bt ?_ ?_
     ·refine cl (r_linkedAll (H16.bl D2) R.cls hC (hU.bl (B216.trans D2)) ((P2.bl B1416).bl D2) (by omega) fun t ht=>tyP_in (hT.l m hmm t ht)) ?_ (hm:=fun _ _ r=>by obtain ⟨_,_,_,_,hB⟩:=r;exact mdW_bl hB)
      rintro _ v3 ⟨a6,c6,rfl,O6t,E3⟩
      rw [els] at O6t ⊢
      have O6r:=O6t.base (base':=w16.heap.size) (by have:=D2.size;omega)
      have g6:=fun g (hg:a6=some ⟨g,0,none⟩)=>O6t.lt hg
      have D3:=D2.trans E3
      have s3:=E3.size
      have O5r_3:=O5r_2.bl E3
      have O6r_3:=O6r
      refine bt ?_ ?_
      ·refine cl (r_linked (H16.bl D3) R.cls hC (hU.bl (B216.trans D3)) (tyP_in (hT.r m hmm))) ?_
       rintro _ v4 ⟨rfl,E4⟩
       rw [ers]
       have D4:=D3.trans E4
       have s4:=E4.size
       have O5r_4:=O5r_3.bl E4
       have O6r_4:=O6r_3.bl E4
       refine bd ?_
       refine al fun bb v5 r5 => ?_
       have E5:=r5.bl
       have yb:=r5.blk
       have zb:=r5.size
       have xb_5:Box v5 bb _ _:=r5.box
       have D5:=D4.trans E5
       have s5:=E5.size
       have O5r_5:=O5r_4.bl E5
       have O6r_5:=O6r_4.bl E5
       refine sta (cs':=mmcells ⟨pthM us d,-1,ps,ls,rs,[]⟩ a5 c5 a6 c6 none 0) xb_5 (fun wz kz xz => ?_) (hm:=wrB (by show ¬bb<_;omega))
       have h5':a5≠some ⟨bb,0,none⟩:=fun e=>by have:=g5 _ e;omega
       have h6':a6≠some ⟨bb,0,none⟩:=fun e=>by have:=g6 _ e;omega
       exact go ⟨bb,a5,c5,a6,c6,rfl,by omega,Below.trans D5 (kz.below (by omega)),xz,O5r_5.wr kz fun g hg e=>h5' (e▸hg),h5',O6r_5.wr kz fun g hg e=>h6' (e▸hg),h6'⟩
      ·refine al fun bb v4 r4 => ?_
       have E4:=r4.bl
       have yb:=r4.blk
       have zb:=r4.size
       have xb_4:Box v4 bb _ _:=r4.box
       have D4:=D3.trans E4
       have s4:=E4.size
       have O5r_4:=O5r_3.bl E4
       have O6r_4:=O6r_3.bl E4
       refine cl (r_linked (H16.bl D4) R.cls hC (hU.bl (B216.trans D4)) (tyP_in (hT.r m hmm))) ?_
       rintro _ v5 ⟨rfl,E5⟩
       rw [ers]
       have D5:=D4.trans E5
       have s5:=E5.size
       have O5r_5:=O5r_4.bl E5
       have O6r_5:=O6r_4.bl E5
       have xb_5:=Bl.box E5 xb_4
       refine bd ?_
       refine sta (cs':=mmcells ⟨pthM us d,-1,ps,ls,rs,[]⟩ a5 c5 a6 c6 none 0) xb_5 (fun wz kz xz => ?_) (hm:=wrB (by show ¬bb<_;omega))
       have h5':a5≠some ⟨bb,0,none⟩:=fun e=>by have:=g5 _ e;omega
       have h6':a6≠some ⟨bb,0,none⟩:=fun e=>by have:=g6 _ e;omega
       exact go ⟨bb,a5,c5,a6,c6,rfl,by omega,Below.trans D5 (kz.below (by omega)),xz,O5r_5.wr kz fun g hg e=>h5' (e▸hg),h5',O6r_5.wr kz fun g hg e=>h6' (e▸hg),h6'⟩
     ·refine al fun bb v3 r3 => ?_
      have E3:=r3.bl
      have yb:=r3.blk
      have zb:=r3.size
      have xb_3:Box v3 bb _ _:=r3.box
      have D3:=D2.trans E3
      have s3:=E3.size
      have O5r_3:=O5r_2.bl E3
      refine cl (r_linkedAll (H16.bl D3) R.cls hC (hU.bl (B216.trans D3)) ((P2.bl B1416).bl D3) (by omega) fun t ht=>tyP_in (hT.l m hmm t ht)) ?_ (hm:=fun _ _ r=>by obtain ⟨_,_,_,_,hB⟩:=r;exact mdW_bl hB)
      rintro _ v4 ⟨a6,c6,rfl,O6t,E4⟩
      rw [els] at O6t ⊢
      have O6r:=O6t.base (base':=w16.heap.size) (by have:=D3.size;omega)
      have g6:=fun g (hg:a6=some ⟨g,0,none⟩)=>O6t.lt hg
      have D4:=D3.trans E4
      have s4:=E4.size
      have O5r_4:=O5r_3.bl E4
      have O6r_4:=O6r
      have xb_4:=Bl.box E4 xb_3
      refine cl (r_linked (H16.bl D4) R.cls hC (hU.bl (B216.trans D4)) (tyP_in (hT.r m hmm))) ?_
      rintro _ v5 ⟨rfl,E5⟩
      rw [ers]
      have D5:=D4.trans E5
      have s5:=E5.size
      have O5r_5:=O5r_4.bl E5
      have O6r_5:=O6r_4.bl E5
      have xb_5:=Bl.box E5 xb_4
      refine bd ?_
      refine sta (cs':=mmcells ⟨pthM us d,-1,ps,ls,rs,[]⟩ a5 c5 a6 c6 none 0) xb_5 (fun wz kz xz => ?_) (hm:=wrB (by show ¬bb<_;omega))
      have h5':a5≠some ⟨bb,0,none⟩:=fun e=>by have:=g5 _ e;omega
      have h6':a6≠some ⟨bb,0,none⟩:=fun e=>by have:=g6 _ e;omega
      exact go ⟨bb,a5,c5,a6,c6,rfl,by omega,Below.trans D5 (kz.below (by omega)),xz,O5r_5.wr kz fun g hg e=>h5' (e▸hg),h5',O6r_5.wr kz fun g hg e=>h6' (e▸hg),h6'⟩
    ·refine al fun bb v2 r2 => ?_
     have E2:=r2.bl
     have yb:=r2.blk
     have zb:=r2.size
     have xb_2:Box v2 bb _ _:=r2.box
     have D2:=D1.trans E2
     have s2:=E2.size
     refine cl (r_linkedAll (H16.bl D2) R.cls hC (hU.bl (B216.trans D2)) ((P1.bl B1416).bl D2) (by omega) fun t ht=>tyP_in (hT.p m hmm t ht)) ?_ (hm:=fun _ _ r=>by obtain ⟨_,_,_,_,hB⟩:=r;exact mdW_bl hB)
     rintro _ v3 ⟨a5,c5,rfl,O5t,E3⟩
     rw [eps] at O5t ⊢
     have O5r:=O5t.base (base':=w16.heap.size) (by have:=D2.size;omega)
     have g5:=fun g (hg:a5=some ⟨g,0,none⟩)=>O5t.lt hg
     have D3:=D2.trans E3
     have s3:=E3.size
     have O5r_3:=O5r
     have xb_3:=Bl.box E3 xb_2
     refine cl (r_linkedAll (H16.bl D3) R.cls hC (hU.bl (B216.trans D3)) ((P2.bl B1416).bl D3) (by omega) fun t ht=>tyP_in (hT.l m hmm t ht)) ?_ (hm:=fun _ _ r=>by obtain ⟨_,_,_,_,hB⟩:=r;exact mdW_bl hB)
     rintro _ v4 ⟨a6,c6,rfl,O6t,E4⟩
     rw [els] at O6t ⊢
     have O6r:=O6t.base (base':=w16.heap.size) (by have:=D3.size;omega)
     have g6:=fun g (hg:a6=some ⟨g,0,none⟩)=>O6t.lt hg
     have D4:=D3.trans E4
     have s4:=E4.size
     have O5r_4:=O5r_3.bl E4
     have O6r_4:=O6r
     have xb_4:=Bl.box E4 xb_3
     refine cl (r_linked (H16.bl D4) R.cls hC (hU.bl (B216.trans D4)) (tyP_in (hT.r m hmm))) ?_
     rintro _ v5 ⟨rfl,E5⟩
     rw [ers]
     have D5:=D4.trans E5
     have s5:=E5.size
     have O5r_5:=O5r_4.bl E5
     have O6r_5:=O6r_4.bl E5
     have xb_5:=Bl.box E5 xb_4
     refine bd ?_
     refine sta (cs':=mmcells ⟨pthM us d,-1,ps,ls,rs,[]⟩ a5 c5 a6 c6 none 0) xb_5 (fun wz kz xz => ?_) (hm:=wrB (by show ¬bb<_;omega))
     have h5':a5≠some ⟨bb,0,none⟩:=fun e=>by have:=g5 _ e;omega
     have h6':a6≠some ⟨bb,0,none⟩:=fun e=>by have:=g6 _ e;omega
     exact go ⟨bb,a5,c5,a6,c6,rfl,by omega,Below.trans D5 (kz.below (by omega)),xz,O5r_5.wr kz fun g hg e=>h5' (e▸hg),h5',O6r_5.wr kz fun g hg e=>h6' (e▸hg),h6'⟩
   ·refine al fun bb v1 r1 => ?_
    have E1:=r1.bl
    have yb:=r1.blk
    have zb:=r1.size
    have xb_1:Box v1 bb _ _:=r1.box
    have D1:=D0.trans E1
    have s1:=E1.size
    refine cl (r_mpath (H16.bl D1).u hC ha) ?_
    rintro _ v2 ⟨rfl,E2⟩
    have D2:=D1.trans E2
    have s2:=E2.size
    have xb_2:=Bl.box E2 xb_1
    refine cl (r_linkedAll (H16.bl D2) R.cls hC (hU.bl (B216.trans D2)) ((P1.bl B1416).bl D2) (by omega) fun t ht=>tyP_in (hT.p m hmm t ht)) ?_ (hm:=fun _ _ r=>by obtain ⟨_,_,_,_,hB⟩:=r;exact mdW_bl hB)
    rintro _ v3 ⟨a5,c5,rfl,O5t,E3⟩
    rw [eps] at O5t ⊢
    have O5r:=O5t.base (base':=w16.heap.size) (by have:=D2.size;omega)
    have g5:=fun g (hg:a5=some ⟨g,0,none⟩)=>O5t.lt hg
    have D3:=D2.trans E3
    have s3:=E3.size
    have O5r_3:=O5r
    have xb_3:=Bl.box E3 xb_2
    refine cl (r_linkedAll (H16.bl D3) R.cls hC (hU.bl (B216.trans D3)) ((P2.bl B1416).bl D3) (by omega) fun t ht=>tyP_in (hT.l m hmm t ht)) ?_ (hm:=fun _ _ r=>by obtain ⟨_,_,_,_,hB⟩:=r;exact mdW_bl hB)
    rintro _ v4 ⟨a6,c6,rfl,O6t,E4⟩
    rw [els] at O6t ⊢
    have O6r:=O6t.base (base':=w16.heap.size) (by have:=D3.size;omega)
    have g6:=fun g (hg:a6=some ⟨g,0,none⟩)=>O6t.lt hg
    have D4:=D3.trans E4
    have s4:=E4.size
    have O5r_4:=O5r_3.bl E4
    have O6r_4:=O6r
    have xb_4:=Bl.box E4 xb_3
    refine cl (r_linked (H16.bl D4) R.cls hC (hU.bl (B216.trans D4)) (tyP_in (hT.r m hmm))) ?_
    rintro _ v5 ⟨rfl,E5⟩
    rw [ers]
    have D5:=D4.trans E5
    have s5:=E5.size
    have O5r_5:=O5r_4.bl E5
    have O6r_5:=O6r_4.bl E5
    have xb_5:=Bl.box E5 xb_4
    refine bd ?_
    refine sta (cs':=mmcells ⟨pthM us d,-1,ps,ls,rs,[]⟩ a5 c5 a6 c6 none 0) xb_5 (fun wz kz xz => ?_) (hm:=wrB (by show ¬bb<_;omega))
    have h5':a5≠some ⟨bb,0,none⟩:=fun e=>by have:=g5 _ e;omega
    have h6':a6≠some ⟨bb,0,none⟩:=fun e=>by have:=g6 _ e;omega
    exact go ⟨bb,a5,c5,a6,c6,rfl,by omega,Below.trans D5 (kz.below (by omega)),xz,O5r_5.wr kz fun g hg e=>h5' (e▸hg),h5',O6r_5.wr kz fun g hg e=>h6' (e▸hg),h6'⟩
  rintro _ w17 ⟨b23,a5,c5,a6,c6,rfl,hb23,B1617,x23,O5,hne5,O6,hne6⟩
  have z17:=B1617.size
  have B217:=B216.trans B1617
  have xm7:=Bl.box B1617 xm
  have xu7:=Bl.box B1617 xu6
  have lx23:=x23.lt
  refine ld (xm7.cell rfl) ?_
  obtain ⟨cn,hcn⟩:∃ cn,cn=(if 0<=m.cls then idxB (ordsL us).oc (nm u m.cls) else -1):=⟨_,rfl⟩
  refine jn (t:=decide (0<=m.cls)) [] [(2,.pointer (some ⟨b2,0,none⟩)),(4,.pointer (some ⟨b,0,none⟩)),(6,.pointer (some ⟨b6,0,none⟩)),(19,I j),(21,.pointer (some ⟨b21,0,none⟩)),(22,.pointer (some ⟨b22,0,none⟩)),(23,.pointer (some ⟨b23,0,none⟩))] (fun vals w'=>vals=[]/\Nc b23 w17 w'/\Box w' b23 tMth (mmcells ⟨pthM us d,cn,ps,ls,rs,[]⟩ a5 c5 a6 c6 none 0)) (fun h0 go => ?_) (fun h0 go => ?_) ?_
  ·rw [decide_eq_true_eq] at h0
   have hh:=dm.1.resolve_left (by omega)
   refine lda xu7.at ?_
   refine ld (xm7.cell rfl) ?_
   refine cl (r_text (hU.bl B217) ((hI.plc.mc m hmm).resolve_left fun q=>by omega)) ?_
   rintro _ w18 ⟨rfl,B18⟩
   refine cl (r_number (H.bl (B217.trans B18)) R.cls hC _) ?_
   rintro _ w19 ⟨rfl,B19⟩
   refine st (cs':=mmcells ⟨pthM us d,cn,ps,ls,rs,[]⟩ a5 c5 a6 c6 none 0) (Bl.box (B18.trans B19) x23) (fun w20 k20 x20' => ?_) (hcs:=by rw [hcn,if_pos h0,<-num_is R hh];rfl)
   exact go ⟨rfl,(Nc.of_bl (B18.trans B19)).wr k20 (.inl rfl),x20'⟩
  ·rw [decide_eq_false_iff_not] at h0
   have e1:cn = -1:=by rw [hcn,if_neg h0]
   exact go ⟨rfl,.of_bl (Bl.refl _),by rw [e1];exact x23⟩
  rintro _ w18 ⟨rfl,N18,x238⟩
  have z18:=N18.size
  have B1618:Bl w16 w18:=Nc.below B1617 N18 (by omega) (by omega)
  have B218:=B216.trans B1618
  have lx238:=x238.lt
  refine lpk (vals:=[]) m.code.length 24 [] [(2,.pointer (some ⟨b2,0,none⟩)),(4,.pointer (some ⟨b,0,none⟩)),(6,.pointer (some ⟨b6,0,none⟩)),(19,I j),(21,.pointer (some ⟨b21,0,none⟩)),(22,.pointer (some ⟨b22,0,none⟩)),(23,.pointer (some ⟨b23,0,none⟩))]
   (fun i vals w'=>vals=[]/\Nc b23 w18 w'/\∃ a7 c7,Box w' b23 tMth [.string (pthM us d),I cn,.slice a5 ps.length c5,.slice a6 ls.length c6,I rs.kind,I rs.cls,.slice a7 ((m.code.take i).map (instM us (ordsL us) u)).length c7]/\OwP 3 encIns w' w18.heap.size 120 a7 c7 ((m.code.take i).map (instM us (ordsL us) u)))
   ⟨rfl,.of_bl (Bl.refl _),none,0,x238,Ow.nil ..⟩ ?_
  rintro i vals w20 hi ⟨rfl,N20,a7,c7,x239,O20⟩ ih2
  have z20:=N20.size
  have B1620:Bl w16 w20:=Nc.below B1618 N20 (by omega) (by omega)
  have B220:=B216.trans B1620
  have xm20:=Bl.box B1620 xm
  have xu20:=Bl.box B1620 xu6
  refine ld (xm20.cell rfl) ?_
  by_cases hil:i<m.code.length
  ·refine brT ?_
   have P3l:=(Sl.lt (by decide) P3).bl (B1416.trans B1620)
   obtain ⟨ins,bi,oi,ci,hins,e9,hbi,hAi,rfl⟩:=at_some P3l hil
   refine dht 2 (fun i=>i<w18.heap.size) (List.range 12) fun w21 k21 => ?_
   have B221:=B220.trans k21.bl
   have g21:w21.heap.size=w20.heap.size:=by rw [k21.heap]
   refine ld ((k21.box x239).cell rfl) ?_ (hm:=by show b23<_;omega)
   refine lda (k21.box xu20).at ?_ (hm:=by show b21<_;omega)
   refine ld ((k21.box xm20).cell rfl) ?_ (hm:=by show b22<_;omega)
   rw [e9]
   refine ix ?_
   refine lda (hAi.bl k21.bl) ?_ (hm:=by show bi<_;omega)
   refine cl (r_operand (H.bl B221) R hum (hU.bl B221) hmm (List.mem_of_getElem? hins)) ?_
   rintro _ w22 ⟨rfl,B2122⟩
   have z22:=B2122.size
   refine bs (cs:=encIns (instM us (ordsL us) u ins)) fun b31 w24 k24 => ?_
   have z24:=k24.size
   have B2024:=(k21.bl.trans B2122).trans k24.bl
   have hl:(m.code.take i).length<=120:=by rw [List.length_take];omega
   refine apl (l1:=[instM us (ordsL us) u ins]) (O20.bl B2024) (.inr ⟨b31,0,rfl,k24.box.at⟩) (by omega) (fun a8 c8 w25 O25 A25 _ => ?_) (hm:=apS fun g hg q=>by have:=O20.lt hg;omega)
   have x25:=A25.box (Bl.box B2024 x239) fun e=>by have:=(O20.lt e).1;omega
   refine st x25 fun w26 k26 x26 => ?_
   have esn:(m.code.take (i+1)).map (instM us (ordsL us) u)=(m.code.take i).map (instM us (ordsL us) u)++[instM us (ordsL us) u ins]:=map_snoc hins
   have N25:Nc b23 w18 w25:=(N20.bl B2024).ap A25 fun g hg=>(O20.lt hg).1
   exact ih2 hil ⟨rfl,N25.wr k26 (.inl rfl),a8,c8,by rw [esn];exact x26,by rw [esn];exact O25.wr k26 fun g hg e=>by have:=(O25.lt hg).1;omega⟩
  refine brF ?_
  obtain rfl:i=m.code.length:=by omega
  rw [List.take_length] at x239 O20
  clear ih2
  obtain ⟨rc,hrc⟩:∃ rc,rc=mf d:=⟨_,rfl⟩
  have er:rc=⟨pthM us d,cn,ps,ls,rs,m.code.map (instM us (ordsL us) u)⟩:=by rw [hrc,hmf];show mthM us (ordsL us) (pthM us d)=_;rw [pthM_at ha,mthM_of K ha,hcn,hps,hls,hrs]
  have B920:Bl w9 w20:=B916.trans B1620
  have x620:=Bl.box B920 x69
  refine ld (x620.cell rfl) ?_
  refine lda x239.at ?_
  refine bs (cs:=mmcells rc a5 c5 a6 c6 a7 c7) (fun b31 w21 k21 => ?_) (hcs:=by rw [er];rfl)
  have z21:=k21.size
  have B921:=B920.trans k21.bl
  obtain ⟨xs,e1',e3',hOx,e4⟩:=(O9.bl B921).row
  have hl9:((s.las.take j).map mf).length<=16:=by rw [List.length_map,List.length_take];omega
  refine ap hOx (.inr ⟨b31,0,rfl,k21.box.at⟩) (by omega) (fun a31 c31 w22 O22 A22 F22 => ?_)
  have hna:∀ g,a3=some ⟨g,0,none⟩->w8.heap.size<=g/\g<w9.heap.size:=fun g hg=>O9.lt hg
  have hrel:eMM.rel (fun i=>w8.heap.size<=i/\a3≠some ⟨i,0,none⟩/\i<w21.heap.size) w21 (mmcells rc a5 c5 a6 c6 a7 c7) rc:=by
   have same:∀ {a:Option Addr} {c:Nat} {l:List Ty},OwP 2 encTy w17 w16.heap.size tTy a c l->a≠some ⟨b23,0,none⟩->OwP 2 encTy w21 w16.heap.size tTy a c l:=fun O hne=>by
    have Oa:=O.same (w':=w18) fun g hg=>N18.blk g (O.lt hg).2 fun e=>hne (e▸hg)
    exact (Oa.same (w':=w20) fun g hg=>N20.blk g (Oa.lt hg).2 fun e=>hne (e▸hg)).bl k21.bl
   have O5':=same O5 hne5
   have O6':=same O6 hne6
   rw [er]
   refine ⟨a5,c5,a6,c6,a7,c7,rfl,?_,?_,?_,?_⟩
   ·exact owp_sl O5' (by omega) fun g hg=>by
     have q1:=O5'.lt hg
     exact ⟨by omega,fun e=>by have:=(hna _ e).2;omega,by omega⟩
   ·exact owp_sl O6' (by omega) fun g hg=>by
     have q1:=O6'.lt hg
     exact ⟨by omega,fun e=>by have:=(hna _ e).2;omega,by omega⟩
   ·exact owp_sl (O20.bl k21.bl) (by rw [List.length_map];omega) fun g hg=>by
     have q1:=O20.lt hg
     exact ⟨by omega,fun e=>by have:=(hna _ e).2;omega,by omega⟩
   ·show (pthM us d).size<=_
    obtain ⟨q1,q2⟩:=ck_small (hC u hum)
    have q3:=q2 m.name (hI.plc.mn m hmm)
    rw [pthM_at ha]
    unfold mpath
    split
    ·rw [dots_sz];omega
    ·rename_i h0
     have q4:=q2 m.cls ((hI.plc.mc m hmm).resolve_left fun q=>by omega)
     rw [dots_sz];omega
  have O22':=OwC.push e1' e3' e4 O22 A22 F22 hrel
  have x22:=A22.box (Bl.box k21.bl x620) fun e=>by have:=(hna _ e).1;omega
  refine st x22 fun w23 k23 x23' => ?_
  have esn:(s.las.take (j+1)).map mf=(s.las.take j).map mf++[rc]:=by rw [map_snoc hd,hrc]
  have N22:Nc b6 w8 w22:=(N9.bl B921).ap A22 fun g hg=>(hna g hg).1
  exact ih hjl ⟨rfl,N22.wr k23 (.inl rfl),a31,c31,by rw [esn,List.length_append];exact x23',by rw [esn];exact O22'.wr k23 (by omega) fun i hi=>by omega⟩
 refine brF ?_
 obtain rfl:j=s.las.length:=by omega
 rw [List.take_length] at x69 O9
 obtain ⟨ML,hML⟩:∃ ML,ML=s.las.map mf:=⟨_,rfl⟩
 have hMLl:ML.length=s.las.length:=by rw [hML,List.length_map]
 have eML:ML=(modL us).methods:=by rw [eM,hML,hmf];show _=(ordsL us).om.map _;rw [<-R.om,List.map_map];rfl
 rw [<-hML] at x69 O9
 have SC9:=SC8.kp (N9.nb.kp.sub fun i hi=>by omega)
 have SS9:=SS8.kp (N9.nb.kp.sub fun i hi=>by omega)
 have SM9:Sl eMM (fun i=>w8.heap.size<=i/\i<w9.heap.size) w9 a3 ML:=O9.sl2 (by omega)
 have x29:=Bl.box B29 x2
 refine lda x69.at ?_
 refine sta (cs':=mdz a1 CL.length c1 (some ⟨b20,0,none⟩) (staW us).length (staW us).length a3 ML.length c3 (ordsL us).oz.length) x29 fun w10 k10 x10 => ?_
 have z10:=k10.size
 have esels:(modL us).sels=((ordsL us).oz.length:Int):=by rw [eM];rfl
 refine rtc2 (cs:=mdz a1 CL.length c1 (some ⟨b20,0,none⟩) (staW us).length (staW us).length a3 ML.length c3 (ordsL us).oz.length) x10.at ⟨⟨a1,c1,some ⟨b20,0,none⟩,(staW us).length,a3,c3⟩,?_,?_,Below.trans (B2.trans B29) (k10.below (by omega))⟩
 ·rw [R.k]
  unfold modcells
  rw [<-eCL,<-eSL,<-eML,esels,hrow]
 ·refine ⟨?_,?_,?_⟩
  ·rw [<-eCL];exact (SC9.kp (k10.kp fun i hi=>by omega)).sub fun _ _=>trivial
  ·rw [<-eSL];exact (SS9.kp (k10.kp fun i hi=>by omega)).sub fun _ _=>trivial
  ·rw [<-eML];exact (SM9.kp (k10.kp fun i hi=>by omega)).sub fun _ _=>trivial
end Go.Proofs.YtkmdfjpafkcleaaGreatDoor
namespace Go.Proofs.YtkmdfjpafkcleaaGreatDoor
open Eng Go.RowKit
variable {us:List Unt} {w:World}
theorem k_Paths {au:Option Addr} {cu:Nat} (hS:Sl eUnt (· < w.heap.size) w au us) (hG:Gl w):Ret Tryz.prog 21 #[.slice au us.length cu] w (PathsQ us w):=by
 refine entr (vs:=[.slice au us.length cu]) [0,2,3,4,5,6,7,8,15] tabok Tryz.func21 (by kernel_rfl) ?_
 refine bd ?_
 refine bx (cs:=lcells (.slice au us.length cu) (.map none) (.map none) (.map none) (.map none) (.map none) (.map none) nilS nilS nilS nilS (.map none)) fun b8 w2 k2 => ?_
 have y2:=k2.blk
 have z2:=k2.size
 have B2:=k2.bl
 refine cl (k_run k2.box ((hS.bl B2).sub fun i hi=>by omega) (hG.bl B2)) ?_
 rintro _ w3 ⟨rfl,N3,hR⟩
 have z3:=N3.size
 have B3:Bl w w3:=Nc.below B2 N3 (by omega) B2.size
 by_cases h0:runE us=0
 rotate_left
 ·refine brT ?_ (hp:=by exact h0)
  refine rt (vs:=[.slice none 0 0,.slice none 0 0,.slice none 0 0,.slice none 0 0,I (runE us)]) ?_
  have e:ordX us=⟨[],[],[],[]⟩:=by unfold ordX;rw [if_neg h0]
  refine ⟨B3,none,0,none,0,none,0,none,0,by rw [e];rfl,?_,?_,?_,?_⟩ <;> (rw [e];exact Sl.nil ..)
 refine brF ?_ (hp:=by exact fun h=>h h0)
 have Rw:=hR h0
 have e:ordX us=ordsL us:=by unfold ordX;rw [if_pos h0]
 obtain ⟨l1,a1,c1,e1,x1,S1⟩:=Rw.oc
 obtain ⟨a2,c2,x2,S2⟩:=Rw.os
 obtain ⟨l3,a3,c3,e3,x3,S3⟩:=Rw.om
 obtain ⟨a4,c4,x4,S4⟩:=Rw.oz
 have f1:l1=(ordsL us).oc:=by unfold ordsL;rw [e1];rfl
 have f3:l3=(ordsL us).om:=by unfold ordsL;rw [e3];rfl
 have f2:sortL (keysM (decl us).statics)=(ordsL us).os:=rfl
 have f4:sortL (keysM (decl us).named)=(ordsL us).oz:=rfl
 rw [f1] at x1 S1
 rw [f3] at x3 S3
 rw [f2] at x2 S2
 rw [f4] at x4 S4
 refine dh T (List.range 25) fun w4 k4 => ?_
 refine ld (k4.bl.cl x1) ?_ (hm:=trivial)
 refine ld (k4.bl.cl x2) ?_ (hm:=trivial)
 refine ld (k4.bl.cl x3) ?_ (hm:=trivial)
 refine ld (k4.bl.cl x4) ?_ (hm:=trivial)
 refine rt (vs:=[.slice a1 (ordsL us).oc.length c1,.slice a2 (ordsL us).os.length c2,.slice a3 (ordsL us).om.length c3,.slice a4 (ordsL us).oz.length c4,I 0]) ?_
 refine ⟨B3.trans k4.bl,a1,c1,a2,c2,a3,c3,a4,c4,by rw [e,h0];rfl,?_,?_,?_,?_⟩
 ·rw [e];exact (S1.bl k4.bl).sub fun _ _=>trivial
 ·rw [e];exact (S2.bl k4.bl).sub fun _ _=>trivial
 ·rw [e];exact (S3.bl k4.bl).sub fun _ _=>trivial
 ·rw [e];exact (S4.bl k4.bl).sub fun _ _=>trivial
theorem sameS_self (l:List ByteArray):sameS l l=true:=decide_eq_true rfl
theorem mthM_name (us:List Unt) (O:Ords) (p:ByteArray):(mthM us O p).name=p:=by
 unfold mthM
 split <;> rfl
set_option maxHeartbeats 16000000 in
theorem l_LinkLinks (us:List Unt) (au:Option Addr) (cu:Nat) (w:World) (hS:Sl eUnt T w au us) (hG:Gl w) :
  Ret Tryz.prog 5 #[.slice au us.length cu] w fun v w'=>v = .bool true/\Bl w w':=by
 have hbig:=hS.big
 refine entr (vs:=[.slice au us.length cu]) [0,2,3,4,5,6,7,8,9,10,11,12,13,14,15,16,17,18,20,90,92,97,110,114,127] tabok Tryz.func5 (by kernel_rfl) ?_
 refine cl (l_great us au cu w hS) ?_
 rintro _ w1 ⟨g,rfl,B1⟩
 refine br (fun h => ?_) (fun h => ?_)
 ·refine cl (l_sane w1 (hG.bl B1)) ?_
  rintro _ w2 ⟨rfl,B2⟩
  exact rt1 ⟨rfl,B1.trans B2⟩
 clear h
 refine cl (k_Link (us:=us) (cu:=cu) (hS.bl B1).ltU (hG.bl B1)) ?_
 rintro _ w2 ⟨a2,rfl,M2,B12⟩
 refine al fun b3 w3 k3 => ?_
 refine sta (cs':=modcells (modL us) a2) k3.box fun w4 k4 x3 => ?_
 have B24:=k3.wr k4
 have B4:=(B1.trans B12).trans B24
 have M4:MdR T w4 (modL us) a2:=(M2.bl B24).sub fun _ _=>trivial
 refine cl (r_Link (us:=us) (cu:=cu) (hS.bl B4)) ?_
 rintro _ w5 ⟨a5,rfl,M5,B45⟩
 refine al fun b5 w6 k6 => ?_
 refine sta (cs':=modcells (modL us) a5) k6.box fun w7 k7 x5 => ?_
 have B57:=k6.wr k7
 have B47:=B45.trans B57
 have B7:=B4.trans B47
 refine cl (k_Paths (us:=us) (cu:=cu) (hS.bl B7).ltU (hG.bl B7)) ?_
 rintro _ w8 ⟨B78,p1,d1,p2,d2,p3,d3,p4,d4,rfl,S1,S2,S3,S4⟩
 have B8:=B7.trans B78
 refine cl (r_Paths (us:=us) (cu:=cu) (hS.bl B8)) ?_
 rintro _ w9 ⟨B89,q1,f1,q2,f2,q3,f3,q4,f4,rfl,V1,V2,V3,V4⟩
 have B79:=B78.trans B89
 have B9:=B8.trans B89
 have x39:=Bl.box (B47.trans B79) x3
 have x59:=Bl.box B79 x5
 have M39:=M4.bl (B47.trans B79)
 have M59:=(M5.bl B57).bl B79
 have S19:=S1.bl B89
 have S29:=S2.bl B89
 have S39:=S3.bl B89
 have S49:=S4.bl B89
 clear S1 S2 S3 S4
 refine lda x39.at ?_
 refine lda x59.at ?_
 refine cl (r_Same_eq (modL us) a2 a5 w9 M39 M59) ?_
 rintro _ w10 ⟨rfl,C1⟩
 refine spt (.bool false) ?_ (hb:=by simp)
 refine cl (l_strings (S19.bl C1) (V1.bl C1)) ?_
 rintro _ w11 ⟨rfl,C2⟩
 rw [sameS_self]
 have D2:=C1.trans C2
 refine spt (.bool false) ?_ (hb:=by simp)
 refine cl (l_strings (S29.bl D2) (V2.bl D2)) ?_
 rintro _ w12 ⟨rfl,C3⟩
 rw [sameS_self]
 have D3:=D2.trans C3
 refine spt (.bool false) ?_ (hb:=by simp)
 refine cl (l_strings (S39.bl D3) (V3.bl D3)) ?_
 rintro _ w13 ⟨rfl,C4⟩
 rw [sameS_self]
 have D4:=D3.trans C4
 refine spt (.bool false) ?_ (hb:=by simp)
 refine cl (l_strings (S49.bl D4) (V4.bl D4)) ?_
 rintro _ w14 ⟨rfl,C5⟩
 rw [sameS_self]
 have D5:=D4.trans C5
 have B14:=B9.trans D5
 refine brf ?_ (hp:=by simp)
 by_cases h0:runE us=0
 rotate_left
 ·refine brT ?_ (hp:=by exact h0)
  refine cl (l_sane w14 (hG.bl B14)) ?_
  rintro _ w15 ⟨rfl,B15⟩
  exact rt1 ⟨rfl,B14.trans B15⟩
 refine brF ?_ (hp:=by exact fun h=>h h0)
 have K:=runK_of h0
 have eX:ordX us=ordsL us:=by unfold ordX;rw [if_pos h0]
 have eM:modL us=modO us (ordsL us):=by unfold modL;rw [if_pos h0]
 obtain ⟨g1,g2,g3,g4⟩:=big_of K
 have x14:=Bl.box D5 x39
 have M14:=M39.bl D5
 have S14:=S19.bl D5
 have S34:=S39.bl D5
 rw [eX] at S14 S34 ⊢
 have ecl:(modL us).classes.length=(ordsL us).oc.length:=by rw [eM];exact modO_cl
 have eml:(modL us).methods.length=(ordsL us).om.length:=by rw [eM];exact modO_ml
 have esl:(modL us).statics.length=(ordsL us).os.length:=by rw [eM];exact modO_sl
 have ez:(modL us).sels=((ordsL us).oz.length:Int):=by rw [eM];rfl
 refine lpk (vals:=[]) (ordsL us).oc.length 17 [] [(3,.pointer (some ⟨b3,0,none⟩)),(7,.slice p1 (ordsL us).oc.length d1),(8,.slice p2 (ordsL us).os.length d2),(9,.slice p3 (ordsL us).om.length d3),(10,.slice p4 (ordsL us).oz.length d4)]
  (fun k vals w'=>vals=[]/\Bl w14 w') ⟨rfl,Bl.refl _⟩ ?_
 rintro k vals w15 hk ⟨rfl,B15⟩ ih
 by_cases hlt:k<(ordsL us).oc.length
 ·refine brT ?_
  refine dh T (List.range 11) fun w16 k16 => ?_
  have B16:=B15.trans k16.bl
  obtain ⟨c,bc,ocx,cs,hc,e1,_,hAc,a7,c7,a8,c8,rfl,_⟩:=at_some (M14.bl B16).cls (i:=k) (by omega)
  obtain ⟨p,bp,op,cs2,hp,e2,_,hAp,rfl⟩:=at_some (S14.bl B16) hlt
  have hcn:c.name=p:=by
   rw [eM] at hc
   obtain ⟨p',hp',rfl⟩:=modO_cls hc
   rw [hp] at hp';exact (Option.some.inj hp').symm
  refine ld ((Bl.box B16 x14).cell rfl) ?_ (hm:=trivial)
  rw [e1]
  refine ix ?_ (hb:=by omega)
  refine ld (hAc 0 _ rfl) ?_ (hm:=trivial)
  rw [e2]
  refine ix ?_
  refine ld (hAp 0 _ rfl) ?_ (hm:=trivial)
  refine brf ?_ (hp:=by simp [hcn])
  exact ih hlt ⟨rfl,B16⟩ (hsub:=by rw [<-e2];repeat (first | exact True.intro | (refine ⟨rfl,?_⟩)))
 refine brF ?_
 obtain rfl:k=(ordsL us).oc.length:=by omega
 clear ih
 refine lpk (vals:=[]) (ordsL us).om.length 18 [] [(3,.pointer (some ⟨b3,0,none⟩)),(8,.slice p2 (ordsL us).os.length d2),(9,.slice p3 (ordsL us).om.length d3),(10,.slice p4 (ordsL us).oz.length d4)]
  (fun k vals w'=>vals=[]/\Bl w14 w') ⟨rfl,B15⟩ ?_
 rintro k vals w16 hk ⟨rfl,B16⟩ ih
 by_cases hlt:k<(ordsL us).om.length
 ·refine brT ?_
  refine dh T (List.range 11) fun w17 k17 => ?_
  have B17:=B16.trans k17.bl
  obtain ⟨c,bc,ocx,cs,hc,e1,_,hAc,a7,c7,a8,c8,a9,c9,rfl,_⟩:=at_some (M14.bl B17).mth (i:=k) (by omega)
  obtain ⟨p,bp,op,cs2,hp,e2,_,hAp,rfl⟩:=at_some (S34.bl B17) hlt
  have hcn:c.name=p:=by
   rw [eM] at hc
   obtain ⟨p',hp',rfl⟩:=modO_mth hc
   rw [hp] at hp';rw [mthM_name];exact (Option.some.inj hp').symm
  refine ld ((Bl.box B17 x14).cell rfl) ?_ (hm:=trivial)
  rw [e1]
  refine ix ?_ (hb:=by omega)
  refine ld (hAc 0 _ rfl) ?_ (hm:=trivial)
  rw [e2]
  refine ix ?_
  refine ld (hAp 0 _ rfl) ?_ (hm:=trivial)
  refine brf ?_ (hp:=by simp [hcn])
  exact ih hlt ⟨rfl,B17⟩ (hsub:=by rw [<-e2];repeat (first | exact True.intro | (refine ⟨rfl,?_⟩)))
 refine brF ?_
 obtain rfl:k=(ordsL us).om.length:=by omega
 clear ih
 refine lda (Bl.box B16 x14).at ?_
 refine cl (k_Check (modL us) a2 w16 (M14.bl B16)) ?_
 rintro _ w17 ⟨rfl,B1617⟩
 rw [chkE_yes (modL_valid h0)]
 have x17:=Bl.box (B16.trans B1617) x14
 refine spt (.slice none 0 0) ?_ (hb:=by simp)
 refine ld (x17.cell rfl) ?_
 refine spt (I 0) ?_ (hb:=by simp [esl])
 refine ld (x17.cell rfl) ?_
 refine spt (.bool false) ?_ (hb:=by simp [ez])
 refine cl (l_sane w17 (hG.bl (B14.trans (B16.trans B1617)))) ?_
 rintro _ w18 ⟨rfl,B18⟩
 exact rt1 ⟨by first | rfl | simp [esl,ez],(B14.trans (B16.trans B1617)).trans B18⟩
end Go.Proofs.YtkmdfjpafkcleaaGreatDoor
