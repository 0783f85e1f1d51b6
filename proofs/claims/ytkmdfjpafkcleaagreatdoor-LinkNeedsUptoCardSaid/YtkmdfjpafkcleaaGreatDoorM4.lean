import Derived.Test.YtkmdfjpafkcleaaGreatDoorM3
import Derived.Test.YtkmdfjpafkcleaaGreatDoorM2
import Derived.Test.YtkmdfjpafkcleaaGreatDoorM1
/- Walks: a class, in the program's checker. -/
namespace Go.Proofs.YtkmdfjpafkcleaaGreatDoor
open Eng Go.RowKit
set_option maxHeartbeats 2000000 in
theorem k_class (m:Mod) (a:MA) (k:Nat) (c:MC) (w:World) (hM:MdR T w m a) (hc:m.classes[k]? = some c) (hP:∀ i x,i<k→m.classes[i]? = some x→ClsP m i x) (hc10:m.classes.length≤10) (_hm16:m.methods.length≤16) (hz0:0≤m.sels) (hz1:m.sels≤16) :
    Ret Tryz.prog 112 #[.agg (modcells m a).toArray,I k] w fun v w'=>(∃ b,v = .bool b∧(b=true↔ClsP m k c))∧Bl w w':=by
  have hlt:k<m.classes.length:=(List.getElem?_eq_some_iff.1 hc).1
  have hd:Desc m k:=desc_of (by omega) hP
  refine entr (vs:=[.agg (modcells m a).toArray,I k]) [0,1,2,4,5,6,7,8,39,41,42,43,44,57,67,88,92] tabok Tryz.func112 (by kernel_rfl) ?_
  refine bx (cs:=modcells m a) fun b1 w1 k1 => ?_
  have x1:=k1.box
  obtain ⟨c',b,o,cs,hc',e2,_,hAt,a3,c3,a4,c4,rfl,hF,hTb,_,hcap⟩:=at_some (hM.bl k1.bl).cls hlt
  obtain rfl:c=c':=by rw [hc] at hc';exact Option.some.inj hc'
  have no:(ClsP m k c→False)→(false=true↔ClsP m k c):=fun h=>⟨(fun q=>(by cases q)),fun q=>(h q).elim⟩
  refine ld (x1.cell rfl) ?_
  rw [e2]
  refine ix ?_
  refine lda hAt ?_
  refine al fun b5 w2 h2 => ?_
  refine sta (cs':=mccells c a3 c3 a4 c4) h2.box fun w3 k3 x3 => ?_
  have B13:=h2.wr k3
  have B3:=k1.bl.trans B13
  have y3:=Bl.box B13 x1
  have q1:=hF.big
  have q2:=hTb.big
  refine ld (x3.cell rfl) ?_
  refine ldg (fun _=>x3.cell rfl) ?_
  by_cases hA:c.super < -1∨(k:Int)≤c.super
  · refine spn (.agg (modcells m a).toArray) ?_ (hb:=by first | rfl | (simp;done) | (simp;omega))
    refine ldg (fun _=>x3.cell rfl) ?_
    refine spn (.bool false) ?_ (hb:=by first | rfl | (simp;done) | (simp;omega))
    refine ldg (fun _=>x3.cell rfl) ?_
    refine ldg (fun _=>y3.cell rfl) ?_
    refine brt ?_ (hp:=by first | rfl | (simp;done) | (simp;omega))
    exact rt1 ⟨⟨false,rfl,no fun q=>by have:=q.s1;have:=q.s2;omega⟩,B3⟩
  refine spt (.agg (modcells m a).toArray) ?_ (hb:=by first | rfl | (simp;done) | (simp;omega))
  refine lda y3.at ?_
  refine ldg (fun _=>x3.cell rfl) ?_
  refine spt (.bool false) ?_ (hb:=by first | rfl | (simp;done) | (simp;omega))
  refine cl (k_areTypes m a c.fields a3 c3 7 w3 (hF.bl B13) (by omega)) ?_
  rintro _ w4 ⟨rfl,B34⟩
  have B4:=B3.trans B34
  have x4:=Bl.box B34 x3
  have y4:=Bl.box B34 y3
  refine ldg (fun _=>x4.cell rfl) ?_
  refine ldg (fun _=>y4.cell rfl) ?_
  by_cases hfl:(c.fields.length:Int)≤7
  rotate_left
  · rw [decide_eq_false hfl]
    refine brt ?_ (hp:=by first | rfl | (simp;done) | (simp;omega))
    exact rt1 ⟨⟨false,rfl,no fun q=>by have:=q.fl;omega⟩,B4⟩
  rw [decide_eq_true hfl]
  cases hft:c.fields.all fun t=>ityp m t 1 with
  | false =>
    refine brt ?_ (hp:=by first | rfl | (simp;done) | (simp;omega))
    exact rt1 ⟨⟨false,rfl,no fun q=>by rw [List.all_eq_true.2 q.ft] at hft;cases hft⟩,B4⟩
  | true =>
  by_cases htl:(c.table.length:Int)=m.sels
  rotate_left
  · refine brt ?_ (hp:=by first | (simp;done) | (simp;exact htl) | (simp;omega))
    exact rt1 ⟨⟨false,rfl,no fun q=>htl q.tl⟩,B4⟩
  refine brf ?_ (hp:=by first | (simp;done) | (simp;exact htl) | (simp;omega))
  have hd1:Desc m (k+1):=⟨by omega,fun i x hi hx=>by
    rcases Nat.lt_or_ge i k with q | q
    · exact hd.2 i x q hx
    · obtain rfl:i=k:=by omega
      rw [hc] at hx;obtain rfl:=Option.some.inj hx;exact ⟨by omega,by omega⟩⟩
  have hTl:∀ (i:Nat) z,i≤k→m.classes[i]? = some z→z.table.length=c.table.length:=fun i z hi hz=>by
    rcases Nat.lt_or_ge i k with q | q
    · have:=(hP i z q hz).tl;omega
    · obtain rfl:i=k:=by omega
      rw [hc] at hz;obtain rfl:=Option.some.inj hz;rfl
  refine ld (x4.cell rfl) ?_
  refine lpk c.table.length 43 [] [(1,I k),(2,.pointer (some ⟨b1,0,none⟩)),(5,.pointer (some ⟨b5,0,none⟩)),(41,.slice a4 c.table.length c4),(42,I c.table.length)] (fun s vals w'=>vals=[]∧(∀ (i:Nat) x,i<s→c.table[i]? = some x→EntP m k c i x)∧Bl w4 w') ⟨rfl,fun i x h=>by omega,Bl.refl _⟩ ?_
  rintro s vals w5 hs ⟨rfl,hen,B45⟩ ih
  have x5:=Bl.box B45 x4
  have y5:=Bl.box B45 y4
  have B5:=B4.trans B45
  have B15:=(B13.trans B34).trans B45
  by_cases hsl:s<c.table.length
  · refine brT ?_
    obtain ⟨v,b6,o6,cs6,hv,e6,_,hA6,rfl⟩:=at_some (hTb.bl B15) hsl
    have noE:(EntP m k c s v→False)→(false=true↔ClsP m k c):=fun h=>no fun q=>h (q.tb s v hv)
    have next:∀ w9,Bl w5 w9→EntP m k c s v→(∀ (i:Nat) x,i<s+1→c.table[i]? = some x→EntP m k c i x)∧Bl w4 w9:=fun w9 B9 he=>⟨fun i x hi hx=>by
      rcases Nat.lt_or_ge i s with q | q
      · exact hen i x q hx
      · obtain rfl:i=s:=by omega
        rw [hv] at hx;obtain rfl:=Option.some.inj hx;exact he,B45.trans B9⟩
    have ek:Eng.Sub [(41,Value.slice a4 c.table.length c4)] [(41,Value.slice a4 c.table.length c4)]:=⟨rfl,trivial⟩
    subst e6
    refine ix ?_
    refine ld (hA6 0 _ rfl) ?_
    refine ldg (fun _=>y5.cell rfl) ?_
    by_cases hB:v < -1∨(m.methods.length:Int)≤v
    · refine brt ?_ (hp:=by first | rfl | (simp;done) | (simp;omega))
      exact rt1 ⟨⟨false,rfl,noE fun q=>by have:=q.lo;have:=q.hi;omega⟩,B5⟩
    refine brf ?_ (hp:=by first | rfl | (simp;done) | (simp;omega))
    by_cases hv0:0≤v
    · obtain ⟨j,rfl⟩:=Int.eq_ofNat_of_zero_le hv0
      obtain ⟨y,hy⟩:=some_of_lt (l:=m.methods) (k:=j) (by omega)
      refine spt (.agg (modcells m a).toArray) ?_ (hb:=by first | rfl | (simp;done) | (simp;omega))
      refine lda y5.at ?_
      refine spt (.bool false) ?_ (hb:=by first | rfl | (simp;done) | (simp;omega))
      refine cl (k_entry m a k s j hd1 hy (fun i z hi hz=>by rw [hTl i z hi hz];exact hsl) w5 (hM.bl B5)) ?_ (hm:=fun _ _ r=>mdW_bl r.2)
      rintro _ w6 ⟨⟨be,rfl,hbe⟩,B6⟩
      cases be with
      | false =>
        refine brt ?_ (hp:=by first | rfl | (simp;done) | (simp;omega))
        refine rt1 ⟨⟨false,rfl,noE fun q => ?_⟩,B5.trans B6⟩
        obtain ⟨y',z,e1,e2,e3,e4⟩:=q.own hv0
        rw [Int.toNat_natCast,hy] at e1;obtain rfl:=Option.some.inj e1
        have:=hbe.2 ⟨z,e2,e3,e4⟩
        cases this
      | true =>
        refine brf ?_ (hp:=by first | rfl | (simp;done) | (simp;omega))
        refine ld ((Bl.box B6 x5).cell rfl) ?_
        refine spn (.slice none 0 0) ?_ (hb:=by first | rfl | (simp;done) | (simp;omega))
        refine spn (I 0) ?_ (hb:=by first | rfl | (simp;done) | (simp;omega))
        refine spn (.pointer (some ⟨0,0,none⟩)) ?_ (hb:=by first | rfl | (simp;done) | (simp;omega))
        refine spn (.slice none 0 0) ?_ (hb:=by first | rfl | (simp;done) | (simp;omega))
        refine spn (.pointer (some ⟨0,0,none⟩)) ?_ (hb:=by first | rfl | (simp;done) | (simp;omega))
        refine spn (I 0) ?_ (hb:=by first | rfl | (simp;done) | (simp;omega))
        refine brf ?_ (hp:=by first | rfl | (simp;done) | (simp;omega))
        obtain ⟨z,e2',e3,e4⟩:=hbe.1 rfl
        have nx:=next w6 B6 ⟨by omega,by omega,fun _=>⟨y,z,by rw [Int.toNat_natCast];exact hy,e2',e3,e4⟩,fun h=>by omega⟩
        exact ih hsl ⟨rfl,nx.1,nx.2⟩
    · refine spn (.agg (modcells m a).toArray) ?_ (hb:=by first | rfl | (simp;done) | (simp;omega))
      refine spn (.bool false) ?_ (hb:=by first | rfl | (simp;done) | (simp;omega))
      refine brf ?_ (hp:=by first | rfl | (simp;done) | (simp;omega))
      refine ld (x5.cell rfl) ?_
      by_cases hs0:0≤c.super
      · obtain ⟨j,hj⟩:=Int.eq_ofNat_of_zero_le hs0
        obtain ⟨u,b8,o8,cs8,hu,e8,_,hA8,a9,c9,a10,c10,rfl,hF8,hT8,_⟩:=at_some (hM.bl B5).cls (i:=j) (by omega)
        have huj:m.classes[c.super.toNat]? = some u:=by rw [hj,Int.toNat_natCast];exact hu
        have hlu:=hTl j u (by omega) hu
        obtain ⟨q,b11,o11,cs11,hq,e11,_,hA11,rfl⟩:=at_some hT8 (i:=s) (by omega)
        refine ldg (fun _=>y5.cell rfl) ?_
        refine ldg (fun _=>x5.cell rfl) ?_
        rw [e8]
        refine spt (.pointer (some ⟨0,0,none⟩)) ?_ (hb:=by first | rfl | (simp;done) | (simp;omega))
        refine ix (j:=j) ?_ (hij:=hj) (hb:=by omega)
        refine ldg (fun _=>hA8 3 _ rfl) ?_
        rw [e11]
        refine spt (.pointer (some ⟨0,0,none⟩)) ?_ (hb:=by first | rfl | (simp;done) | (simp;omega))
        refine ix (j:=s) ?_ (hb:=by omega)
        refine ldg (fun _=>hA11 0 _ rfl) ?_
        by_cases hq0:0≤q
        · refine brt ?_ (hp:=by first | rfl | (simp;done) | (simp;omega))
          exact rt1 ⟨⟨false,rfl,noE fun e=>by have:=e.up (by omega) hs0 u q huj hq;omega⟩,B5⟩
        · refine brf ?_ (hp:=by first | rfl | (simp;done) | (simp;omega))
          have nx:=next w5 (Bl.refl _) ⟨by omega,by omega,fun h=>by omega,fun _ hs' y z hy hz=>by rw [huj] at hy;obtain rfl:=Option.some.inj hy;rw [hq] at hz;obtain rfl:=Option.some.inj hz;omega⟩
          exact ih hsl ⟨rfl,nx.1,nx.2⟩
      · refine spn (.slice none 0 0) ?_ (hb:=by first | rfl | (simp;done) | (simp;omega))
        refine spn (I 0) ?_ (hb:=by first | rfl | (simp;done) | (simp;omega))
        refine spn (.pointer (some ⟨0,0,none⟩)) ?_ (hb:=by first | rfl | (simp;done) | (simp;omega))
        refine spn (.slice none 0 0) ?_ (hb:=by first | rfl | (simp;done) | (simp;omega))
        refine spn (.pointer (some ⟨0,0,none⟩)) ?_ (hb:=by first | rfl | (simp;done) | (simp;omega))
        refine spn (I 0) ?_ (hb:=by first | rfl | (simp;done) | (simp;omega))
        refine brf ?_ (hp:=by first | rfl | (simp;done) | (simp;omega))
        have nx:=next w5 (Bl.refl _) ⟨by omega,by omega,fun h=>by omega,fun _ hs' y z hy hz=>absurd hs' hs0⟩
        exact ih hsl ⟨rfl,nx.1,nx.2⟩
  refine brF ?_
  clear ih
  have hent:∀ s n,c.table[s]? = some n→EntP m k c s n:=fun i x hx=>hen i x (by have:=(List.getElem?_eq_some_iff.1 hx).1;omega) hx
  have yes:(0≤c.super→∀ y,m.classes[c.super.toNat]? = some y→y.fields.length≤c.fields.length∧c.fields.take y.fields.length=y.fields)→ClsP m k c:=fun h=>⟨by omega,by omega,by omega,List.all_eq_true.1 hft,htl,hent,h⟩
  refine ld (x5.cell rfl) ?_
  by_cases hs0:0≤c.super
  rotate_left
  · refine brT ?_
    exact rt1 ⟨⟨true,rfl,⟨fun _=>yes fun h=>absurd h hs0,fun _=>rfl⟩⟩,B5⟩
  refine brF ?_
  obtain ⟨j,hj⟩:=Int.eq_ofNat_of_zero_le hs0
  obtain ⟨u,b6,o6,cs6,hu,e6,_,hA6,a7,c7,a8,c8,rfl,hF6,hT6,_⟩:=at_some (hM.bl B5).cls (i:=j) (by omega)
  have q3:=hF6.big
  have huj:m.classes[c.super.toNat]? = some u:=by rw [hj,Int.toNat_natCast];exact hu
  refine ld (y5.cell rfl) ?_
  refine ld (x5.cell rfl) ?_
  rw [e6]
  refine ix (j:=j) ?_ (hij:=hj) (hb:=by omega)
  refine ld (hA6 2 _ rfl) ?_
  refine ld (x5.cell rfl) ?_
  by_cases hle:u.fields.length≤c.fields.length
  · refine ldg (fun _=>x5.cell rfl) ?_
    refine spt (.slice none 0 0) ?_ (hb:=by first | rfl | (simp;done) | (simp;omega))
    refine sl 0 u.fields.length ?_
    refine spt (.bool false) ?_ (hb:=by first | rfl | (simp;done) | (simp;omega))
    have eF:Sl eTy T w5 (if c3=0 then a3 else a3.map (·.add (0*2))) (c.fields.take u.fields.length):=by
      have e:(if c3=0 then a3 else a3.map (·.add (0*2)))=a3:=by
        split
        · rfl
        · cases a3 <;> simp [Addr.add]
      rw [e]
      exact (hF.bl B15).take _
    have el:u.fields.length-0=(c.fields.take u.fields.length).length:=by rw [List.length_take];omega
    rw [el]
    refine cl (l_EqualT u.fields (c.fields.take u.fields.length) a7 _ c7 _ w5 hF6 eF) ?_
    rintro _ w6 ⟨rfl,B6⟩
    refine rt1 ⟨⟨decide (u.fields=c.fields.take u.fields.length),congrArg Value.bool ?_,?_⟩,B5.trans B6⟩
    · first | rfl | (simp;done) | (simp;omega)
    · rw [decide_eq_true_eq]
      constructor
      · intro h;exact yes fun _ y hy=>by rw [huj] at hy;obtain rfl:=Option.some.inj hy;exact ⟨hle,h.symm⟩
      · intro h;exact (h.up hs0 u huj).2.symm
  · refine ldg (fun _=>x5.cell rfl) ?_
    refine spn (.slice none 0 0) ?_ (hb:=by first | rfl | (simp;done) | (simp;omega))
    refine spn (.bool false) ?_ (hb:=by first | rfl | (simp;done) | (simp;omega))
    refine rt1 ⟨⟨false,congrArg Value.bool ?_,no fun q=>hle (q.up hs0 u huj).1⟩,B5⟩
    first | rfl | (simp;done) | (simp;omega)
end Go.Proofs.YtkmdfjpafkcleaaGreatDoor
namespace Go.Proofs.YtkmdfjpafkcleaaGreatDoor
open Eng Go.RowKit
theorem opr_nul {m:Mod} {k:Nat} {i:Ins} (h:i.op=12):oprB m k i=(decide (i.a=3)||decide (i.b<m.classes.length)):=by unfold oprB;rw [if_pos h]
theorem opr_new {m:Mod} {k:Nat} {i:Ins} (h:i.op=14∨i.op=24):oprB m k i=decide (i.a<m.classes.length):=by unfold oprB;rw [if_neg (by omega),if_pos h]
theorem opr_rfs {m:Mod} {k:Nat} {i:Ins} (h:i.op=16):oprB m k i=decide (i.b<m.classes.length):=by unfold oprB;rw [if_neg (by omega),if_neg (by omega),if_pos h]
theorem opr_sta {m:Mod} {k:Nat} {i:Ins} (h:i.op=22∨i.op=23):oprB m k i=decide (i.a<m.statics.length):=by unfold oprB;rw [if_neg (by omega),if_neg (by omega),if_neg (by omega),if_pos h]
theorem opr_cal {m:Mod} {k:Nat} {i:Ins} (h:i.op=25):oprB m k i=(decide (i.a<k)&&decide (mcl m i.a = -1)):=by unfold oprB;rw [if_neg (by omega),if_neg (by omega),if_neg (by omega),if_neg (by omega),if_pos h]
theorem opr_snd {m:Mod} {k:Nat} {i:Ins} (h:i.op=26):oprB m k i=(decide (i.a<m.sels)&&(trgM m i.a.toNat).all fun t=>decide (t<k)):=by unfold oprB;rw [if_neg (by omega),if_neg (by omega),if_neg (by omega),if_neg (by omega),if_neg (by omega),if_pos h]
theorem opr_no {m:Mod} {k:Nat} {i:Ins} (h1:¬i.op=12) (h2:¬(i.op=14∨i.op=24)) (h3:¬i.op=16) (h4:¬(i.op=22∨i.op=23)) (h5:¬i.op=25) (h6:¬i.op=26):oprB m k i=true:=by unfold oprB;rw [if_neg h1,if_neg h2,if_neg h3,if_neg h4,if_neg h5,if_neg h6]
theorem val_call {i:Ins} (hv:validI i false=true) (h:i.op=25∨i.op=26):0≤i.a:=by
  obtain ⟨op,a,b⟩:=i
  simp only at h ⊢
  rcases h with rfl | rfl <;> (simp [validI,inR,rngs,mosts] at hv;omega)
theorem asc_last {l:List Int} (h:AscI l) {k:Int} {x:Int} (hx:l[l.length-1]? = some x):(l.all fun t=>decide (t<k))=decide (x<k):=by
  refine Bool.eq_iff_iff.2 ?_
  rw [List.all_eq_true,decide_eq_true_eq]
  refine ⟨fun q=>of_decide_eq_true (q x (List.mem_of_getElem? hx)),fun q y hy=>decide_eq_true ?_⟩
  obtain ⟨i,hi⟩:=List.mem_iff_getElem?.1 hy
  obtain ⟨h1,rfl⟩:=List.getElem?_eq_some_iff.1 hi
  obtain ⟨h2,rfl⟩:=List.getElem?_eq_some_iff.1 hx
  rcases Nat.lt_or_ge i (l.length-1) with p | p
  · have:=List.pairwise_iff_getElem.1 h i (l.length-1) h1 h2 p
    omega
  · have e:i=l.length-1:=by omega
    subst e;exact q
theorem r5_operand (m:Mod) (a:MA) (k:Nat) (i:Ins) (hv:validI i false=true) (hk:k≤m.methods.length) (hT:∀ c∈m.classes,(c.table.length:Int)=m.sels) (w:World) (hM:MdR T w m a) :
    Ret Tryz.prog 117 #[.agg (modcells m a).toArray,I k,.agg (encIns i).toArray] w fun v w'=>v = .bool (oprB m k i)∧Bl w w':=by
  have hbig:=hM.cls.big
  refine entr (vs:=[.agg (modcells m a).toArray,I k,.agg (encIns i).toArray]) [0,1,2,3,5,6,7,9,10,23,32,40,49,65,71] tabok Tryz.func117 (by kernel_rfl) ?_
  refine bx (cs:=modcells m a) fun b1 w1 k1 => ?_
  refine bx (cs:=encIns i) fun b2 w2 k2 => ?_
  have B2:=k1.bl.trans k2.bl
  have x1:=Bl.box k2.bl k1.box
  have x2:=k2.box
  refine ld (x2.cell rfl) ?_
  by_cases h12:i.op=12
  · refine brT ?_ (hp:=h12)
    refine ld (x2.cell rfl) ?_
    refine ldg (fun _=>x2.cell rfl) ?_
    refine ldg (fun _=>x1.cell rfl) ?_
    refine rt1 ⟨congrArg Value.bool (opr_nul h12).symm,B2⟩
  refine brF ?_ (hp:=h12)
  by_cases h14:i.op=14
  · refine brT ?_ (hp:=h14)
    refine brT ?_ (hp:=h14)
    refine ld (x2.cell rfl) ?_
    refine ld (x1.cell rfl) ?_
    refine rt1 ⟨congrArg Value.bool (opr_new (.inl h14)).symm,B2⟩
  refine brF ?_ (hp:=h14)
  by_cases h24:i.op=24
  · refine brT ?_ (hp:=h24)
    refine ld (x2.cell rfl) ?_
    refine ld (x1.cell rfl) ?_
    refine rt1 ⟨congrArg Value.bool (opr_new (.inr h24)).symm,B2⟩
  refine brF ?_ (hp:=h24)
  by_cases h16:i.op=16
  · refine brT ?_ (hp:=h16)
    refine ld (x2.cell rfl) ?_
    refine ld (x1.cell rfl) ?_
    refine rt1 ⟨congrArg Value.bool (opr_rfs h16).symm,B2⟩
  refine brF ?_ (hp:=h16)
  by_cases h22:i.op=22
  · refine brT ?_ (hp:=h22)
    refine brT ?_ (hp:=h22)
    refine ld (x2.cell rfl) ?_
    refine ld (x1.cell rfl) ?_
    refine rt1 ⟨congrArg Value.bool (opr_sta (.inl h22)).symm,B2⟩
  refine brF ?_ (hp:=h22)
  by_cases h23:i.op=23
  · refine brT ?_ (hp:=h23)
    refine ld (x2.cell rfl) ?_
    refine ld (x1.cell rfl) ?_
    refine rt1 ⟨congrArg Value.bool (opr_sta (.inr h23)).symm,B2⟩
  refine brF ?_ (hp:=h23)
  by_cases h25:i.op=25
  · refine brT ?_ (hp:=h25)
    have h0:=val_call hv (.inl h25)
    refine ld (x2.cell rfl) ?_
    by_cases hlt:i.a<k
    · obtain ⟨j,hj⟩:=Int.eq_ofNat_of_zero_le h0
      obtain ⟨y,b,o,cs,hy,e2,_,hAt,a3,c3,a4,c4,a5,c5,rfl,_⟩:=at_some (hM.bl B2).mth (i:=j) (by omega)
      refine ldg (fun _=>x1.cell rfl) ?_
      refine ldg (fun _=>x2.cell rfl) ?_
      rw [e2]
      refine ixg (j:=j) (len:=m.methods.length) (fun _=>by omega) ?_ (hij:=hj)
      refine ldg (fun _=>hAt 1 _ rfl) ?_
      refine rt1 ⟨congrArg Value.bool ?_,B2⟩
      rw [opr_cal h25]
      congr 1
      unfold mcl
      rw [hj,Int.toNat_natCast,hy];rfl
    · refine spn (.slice none 0 0) ?_ (hb:=by simp;omega)
      refine spn (I 0) ?_ (hb:=by simp;omega)
      refine spn (.pointer (some ⟨0,0,none⟩)) ?_ (hb:=by simp;omega)
      refine spn (I 0) ?_ (hb:=by simp;omega)
      refine rt1 ⟨congrArg Value.bool ?_,B2⟩
      rw [opr_cal h25,decide_eq_false hlt];rfl
  refine brF ?_ (hp:=h25)
  by_cases h26:i.op=26
  · refine brT ?_ (hp:=h26)
    have h0:=val_call hv (.inr h26)
    refine ld (x2.cell rfl) ?_
    refine ld (x1.cell rfl) ?_
    by_cases hlt:i.a<m.sels
    · refine brF ?_
      obtain ⟨j,hj⟩:=Int.eq_ofNat_of_zero_le h0
      refine lda x1.at ?_
      refine ld (x2.cell rfl) ?_
      rw [hj]
      refine cl (r5_targets m a j (fun c hc=>by have:=hT c hc;omega) w2 (hM.bl B2)) ?_ (hm:=fun _ _ r=>by obtain ⟨_,_,_,_,hB⟩:=r;exact mdW_bl hB)
      rintro _ w3 ⟨a3,c3,rfl,hS,B3⟩
      have hlen:=trg_len (m:=m) j
      rw [opr_snd h26,hj,Int.toNat_natCast,decide_eq_true (show (j:Int)<m.sels by omega),Bool.true_and]
      by_cases hz:(trgM m j).length=0
      · refine spn (.pointer (some ⟨0,0,none⟩)) ?_ (hb:=by rw [hz];rfl)
        refine spn (I 0) ?_ (hb:=by rw [hz];rfl)
        refine rt1 ⟨congrArg Value.bool ?_,B2.trans B3⟩
        rw [hz,List.eq_nil_of_length_eq_zero hz];rfl
      · obtain ⟨x,b,o,cs,hx,e3,_,hAt,rfl⟩:=at_some hS (i:=(trgM m j).length-1) (by omega)
        have ew:IntKind.wrap .i64 (((trgM m j).length:Int)-1)=(((trgM m j).length-1:Nat):Int):=by rw [wrap_fit (by omega) (by omega)];omega
        rw [e3]
        refine ixg (j:=(trgM m j).length-1) (len:=(trgM m j).length) (fun _=>by omega) ?_ (hij:=ew)
        refine ldg (fun _=>hAt 0 _ rfl) ?_
        refine rt1 ⟨congrArg Value.bool ?_,B2.trans B3⟩
        rw [asc_last (l:=trgM m j) (srtI_asc _) hx,decide_eq_false (show ¬((trgM m j).length:Int)=0 by omega)];rfl
    · refine brT ?_
      refine rt1 ⟨congrArg Value.bool ?_,B2⟩
      rw [opr_snd h26,decide_eq_false hlt];rfl
  refine brF ?_ (hp:=h26)
  refine rt1 ⟨congrArg Value.bool (opr_no h12 (by omega) h16 (by omega) h25 h26).symm,B2⟩
end Go.Proofs.YtkmdfjpafkcleaaGreatDoor
namespace Go.Proofs.YtkmdfjpafkcleaaGreatDoor
open Eng Go.RowKit
theorem sortI_len (l:List Int):(sortI l).length=l.length:=by unfold sortI;rw [List.length_mergeSort]
theorem k_targets (m:Mod) (a:MA) (s:Nat) (hT:∀ c∈m.classes,s<c.table.length) (w:World) (hM:MdR T w m a) :
    Ret Tryz.prog 71 #[.agg (modcells m a).toArray,I s] w fun v w'=>∃ a c,v = .slice a (trgM m s).length c∧OwP 1 encInt w' w.heap.size 3 a c (trgM m s)∧Bl w w':=by
  have hbig:=hM.cls.big
  refine entr (vs:=[.agg (modcells m a).toArray,I s]) [0,1,2,4,5,7,8,10,11,12,13,22] tabok Tryz.func71 (by kernel_rfl) ?_
  refine bx (cs:=modcells m a) fun b1 w1 k1 => ?_
  have x1:=k1.box
  have y1:=k1.blk
  have z1:=k1.size
  refine ld (x1.cell rfl) ?_
  obtain ⟨ac,eac⟩:∃ ac,a.a1=ac:=⟨_,rfl⟩
  rw [eac]
  refine lpk m.classes.length 12 [5] [(1,I s),(2,.pointer (some ⟨b1,0,none⟩)),(10,.slice ac m.classes.length a.c1),(11,I m.classes.length)] (fun k vals w'=>∃ a c,vals=[.slice a (rT s (m.classes.take k)).length c]∧OwP 1 encInt w' w1.heap.size 3 a c (rT s (m.classes.take k))∧Bl w1 w') ⟨none,0,rfl,Ow.nil ..,Bl.refl _⟩ ?_
  rintro k vals w2 hk ⟨a2,c2,rfl,O2,B2⟩ ih
  have B02:=k1.bl.trans B2
  have z2:=B2.size
  by_cases hlt:k<m.classes.length
  · refine brT ?_
    obtain ⟨c,b,o,cs,hc,e2,_,hAt,a3,c3,a4,c4,rfl,_,hF,_⟩:=at_some (hM.bl B02).cls hlt
    have hcm:=List.mem_of_getElem? hc
    obtain ⟨n,b5,o5,cs5,hn,e5,_,hA5,rfl⟩:=at_some hF (hT c hcm)
    obtain rfl:ac=some ⟨b,o,none⟩:=by rw [←eac,e2]
    refine ix ?_
    refine lda hAt ?_
    refine al fun b7 w3 h3 => ?_
    refine sta (cs':=mccells c a3 c3 a4 c4) h3.box fun w4 k4 x4 => ?_
    have B24:=h3.wr k4
    have z4:=B24.size
    refine ld (x4.cell rfl) ?_
    rw [e5]
    refine ix (j:=s) ?_ (hb:=hT c hcm)
    refine ld (hA5.bl B24 0 _ rfl) ?_
    have hl:=rT_len s (m.classes.take k)
    rw [List.length_take] at hl
    by_cases h0:0≤n
    · refine brT ?_ (hp:=h0)
      refine bs (cs:=encInt n) fun b6 w6 k6 => ?_
      have B26:=B24.trans k6.bl
      have z6:=k6.size
      refine apl (l1:=[n]) (O2.bl B26) (.inr ⟨b6,0,rfl,k6.box.at⟩) (by omega) fun a7 c7 w7 O7 A7 _ => ?_
      have e7:rT s (m.classes.take (k+1))=rT s (m.classes.take k)++[n]:=by rw [rT_snoc hc hn,if_pos h0]
      refine ih hlt ⟨a7,c7,by rw [e7],by rw [e7];exact O7,Below.trans (B2.trans B26) (A7.below (by omega) fun g hg=>(O2.lt hg).1)⟩
    · refine brF ?_ (hp:=h0)
      have e7:rT s (m.classes.take (k+1))=rT s (m.classes.take k):=by rw [rT_snoc hc hn,if_neg h0,List.append_nil]
      exact ih hlt ⟨a2,c2,by rw [e7],by rw [e7];exact O2.bl B24,B2.trans B24⟩
  refine brF ?_
  obtain rfl:k=m.classes.length:=by omega
  rw [List.take_length] at O2 ⊢
  have hl:=rT_len s m.classes
  refine cl (c_SortI (rT s m.classes) w1.heap.size a2 c2 w2 O2 (by omega)) ?_ (hm:=by intros;trivial)
  rintro _ w3 ⟨O3,A3⟩
  rw [show (rT s m.classes).length=(sortI (rT s m.classes)).length from (sortI_len _).symm]
  refine cl (c_CompactI (sortI (rT s m.classes)) w1.heap.size a2 c2 w3 O3 (by rw [sortI_len];omega)) ?_ (hm:=by intros;trivial)
  rintro _ w4 ⟨rfl,O4,A4⟩
  have et:Lib.compact (sortI (rT s m.classes))=trgM m s:=compactI_srt _
  rw [et] at O4 ⊢
  refine rt1 ⟨a2,c2,rfl,O4.base (by omega),?_⟩
  exact Below.trans (Below.trans B02 (A3.below B02.size fun g hg=>by have:=(O2.lt hg).1;omega)) (A4.below (by have:=A3.size;have:=B02.size;omega) fun g hg=>by have:=(O2.lt hg).1;omega)
theorem k_operand1 (x:Int) (k:Nat) (b:Nat) (w:World) (hx:w.cell? ⟨b,0,none⟩=some (I k)):Ret Tryz.prog 226 #[I x,.pointer (some ⟨b,0,none⟩)] w fun v w'=>v = .bool (decide ((k:Int)≤x))∧Bl w w':=by
  refine entr (vs:=[I x,.pointer (some ⟨b,0,none⟩)]) [0,1,3] tabok Tryz.func226 (by kernel_rfl) ?_
  refine ld hx ?_
  exact rt1 ⟨rfl,Bl.refl _⟩
end Go.Proofs.YtkmdfjpafkcleaaGreatDoor
namespace Go.Proofs.YtkmdfjpafkcleaaGreatDoor
open Eng Go.RowKit
set_option maxHeartbeats 4000000 in
theorem r5_classes (m:Mod) (a:MA) (w:World) (hM:MdR T w m a) (hc10:m.classes.length≤10) (_hm16:m.methods.length≤16) (hz0:0≤m.sels) (hz1:m.sels≤16) :
    Ret Tryz.prog 51 #[.agg (modcells m a).toArray] w fun v w'=>(∃ b,v = .bool b∧(b=true↔∀ k x,m.classes[k]? = some x→ClsP m k x))∧Bl w w':=by
  refine entr (vs:=[.agg (modcells m a).toArray]) [0,1,2,3,4,5,6,7,12,49,52,75,79,117,170] tabok Tryz.func51 (by kernel_rfl) ?_
  refine bx (cs:=modcells m a) fun b1 w1 k1 => ?_
  have x1:=k1.box
  refine lpk m.classes.length 3 [] [(1,.pointer (some ⟨b1,0,none⟩))] (fun k vals w'=>vals=[]∧(∀ i x,i<k→m.classes[i]? = some x→ClsP m i x)∧Bl w1 w') ⟨rfl,fun i x h=>by omega,Bl.refl _⟩ ?_
  rintro k vals w2 hk ⟨rfl,hP,B2⟩ ih
  have y2:=Bl.box B2 x1
  have B02:=k1.bl.trans B2
  refine ld (y2.cell rfl) ?_
  by_cases hlt:k<m.classes.length
  rotate_left
  · refine brF ?_
    exact rt1 ⟨⟨true,rfl,⟨fun _ i x hx=>hP i x (by have:=(List.getElem?_eq_some_iff.1 hx).1;omega) hx,fun _=>rfl⟩⟩,B02⟩
  refine brT ?_
  have hd:Desc m k:=desc_of (by omega) hP
  obtain ⟨c,b,o,cs,hc,e2,_,hAt,a3,c3,a4,c4,rfl,hF,hTb,_,hcap⟩:=at_some (hM.bl B02).cls hlt
  have no:(ClsP m k c→False)→(false=true↔∀ k x,m.classes[k]? = some x→ClsP m k x):=fun h=>⟨(fun q=>(by cases q)),fun q=>(h (q k c hc)).elim⟩
  refine ld (y2.cell rfl) ?_
  rw [e2]
  refine ix ?_
  refine lda hAt ?_
  refine al fun b4 w3 h3 => ?_
  refine sta (cs':=mccells c a3 c3 a4 c4) h3.box fun w4 k4 x4 => ?_
  have B24:=h3.wr k4
  have B4:=B2.trans B24
  have B04:=k1.bl.trans B4
  have y4:=Bl.box B24 y2
  have q1:=hF.big
  have q2:=hTb.big
  refine ld (x4.cell rfl) ?_
  refine ldg (fun _=>x4.cell rfl) ?_
  refine ldg (fun _=>x4.cell rfl) ?_
  by_cases hA:c.super < -1∨(k:Int)≤c.super∨7<(c.fields.length:Int)
  · refine spn (.agg (modcells m a).toArray) ?_ (hb:=by first | rfl | (simp;done) | (simp;omega))
    refine ldg (fun _=>x4.cell rfl) ?_
    refine spn (.bool false) ?_ (hb:=by first | rfl | (simp;done) | (simp;omega))
    refine ldg (fun _=>x4.cell rfl) ?_
    refine ldg (fun _=>y4.cell rfl) ?_
    refine brt ?_ (hp:=by first | rfl | (simp;done) | (simp;omega))
    exact rt1 ⟨⟨false,rfl,no fun q=>by have:=q.s1;have:=q.s2;have:=q.fl;omega⟩,B04⟩
  refine spt (.agg (modcells m a).toArray) ?_ (hb:=by first | rfl | (simp;done) | (simp;omega))
  refine lda y4.at ?_
  refine ldg (fun _=>x4.cell rfl) ?_
  refine spt (.bool false) ?_
  refine cl (r5_types m a c.fields a3 c3 w4 (hF.bl B24)) ?_
  rintro _ w5 ⟨rfl,B45⟩
  have B5:=B4.trans B45
  have B05:=B04.trans B45
  have y5:=Bl.box B45 y4
  have x5:=Bl.box B45 x4
  refine ldg (fun _=>x5.cell rfl) ?_
  refine ldg (fun _=>y5.cell rfl) ?_
  refine br (fun h => ?_) (fun h => ?_)
  · refine rt1 ⟨⟨false,rfl,no fun q => ?_⟩,B05⟩
    rw [List.all_eq_true.2 q.ft] at h
    simp [q.tl] at h
  have hft:(c.fields.all fun t=>ityp m t 1)=true:=by
    cases hb:c.fields.all fun t=>ityp m t 1 with
    | true=>rfl
    | false=>rw [hb] at h;simp at h
  have htl:(c.table.length:Int)=m.sels:=by
    rw [hft] at h;simpa using h
  clear h
  refine ld (x5.cell rfl) ?_
  obtain ⟨n,hn⟩:=Int.eq_ofNat_of_zero_le hz0
  apply Eng.jlk n 6 [] [(1,.pointer (some ⟨b1,0,none⟩)),(3,I k),(4,.pointer (some ⟨b4,0,none⟩))] (fun s vals w'=>vals=[]∧(0≤c.super→∀ y,m.classes[c.super.toNat]? = some y→y.fields.length≤c.fields.length∧c.fields.take y.fields.length=y.fields) ∧
    (∀ (i:Nat) x,i<s→c.table[i]? = some x→EntP m k c i x)∧Bl w5 w') (hn:=by omega)
  case hb =>
    intro J
    by_cases hs:0≤c.super
    · refine brT ?_
      obtain ⟨j,hj⟩:=Int.eq_ofNat_of_zero_le hs
      obtain ⟨u,b6,o6,cs6,hu,e6,_,hA6,a7,c7,a8,c8,rfl,hF6,hT6,_⟩:=at_some (hM.bl B05).cls (i:=j) (by omega)
      have q3:=hF6.big
      have huj:m.classes[c.super.toNat]? = some u:=by rw [hj,Int.toNat_natCast];exact hu
      refine ld (y5.cell rfl) ?_
      refine ld (x5.cell rfl) ?_
      rw [e6]
      refine ix (j:=j) ?_ (hij:=hj) (hb:=by omega)
      refine ld (hA6 2 _ rfl) ?_
      refine ld (x5.cell rfl) ?_
      by_cases hle:u.fields.length≤c.fields.length
      · refine ldg (fun _=>x5.cell rfl) ?_
        refine spt (.slice none 0 0) ?_ (hb:=by first | rfl | (simp;done) | (simp;omega))
        refine sl 0 u.fields.length ?_
        refine spt (.bool false) ?_
        have eF:Sl eTy T w5 (if c3=0 then a3 else a3.map (·.add (0*2))) (c.fields.take u.fields.length):=by
          have e:(if c3=0 then a3 else a3.map (·.add (0*2)))=a3:=by
            split
            · rfl
            · cases a3 <;> simp [Addr.add]
          rw [e]
          exact ((hF.bl B24).bl B45).take _
        have el:u.fields.length-0=(c.fields.take u.fields.length).length:=by rw [List.length_take];omega
        rw [el]
        refine cl (r_SameTypes u.fields (c.fields.take u.fields.length) a7 _ c7 _ w5 hF6 eF) ?_
        rintro _ w6 ⟨rfl,B6⟩
        refine br (fun h => ?_) (fun h => ?_)
        · refine rt1 ⟨⟨false,rfl,no fun q => ?_⟩,B05.trans B6⟩
          have:=(q.up hs u huj).2
          rw [this] at h
          simp at h
          try omega
        · have e7:u.fields=c.fields.take u.fields.length:=by
            cases hd:decide (u.fields=c.fields.take u.fields.length) with
            | true=>exact of_decide_eq_true hd
            | false=>rw [hd] at h;simp at h
          exact J ⟨rfl,fun _ y hy=>by rw [huj] at hy;obtain rfl:=Option.some.inj hy;exact ⟨hle,e7.symm⟩,fun i x h=>by omega,B6⟩
      · refine ldg (fun _=>x5.cell rfl) ?_
        refine spn (.slice none 0 0) ?_ (hb:=by first | rfl | (simp;done) | (simp;omega))
        refine spn (.bool false) ?_ (hb:=by first | rfl | (simp;done) | (simp;omega))
        refine brt ?_ (hp:=by first | rfl | (simp;done) | (simp;omega))
        exact rt1 ⟨⟨false,rfl,no fun q=>hle (q.up hs u huj).1⟩,B05⟩
    · refine brF ?_
      exact J ⟨rfl,fun h=>absurd h hs,fun i x h=>by omega,Bl.refl _⟩
  case hr =>
    rintro s vals w6 hs16 ⟨rfl,hup,hen,B6⟩ ih2
    have y6:=Bl.box B6 y5
    have x6:=Bl.box B6 x5
    have B06:=B05.trans B6
    refine ld (y6.cell rfl) ?_
    by_cases hsl:s<n
    rotate_left
    · refine brF ?_ (hp:=by omega)
      refine ih hlt ⟨rfl,fun i x hi hx => ?_,B5.trans B6⟩
      rcases Nat.lt_or_ge i k with q | q
      · exact hP i x q hx
      · obtain rfl:i=k:=by omega
        rw [hc] at hx
        obtain rfl:=Option.some.inj hx
        exact ⟨by omega,by omega,by omega,List.all_eq_true.1 hft,htl,fun s' n' h=>hen s' n' (by have:=(List.getElem?_eq_some_iff.1 h).1;omega) h,hup⟩
    refine brT ?_ (hp:=by omega)
    have hTb6:=((hTb.bl B24).bl B45).bl B6
    obtain ⟨v,b7,o7,cs7,hv,e7,_,hA7,rfl⟩:=at_some hTb6 (i:=s) (by omega)
    refine ld (x6.cell rfl) ?_
    rw [e7]
    refine ix ?_ (hb:=by omega)
    refine ld (hA7 0 _ rfl) ?_
    have noE:(EntP m k c s v→False)→(false=true↔∀ k x,m.classes[k]? = some x→ClsP m k x):=fun h=>no fun q=>h (q.tb s v hv)
    refine ldg (fun _=>y6.cell rfl) ?_
    have next:∀ w9,Bl w6 w9→EntP m k c s v→(∀ (i:Nat) x,i<s+1→c.table[i]? = some x→EntP m k c i x)∧Bl w5 w9:=fun w9 B9 he=>⟨fun i x hi hx=>by
      rcases Nat.lt_or_ge i s with q | q
      · exact hen i x q hx
      · obtain rfl:i=s:=by omega
        rw [hv] at hx;obtain rfl:=Option.some.inj hx;exact he,B6.trans B9⟩
    have hd1:Desc m (k+1):=⟨by omega,fun i x hi hx=>by
      rcases Nat.lt_or_ge i k with q | q
      · exact hd.2 i x q hx
      · obtain rfl:i=k:=by omega
        rw [hc] at hx;obtain rfl:=Option.some.inj hx;exact ⟨by omega,by omega⟩⟩
    by_cases hA:v < -1∨(m.methods.length:Int)≤v
    · refine spn2 (I 0) ?_ (hn:=by first | (simp;done) | (simp;omega))
      refine spn2 (.slice none 0 0) ?_ (hn:=by first | (simp;done) | (simp;omega))
      refine spn2 (I 0) ?_ (hn:=by first | (simp;done) | (simp;omega))
      refine spn2 (.pointer (some ⟨0,0,none⟩)) ?_ (hn:=by first | (simp;done) | (simp;omega))
      refine spn2 (.slice none 0 0) ?_ (hn:=by first | (simp;done) | (simp;omega))
      refine spn2 (.pointer (some ⟨0,0,none⟩)) ?_ (hn:=by first | (simp;done) | (simp;omega))
      refine spn2 (I 0) ?_ (hn:=by first | (simp;done) | (simp;omega))
      refine brt ?_ (hp:=by first | rfl | (simp;done) | (simp;omega))
      exact rt1 ⟨⟨false,rfl,noE fun q=>by have:=q.lo;have:=q.hi;omega⟩,B06⟩
    by_cases hneg:v = -1
    · refine ldg2 (fun _ _=>x6.cell rfl) ?_
      by_cases hs:0≤c.super
      · obtain ⟨j,hj⟩:=Int.eq_ofNat_of_zero_le hs
        obtain ⟨u,b8,o8,cs8,hu,e8,_,hA8,a9,c9,a10,c10,rfl,hF8,hT8,_⟩:=at_some (hM.bl B06).cls (i:=j) (by omega)
        have huj:m.classes[c.super.toNat]? = some u:=by rw [hj,Int.toNat_natCast];exact hu
        have hPu:=hP j u (by omega) hu
        have hlu:u.table.length=n:=by have:=hPu.tl;omega
        obtain ⟨q,b11,o11,cs11,hq,e11,_,hA11,rfl⟩:=at_some hT8 (i:=s) (by omega)
        have hql:=(hPu.tb s q hq).lo
        refine ldg2 (fun _ _=>y6.cell rfl) ?_
        refine ldg2 (fun _ _=>x6.cell rfl) ?_
        rw [e8]
        refine spt2 (.pointer (some ⟨0,0,none⟩)) ?_ (hy:=by first | (simp;done) | (simp;omega))
        refine ix (j:=j) ?_ (hij:=hj) (hb:=by omega)
        refine ldg (fun _=>hA8 3 _ rfl) ?_
        rw [e11]
        refine spt (.pointer (some ⟨0,0,none⟩)) ?_ (hb:=by first | rfl | (simp;done) | (simp;omega))
        refine ix (j:=s) ?_ (hb:=by omega)
        refine ldg (fun _=>hA11 0 _ rfl) ?_
        by_cases hq1:q = -1
        · refine brf ?_ (hp:=by first | rfl | (simp;done) | (simp;omega))
          refine dh T (List.range 53) fun w8 h8 => ?_
          refine spn (.slice none 0 0) ?_ (hb:=by first | rfl | (simp;done) | (simp;omega))
          refine spn (.pointer (some ⟨0,0,none⟩)) ?_ (hb:=by first | rfl | (simp;done) | (simp;omega))
          refine spn (I 0) ?_ (hb:=by first | rfl | (simp;done) | (simp;omega))
          refine spn2 (.slice none 0 0) ?_ (hn:=by first | (simp;done) | (simp;omega))
          refine spn2 (.pointer (some ⟨0,0,none⟩)) ?_ (hn:=by first | (simp;done) | (simp;omega))
          refine spn2 (I 0) ?_ (hn:=by first | (simp;done) | (simp;omega))
          refine spn2 (.slice none 0 0) ?_ (hn:=by first | (simp;done) | (simp;omega))
          refine spn2 (.agg (modcells m a).toArray) ?_ (hn:=by first | (simp;done) | (simp;omega))
          refine spn2 (.slice none 0 0) ?_ (hn:=by first | (simp;done) | (simp;omega))
          refine spn2 (.pointer (some ⟨0,0,none⟩)) ?_ (hn:=by first | (simp;done) | (simp;omega))
          refine spn2 (I 0) ?_ (hn:=by first | (simp;done) | (simp;omega))
          refine spn2 (.bool false) ?_ (hn:=by first | (simp;done) | (simp;omega))
          refine spn2 (.slice none 0 0) ?_ (hn:=by first | (simp;done) | (simp;omega))
          refine spn2 (.slice none 0 0) ?_ (hn:=by first | (simp;done) | (simp;omega))
          refine spn2 (.pointer (some ⟨0,0,none⟩)) ?_ (hn:=by first | (simp;done) | (simp;omega))
          refine spn2 (I 0) ?_ (hn:=by first | (simp;done) | (simp;omega))
          refine spn2 (.pointer (some ⟨0,0,none⟩)) ?_ (hn:=by first | (simp;done) | (simp;omega))
          refine spn2 (.slice none 0 0) ?_ (hn:=by first | (simp;done) | (simp;omega))
          refine spn2 (.pointer (some ⟨0,0,none⟩)) ?_ (hn:=by first | (simp;done) | (simp;omega))
          refine spn2 (I 0) ?_ (hn:=by first | (simp;done) | (simp;omega))
          refine brf ?_ (hp:=by first | rfl | (simp;done) | (simp;omega))
          have nx:=next w8 h8.bl (⟨by omega,by omega,fun h=>by omega,fun _ hs' y z hy hz=>by rw [huj] at hy;obtain rfl:=Option.some.inj hy;rw [hq] at hz;obtain rfl:=Option.some.inj hz;omega⟩)
          exact ih2 hsl ⟨rfl,hup,nx.1,nx.2⟩
        · refine brt ?_ (hp:=by first | rfl | (simp;done) | (simp;omega))
          exact rt1 ⟨⟨false,rfl,noE fun e=>by have:=e.up (by omega) hs u q huj hq;omega⟩,B06⟩
      · refine spn2 (.slice none 0 0) ?_ (hn:=by first | (simp;done) | (simp;omega))
        refine spn2 (I 0) ?_ (hn:=by first | (simp;done) | (simp;omega))
        refine spn2 (.pointer (some ⟨0,0,none⟩)) ?_ (hn:=by first | (simp;done) | (simp;omega))
        refine spn2 (.slice none 0 0) ?_ (hn:=by first | (simp;done) | (simp;omega))
        refine spn2 (.pointer (some ⟨0,0,none⟩)) ?_ (hn:=by first | (simp;done) | (simp;omega))
        refine spn2 (I 0) ?_ (hn:=by first | (simp;done) | (simp;omega))
        refine brf ?_ (hp:=by first | rfl | (simp;done) | (simp;omega))
        refine dh T (List.range 53) fun w8 h8 => ?_
        refine spn (.slice none 0 0) ?_ (hb:=by first | rfl | (simp;done) | (simp;omega))
        refine spn (.pointer (some ⟨0,0,none⟩)) ?_ (hb:=by first | rfl | (simp;done) | (simp;omega))
        refine spn (I 0) ?_ (hb:=by first | rfl | (simp;done) | (simp;omega))
        refine spn2 (.slice none 0 0) ?_ (hn:=by first | (simp;done) | (simp;omega))
        refine spn2 (.pointer (some ⟨0,0,none⟩)) ?_ (hn:=by first | (simp;done) | (simp;omega))
        refine spn2 (I 0) ?_ (hn:=by first | (simp;done) | (simp;omega))
        refine spn2 (.slice none 0 0) ?_ (hn:=by first | (simp;done) | (simp;omega))
        refine spn2 (.agg (modcells m a).toArray) ?_ (hn:=by first | (simp;done) | (simp;omega))
        refine spn2 (.slice none 0 0) ?_ (hn:=by first | (simp;done) | (simp;omega))
        refine spn2 (.pointer (some ⟨0,0,none⟩)) ?_ (hn:=by first | (simp;done) | (simp;omega))
        refine spn2 (I 0) ?_ (hn:=by first | (simp;done) | (simp;omega))
        refine spn2 (.bool false) ?_ (hn:=by first | (simp;done) | (simp;omega))
        refine spn2 (.slice none 0 0) ?_ (hn:=by first | (simp;done) | (simp;omega))
        refine spn2 (.slice none 0 0) ?_ (hn:=by first | (simp;done) | (simp;omega))
        refine spn2 (.pointer (some ⟨0,0,none⟩)) ?_ (hn:=by first | (simp;done) | (simp;omega))
        refine spn2 (I 0) ?_ (hn:=by first | (simp;done) | (simp;omega))
        refine spn2 (.pointer (some ⟨0,0,none⟩)) ?_ (hn:=by first | (simp;done) | (simp;omega))
        refine spn2 (.slice none 0 0) ?_ (hn:=by first | (simp;done) | (simp;omega))
        refine spn2 (.pointer (some ⟨0,0,none⟩)) ?_ (hn:=by first | (simp;done) | (simp;omega))
        refine spn2 (I 0) ?_ (hn:=by first | (simp;done) | (simp;omega))
        refine brf ?_ (hp:=by first | rfl | (simp;done) | (simp;omega))
        have nx:=next w8 h8.bl (⟨by omega,by omega,fun h=>by omega,fun _ hs' y z hy hz=>absurd hs' hs⟩)
        exact ih2 hsl ⟨rfl,hup,nx.1,nx.2⟩
    · refine spn2 (I 0) ?_ (hn:=by first | (simp;done) | (simp;omega))
      refine spn2 (.slice none 0 0) ?_ (hn:=by first | (simp;done) | (simp;omega))
      refine spn2 (I 0) ?_ (hn:=by first | (simp;done) | (simp;omega))
      refine spn2 (.pointer (some ⟨0,0,none⟩)) ?_ (hn:=by first | (simp;done) | (simp;omega))
      refine spn2 (.slice none 0 0) ?_ (hn:=by first | (simp;done) | (simp;omega))
      refine spn2 (.pointer (some ⟨0,0,none⟩)) ?_ (hn:=by first | (simp;done) | (simp;omega))
      refine spn2 (I 0) ?_ (hn:=by first | (simp;done) | (simp;omega))
      refine brf ?_ (hp:=by first | rfl | (simp;done) | (simp;omega))
      have hv0:0≤v:=by omega
      obtain ⟨j,hj⟩:=Int.eq_ofNat_of_zero_le hv0
      obtain ⟨y,b8,o8,cs8,hy,e8,_,hA8,a9,c9,a10,c10,a11,c11,rfl,_⟩:=at_some (hM.bl B06).mth (i:=j) (by omega)
      have hyj:m.methods[v.toNat]? = some y:=by rw [hj,Int.toNat_natCast];exact hy
      refine dh T (List.range 53) fun w8 h8 => ?_
      have y8:=h8.box y6
      have B68:=h8.bl
      have B08:=B06.trans B68
      have hA88:=hA8.bl B68
      refine ldg (fun _=>y8.cell rfl) ?_ (hm:=trivial)
      rw [e8]
      refine ixg (j:=j) (len:=m.methods.length) (fun _=>by omega) ?_ (hij:=hj)
      refine ldg (fun _=>hA88 1 _ rfl) ?_ (hm:=trivial)
      by_cases ho:y.cls<0
      · refine spn2 (.slice none 0 0) ?_ (hn:=by first | (simp;done) | (simp;omega))
        refine spn2 (.pointer (some ⟨0,0,none⟩)) ?_ (hn:=by first | (simp;done) | (simp;omega))
        refine spn2 (I 0) ?_ (hn:=by first | (simp;done) | (simp;omega))
        refine spn2 (.slice none 0 0) ?_ (hn:=by first | (simp;done) | (simp;omega))
        refine spn2 (.agg (modcells m a).toArray) ?_ (hn:=by first | (simp;done) | (simp;omega))
        refine spn2 (.slice none 0 0) ?_ (hn:=by first | (simp;done) | (simp;omega))
        refine spn2 (.pointer (some ⟨0,0,none⟩)) ?_ (hn:=by first | (simp;done) | (simp;omega))
        refine spn2 (I 0) ?_ (hn:=by first | (simp;done) | (simp;omega))
        refine spn2 (.bool false) ?_ (hn:=by first | (simp;done) | (simp;omega))
        refine spn2 (.slice none 0 0) ?_ (hn:=by first | (simp;done) | (simp;omega))
        refine spn2 (.slice none 0 0) ?_ (hn:=by first | (simp;done) | (simp;omega))
        refine spn2 (.pointer (some ⟨0,0,none⟩)) ?_ (hn:=by first | (simp;done) | (simp;omega))
        refine spn2 (I 0) ?_ (hn:=by first | (simp;done) | (simp;omega))
        refine spn2 (.pointer (some ⟨0,0,none⟩)) ?_ (hn:=by first | (simp;done) | (simp;omega))
        refine spn2 (.slice none 0 0) ?_ (hn:=by first | (simp;done) | (simp;omega))
        refine spn2 (.pointer (some ⟨0,0,none⟩)) ?_ (hn:=by first | (simp;done) | (simp;omega))
        refine spn2 (I 0) ?_ (hn:=by first | (simp;done) | (simp;omega))
        refine brt ?_ (hp:=by first | rfl | (simp;done) | (simp;omega))
        refine rt1 ⟨⟨false,rfl,noE fun e => ?_⟩,B08⟩
        obtain ⟨y',z,e1,e2,_⟩:=e.own hv0
        rw [hyj] at e1;obtain rfl:=Option.some.inj e1
        have:=(upM_mem_le hd1 (by omega) e2).1
        omega
      obtain ⟨o,ho'⟩:=Int.eq_ofNat_of_zero_le (show 0≤y.cls by omega)
      refine ldg2 (fun _ _=>y8.cell rfl) ?_ (hm:=trivial)
      rw [e8]
      refine spt2 (.pointer (some ⟨0,0,none⟩)) ?_ (hy:=by first | (simp;done) | (simp;omega))
      refine ix (j:=j) ?_ (hij:=hj) (hb:=by omega)
      refine ldg (fun _=>hA88 1 _ rfl) ?_ (hm:=trivial)
      refine ldg (fun _=>y8.cell rfl) ?_ (hm:=trivial)
      by_cases hw:(m.classes.length:Int)≤y.cls
      · refine spn2 (.agg (modcells m a).toArray) ?_ (hn:=by first | (simp;done) | (simp;omega))
        refine spn2 (.slice none 0 0) ?_ (hn:=by first | (simp;done) | (simp;omega))
        refine spn2 (.pointer (some ⟨0,0,none⟩)) ?_ (hn:=by first | (simp;done) | (simp;omega))
        refine spn2 (I 0) ?_ (hn:=by first | (simp;done) | (simp;omega))
        refine spn2 (.bool false) ?_ (hn:=by first | (simp;done) | (simp;omega))
        refine spn2 (.slice none 0 0) ?_ (hn:=by first | (simp;done) | (simp;omega))
        refine spn2 (.slice none 0 0) ?_ (hn:=by first | (simp;done) | (simp;omega))
        refine spn2 (.pointer (some ⟨0,0,none⟩)) ?_ (hn:=by first | (simp;done) | (simp;omega))
        refine spn2 (I 0) ?_ (hn:=by first | (simp;done) | (simp;omega))
        refine spn2 (.pointer (some ⟨0,0,none⟩)) ?_ (hn:=by first | (simp;done) | (simp;omega))
        refine spn2 (.slice none 0 0) ?_ (hn:=by first | (simp;done) | (simp;omega))
        refine spn2 (.pointer (some ⟨0,0,none⟩)) ?_ (hn:=by first | (simp;done) | (simp;omega))
        refine spn2 (I 0) ?_ (hn:=by first | (simp;done) | (simp;omega))
        refine brt ?_ (hp:=by first | rfl | (simp;done) | (simp;omega))
        refine rt1 ⟨⟨false,rfl,noE fun e => ?_⟩,B08⟩
        obtain ⟨y',z,e1,e2,_⟩:=e.own hv0
        rw [hyj] at e1;obtain rfl:=Option.some.inj e1
        have:=(upM_mem_le hd1 (by omega) e2).2
        omega
      refine spt2 (.agg (modcells m a).toArray) ?_ (hy:=by first | (simp;done) | (simp;omega))
      refine lda y8.at ?_ (hm:=trivial)
      refine ldg (fun _=>y8.cell rfl) ?_ (hm:=trivial)
      rw [e8]
      refine spt (.pointer (some ⟨0,0,none⟩)) ?_ (hb:=by first | rfl | (simp;done) | (simp;omega))
      refine ix (j:=j) ?_ (hij:=hj) (hb:=by omega)
      refine ldg (fun _=>hA88 1 _ rfl) ?_ (hm:=trivial)
      refine spt (.bool false) ?_ (hb:=by first | rfl | (simp;done) | (simp;omega))
      refine cl (r5_above m a hd1 (k:Int) y.cls (by omega) (by omega) w8 (hM.bl B08)) ?_
      rintro _ w12 ⟨rfl,B812⟩
      have B612:=B68.trans B812
      have B012:=B08.trans B812
      have y12:=Bl.box B812 y8
      have hA12:=hA88.bl B812
      by_cases hin:y.cls∈upM m k
      · have hok:y.cls≤k:=(upM_mem_le hd1 (by omega) hin).2
        obtain ⟨z,b13,o13,cs13,hz,e13,_,hA13,a14,c14,a15,c15,rfl,_,hT13,_⟩:=at_some (hM.bl B012).cls (i:=o) (by omega)
        have hzj:m.classes[y.cls.toNat]? = some z:=by rw [ho',Int.toNat_natCast];exact hz
        have hlz:z.table.length=n:=by
          rcases Nat.lt_or_ge o k with q | q
          · have:=(hP o z q hz).tl;omega
          · obtain rfl:o=k:=by omega
            rw [hc] at hz;obtain rfl:=Option.some.inj hz;omega
        obtain ⟨q,b16,o16,cs16,hq,e16,_,hA16,rfl⟩:=at_some hT13 (i:=s) (by omega)
        rw [decide_eq_true hin]
        refine ldg2 (fun _ _=>y12.cell rfl) ?_ (hm:=trivial)
        refine ldg2 (fun _ _=>y12.cell rfl) ?_ (hm:=trivial)
        rw [e8]
        refine spt2 (.pointer (some ⟨0,0,none⟩)) ?_ (hy:=by first | (simp;done) | (simp;omega))
        refine ix (j:=j) ?_ (hij:=hj) (hb:=by omega)
        refine ldg (fun _=>hA12 1 _ rfl) ?_ (hm:=trivial)
        rw [e13]
        refine spt (.pointer (some ⟨0,0,none⟩)) ?_ (hb:=by first | rfl | (simp;done) | (simp;omega))
        refine ix (j:=o) ?_ (hij:=ho') (hb:=by omega)
        refine ldg (fun _=>hA13 3 _ rfl) ?_ (hm:=trivial)
        rw [e16]
        refine spt (.pointer (some ⟨0,0,none⟩)) ?_ (hb:=by first | rfl | (simp;done) | (simp;omega))
        refine ix (j:=s) ?_ (hb:=by omega)
        refine ldg (fun _=>hA16 0 _ rfl) ?_ (hm:=trivial)
        by_cases hqv:q=v
        · refine brf ?_ (hp:=by first | rfl | (simp;done) | (simp;omega))
          have nx:=next w12 B612 ⟨by omega,by omega,fun _=>⟨y,z,hyj,hin,hzj,by rw [hq,hqv]⟩,fun h=>by omega⟩
          exact ih2 hsl ⟨rfl,hup,nx.1,nx.2⟩
        · refine brt ?_ (hp:=by first | rfl | (simp;done) | (simp;omega))
          refine rt1 ⟨⟨false,rfl,noE fun e => ?_⟩,B012⟩
          obtain ⟨y',z',e1,e2,e3,e4⟩:=e.own hv0
          rw [hyj] at e1;obtain rfl:=Option.some.inj e1
          rw [hzj] at e3;obtain rfl:=Option.some.inj e3
          rw [hq] at e4
          exact hqv (Option.some.inj e4)
      · rw [decide_eq_false hin]
        refine spn2 (.slice none 0 0) ?_ (hn:=by first | (simp;done) | (simp;omega))
        refine spn2 (.slice none 0 0) ?_ (hn:=by first | (simp;done) | (simp;omega))
        refine spn2 (.pointer (some ⟨0,0,none⟩)) ?_ (hn:=by first | (simp;done) | (simp;omega))
        refine spn2 (I 0) ?_ (hn:=by first | (simp;done) | (simp;omega))
        refine spn2 (.pointer (some ⟨0,0,none⟩)) ?_ (hn:=by first | (simp;done) | (simp;omega))
        refine spn2 (.slice none 0 0) ?_ (hn:=by first | (simp;done) | (simp;omega))
        refine spn2 (.pointer (some ⟨0,0,none⟩)) ?_ (hn:=by first | (simp;done) | (simp;omega))
        refine spn2 (I 0) ?_ (hn:=by first | (simp;done) | (simp;omega))
        refine brt ?_ (hp:=by first | rfl | (simp;done) | (simp;omega))
        refine rt1 ⟨⟨false,rfl,noE fun e => ?_⟩,B012⟩
        obtain ⟨y',z',e1,e2,e3,e4⟩:=e.own hv0
        rw [hyj] at e1;obtain rfl:=Option.some.inj e1
        exact hin e2
end Go.Proofs.YtkmdfjpafkcleaaGreatDoor
namespace Go.Proofs.YtkmdfjpafkcleaaGreatDoor
open Eng Go.RowKit
theorem code_all {l:List Ins} {p:Bool} (h:codeE l p=0):∀ i∈l,validI i p=true:=by
  unfold codeE at h
  split at h
  · cases h
  · split at h
    · rename_i h2;exact List.all_eq_true.1 h2
    · cases h
def nslots (x:MM):Int:=(x.params.length:Int)+x.locals.length+(if 0≤x.cls then 1 else 0)
set_option maxHeartbeats 4000000 in
theorem r5_isMethod (m:Mod) (a:MA) (k:Nat) (x:MM) (w:World) (hM:MdR T w m a) (hx:m.methods[k]? = some x) (_hc10:m.classes.length≤10) (_hm16:m.methods.length≤16) (hT:∀ c∈m.classes,(c.table.length:Int)=m.sels) :
    Ret Tryz.prog 53 #[.agg (modcells m a).toArray,I k] w fun v w'=>(∃ b,v = .bool b∧(b=true↔MthP m k x))∧Bl w w':=by
  have hlt:k<m.methods.length:=(List.getElem?_eq_some_iff.1 hx).1
  obtain ⟨x',b,o,cs,hx',e2,_,hAt,a3,c3,a4,c4,a5,c5,rfl,f1,f2,f3,_⟩:=at_some hM.mth hlt
  obtain rfl:x=x':=by rw [hx] at hx';exact Option.some.inj hx'
  have q1:=f1.big
  have q2:=f2.big
  have q3:=f3.big
  have no:(MthP m k x→False)→(false=true↔MthP m k x):=fun h=>⟨(fun q=>(by cases q)),fun q=>(h q).elim⟩
  refine entr (vs:=[.agg (modcells m a).toArray,I k]) [0,1,2,4,5,6,7,22,66,70,75,86] tabok Tryz.func53 (by kernel_rfl) ?_
  refine bx (cs:=modcells m a) fun b1 w1 k1 => ?_
  have x1:=k1.box
  refine ld (x1.cell rfl) ?_
  rw [e2]
  refine ix ?_
  refine lda (hAt.bl k1.bl) ?_
  refine al fun b5 w2 h2 => ?_
  refine sta (cs':=mmcells x a3 c3 a4 c4 a5 c5) h2.box fun w3 k3 x3 => ?_
  have B13:=h2.wr k3
  have B3:=k1.bl.trans B13
  have y3:=Bl.box B13 x1
  refine ld (x3.cell rfl) ?_
  refine ld (x3.cell rfl) ?_
  refine ld (x3.cell rfl) ?_
  rw [show IntKind.wrap .i64 ((x.params.length:Int)+x.locals.length)=(x.params.length:Int)+x.locals.length from wrap_fit (by omega) (by omega)]
  by_cases hc0:0≤x.cls
  · refine brT ?_ (hp:=hc0)
    refine ld (x3.cell rfl) ?_
    rw [show IntKind.wrap .i64 ((x.params.length:Int)+x.locals.length+1)=nslots x from by rw [wrap_fit (by omega) (by omega)];unfold nslots;rw [if_pos hc0]]
    refine ldg (fun _=>x3.cell rfl) ?_
    refine ldg (fun _=>y3.cell rfl) ?_
    refine ldg (fun _=>x3.cell rfl) ?_
    by_cases hA:x.cls < -1∨(m.classes.length:Int)≤x.cls∨4<(x.params.length:Int)∨10<nslots x
    · refine spn (.agg (modcells m a).toArray) ?_ (hb:=by first | rfl | (simp;done) | (simp;omega))
      refine ldg (fun _=>x3.cell rfl) ?_
      refine spn (.bool false) ?_ (hb:=by first | rfl | (simp;done) | (simp;omega))
      refine spn (.agg (modcells m a).toArray) ?_ (hb:=by first | rfl | (simp;done) | (simp;omega))
      refine ldg (fun _=>x3.cell rfl) ?_
      refine spn (.bool false) ?_ (hb:=by first | rfl | (simp;done) | (simp;omega))
      refine spn (.agg (modcells m a).toArray) ?_ (hb:=by first | rfl | (simp;done) | (simp;omega))
      refine spn (.agg (encTy x.result).toArray) ?_ (hb:=by first | rfl | (simp;done) | (simp;omega))
      refine spn (.bool false) ?_ (hb:=by first | rfl | (simp;done) | (simp;omega))
      refine brt ?_ (hp:=by first | rfl | (simp;done) | (simp;omega))
      exact rt1 ⟨⟨false,rfl,no fun q=>by have:=q.c1;have:=q.c2;have:=q.pl;have:=q.ll;unfold nslots at hA;omega⟩,B3⟩
    refine spt (.agg (modcells m a).toArray) ?_ (hb:=by first | rfl | (simp;done) | (simp;omega))
    refine lda y3.at ?_
    refine ldg (fun _=>x3.cell rfl) ?_
    refine spt (.bool false) ?_ (hb:=by first | rfl | (simp;done) | (simp;omega))
    refine cl (r5_types m a x.params a3 c3 w3 (f1.bl B3)) ?_
    rintro _ w4 ⟨rfl,B34⟩
    have B4:=B3.trans B34
    have x4:=Bl.box B34 x3
    have y4:=Bl.box B34 y3
    cases hp:x.params.all fun t=>ityp m t 1 with
    | false =>
      refine spn (.agg (modcells m a).toArray) ?_ (hb:=by first | rfl | (simp;done) | (simp;omega))
      refine ldg (fun _=>x4.cell rfl) ?_
      refine spn (.bool false) ?_ (hb:=by first | rfl | (simp;done) | (simp;omega))
      refine spn (.agg (modcells m a).toArray) ?_ (hb:=by first | rfl | (simp;done) | (simp;omega))
      refine spn (.agg (encTy x.result).toArray) ?_ (hb:=by first | rfl | (simp;done) | (simp;omega))
      refine spn (.bool false) ?_ (hb:=by first | rfl | (simp;done) | (simp;omega))
      refine brt ?_ (hp:=by first | rfl | (simp;done) | (simp;omega))
      exact rt1 ⟨⟨false,rfl,no fun q=>by rw [List.all_eq_true.2 q.pt] at hp;cases hp⟩,B4⟩
    | true =>
    refine spt (.agg (modcells m a).toArray) ?_ (hb:=by first | rfl | (simp;done) | (simp;omega))
    refine lda y4.at ?_
    refine ldg (fun _=>x4.cell rfl) ?_
    refine spt (.bool false) ?_ (hb:=by first | rfl | (simp;done) | (simp;omega))
    refine cl (r5_types m a x.locals a4 c4 w4 (f2.bl B4)) ?_
    rintro _ w5 ⟨rfl,B45⟩
    have B5:=B4.trans B45
    have x5:=Bl.box B45 x4
    have y5:=Bl.box B45 y4
    cases hl:x.locals.all fun t=>ityp m t 1 with
    | false =>
      refine spn (.agg (modcells m a).toArray) ?_ (hb:=by first | rfl | (simp;done) | (simp;omega))
      refine spn (.agg (encTy x.result).toArray) ?_ (hb:=by first | rfl | (simp;done) | (simp;omega))
      refine spn (.bool false) ?_ (hb:=by first | rfl | (simp;done) | (simp;omega))
      refine brt ?_ (hp:=by first | rfl | (simp;done) | (simp;omega))
      exact rt1 ⟨⟨false,rfl,no fun q=>by rw [List.all_eq_true.2 q.lt] at hl;cases hl⟩,B5⟩
    | true =>
    refine spt (.agg (modcells m a).toArray) ?_ (hb:=by first | rfl | (simp;done) | (simp;omega))
    refine lda y5.at ?_
    refine spt (.agg (encTy x.result).toArray) ?_ (hb:=by first | rfl | (simp;done) | (simp;omega))
    refine lda (At.left (cs:=encTy x.result) x5.at.tail.tail.tail.tail) ?_
    refine spt (.bool false) ?_ (hb:=by first | rfl | (simp;done) | (simp;omega))
    refine cl (r5_IsType m a x.result 0 (.inl rfl) w5) ?_
    rintro _ w6 ⟨rfl,B56⟩
    have B6:=B5.trans B56
    have x6:=Bl.box B56 x5
    have y6:=Bl.box B56 y5
    cases hr:ityp m x.result 0 with
    | false =>
      refine brt ?_ (hp:=by first | rfl | (simp;done) | (simp;omega))
      exact rt1 ⟨⟨false,rfl,no fun q=>by rw [q.rt] at hr;cases hr⟩,B6⟩
    | true =>
    refine brf ?_ (hp:=by first | rfl | (simp;done) | (simp;omega))
    refine ld (x6.cell rfl) ?_
    refine cl (r3_Check x.code a5 c5 false T w6 (f3.bl B6)) ?_
    rintro _ w7 ⟨rfl,B67⟩
    have B7:=B6.trans B67
    have x7:=Bl.box B67 x6
    have y7:=Bl.box B67 y6
    by_cases hcd:codeE x.code false=0
    rotate_left
    · refine brT ?_ (hp:=hcd)
      exact rt1 ⟨⟨false,rfl,no fun q=>hcd q.cd⟩,B7⟩
    refine brF ?_ (hp:=by exact fun h=>h hcd)
    have hval:=code_all hcd
    refine lpk x.code.length 7 [] [(1,I k),(2,.pointer (some ⟨b1,0,none⟩)),(5,.pointer (some ⟨b5,0,none⟩))] (fun j vals w'=>vals=[]∧(x.code.take j).all (oprB m k)=true∧Bl w7 w') ⟨rfl,rfl,Bl.refl _⟩ ?_
    rintro j vals w8 hj ⟨rfl,ha,B8⟩ ih
    have x8:=Bl.box B8 x7
    have y8:=Bl.box B8 y7
    have B08:=B7.trans B8
    refine ld (x8.cell rfl) ?_
    by_cases hjl:j<x.code.length
    · refine brT ?_
      obtain ⟨i,b9,o9,cs9,hi,e9,_,hA9,rfl⟩:=at_some (f3.bl B08) hjl
      refine dh T (List.range 9) fun w10 h10 => ?_
      have B810:=h10.bl
      refine lda (h10.box y8).at ?_ (hm:=trivial)
      refine ld ((h10.box x8).cell rfl) ?_ (hm:=trivial)
      rw [e9]
      refine ix ?_
      refine lda (hA9.bl B810) ?_ (hm:=trivial)
      refine cl (r5_operand m a k i (hval i (List.mem_of_getElem? hi)) (by omega) hT w10 (hM.bl (B08.trans B810))) ?_
      rintro _ w11 ⟨rfl,B11⟩
      refine br (fun h => ?_) (fun h => ?_)
      · exact rt1 ⟨⟨false,rfl,no fun q=>by rw [q.op i (List.mem_of_getElem? hi)] at h;cases h⟩,(B08.trans B810).trans B11⟩
      · exact ih hjl ⟨rfl,all_snoc' hi ha (by simpa using h),(B8.trans B810).trans B11⟩
    refine brF ?_
    obtain rfl:j=x.code.length:=by omega
    exact rt1 ⟨⟨true,rfl,⟨fun _=>⟨by omega,by omega,by omega,by unfold nslots at hA;omega,List.all_eq_true.1 hp,List.all_eq_true.1 hl,hr,hcd,List.all_eq_true.1 (all_end ha)⟩,fun _=>rfl⟩⟩,B08⟩
  · refine brF ?_ (hp:=hc0)
    rw [show (x.params.length:Int)+x.locals.length=nslots x from by unfold nslots;rw [if_neg hc0,Int.add_zero]]
    refine ld (x3.cell rfl) ?_
    refine ldg (fun _=>x3.cell rfl) ?_
    refine ldg (fun _=>y3.cell rfl) ?_
    refine ldg (fun _=>x3.cell rfl) ?_
    by_cases hA:x.cls < -1∨(m.classes.length:Int)≤x.cls∨4<(x.params.length:Int)∨10<nslots x
    · refine spn (.agg (modcells m a).toArray) ?_ (hb:=by first | rfl | (simp;done) | (simp;omega))
      refine ldg (fun _=>x3.cell rfl) ?_
      refine spn (.bool false) ?_ (hb:=by first | rfl | (simp;done) | (simp;omega))
      refine spn (.agg (modcells m a).toArray) ?_ (hb:=by first | rfl | (simp;done) | (simp;omega))
      refine ldg (fun _=>x3.cell rfl) ?_
      refine spn (.bool false) ?_ (hb:=by first | rfl | (simp;done) | (simp;omega))
      refine spn (.agg (modcells m a).toArray) ?_ (hb:=by first | rfl | (simp;done) | (simp;omega))
      refine spn (.agg (encTy x.result).toArray) ?_ (hb:=by first | rfl | (simp;done) | (simp;omega))
      refine spn (.bool false) ?_ (hb:=by first | rfl | (simp;done) | (simp;omega))
      refine brt ?_ (hp:=by first | rfl | (simp;done) | (simp;omega))
      exact rt1 ⟨⟨false,rfl,no fun q=>by have:=q.c1;have:=q.c2;have:=q.pl;have:=q.ll;unfold nslots at hA;omega⟩,B3⟩
    refine spt (.agg (modcells m a).toArray) ?_ (hb:=by first | rfl | (simp;done) | (simp;omega))
    refine lda y3.at ?_
    refine ldg (fun _=>x3.cell rfl) ?_
    refine spt (.bool false) ?_ (hb:=by first | rfl | (simp;done) | (simp;omega))
    refine cl (r5_types m a x.params a3 c3 w3 (f1.bl B3)) ?_
    rintro _ w4 ⟨rfl,B34⟩
    have B4:=B3.trans B34
    have x4:=Bl.box B34 x3
    have y4:=Bl.box B34 y3
    cases hp:x.params.all fun t=>ityp m t 1 with
    | false =>
      refine spn (.agg (modcells m a).toArray) ?_ (hb:=by first | rfl | (simp;done) | (simp;omega))
      refine ldg (fun _=>x4.cell rfl) ?_
      refine spn (.bool false) ?_ (hb:=by first | rfl | (simp;done) | (simp;omega))
      refine spn (.agg (modcells m a).toArray) ?_ (hb:=by first | rfl | (simp;done) | (simp;omega))
      refine spn (.agg (encTy x.result).toArray) ?_ (hb:=by first | rfl | (simp;done) | (simp;omega))
      refine spn (.bool false) ?_ (hb:=by first | rfl | (simp;done) | (simp;omega))
      refine brt ?_ (hp:=by first | rfl | (simp;done) | (simp;omega))
      exact rt1 ⟨⟨false,rfl,no fun q=>by rw [List.all_eq_true.2 q.pt] at hp;cases hp⟩,B4⟩
    | true =>
    refine spt (.agg (modcells m a).toArray) ?_ (hb:=by first | rfl | (simp;done) | (simp;omega))
    refine lda y4.at ?_
    refine ldg (fun _=>x4.cell rfl) ?_
    refine spt (.bool false) ?_ (hb:=by first | rfl | (simp;done) | (simp;omega))
    refine cl (r5_types m a x.locals a4 c4 w4 (f2.bl B4)) ?_
    rintro _ w5 ⟨rfl,B45⟩
    have B5:=B4.trans B45
    have x5:=Bl.box B45 x4
    have y5:=Bl.box B45 y4
    cases hl:x.locals.all fun t=>ityp m t 1 with
    | false =>
      refine spn (.agg (modcells m a).toArray) ?_ (hb:=by first | rfl | (simp;done) | (simp;omega))
      refine spn (.agg (encTy x.result).toArray) ?_ (hb:=by first | rfl | (simp;done) | (simp;omega))
      refine spn (.bool false) ?_ (hb:=by first | rfl | (simp;done) | (simp;omega))
      refine brt ?_ (hp:=by first | rfl | (simp;done) | (simp;omega))
      exact rt1 ⟨⟨false,rfl,no fun q=>by rw [List.all_eq_true.2 q.lt] at hl;cases hl⟩,B5⟩
    | true =>
    refine spt (.agg (modcells m a).toArray) ?_ (hb:=by first | rfl | (simp;done) | (simp;omega))
    refine lda y5.at ?_
    refine spt (.agg (encTy x.result).toArray) ?_ (hb:=by first | rfl | (simp;done) | (simp;omega))
    refine lda (At.left (cs:=encTy x.result) x5.at.tail.tail.tail.tail) ?_
    refine spt (.bool false) ?_ (hb:=by first | rfl | (simp;done) | (simp;omega))
    refine cl (r5_IsType m a x.result 0 (.inl rfl) w5) ?_
    rintro _ w6 ⟨rfl,B56⟩
    have B6:=B5.trans B56
    have x6:=Bl.box B56 x5
    have y6:=Bl.box B56 y5
    cases hr:ityp m x.result 0 with
    | false =>
      refine brt ?_ (hp:=by first | rfl | (simp;done) | (simp;omega))
      exact rt1 ⟨⟨false,rfl,no fun q=>by rw [q.rt] at hr;cases hr⟩,B6⟩
    | true =>
    refine brf ?_ (hp:=by first | rfl | (simp;done) | (simp;omega))
    refine ld (x6.cell rfl) ?_
    refine cl (r3_Check x.code a5 c5 false T w6 (f3.bl B6)) ?_
    rintro _ w7 ⟨rfl,B67⟩
    have B7:=B6.trans B67
    have x7:=Bl.box B67 x6
    have y7:=Bl.box B67 y6
    by_cases hcd:codeE x.code false=0
    rotate_left
    · refine brT ?_ (hp:=hcd)
      exact rt1 ⟨⟨false,rfl,no fun q=>hcd q.cd⟩,B7⟩
    refine brF ?_ (hp:=by exact fun h=>h hcd)
    have hval:=code_all hcd
    refine lpk x.code.length 7 [] [(1,I k),(2,.pointer (some ⟨b1,0,none⟩)),(5,.pointer (some ⟨b5,0,none⟩))] (fun j vals w'=>vals=[]∧(x.code.take j).all (oprB m k)=true∧Bl w7 w') ⟨rfl,rfl,Bl.refl _⟩ ?_
    rintro j vals w8 hj ⟨rfl,ha,B8⟩ ih
    have x8:=Bl.box B8 x7
    have y8:=Bl.box B8 y7
    have B08:=B7.trans B8
    refine ld (x8.cell rfl) ?_
    by_cases hjl:j<x.code.length
    · refine brT ?_
      obtain ⟨i,b9,o9,cs9,hi,e9,_,hA9,rfl⟩:=at_some (f3.bl B08) hjl
      refine dh T (List.range 9) fun w10 h10 => ?_
      have B810:=h10.bl
      refine lda (h10.box y8).at ?_ (hm:=trivial)
      refine ld ((h10.box x8).cell rfl) ?_ (hm:=trivial)
      rw [e9]
      refine ix ?_
      refine lda (hA9.bl B810) ?_ (hm:=trivial)
      refine cl (r5_operand m a k i (hval i (List.mem_of_getElem? hi)) (by omega) hT w10 (hM.bl (B08.trans B810))) ?_
      rintro _ w11 ⟨rfl,B11⟩
      refine br (fun h => ?_) (fun h => ?_)
      · exact rt1 ⟨⟨false,rfl,no fun q=>by rw [q.op i (List.mem_of_getElem? hi)] at h;cases h⟩,(B08.trans B810).trans B11⟩
      · exact ih hjl ⟨rfl,all_snoc' hi ha (by simpa using h),(B8.trans B810).trans B11⟩
    refine brF ?_
    obtain rfl:j=x.code.length:=by omega
    exact rt1 ⟨⟨true,rfl,⟨fun _=>⟨by omega,by omega,by omega,by unfold nslots at hA;omega,List.all_eq_true.1 hp,List.all_eq_true.1 hl,hr,hcd,List.all_eq_true.1 (all_end ha)⟩,fun _=>rfl⟩⟩,B08⟩
end Go.Proofs.YtkmdfjpafkcleaaGreatDoor
namespace Go.Proofs.YtkmdfjpafkcleaaGreatDoor
open Eng Go.RowKit
theorem val_a {i:Ins} (hv:validI i false=true) (h:i.op=14∨i.op=24):0≤i.a:=by
  obtain ⟨op,a,b⟩:=i
  simp only at h ⊢
  rcases h with rfl | rfl <;> (simp [validI,inR,rngs,mosts] at hv;omega)
theorem val_b {i:Ins} (hv:validI i false=true) (h:i.op=16∨i.op=12):0≤i.b:=by
  obtain ⟨op,a,b⟩:=i
  simp only at h ⊢
  rcases h with rfl | rfl <;> (simp [validI,inR,rngs,mosts] at hv;omega)
theorem k_operandM (m:Mod) (a:MA) (k:Nat) (i:Ins) (hv:validI i false=true) (hk:k≤m.methods.length) (hC:∀ y∈m.methods,-1≤y.cls) (hT:∀ c∈m.classes,(c.table.length:Int)=m.sels) (w:World) (hM:MdR T w m a) :
    Ret Tryz.prog 175 #[.agg (modcells m a).toArray,I k,.agg (encIns i).toArray] w fun v w'=>v = .bool (oprB m k i)∧Bl w w':=by
  have hbig:=hM.cls.big
  refine entr (vs:=[.agg (modcells m a).toArray,I k,.agg (encIns i).toArray]) [0,1,2,3,4,5,6,8,9,16,22,33,43,60] tabok Tryz.func175 (by kernel_rfl) ?_
  refine bx (cs:=modcells m a) fun b1 w1 k1 => ?_
  refine bx (cs:=[I k]) fun b2 w2 k2 => ?_
  refine bx (cs:=encIns i) fun b3 w3 k3 => ?_
  have B3:=(k1.bl.trans k2.bl).trans k3.bl
  have x1:=Bl.box (k2.bl.trans k3.bl) k1.box
  have x2:=Bl.box k3.bl k2.box
  have x3:=k3.box
  refine ld (x3.cell rfl) ?_
  by_cases h14:i.op=14
  · refine brT ?_ (hp:=h14)
    refine brT ?_ (hp:=h14)
    refine lda x1.at ?_
    refine ld (x3.cell rfl) ?_
    refine cl (k_isClass m a i.a w3 (by omega)) ?_
    rintro _ w4 ⟨rfl,B4⟩
    refine rt1 ⟨congrArg Value.bool ?_,B3.trans B4⟩
    rw [opr_new (.inl h14),decide_eq_true (val_a hv (.inl h14)),Bool.true_and]
  refine brF ?_ (hp:=h14)
  by_cases h24:i.op=24
  · refine brT ?_ (hp:=h24)
    refine lda x1.at ?_
    refine ld (x3.cell rfl) ?_
    refine cl (k_isClass m a i.a w3 (by omega)) ?_
    rintro _ w4 ⟨rfl,B4⟩
    refine rt1 ⟨congrArg Value.bool ?_,B3.trans B4⟩
    rw [opr_new (.inr h24),decide_eq_true (val_a hv (.inr h24)),Bool.true_and]
  refine brF ?_ (hp:=h24)
  by_cases h16:i.op=16
  · refine brT ?_ (hp:=h16)
    refine lda x1.at ?_
    refine ld (x3.cell rfl) ?_
    refine cl (k_isClass m a i.b w3 (by omega)) ?_
    rintro _ w4 ⟨rfl,B4⟩
    refine rt1 ⟨congrArg Value.bool ?_,B3.trans B4⟩
    rw [opr_rfs h16,decide_eq_true (val_b hv (.inl h16)),Bool.true_and]
  refine brF ?_ (hp:=h16)
  by_cases h12:i.op=12
  · refine brT ?_ (hp:=h12)
    refine ld (x3.cell rfl) ?_
    by_cases h3:i.a=3
    · refine spn (.agg (modcells m a).toArray) ?_ (hb:=by first | rfl | (simp;done) | (simp;omega))
      refine spn (I 0) ?_ (hb:=by first | rfl | (simp;done) | (simp;omega))
      refine spn (.bool false) ?_ (hb:=by first | rfl | (simp;done) | (simp;omega))
      refine rt1 ⟨congrArg Value.bool ?_,B3⟩
      rw [opr_nul h12,decide_eq_true h3];rfl
    · refine spt (.agg (modcells m a).toArray) ?_ (hb:=by first | rfl | (simp;done) | (simp;omega))
      refine lda x1.at ?_
      refine ldg (fun _=>x3.cell rfl) ?_
      refine spt (.bool false) ?_ (hb:=by first | rfl | (simp;done) | (simp;omega))
      refine cl (k_isClass m a i.b w3 (by omega)) ?_
      rintro _ w4 ⟨rfl,B4⟩
      refine rt1 ⟨congrArg Value.bool ?_,B3.trans B4⟩
      rw [opr_nul h12,decide_eq_true (val_b hv (.inr h12)),Bool.true_and,decide_eq_false h3]
  refine brF ?_ (hp:=h12)
  by_cases h22:i.op=22
  · refine brT ?_ (hp:=h22)
    refine brT ?_ (hp:=h22)
    refine ld (x3.cell rfl) ?_
    refine ld (x1.cell rfl) ?_
    exact rt1 ⟨congrArg Value.bool (opr_sta (.inl h22)).symm,B3⟩
  refine brF ?_ (hp:=h22)
  by_cases h23:i.op=23
  · refine brT ?_ (hp:=h23)
    refine ld (x3.cell rfl) ?_
    refine ld (x1.cell rfl) ?_
    exact rt1 ⟨congrArg Value.bool (opr_sta (.inr h23)).symm,B3⟩
  refine brF ?_ (hp:=h23)
  by_cases h25:i.op=25
  · refine brT ?_ (hp:=h25)
    have h0:=val_call hv (.inl h25)
    refine ld (x3.cell rfl) ?_
    refine ld (x2.cell rfl) ?_
    by_cases hlt:i.a<k
    · obtain ⟨j,hj⟩:=Int.eq_ofNat_of_zero_le h0
      obtain ⟨y,b,o,cs,hy,e2,_,hAt,a3,c3,a4,c4,a5,c5,rfl,_⟩:=at_some (hM.bl B3).mth (i:=j) (by omega)
      refine ldg (fun _=>x1.cell rfl) ?_
      refine ldg (fun _=>x3.cell rfl) ?_
      rw [e2]
      refine ixg (j:=j) (len:=m.methods.length) (fun _=>by omega) ?_ (hij:=hj)
      refine ldg (fun _=>hAt 1 _ rfl) ?_
      refine rt1 ⟨congrArg Value.bool ?_,B3⟩
      have hcy:=hC y (List.mem_of_getElem? hy)
      have em:mcl m i.a=y.cls:=by unfold mcl;rw [hj,Int.toNat_natCast,hy];rfl
      rw [opr_cal h25,em]
      congr 1
      exact decide_eq_decide.2 (by omega)
    · refine spn (.slice none 0 0) ?_ (hb:=by first | rfl | (simp;done) | (simp;omega))
      refine spn (I 0) ?_ (hb:=by first | rfl | (simp;done) | (simp;omega))
      refine spn (.pointer (some ⟨0,0,none⟩)) ?_ (hb:=by first | rfl | (simp;done) | (simp;omega))
      refine spn (I 0) ?_ (hb:=by first | rfl | (simp;done) | (simp;omega))
      refine rt1 ⟨congrArg Value.bool ?_,B3⟩
      rw [opr_cal h25,decide_eq_false hlt];rfl
  refine brF ?_ (hp:=h25)
  by_cases h26:i.op=26
  · refine brT ?_ (hp:=h26)
    have h0:=val_call hv (.inr h26)
    refine ld (x3.cell rfl) ?_
    refine ld (x1.cell rfl) ?_
    by_cases hlt:i.a<m.sels
    · obtain ⟨j,hj⟩:=Int.eq_ofNat_of_zero_le h0
      refine spt (.agg (modcells m a).toArray) ?_ (hb:=by first | rfl | (simp;done) | (simp;omega))
      refine lda x1.at ?_
      refine ldg (fun _=>x3.cell rfl) ?_
      refine spt (.slice none 0 0) ?_ (hb:=by first | rfl | (simp;done) | (simp;omega))
      rw [hj]
      refine cl (k_targets m a j (fun c hc=>by have:=hT c hc;omega) w3 (hM.bl B3)) ?_ (hm:=fun _ _ r=>by obtain ⟨_,_,_,_,hB⟩:=r;exact mdW_bl hB)
      rintro _ w4 ⟨a4,c4,rfl,O4,B4⟩
      have hlen:=trg_len (m:=m) j
      refine spt (.bool false) ?_ (hb:=by first | rfl | (simp;done) | (simp;omega))
      refine cl (ContainsFunc_int (trgM m j) a4 c4 226 [.pointer (some ⟨b2,0,none⟩)] (fun t=>decide ((k:Int)≤t)) T w4 (owp_sl O4 (by omega) fun _ _=>trivial) fun t cs ht w' kk hr => ?_) ?_
      · obtain rfl:cs=encInt t:=hr
        exact k_operand1 t k b2 w' ((Bl.box (B4.trans kk) x2).cell rfl)
      rintro _ w5 ⟨rfl,B5⟩
      refine rt1 ⟨congrArg Value.bool ?_,(B3.trans B4).trans B5⟩
      rw [opr_snd h26,hj,Int.toNat_natCast,decide_eq_true (show (j:Int)<m.sels by omega),Bool.true_and,Bool.true_and,List.not_any_eq_all_not]
      congr 1
      funext t
      rw [←decide_not]
      exact decide_eq_decide.2 (by omega)
    · refine spn (.agg (modcells m a).toArray) ?_ (hb:=by first | rfl | (simp;done) | (simp;omega))
      refine spn (I 0) ?_ (hb:=by first | rfl | (simp;done) | (simp;omega))
      refine spn (.slice none 0 0) ?_ (hb:=by first | rfl | (simp;done) | (simp;omega))
      refine spn (.bool false) ?_ (hb:=by first | rfl | (simp;done) | (simp;omega))
      refine rt1 ⟨congrArg Value.bool ?_,B3⟩
      rw [opr_snd h26,decide_eq_false hlt];rfl
  refine brF ?_ (hp:=h26)
  exact rt1 ⟨congrArg Value.bool (opr_no h12 (by omega) h16 (by omega) h25 h26).symm,B3⟩
end Go.Proofs.YtkmdfjpafkcleaaGreatDoor
namespace Go.Proofs.YtkmdfjpafkcleaaGreatDoor
open Eng Go.RowKit
def tyU (t:Ty):List Rf:=if tcls t=true then [⟨t.cls,2,false⟩] else []
def fldU (f:Fld):List Rf:=⟨f.name,1,false⟩::tyU f.ty
def clsU (c:Cls):List Rf:=⟨c.name,1,false⟩::⟨c.super,2,true⟩::c.fields.flatMap fldU
def mthU (m:Mth):List Rf:=⟨m.name,1,false⟩::⟨m.cls,2,true⟩::([m.params,m.locals].flatMap (·.flatMap tyU)++tyU m.result)
def headsU (u:Unt):List Rf:=u.classes.flatMap clsU++u.statics.flatMap fldU++u.methods.flatMap mthU
def opU (i:Ins):List Rf :=
  if i.op=17∨i.op=18 then [⟨i.a,3,false⟩] else if i.op=14∨i.op=24∨i.op=22∨i.op=23∨i.op=25 then [⟨i.a,2,false⟩] else if i.op=16 then [⟨i.b,2,false⟩] else if i.op=12 then (if i.a=3 then [] else [⟨i.b,2,false⟩]) else if i.op=26 then [⟨i.a,1,false⟩] else []
structure EachC (S:Nat→Prop) (w0:World) (g:FuncId) (caps:List Value) (J:List Rf→World→Prop) (Pok:Rf→Prop) (N:Nat):Prop where
  kp:∀ pre w,J pre w→Kp S w0 w
  bl:∀ pre w w',Bl w w'→J pre w→J pre w'
  run:∀ pre u b o w,pre.length<N→Pok u→S b→J pre w→w.cell? ⟨b,o,none⟩=some (I u.at')→Ret Tryz.prog g ([Value.agg #[.pointer (some ⟨b,o,none⟩),I u.parts,.bool u.opt]]++caps).toArray w fun _ w'=>J (pre++[u]) w'
theorem fm_take_le {α β:Type} (f:α→List β) {l:List α} {k:Nat} {x:α} (h:l[k]? = some x):((l.take k).flatMap f).length+(f x).length≤(l.flatMap f).length:=by
  obtain ⟨hk,rfl⟩:=List.getElem?_eq_some_iff.1 h
  conv=>rhs;rw [←List.take_append_drop k l,List.drop_eq_getElem_cons hk,List.flatMap_append,List.flatMap_cons,List.length_append,List.length_append]
  omega
section
variable {S:Nat→Prop} {w0:World} {g:FuncId} {caps:List Value} {J:List Rf→World→Prop} {Pok:Rf→Prop} {N:Nat}
theorem h_types (hE:EachC S w0 g caps J Pok N) (t:Ty) (ht:∀ u∈tyU t,Pok u) (b o:Nat) (hb:S b) (hAt:At w0 b o [I t.kind,I t.cls]) (pre:List Rf) (w:World) (hJ:J pre w) (hN:pre.length+(tyU t).length≤N) :
    Ret Tryz.prog 205 #[.pointer (some ⟨b,o,none⟩),.func (.func g) #[] caps.toArray] w fun _ w'=>J (pre++tyU t) w':=by
  have hA:=hAt.kp (hE.kp pre w hJ) hb
  refine entr (vs:=[.pointer (some ⟨b,o,none⟩),.func (.func g) #[] caps.toArray]) [0,1,15] tabok Tryz.func205 (by kernel_rfl) ?_
  refine ld (hA.two.1) ?_
  refine ldg (fun _=>hA.two.1) ?_
  refine br (t:=tcls t) (fun h => ?_) (fun h => ?_)
  · have e:tyU t=[⟨t.cls,2,false⟩]:=by unfold tyU;rw [if_pos h]
    refine bd ?_
    refine cl (hE.run pre ⟨t.cls,2,false⟩ b (o+1) w (by rw [e] at hN;exact hN) (ht _ (by rw [e];simp)) hb hJ hA.two.2) ?_
    intro v w' hJ'
    exact en (vs:=[]) (by rw [e];exact hJ')
  · have e:tyU t=[]:=by unfold tyU;rw [if_neg (by rw [h];simp)]
    exact en (vs:=[]) (by rw [e,List.append_nil];exact hJ)
theorem fldAt {f:Fld} {b o:Nat} {w:World} (h:At w b o (encFld f)):At w b (o+1) [I f.ty.kind,I f.ty.cls]:=h.tail
theorem h_fields (hE:EachC S w0 g caps J Pok N) (l:List Fld) (hl:∀ f∈l,∀ u∈fldU f,Pok u) (a:Option Addr) (cap:Nat) (hS:Sl eFld S w0 a l) (pre:List Rf) (w:World) (hJ:J pre w) (hN:pre.length+(l.flatMap fldU).length≤N) :
    Ret Tryz.prog 204 #[.slice a l.length cap,.func (.func g) #[] caps.toArray] w fun _ w'=>J (pre++l.flatMap fldU) w':=by
  have hbig:=hS.big
  refine entr (vs:=[.slice a l.length cap,.func (.func g) #[] caps.toArray]) [0,1,4,6,7,8] tabok Tryz.func204 (by kernel_rfl) ?_
  refine lpk l.length 7 [] [(0,.slice a l.length cap),(1,.func (.func g) #[] caps.toArray),(6,I l.length)] (fun k vals w'=>vals=[]∧J (pre++(l.take k).flatMap fldU) w') ⟨rfl,by simpa using hJ⟩ ?_
  rintro k vals w1 hk ⟨rfl,hJ1⟩ ih
  by_cases hlt:k<l.length
  · refine brT ?_
    obtain ⟨f,b,o,cs,hf,rfl,hSb,hAt0,rfl⟩:=at_some hS hlt
    have hm:=List.mem_of_getElem? hf
    have hq:=fm_take_le fldU hf
    have hq2:(fldU f).length=(tyU f.ty).length+1:=rfl
    have hAt:=hAt0.kp (hE.kp _ _ hJ1) hSb
    refine ix ?_
    refine bd ?_
    refine cl (hE.run _ ⟨f.name,1,false⟩ _ _ w1 (by simp only [List.length_append];omega) (hl f hm _ (by simp [fldU])) hSb hJ1 (hAt.three.1)) ?_
    intro v w2 hJ2
    refine ix ?_
    refine cl (h_types hE f.ty (fun u hu=>hl f hm u (by simp [fldU,hu])) b _ hSb (fldAt hAt0) _ w2 hJ2 (by simp only [List.length_append,List.length_cons,List.length_nil];omega)) ?_
    intro v3 w3 hJ3
    refine ih hlt ⟨rfl,?_⟩
    rw [flatMap_snoc hf]
    simpa [fldU] using hJ3
  · refine brF ?_
    obtain rfl:k=l.length:=by omega
    exact en (vs:=[]) (by rw [List.take_length] at hJ1;exact hJ1)
theorem h_heads (hE:EachC S w0 g caps J Pok N) (u:Unt) (hP:∀ r∈headsU u,Pok r) (a:UA) (hU:UnR S w0 u a) (b0 o0:Nat) (hb0:S b0) (hx:At w0 b0 o0 (ucells u a)) (pre:List Rf) (w:World) (hJ:J pre w) (hN:pre.length+(headsU u).length≤N) :
    Ret Tryz.prog 146 #[.pointer (some ⟨b0,o0,none⟩),.func (.func g) #[] caps.toArray] w fun _ w'=>J (pre++headsU u) w':=by
  have n1:=hU.cls.big
  have n2:=hU.sta.big
  have n3:=hU.mth.big
  have hh:(headsU u).length=(u.classes.flatMap clsU).length+(u.statics.flatMap fldU).length+(u.methods.flatMap mthU).length:=by unfold headsU;rw [List.length_append,List.length_append]
  have X:∀ {pre w},J pre w→At w b0 o0 (ucells u a):=fun h=>hx.kp (hE.kp _ _ h) hb0
  refine entr (vs:=[.pointer (some ⟨b0,o0,none⟩),.func (.func g) #[] caps.toArray]) [0,1,4,5,6,7,9,10,15,16,17,54,55,56,84,85,86,89,90,91] tabok Tryz.func146 (by kernel_rfl) ?_
  refine ld (X hJ 2 _ rfl) ?_
  refine lpk u.classes.length 16 [] [(0,.pointer (some ⟨b0,o0,none⟩)),(1,.func (.func g) #[] caps.toArray),(15,I u.classes.length)] (fun k vals w'=>vals=[]∧J (pre++(u.classes.take k).flatMap clsU) w') ⟨rfl,by simpa using hJ⟩ ?_
  rintro k vals w1 hk ⟨rfl,hJ1⟩ ih
  by_cases hlt:k<u.classes.length
  · refine brT ?_
    refine ld (X hJ1 2 _ rfl) ?_
    obtain ⟨c,b,o,cs,hc,e2,hSb,hAt0,af,cf,rfl,hF⟩:=at_some hU.cls hlt
    rw [e2]
    have hm:=List.mem_of_getElem? hc
    have hAt:=hAt0.kp (hE.kp _ _ hJ1) hSb
    have hq:=fm_take_le clsU hc
    have hq2:(clsU c).length=(c.fields.flatMap fldU).length+2:=rfl
    have hPc:∀ r∈clsU c,Pok r:=fun r hr=>hP r (by simp only [headsU,List.mem_append,List.mem_flatMap];exact .inl (.inl ⟨c,hm,hr⟩))
    refine ix ?_
    refine bd ?_
    refine cl (hE.run _ ⟨c.name,1,false⟩ _ _ w1 (by simp only [List.length_append];omega) (hPc _ (by simp [clsU])) hSb hJ1 (hAt 0 _ rfl)) ?_
    intro v2 w2 hJ2
    have hAt2:=hAt0.kp (hE.kp _ _ hJ2) hSb
    refine bd ?_
    refine cl (hE.run _ ⟨c.super,2,true⟩ _ _ w2 (by simp only [List.length_append,List.length_cons,List.length_nil];omega) (hPc _ (by simp [clsU])) hSb hJ2 (hAt2 1 _ rfl)) ?_
    intro v3 w3 hJ3
    have hAt3:=hAt0.kp (hE.kp _ _ hJ3) hSb
    refine ld (hAt3 2 _ rfl) ?_
    refine cl (h_fields hE c.fields (fun f hf r hr=>hPc r (by simp only [clsU,List.mem_cons,List.mem_flatMap];exact .inr (.inr ⟨f,hf,hr⟩))) af cf hF _ w3 hJ3 (by simp only [List.length_append,List.length_cons,List.length_nil];omega)) ?_
    intro v4 w4 hJ4
    refine ih hlt ⟨rfl,?_⟩
    rw [flatMap_snoc hc]
    simpa [clsU] using hJ4
  refine brF ?_
  obtain rfl:k=u.classes.length:=by omega
  rw [List.take_length] at hJ1
  refine ld (X hJ1 3 _ rfl) ?_
  refine cl (h_fields hE u.statics (fun f hf r hr=>hP r (by simp only [headsU,List.mem_append,List.mem_flatMap];exact .inl (.inr ⟨f,hf,hr⟩))) a.a3 a.c3 hU.sta _ w1 hJ1 (by simp only [List.length_append];omega)) ?_
  intro v5 w5 hJ5
  refine ld (X hJ5 4 _ rfl) ?_
  refine lpk u.methods.length 55 [] [(0,.pointer (some ⟨b0,o0,none⟩)),(1,.func (.func g) #[] caps.toArray),(54,I u.methods.length)] (fun k vals w'=>vals=[]∧J (pre++u.classes.flatMap clsU++u.statics.flatMap fldU++(u.methods.take k).flatMap mthU) w') ⟨rfl,by simpa using hJ5⟩ ?_
  rintro k vals w6 hk ⟨rfl,hJ6⟩ ih
  by_cases hlt:k<u.methods.length
  · refine brT ?_
    refine ld (X hJ6 4 _ rfl) ?_
    obtain ⟨m,b,o,cs,hm',e2,hSb,hAt0,a1,c1,a2,c2,a3,c3,rfl,hF1,hF2,hF3⟩:=at_some hU.mth hlt
    rw [e2]
    have hm:=List.mem_of_getElem? hm'
    have hAt:=hAt0.kp (hE.kp _ _ hJ6) hSb
    have hq:=fm_take_le mthU hm'
    have hq2:(mthU m).length=([m.params,m.locals].flatMap (·.flatMap tyU)).length+(tyU m.result).length+2:=by simp only [mthU,List.length_cons,List.length_append]
    have hPm:∀ r∈mthU m,Pok r:=fun r hr=>hP r (by simp only [headsU,List.mem_append,List.mem_flatMap];exact .inr ⟨m,hm,hr⟩)
    refine ix ?_
    refine bd ?_
    refine cl (hE.run _ ⟨m.name,1,false⟩ _ _ w6 (by simp only [List.length_append];omega) (hPm _ (by simp [mthU])) hSb hJ6 (hAt 0 _ rfl)) ?_
    intro v7 w7 hJ7
    have hAt7:=hAt0.kp (hE.kp _ _ hJ7) hSb
    refine bd ?_
    refine cl (hE.run _ ⟨m.cls,2,true⟩ _ _ w7 (by simp only [List.length_append,List.length_cons,List.length_nil];omega) (hPm _ (by simp [mthU])) hSb hJ7 (hAt7 1 _ rfl)) ?_
    intro v8 w8 hJ8
    have hAt8:=hAt0.kp (hE.kp _ _ hJ8) hSb
    refine ds fun w9 h9 => ?_
    have hJ9:=hE.bl _ _ _ h9.bl hJ8
    have hAt9:=hAt0.kp (hE.kp _ _ hJ9) hSb
    refine ld (hAt9 2 _ rfl) ?_
    refine ld (hAt9 3 _ rfl) ?_
    refine bda ?_
    have hL:∀ j,j<2→∃ aL cL L,[Value.slice a1 m.params.length c1,.slice a2 m.locals.length c2][j*1]? = some (.slice aL L.length cL)∧Sl eTy S w0 aL L∧[m.params,m.locals][j]? = some L:=fun j hj=>by
      rcases j with _ | _ | j
      · exact ⟨a1,c1,m.params,rfl,hF1,rfl⟩
      · exact ⟨a2,c2,m.locals,rfl,hF2,rfl⟩
      · omega
    refine lpk 2 85 [] [(0,.pointer (some ⟨b0,o0,none⟩)),(1,.func (.func g) #[] caps.toArray),(54,I u.methods.length),(55,I k),(7,.pointer (some ⟨b,o+k*7,none⟩)),(84,.agg #[.slice a1 m.params.length c1,.slice a2 m.locals.length c2])]
      (fun j vals w'=>vals=[]∧J (pre++u.classes.flatMap clsU++u.statics.flatMap fldU++(u.methods.take k).flatMap mthU++[⟨m.name,1,false⟩]++[⟨m.cls,2,true⟩]++([m.params,m.locals].take j).flatMap (·.flatMap tyU)) w') ⟨rfl,by simpa using hJ9⟩ ?_
    rintro j vals w10 hj ⟨rfl,hJ10⟩ ih2
    by_cases hlt2:j<2
    · refine brT ?_
      obtain ⟨aL,cL,L,hv,hSL,hLj⟩:=hL j hlt2
      have hbL:=hSL.big
      have hqL:=fm_take_le (fun x:List Ty=>x.flatMap tyU) hLj
      refine ixv (cs:=[Value.slice a1 m.params.length c1,.slice a2 m.locals.length c2]) hv ?_
      refine lpk L.length 90 [] [(0,.pointer (some ⟨b0,o0,none⟩)),(1,.func (.func g) #[] caps.toArray),(54,I u.methods.length),(55,I k),(7,.pointer (some ⟨b,o+k*7,none⟩)),(84,.agg #[.slice a1 m.params.length c1,.slice a2 m.locals.length c2]),(85,I j),(9,.slice aL L.length cL),(89,I L.length)]
        (fun i vals w'=>vals=[]∧J (pre++u.classes.flatMap clsU++u.statics.flatMap fldU++(u.methods.take k).flatMap mthU++[⟨m.name,1,false⟩]++[⟨m.cls,2,true⟩]++([m.params,m.locals].take j).flatMap (·.flatMap tyU)++(L.take i).flatMap tyU) w') ⟨rfl,by simpa using hJ10⟩ ?_
      rintro i vals w11 hi ⟨rfl,hJ11⟩ ih3
      by_cases hlt3:i<L.length
      · refine brT ?_
        obtain ⟨t,bt,ot,cst,ht,rfl,hSt,hAt,rfl⟩:=at_some hSL hlt3
        have hqt:=fm_take_le tyU ht
        refine ix ?_
        refine cl (h_types hE t (fun r hr=>hPm r ?_) bt _ hSt hAt _ w11 hJ11 (by simp only [List.length_append,List.length_cons,List.length_nil];omega)) ?_
        · exact List.mem_cons_of_mem _ (List.mem_cons_of_mem _ (List.mem_append_left _ (List.mem_flatMap.2 ⟨L,List.mem_of_getElem? hLj,List.mem_flatMap.2 ⟨t,List.mem_of_getElem? ht,hr⟩⟩)))
        intro v12 w12 hJ12
        refine ih3 hlt3 ⟨rfl,?_⟩
        rw [flatMap_snoc ht]
        simpa using hJ12
      · refine brF ?_
        obtain rfl:i=L.length:=by omega
        rw [List.take_length] at hJ11
        refine ih2 hlt2 ⟨rfl,?_⟩
        rw [flatMap_snoc hLj]
        simpa using hJ11
    refine brF ?_
    obtain rfl:j=2:=by omega
    refine cl (h_types hE m.result (fun r hr=>hPm r (by simp [mthU,hr])) b (o+k*7+4) hSb (by
      intro j v hj
      rcases j with _ | _ | j
      · exact hAt0 4 v hj
      · exact hAt0 5 v hj
      · simp at hj) _ w10 hJ10 (by rw [show [m.params,m.locals].take 2=[m.params,m.locals] from rfl];simp only [List.length_append,List.length_cons,List.length_nil];omega)) ?_
    intro v13 w13 hJ13
    refine ih hlt ⟨rfl,?_⟩
    rw [flatMap_snoc hm']
    simpa [mthU] using hJ13
  · refine brF ?_
    obtain rfl:k=u.methods.length:=by omega
    rw [List.take_length] at hJ6
    exact en (vs:=[]) (by unfold headsU;simpa using hJ6)
theorem h_operands (hE:EachC S w0 g caps J Pok N) (l:List Ins) (hl:∀ i∈l,∀ r∈opU i,Pok r) (a:Option Addr) (cap:Nat) (hS:Sl eIns S w0 a l) (pre:List Rf) (w:World) (hJ:J pre w) (hN:pre.length+(l.flatMap opU).length≤N) :
    Ret Tryz.prog 150 #[.slice a l.length cap,.func (.func g) #[] caps.toArray] w fun _ w'=>J (pre++l.flatMap opU) w':=by
  have hbig:=hS.big
  refine entr (vs:=[.slice a l.length cap,.func (.func g) #[] caps.toArray]) [0,1,4,5,7,8,9,17,18,27,39,47,53,60] tabok Tryz.func150 (by kernel_rfl) ?_
  refine lpk l.length 8 [] [(0,.slice a l.length cap),(1,.func (.func g) #[] caps.toArray),(7,I l.length)] (fun k vals w'=>vals=[]∧J (pre++(l.take k).flatMap opU) w') ⟨rfl,by simpa using hJ⟩ ?_
  rintro k vals w1 hk ⟨rfl,hJ1⟩ ih
  by_cases hlt:k<l.length
  · refine brT ?_
    obtain ⟨x,b,o,cs,hx,rfl,hSb,hAt0,rfl⟩:=at_some hS hlt
    have hm:=List.mem_of_getElem? hx
    have hAt:=hAt0.kp (hE.kp _ _ hJ1) hSb
    have hq:=fm_take_le opU hx
    have hlen:∀ {r:Rf},opU x=[r]→(pre++(l.take k).flatMap opU).length<N:=fun e=>by
      rw [e,List.length_singleton] at hq
      rw [List.length_append];omega
    have next:∀ {w2},J (pre++(l.take k).flatMap opU++opU x) w2→J (pre++(l.take (k+1)).flatMap opU) w2:=fun h=>by rw [flatMap_snoc hx,←List.append_assoc];exact h
    refine ix ?_
    refine ld (hAt.three.1) ?_
    obtain ⟨op,A,B⟩:=x
    by_cases e17:op=17
    · subst e17
      refine brT ?_ (hp:=rfl)
      refine brT ?_ (hp:=rfl)
      refine bd ?_
      refine cl (hE.run _ ⟨A,3,false⟩ _ _ w1 (hlen (r:=⟨A,3,false⟩) (by simp [opU])) (hl _ hm _ (by simp [opU])) hSb hJ1 (hAt 1 _ rfl)) ?_
      intro v2 w2 hJ2
      exact ih hlt ⟨rfl,next (by simpa [opU] using hJ2)⟩
    by_cases e18:op=18
    · subst e18
      refine brF ?_ (hp:=by show ¬((18:Int)=17);decide)
      refine brT ?_ (hp:=rfl)
      refine bd ?_
      refine cl (hE.run _ ⟨A,3,false⟩ _ _ w1 (hlen (r:=⟨A,3,false⟩) (by simp [opU])) (hl _ hm _ (by simp [opU])) hSb hJ1 (hAt 1 _ rfl)) ?_
      intro v2 w2 hJ2
      exact ih hlt ⟨rfl,next (by simpa [opU] using hJ2)⟩
    by_cases e14:op=14
    · subst e14
      refine brF ?_ (hp:=by show ¬((14:Int)=17);decide)
      refine brF ?_ (hp:=by show ¬((14:Int)=18);decide)
      refine brT ?_ (hp:=rfl)
      refine brT ?_ (hp:=rfl)
      refine bd ?_
      refine cl (hE.run _ ⟨A,2,false⟩ _ _ w1 (hlen (r:=⟨A,2,false⟩) (by simp [opU])) (hl _ hm _ (by simp [opU])) hSb hJ1 (hAt 1 _ rfl)) ?_
      intro v2 w2 hJ2
      exact ih hlt ⟨rfl,next (by simpa [opU] using hJ2)⟩
    by_cases e24:op=24
    · subst e24
      refine brF ?_ (hp:=by show ¬((24:Int)=17);decide)
      refine brF ?_ (hp:=by show ¬((24:Int)=18);decide)
      refine brF ?_ (hp:=by show ¬((24:Int)=14);decide)
      refine brT ?_ (hp:=rfl)
      refine brT ?_ (hp:=rfl)
      refine bd ?_
      refine cl (hE.run _ ⟨A,2,false⟩ _ _ w1 (hlen (r:=⟨A,2,false⟩) (by simp [opU])) (hl _ hm _ (by simp [opU])) hSb hJ1 (hAt 1 _ rfl)) ?_
      intro v2 w2 hJ2
      exact ih hlt ⟨rfl,next (by simpa [opU] using hJ2)⟩
    by_cases e22:op=22
    · subst e22
      refine brF ?_ (hp:=by show ¬((22:Int)=17);decide)
      refine brF ?_ (hp:=by show ¬((22:Int)=18);decide)
      refine brF ?_ (hp:=by show ¬((22:Int)=14);decide)
      refine brF ?_ (hp:=by show ¬((22:Int)=24);decide)
      refine brT ?_ (hp:=rfl)
      refine brT ?_ (hp:=rfl)
      refine bd ?_
      refine cl (hE.run _ ⟨A,2,false⟩ _ _ w1 (hlen (r:=⟨A,2,false⟩) (by simp [opU])) (hl _ hm _ (by simp [opU])) hSb hJ1 (hAt 1 _ rfl)) ?_
      intro v2 w2 hJ2
      exact ih hlt ⟨rfl,next (by simpa [opU] using hJ2)⟩
    by_cases e23:op=23
    · subst e23
      refine brF ?_ (hp:=by show ¬((23:Int)=17);decide)
      refine brF ?_ (hp:=by show ¬((23:Int)=18);decide)
      refine brF ?_ (hp:=by show ¬((23:Int)=14);decide)
      refine brF ?_ (hp:=by show ¬((23:Int)=24);decide)
      refine brF ?_ (hp:=by show ¬((23:Int)=22);decide)
      refine brT ?_ (hp:=rfl)
      refine brT ?_ (hp:=rfl)
      refine bd ?_
      refine cl (hE.run _ ⟨A,2,false⟩ _ _ w1 (hlen (r:=⟨A,2,false⟩) (by simp [opU])) (hl _ hm _ (by simp [opU])) hSb hJ1 (hAt 1 _ rfl)) ?_
      intro v2 w2 hJ2
      exact ih hlt ⟨rfl,next (by simpa [opU] using hJ2)⟩
    by_cases e25:op=25
    · subst e25
      refine brF ?_ (hp:=by show ¬((25:Int)=17);decide)
      refine brF ?_ (hp:=by show ¬((25:Int)=18);decide)
      refine brF ?_ (hp:=by show ¬((25:Int)=14);decide)
      refine brF ?_ (hp:=by show ¬((25:Int)=24);decide)
      refine brF ?_ (hp:=by show ¬((25:Int)=22);decide)
      refine brF ?_ (hp:=by show ¬((25:Int)=23);decide)
      refine brT ?_ (hp:=rfl)
      refine bd ?_
      refine cl (hE.run _ ⟨A,2,false⟩ _ _ w1 (hlen (r:=⟨A,2,false⟩) (by simp [opU])) (hl _ hm _ (by simp [opU])) hSb hJ1 (hAt 1 _ rfl)) ?_
      intro v2 w2 hJ2
      exact ih hlt ⟨rfl,next (by simpa [opU] using hJ2)⟩
    by_cases e16:op=16
    · subst e16
      refine brF ?_ (hp:=by show ¬((16:Int)=17);decide)
      refine brF ?_ (hp:=by show ¬((16:Int)=18);decide)
      refine brF ?_ (hp:=by show ¬((16:Int)=14);decide)
      refine brF ?_ (hp:=by show ¬((16:Int)=24);decide)
      refine brF ?_ (hp:=by show ¬((16:Int)=22);decide)
      refine brF ?_ (hp:=by show ¬((16:Int)=23);decide)
      refine brF ?_ (hp:=by show ¬((16:Int)=25);decide)
      refine brT ?_ (hp:=rfl)
      refine bd ?_
      refine cl (hE.run _ ⟨B,2,false⟩ _ _ w1 (hlen (r:=⟨B,2,false⟩) (by simp [opU])) (hl _ hm _ (by simp [opU])) hSb hJ1 (hAt 2 _ rfl)) ?_
      intro v2 w2 hJ2
      exact ih hlt ⟨rfl,next (by simpa [opU] using hJ2)⟩
    by_cases e26:op=26
    · subst e26
      refine brF ?_ (hp:=by show ¬((26:Int)=17);decide)
      refine brF ?_ (hp:=by show ¬((26:Int)=18);decide)
      refine brF ?_ (hp:=by show ¬((26:Int)=14);decide)
      refine brF ?_ (hp:=by show ¬((26:Int)=24);decide)
      refine brF ?_ (hp:=by show ¬((26:Int)=22);decide)
      refine brF ?_ (hp:=by show ¬((26:Int)=23);decide)
      refine brF ?_ (hp:=by show ¬((26:Int)=25);decide)
      refine brF ?_ (hp:=by show ¬((26:Int)=16);decide)
      refine brF ?_ (hp:=by show ¬((26:Int)=12);decide)
      refine brT ?_ (hp:=rfl)
      refine bd ?_
      refine cl (hE.run _ ⟨A,1,false⟩ _ _ w1 (hlen (r:=⟨A,1,false⟩) (by simp [opU])) (hl _ hm _ (by simp [opU])) hSb hJ1 (hAt 1 _ rfl)) ?_
      intro v2 w2 hJ2
      exact ih hlt ⟨rfl,next (by simpa [opU] using hJ2)⟩
    by_cases e12:op=12
    · subst e12
      refine brF ?_ (hp:=by show ¬((12:Int)=17);decide)
      refine brF ?_ (hp:=by show ¬((12:Int)=18);decide)
      refine brF ?_ (hp:=by show ¬((12:Int)=14);decide)
      refine brF ?_ (hp:=by show ¬((12:Int)=24);decide)
      refine brF ?_ (hp:=by show ¬((12:Int)=22);decide)
      refine brF ?_ (hp:=by show ¬((12:Int)=23);decide)
      refine brF ?_ (hp:=by show ¬((12:Int)=25);decide)
      refine brF ?_ (hp:=by show ¬((12:Int)=16);decide)
      refine brT ?_ (hp:=rfl)
      refine ld (hAt 1 _ rfl) ?_
      by_cases h3:A=3
      · refine brF ?_ (hp:=by exact fun h=>h h3)
        exact ih hlt ⟨rfl,next (by simpa [opU,h3] using hJ1)⟩
      · refine brT ?_ (hp:=by exact h3)
        refine bd ?_
        refine cl (hE.run _ ⟨B,2,false⟩ _ _ w1 (hlen (r:=⟨B,2,false⟩) (by simp [opU,h3])) (hl _ hm _ (by simp [opU,h3])) hSb hJ1 (hAt 2 _ rfl)) ?_
        intro v2 w2 hJ2
        exact ih hlt ⟨rfl,next (by simpa [opU,h3] using hJ2)⟩
    refine brF ?_ (hp:=e17)
    refine brF ?_ (hp:=e18)
    refine brF ?_ (hp:=e14)
    refine brF ?_ (hp:=e24)
    refine brF ?_ (hp:=e22)
    refine brF ?_ (hp:=e23)
    refine brF ?_ (hp:=e25)
    refine brF ?_ (hp:=e16)
    refine brF ?_ (hp:=e12)
    refine brF ?_ (hp:=e26)
    exact ih hlt ⟨rfl,next (by simpa [opU,e17,e18,e14,e24,e22,e23,e25,e16,e12,e26] using hJ1)⟩
  · refine brF ?_
    obtain rfl:k=l.length:=by omega
    exact en (vs:=[]) (by rw [List.take_length] at hJ1;exact hJ1)
end
end Go.Proofs.YtkmdfjpafkcleaaGreatDoor
namespace Go.Proofs.YtkmdfjpafkcleaaGreatDoor
open Eng Go.RowKit
theorem c_Grow (n:Nat) (hn:n≤8388608) (w:World):Ret Tryz.prog 253 #[.slice none 0 0,I n] w fun v w'=>∃ a cap,v = .slice a 0 cap∧Ow w' w.heap.size 77 2 a 0 cap []∧Bl w w':=by
  refine entr (vs:=[.slice none 0 0,I n]) [0,1,4,6,16] tabok Tryz.func253 (by kernel_rfl) ?_
  refine brF ?_
  refine cp ?_
  by_cases h0:n=0
  · subst h0
    refine brF ?_ (hp:=by decide)
    exact rt1 ⟨none,0,rfl,Ow.nil _ _ _ _,Bl.refl _⟩
  have hw:IntKind.i64.wrap ((n:Int)-IntKind.i64.wrap (((0:Nat):Int)-((0:Nat):Int)))=n:=by
    rw [show IntKind.i64.wrap (((0:Nat):Int)-((0:Nat):Int))=0 from rfl,wrap_fit (by omega) (by omega)];omega
  refine brT ?_ (hp:=by rw [hw];omega)
  refine cp ?_
  refine sl 0 0 ?_
  refine apz (n:=n) (kd := .i64) (by omega) hn (fun cap w' hO hc hB => ?_) (hy:=by exact congrArg (fun z=>some (Value.int .i64 z)) hw)
  refine sl 0 0 ?_
  refine rt1 ⟨some ⟨w.heap.size,0,none⟩,cap,?_,hO,hB⟩
  rw [if_neg (by omega)];rfl
theorem c_Concat (l1 l2:List Ty) (a1 a2:Option Addr) (c1 c2:Nat) (b:Nat) (w:World) (h1:Sl eTy T w a1 l1) (h2:Sl eTy T w a2 l2) (hb:At w b 0 [.slice a1 l1.length c1,.slice a2 l2.length c2]) (hs:l1.length+l2.length≤4194304) :
    Ret Tryz.prog 208 #[.slice (some ⟨b,0,none⟩) 2 2] w fun v w'=>∃ a cap,v = .slice a (l1++l2).length cap∧Sl eTy (fun i=>w.heap.size≤i∧i<w'.heap.size) w' a (l1++l2)∧Bl w w':=by
  have g1:=h1.big
  have g2:=h2.big
  have hL:∀ j,j<2→∃ aL cL L,[Value.slice a1 l1.length c1,.slice a2 l2.length c2][j]? = some (.slice aL L.length cL)∧Sl eTy T w aL L∧[l1,l2][j]? = some L:=fun j hj=>by
    rcases j with _ | _ | j
    · exact ⟨a1,c1,l1,rfl,h1,rfl⟩
    · exact ⟨a2,c2,l2,rfl,h2,rfl⟩
    · omega
  refine entr (vs:=[.slice (some ⟨b,0,none⟩) 2 2]) [0,2,3,5,6,8,9,10,11,12,20,25,26,27,28] tabok Tryz.func208 (by kernel_rfl) ?_
  refine lpk 2 11 [3] [(0,.slice (some ⟨b,0,none⟩) 2 2),(9,.slice (some ⟨b,0,none⟩) 2 2),(10,I 2)] (fun j vals w'=>vals=[I ((([l1,l2].take j).flatMap id).length:Nat)]∧w=w') ⟨rfl,rfl⟩ ?_
  rintro j vals _ hj ⟨rfl,rfl⟩ ih
  by_cases hlt:j<2
  · refine brT ?_
    obtain ⟨aL,cL,L,hv,hSL,hLj⟩:=hL j hlt
    have hbL:=hSL.big
    refine ix ?_
    refine ld (o:=0+j*1) (v := .slice aL L.length cL) (by have:=hb j _ hv;simpa using this) ?_
    have hlj:(([l1,l2].take j).flatMap id).length+L.length=(([l1,l2].take (j+1)).flatMap id).length:=by rw [flatMap_snoc hLj];simp
    have hle:(([l1,l2].take (j+1)).flatMap id).length≤l1.length+l2.length:=by
      rcases j with _ | _ | j
      · simp
      · simp
      · omega
    have hw:IntKind.i64.wrap (((([l1,l2].take j).flatMap id).length:Nat)+(L.length:Int))=((([l1,l2].take (j+1)).flatMap id).length:Nat):=by rw [wrap_fit (by omega) (by omega)];omega
    refine brF ?_ (hp:=by rw [hw];omega)
    exact ih hlt ⟨lst1 (vi hw),rfl⟩
  refine brF ?_
  obtain rfl:j=2:=by omega
  have e2:(([l1,l2].take 2).flatMap id)=l1++l2:=by simp
  refine cl (c_Grow (([l1,l2].take 2).flatMap id).length (by rw [e2,List.length_append];omega) w) ?_
  rintro _ w1 ⟨a,cap,rfl,hO,hB1⟩
  refine lpk 2 27 [6] [(25,.slice (some ⟨b,0,none⟩) 2 2),(26,I 2)] (fun j vals w'=>∃ a cap,vals=[.slice a (([l1,l2].take j).flatMap id).length cap]∧OwP 2 encTy w' w.heap.size 77 a cap (([l1,l2].take j).flatMap id)∧Bl w w') ⟨a,cap,rfl,hO,hB1⟩ ?_
  rintro j vals w2 hj ⟨a,cap,rfl,hO2,hB2⟩ ih
  by_cases hlt:j<2
  · refine brT ?_
    obtain ⟨aL,cL,L,hv,hSL,hLj⟩:=hL j hlt
    have hbL:=hSL.big
    refine ix ?_
    refine ld (o:=0+j*1) (v := .slice aL L.length cL) (by have:=(hb.bl hB2) j _ hv;simpa using this) ?_
    have hle:(([l1,l2].take j).flatMap id).length≤l1.length+l2.length:=by
      rcases j with _ | _ | j
      · simp
      · simp
      · omega
    refine apl hO2 (src_of (hSL.bl hB2)) hB2.size (fun a' cap' w3 hO3 hA _ => ?_)
    refine ih hlt ⟨a',cap',?_,?_,Eng.Ow.below hO2 hA hB2 hB2.size⟩
    · rw [flatMap_snoc hLj];rfl
    · rw [flatMap_snoc hLj];exact hO3
  refine brF ?_
  obtain rfl:j=2:=by omega
  rw [e2] at hO2 ⊢
  exact rt1 ⟨a,cap,rfl,owp_sl hO2 (by rw [List.length_append];omega) (fun _ hg=>hO2.lt hg),hB2⟩
end Go.Proofs.YtkmdfjpafkcleaaGreatDoor
namespace Go.Proofs.YtkmdfjpafkcleaaGreatDoor
open Eng Go.RowKit
theorem Eng.Ap.trans {a b c:World} {x:Option Addr} (h:Ap a x b) (k:Ap b x c):Ap a x c :=
  ⟨k.os.trans h.os,k.tape.trans h.tape,k.output.trans h.output,Nat.le_trans h.size k.size,fun i hi hx=>(k.block i (Nat.lt_of_lt_of_le hi h.size) hx).trans (h.block i hi hx)⟩
theorem Eng.Ap.bl {w w':World} (h:Bl w w') (x:Option Addr):Ap w x w':=⟨h.os,h.tape,h.output,h.size,fun i hi _=>h.block i hi⟩
theorem Eng.Ap.wr {w w':World} {g:Nat} (h:Wr w g w'):Ap w (some ⟨g,0,none⟩) w':=⟨h.os,h.tape,h.output,by rw [h.size];exact Nat.le_refl _,fun i _ hx=>h.block i fun e=>hx (by rw [e])⟩
theorem ap_ne {g b:Nat} (h:b≠g):some (⟨g,0,none⟩:Addr)≠some ⟨b,0,none⟩:=fun e=>by cases e;exact h rfl
def sOk (t:Ty) (least:Int):Bool:=decide (least≤t.kind)&&decide (t.kind≤4)&&(tcls t||decide (t.cls = -1))
theorem k_see (t:Ty) (least:Int) (g:Nat) (b:Bool) (w:World) (hg:Box w g 4 [.bool b]) :
    Ret Tryz.prog 206 #[.agg #[I t.kind,I t.cls],I least,.pointer (some ⟨g,0,none⟩)] w fun _ w'=>Box w' g 4 [.bool (b&&sOk t least)]∧Ap w (some ⟨g,0,none⟩) w':=by
  refine entr (vs:=[.agg #[I t.kind,I t.cls],I least,.pointer (some ⟨g,0,none⟩)]) [0,1,2,3,5] tabok Tryz.func206 (by kernel_rfl) ?_
  refine bx (cs:=[I t.kind,I t.cls]) fun b1 w1 h1 => ?_
  refine ld (h1.box.cell rfl) ?_
  refine ldg (fun _=>h1.box.cell rfl) ?_
  have hg1:=Bl.box h1.bl hg
  refine ld (hg1.cell rfl) ?_
  refine ldg (fun _=>h1.box.cell rfl) ?_
  refine ldg (fun _=>h1.box.cell rfl) ?_
  refine ldg2 (fun _ _=>h1.box.cell rfl) ?_
  refine st hg1 (fun w2 h2 hg2 => ?_)
  refine en (vs:=[]) ⟨?_,(Eng.Ap.bl h1.bl _).trans (Eng.Ap.wr h2)⟩
  have e:(b&&sOk t least)=(((b&&decide (least≤t.kind))&&decide (t.kind≤4))&&(tcls t||decide (t.cls = -1))):=by unfold sOk;cases b <;> simp [Bool.and_assoc]
  rw [e];exact hg2
abbrev seeF (g:Nat):Value := .func (.func 206) #[] #[.pointer (some ⟨g,0,none⟩)]
def fOk (l:List Fld):Bool:=l.all fun f=>sOk f.ty 1
theorem all_take_succ {α:Type} {p:α→Bool} {l:List α} {k:Nat} {x:α} (hx:l[k]? = some x):(l.take (k+1)).all p=((l.take k).all p&&p x):=by rw [take_succ_some hx,List.all_append];simp
theorem k_all (l:List Fld) (a:Option Addr) (cap g g2:Nat) (b:Bool) (S:Nat→Prop) (hgS:¬S g) (hne:g2≠g) (w:World) (hS:Sl eFld S w a l) (hg:Box w g 4 [.bool b]) (hg2:Box w g2 241 [seeF g]) :
    Ret Tryz.prog 207 #[.slice a l.length cap,.pointer (some ⟨g2,0,none⟩)] w fun _ w'=>Box w' g 4 [.bool (b&&fOk l)]∧Ap w (some ⟨g,0,none⟩) w':=by
  have hbig:=hS.big
  have kS:∀ {w'},Ap w (some ⟨g,0,none⟩) w'→Kp S w w':=fun h=>Kp.sub h.kp fun i hi e=>by cases e;exact hgS hi
  refine entr (vs:=[.slice a l.length cap,.pointer (some ⟨g2,0,none⟩)]) [0,1,4,5,6,7,8] tabok Tryz.func207 (by kernel_rfl) ?_
  refine lpk l.length 7 [] [(0,.slice a l.length cap),(1,.pointer (some ⟨g2,0,none⟩)),(5,.slice a l.length cap),(6,I l.length)] (fun k vals w'=>vals=[]∧Box w' g 4 [.bool (b&&fOk (l.take k))]∧Ap w (some ⟨g,0,none⟩) w') ⟨rfl,by simpa [fOk] using hg,Eng.Ap.bl (Bl.refl _) _⟩ ?_
  rintro k vals w1 hk ⟨rfl,hg1,hA1⟩ ih
  by_cases hlt:k<l.length
  · refine brT ?_
    obtain ⟨f,b4,o4,cs,hf,rfl,_,hAt,rfl⟩:=at_some (hS.kp (kS hA1)) hlt
    refine ix ?_
    refine lda hAt ?_
    refine al fun b5 w2 h2 => ?_
    refine sta h2.box (fun w3 h3 y3 => ?_)
    have hB3:Bl w1 w3:=Eng.New.wr h2 h3
    have hg3:=Bl.box hB3 hg1
    refine ld ((Bl.box hB3 (hA1.box hg2 (ap_ne hne))).cell rfl) ?_
    refine lda (fldAt y3.at) ?_
    refine cl (k_see f.ty 1 g _ w3 hg3) ?_
    rintro v w4 ⟨hg4,hA4⟩
    refine ih hlt ⟨rfl,?_,(hA1.trans (Eng.Ap.bl hB3 _)).trans hA4⟩
    have e:(b&&fOk (l.take (k+1)))=(b&&fOk (l.take k)&&sOk f.ty 1):=by unfold fOk;rw [all_take_succ hf,Bool.and_assoc]
    rw [e];exact hg4
  · refine brF ?_
    obtain rfl:k=l.length:=by omega
    rw [List.take_length] at hg1
    exact en (vs:=[]) ⟨hg1,hA1⟩
def mOk (m:Mth):Bool:=(m.params++m.locals).all (sOk · 1)&&sOk m.result 0
def kgood (u:Unt):Bool:=(u.classes.all fun c=>fOk c.fields)&&fOk u.statics&&u.methods.all mOk
theorem u_kinds (u:Unt) (a:UA) (b0:Nat) (w:World) (hU:UnR (· < w.heap.size) w u a) (hb0:b0<w.heap.size) (hx:At w b0 0 (ucells u a)) (hL:Lim u) :
    Ret Tryz.prog 147 #[.pointer (some ⟨b0,0,none⟩)] w fun v w'=>v = .bool (kgood u)∧Bl w w':=by
  have n1:=hU.cls.big
  have n2:=hU.sta.big
  have n3:=hU.mth.big
  refine entr (vs:=[.pointer (some ⟨b0,0,none⟩)]) [0,2,3,4,5,7,9,11,17,18,19,20,37,38,39,40,48,49,50,51] tabok Tryz.func147 (by kernel_rfl) ?_
  refine al fun g w1 h1 => ?_
  refine st h1.box (fun w2 h2 y2 => ?_)
  refine al fun g2 w3 h3 => ?_
  refine st h3.box (fun w4 h4 y4 => ?_)
  have q1:=h1.blk
  have q2:g<w2.heap.size:=y2.lt
  have q3:=h3.blk
  have hne:g2≠g:=by omega
  have hB4:Below w.heap.size w w4:=Below.trans (Below.trans (Eng.New.wr h1 h2) (h3.bl.mono (by omega))) (h4.below (by omega))
  have y4g:Box w4 g 4 [.bool true]:=h4.box (Bl.box h3.bl y2) (Ne.symm hne)
  have U:∀ {w'},Below w.heap.size w w'→UnR (· < w.heap.size) w' u a:=fun h=>hU.below h
  have X:∀ {w'},Below w.heap.size w w'→At w' b0 0 (ucells u a):=fun h=>hx.kp (Below.kp h) hb0
  have apB:∀ {x y},Below w.heap.size w x→Ap x (some ⟨g,0,none⟩) y→Below w.heap.size w y:=fun h k=>h.trans (k.below h.size (fun g' e=>by cases e;omega))
  have gS:¬(g<w.heap.size):=by omega
  refine ld (X hB4 2 _ rfl) ?_
  refine lpk u.classes.length 19 [] [(0,.pointer (some ⟨b0,0,none⟩)),(3,.pointer (some ⟨g,0,none⟩)),(4,.pointer (some ⟨g2,0,none⟩)),(5,.func (.func 207) #[] #[.pointer (some ⟨g2,0,none⟩)]),(17,.slice a.a2 u.classes.length a.c2),(18,I u.classes.length)]
    (fun k vals w'=>vals=[]∧Box w' g 4 [.bool ((u.classes.take k).all fun c=>fOk c.fields)]∧Box w' g2 241 [seeF g]∧Below w.heap.size w w') ⟨rfl,y4g,y4,hB4⟩ ?_
  rintro k vals w5 hk ⟨rfl,g5,s5,hB5⟩ ih
  by_cases hlt:k<u.classes.length
  · refine brT ?_
    obtain ⟨c,b,o,cs,hc,e2,hSb,hAt,af,cf,rfl,hF⟩:=at_some (U hB5).cls hlt
    rw [e2]
    refine ix ?_
    refine lda hAt ?_
    refine al fun b6 w6 h6 => ?_
    refine sta h6.box (fun w7 h7 y7 => ?_)
    have hB7:Bl w5 w7:=Eng.New.wr h6 h7
    refine ld (y7.cell rfl) ?_
    refine cl (k_all c.fields af cf g g2 _ (· < w.heap.size) gS hne w7 (hF.bl hB7) (Bl.box hB7 g5) (Bl.box hB7 s5)) ?_
    rintro v w8 ⟨g8,hA8⟩
    refine ih hlt ⟨rfl,?_,hA8.box (Bl.box hB7 s5) (ap_ne hne),apB (hB5.trans (hB7.mono hB5.size)) hA8⟩ (hsub:=by simp only [e2];repeat (first | exact True.intro | (refine ⟨rfl,?_⟩)))
    rw [all_take_succ hc];exact g8
  refine brF ?_
  obtain rfl:k=u.classes.length:=by omega
  rw [List.take_length] at g5
  refine ld (X hB5 3 _ rfl) ?_
  refine cl (k_all u.statics a.a3 a.c3 g g2 _ (· < w.heap.size) gS hne w5 (U hB5).sta g5 s5) ?_
  rintro v8 w8 ⟨g8,hA8⟩
  have s8:=hA8.box s5 (ap_ne hne)
  have hB8:=apB hB5 hA8
  refine ld (X hB8 4 _ rfl) ?_
  refine lpk u.methods.length 39 [] [(0,.pointer (some ⟨b0,0,none⟩)),(3,.pointer (some ⟨g,0,none⟩)),(4,.pointer (some ⟨g2,0,none⟩)),(37,.slice a.a4 u.methods.length a.c4),(38,I u.methods.length)]
    (fun k vals w'=>vals=[]∧Box w' g 4 [.bool (((u.classes.all fun c=>fOk c.fields)&&fOk u.statics)&&(u.methods.take k).all mOk)]∧Box w' g2 241 [seeF g]∧Below w.heap.size w w') ⟨rfl,by simpa using g8,s8,hB8⟩ ?_
  rintro k vals w9 hk ⟨rfl,g9,s9,hB9⟩ ih
  by_cases hlt:k<u.methods.length
  · refine brT ?_
    obtain ⟨m,b,o,cs,hm,e2,hSb,hAt,a1,c1,a2,c2,a3,c3,rfl,f1,f2,f3⟩:=at_some (U hB9).mth hlt
    rw [e2]
    have hm':=List.mem_of_getElem? hm
    have l1:=hL.locs m hm'
    refine ix ?_
    refine lda hAt ?_
    refine al fun b10 w10 h10 => ?_
    refine sta h10.box (fun w11 h11 y11 => ?_)
    have hB11:Bl w9 w11:=Eng.New.wr h10 h11
    refine ld (y11.cell rfl) ?_
    refine ld (y11.cell rfl) ?_
    refine bs fun b12 w12 h12 => ?_
    have hB12:=hB11.trans h12.bl
    refine cl (c_Concat m.params m.locals a1 a2 c1 c2 b12 w12 ((f1.bl hB12).sub fun _ _=>trivial) ((f2.bl hB12).sub fun _ _=>trivial) h12.box.at (by omega)) ?_
    rintro _ w13 ⟨ac,cc,rfl,hSc,hB13⟩
    have hB913:=hB12.trans hB13
    have hn:(m.params++m.locals).length≤10:=by rw [List.length_append];exact l1
    have hB13':Below w.heap.size w w13:=hB9.trans (hB913.mono hB9.size)
    have y13:=Bl.box (h12.bl.trans hB13) y11
    have ng:b10≠g:=by have:=h10.blk;have:=g9.lt;omega
    have ng2:b10≠g2:=by have:=h10.blk;have:=s9.lt;omega
    refine lpk (m.params++m.locals).length 50 [] [(0,.pointer (some ⟨b0,0,none⟩)),(3,.pointer (some ⟨g,0,none⟩)),(4,.pointer (some ⟨g2,0,none⟩)),(37,.slice a.a4 u.methods.length a.c4),(38,I u.methods.length),(39,I k),(9,.pointer (some ⟨b10,0,none⟩)),(48,.slice ac (m.params++m.locals).length cc),(49,I (m.params++m.locals).length)]
      (fun i vals w'=>vals=[]∧Box w' g 4 [.bool ((((u.classes.all fun c=>fOk c.fields)&&fOk u.statics)&&(u.methods.take k).all mOk)&&((m.params++m.locals).take i).all (sOk · 1))]∧Box w' g2 241 [seeF g]∧Box w' b10 79 (mcells m a1 c1 a2 c2 a3 c3)∧Below w.heap.size w w'∧Ap w13 (some ⟨g,0,none⟩) w') ⟨rfl,by simpa using Bl.box hB913 g9,Bl.box hB913 s9,y13,hB13',Eng.Ap.bl (Bl.refl _) _⟩ ?_ (hkeep:=by simp only [e2];repeat (first | exact True.intro | (refine ⟨rfl,?_⟩)))
    rintro i vals w14 hi ⟨rfl,g14,s14,y14,hB14,hA14⟩ ih2
    by_cases hlt2:i<(m.params++m.locals).length
    · refine brT ?_
      obtain ⟨t,bt,ot,cst,ht,rfl,hSt,hAtt,rfl⟩:=at_some hSc hlt2
      have hAt14:=hAtt.kp (S:=fun j=>j<w13.heap.size∧j≠g) (fun b' o' v hs hc=>by rw [World.cell?_of_block (w:=w13) (hA14.block b' hs.1 fun e=>by cases e;exact hs.2 rfl)];exact hc) ⟨hSt.2,by have:=hSt.1;have:=h12.size;have:=h10.size;have:=h11.size;have:=g9.lt;omega⟩
      refine ix ?_
      refine lda hAt14 ?_
      refine al fun b15 w15 h15 => ?_
      refine sta h15.box (fun w16 h16 y16 => ?_)
      have hB16:Bl w14 w16:=Eng.New.wr h15 h16
      refine ld ((Bl.box hB16 s14).cell rfl) ?_
      refine lda y16.at ?_
      refine cl (k_see t 1 g _ w16 (Bl.box hB16 g14)) ?_
      rintro v w17 ⟨g17,hA17⟩
      refine ih2 hlt2 ⟨rfl,?_,hA17.box (Bl.box hB16 s14) (ap_ne hne),hA17.box (Bl.box hB16 y14) (ap_ne ng),apB (hB14.trans (hB16.mono hB14.size)) hA17,(hA14.trans (Eng.Ap.bl hB16 _)).trans hA17⟩
      rw [all_take_succ ht,←Bool.and_assoc];exact g17
    refine brF ?_
    obtain rfl:i=(m.params++m.locals).length:=by omega
    rw [List.take_length] at g14
    refine ld (s14.cell rfl) ?_
    refine lda (cs:=[I m.result.kind,I m.result.cls]) (b:=b10) (o:=4) (fun j v hj => ?_) ?_
    · rcases j with _ | _ | j
      · exact y14.at 4 v hj
      · exact y14.at 5 v hj
      · simp at hj
    refine cl (k_see m.result 0 g _ w14 g14) ?_
    rintro v w18 ⟨g18,hA18⟩
    refine ih hlt ⟨rfl,?_,hA18.box s14 (ap_ne hne),apB hB14 hA18⟩ (hsub:=by simp only [e2];repeat (first | exact True.intro | (refine ⟨rfl,?_⟩)))
    have e:(((u.classes.all fun c=>fOk c.fields)&&fOk u.statics)&&(u.methods.take (k+1)).all mOk)=((((u.classes.all fun c=>fOk c.fields)&&fOk u.statics)&&(u.methods.take k).all mOk)&&(m.params++m.locals).all (sOk · 1)&&sOk m.result 0):=by rw [all_take_succ hm];unfold mOk;simp [Bool.and_assoc]
    rw [e];exact g18
  · refine brF ?_
    obtain rfl:k=u.methods.length:=by omega
    rw [List.take_length] at g9
    refine ld (g9.cell rfl) ?_
    exact rt1 ⟨rfl,hB9⟩
theorem kgood_eq (u:Unt):kgood u=(kinds u&&classless u):=by
  have h1:∀ t,sOk t 1=(kin t&&bare t):=fun t=>rfl
  have h0:∀ t,sOk t 0=(kout t&&bare t):=fun t=>rfl
  have hf:∀ l:List Fld,fOk l=((l.all fun f=>kin f.ty)&&l.all fun f=>bare f.ty):=fun l=>by
    induction l with
    | nil=>rfl
    | cons f l ih =>
      have:fOk (f::l)=(sOk f.ty 1&&fOk l):=rfl
      rw [this,ih,h1,List.all_cons,List.all_cons]
      cases kin f.ty <;> cases bare f.ty <;> simp
  rw [Bool.eq_iff_iff]
  simp only [kgood,kinds,classless,kcls,kmth,bcls,bmth,mOk,hf,h1,h0,Bool.and_eq_true,List.all_eq_true,List.mem_append]
  constructor
  · rintro ⟨⟨a1,a2⟩,a3⟩
    exact ⟨⟨⟨fun c hc=>(a1 c hc).1,a2.1⟩,fun m hm=>⟨⟨fun t ht=>((a3 m hm).1 t (.inl ht)).1,fun t ht=>((a3 m hm).1 t (.inr ht)).1⟩,(a3 m hm).2.1⟩⟩,
      ⟨fun c hc=>(a1 c hc).2,a2.2⟩,fun m hm=>⟨⟨(a3 m hm).2.2,fun t ht=>((a3 m hm).1 t (.inl ht)).2⟩,fun t ht=>((a3 m hm).1 t (.inr ht)).2⟩⟩
  · rintro ⟨⟨⟨a1,a2⟩,a3⟩,⟨b1,b2⟩,b3⟩
    refine ⟨⟨fun c hc=>⟨a1 c hc,b1 c hc⟩,a2,b2⟩,fun m hm=>⟨fun t ht => ?_,(a3 m hm).2,(b3 m hm).1.1⟩⟩
    rcases ht with ht | ht
    · exact ⟨(a3 m hm).1.1 t ht,(b3 m hm).1.2 t ht⟩
    · exact ⟨(a3 m hm).1.2 t ht,(b3 m hm).2 t ht⟩
end Go.Proofs.YtkmdfjpafkcleaaGreatDoor
namespace Go.Proofs.YtkmdfjpafkcleaaGreatDoor
open Eng Go.RowKit
def joinB (xs:List ByteArray):ByteArray:=⟨(Lib.join (xs.map toL) [46]).toArray⟩
def picked (u:Unt) (l:List Int):List ByteArray:=(l.filter fun i=>decide (0≤i)).map (nm u)
theorem joinB_one (x:ByteArray):joinB [x]=x:=by cases x;simp [joinB,Lib.join]
theorem joinB_two (x y:ByteArray):joinB [x,y]=dots x y:=by
  apply ba_ext
  simp [joinB,Lib.join,dots]
theorem join_len:∀ xs:List ByteArray,(∀ x∈xs,x.size≤1048576)→(Lib.join (xs.map toL) [46]).length≤xs.length*1048577
  | [],_=>by simp [Lib.join]
  | [x],h=>by
    have:=h x (by simp)
    show (Lib.join [toL x] [46]).length≤_
    rw [Lib.join_one,ba_len];simp;omega
  | x::y::r,h=>by
    have:=join_len (y::r) fun z hz=>h z (List.mem_cons_of_mem _ hz)
    have h1:=h x (by simp)
    have e:Lib.join ((x::y::r).map toL) [46]=toL x++([46]++Lib.join ((y::r).map toL) [46]):=by simp [Lib.join,List.intercalate]
    rw [e,List.length_append,List.length_append,ba_len]
    simp only [List.length_cons,List.length_nil] at this ⊢
    omega
theorem u_named (u:Unt) (a:UA) (b0:Nat) (l:List Int) (aL:Option Addr) (cL:Nat) (S:Nat→Prop) (w:World) (hU:UnR S w u a) (hx:At w b0 0 (ucells u a)) (hl:Sl eInt T w aL l) (hn:l.length≤16) (hin:∀ i∈l,0≤i→inP u i) :
    Ret Tryz.prog 209 #[.pointer (some ⟨b0,0,none⟩),.slice aL l.length cL] w fun v w'=>v = .string (joinB (picked u l))∧Bl w w':=by
  refine entr (vs:=[.pointer (some ⟨b0,0,none⟩),.slice aL l.length cL]) [0,1,4,5,7,8,9,10,11,15] tabok Tryz.func209 (by kernel_rfl) ?_
  refine lpk l.length 10 [5] [(0,.pointer (some ⟨b0,0,none⟩)),(8,.slice aL l.length cL),(9,I l.length)] (fun k vals w'=>∃ a5 c5,vals=[.slice a5 (picked u (l.take k)).length c5]∧OwP 1 encStr w' w.heap.size 9 a5 c5 (picked u (l.take k))∧Bl w w') ⟨none,0,rfl,Ow.nil _ _ _ _,Bl.refl _⟩ ?_
  rintro k vals w1 hk ⟨a5,c5,rfl,hO,hB⟩ ih
  have hpl:(picked u (l.take k)).length≤16:=by
    unfold picked
    rw [List.length_map]
    exact Nat.le_trans (List.length_filter_le _ _) (Nat.le_trans (List.length_take_le' _ _) hn)
  by_cases hlt:k<l.length
  · refine brT ?_
    obtain ⟨i,bi,oi,cs,hi,rfl,_,hAt,rfl⟩:=at_some (hl.bl hB) hlt
    refine ix ?_
    refine ld (hAt 0 _ rfl) ?_
    refine br (fun h => ?_) (fun h => ?_)
    · have h0:0≤i:=of_decide_eq_true h
      have hP:=hin i (List.mem_of_getElem? hi) h0
      have e1:picked u (l.take (k+1))=picked u (l.take k)++[nm u i]:=by unfold picked;rw [take_succ_some hi,List.filter_append,List.map_append];simp [h0]
      refine ld ((hx.bl hB) 1 _ rfl) ?_
      obtain ⟨b9,o9,e9,_,hc9,hz9,hi9,hp9⟩:=pool_at (hU.bl hB) hP
      rw [e9]
      refine ix (hij:=hi9) ?_
      refine ld hc9 ?_
      refine bs fun b2 w2 h2 => ?_
      refine apl (l1:=[nm u i]) (hO.bl h2.bl) (.inr ⟨b2,0,rfl,h2.box.at⟩) (hB.trans h2.bl).size (fun a' cap' w3 hO3 hA _ => ?_)
      refine ih hlt ⟨a',cap',?_,?_,Eng.Ow.below (hO.bl h2.bl) hA (hB.trans h2.bl) (hB.trans h2.bl).size⟩
      · rw [e1]
      · rw [e1];exact hO3
    · have h0:¬0≤i:=of_decide_eq_false h
      have e1:picked u (l.take (k+1))=picked u (l.take k):=by unfold picked;rw [take_succ_some hi,List.filter_append,List.map_append];simp [h0]
      exact ih hlt ⟨a5,c5,by rw [e1],by rw [e1];exact hO,hB⟩
  refine brF ?_
  obtain rfl:k=l.length:=by omega
  rw [List.take_length] at hO hpl ⊢
  have hsz:∀ x∈picked u l,x.size≤1048576:=fun x hx=>by
    unfold picked at hx
    obtain ⟨i,hi,rfl⟩:=List.mem_map.1 hx
    rw [List.mem_filter] at hi
    obtain ⟨b9,o9,e9,_,hc9,hz9,hi9,hp9⟩:=pool_at hU (hin i hi.1 (of_decide_eq_true hi.2))
    exact hz9
  refine cl (R:=fun v w'=>v = .string (joinB (picked u l))∧Bl w1 w') ?_ ?_
  · refine ⟨by kernel_rfl,?_⟩
    rcases hO.shape with ⟨rfl,h0,rfl,_⟩ | ⟨g,cur,rfl,hg,hgb,hn2,hcs,htk⟩
    · have:picked u l=[]:=List.eq_nil_of_length_eq_zero h0
      rw [this]
      refine (Tryz.strings_Join_none none 0 ⟨#[46]⟩ w1).mono ?_
      rintro e w3 ⟨rfl,rfl⟩
      exact ⟨rfl,Bl.refl _⟩
    · have hjl:=join_len (picked u l) hsz
      refine (Tryz.strings_Join g 0 c5 (picked u l) ⟨#[46]⟩ w1 (fun j x hx => ?_) (Array.getElem?_eq_some_iff.1 hgb).1 (by omega) hn2 ?_).mono ?_
      · have h2:=hO.at rfl (j*1+0) (.string x) (by rw [flat_get (sz:=1) (enc:=encStr) (fun _=>rfl) hx 0 (by decide)];rfl)
        simpa using h2
      · exact Nat.le_trans hjl (by omega)
      rintro e w3 ⟨rfl,hb⟩
      exact ⟨rfl,hb⟩
  rintro _ w2 ⟨rfl,hB2⟩
  exact rt1 ⟨rfl,hB.trans hB2⟩
end Go.Proofs.YtkmdfjpafkcleaaGreatDoor
namespace Go.Proofs.YtkmdfjpafkcleaaGreatDoor
open Eng Go.RowKit
theorem Eng.Ow.oth {w w':World} {base e esz n cap:Nat} {a a2:Option Addr} {xs:List Value} (h:Ow w base e esz a n cap xs) (k:Ap w a2 w') (hne:∀ g,a=some ⟨g,0,none⟩→a2≠some ⟨g,0,none⟩):Ow w' base e esz a n cap xs:=h.same fun g hg=>k.block g (h.lt hg).2 (hne g hg)
theorem named1 (u:Unt) (a:UA) (b0:Nat) (i:Int) (S:Nat→Prop) {w0 w:World} {b:Nat} (hn:New w0 b 3 [I i] w) (hU:UnR S w u a) (hx:At w b0 0 (ucells u a)) (hi:inP u i) :
    Ret Tryz.prog 209 #[.pointer (some ⟨b0,0,none⟩),.slice (some ⟨b,0,none⟩) 1 1] w fun v w'=>v = .string (nm u i)∧Bl w w':=by
  have hO:OwP 1 encInt w b 3 (some ⟨b,0,none⟩) 1 [i]:=Ow.made (n:=1) hn rfl (by omega)
  refine (u_named u a b0 [i] _ 1 S w hU hx (owp_sl hO (by simp) (fun _ _=>trivial)) (by simp) (fun j hj _ => ?_)).mono ?_
  · simp at hj;subst hj;exact hi
  rintro v w' ⟨rfl,hB⟩
  refine ⟨?_,hB⟩
  have:picked u [i]=[nm u i]:=by simp [picked,hi.1]
  rw [this,joinB_one]
theorem named2 (u:Unt) (a:UA) (b0:Nat) (i j:Int) (S:Nat→Prop) {w0 w:World} {b:Nat} (hn:New w0 b 3 [I i,I j] w) (hU:UnR S w u a) (hx:At w b0 0 (ucells u a)) (hi:inP u i) (hj:inP u j) :
    Ret Tryz.prog 209 #[.pointer (some ⟨b0,0,none⟩),.slice (some ⟨b,0,none⟩) 2 2] w fun v w'=>v = .string (dots (nm u i) (nm u j))∧Bl w w':=by
  have hO:OwP 1 encInt w b 3 (some ⟨b,0,none⟩) 2 [i,j]:=Ow.made (n:=2) hn rfl (by omega)
  refine (u_named u a b0 [i,j] _ 2 S w hU hx (owp_sl hO (by simp) (fun _ _=>trivial)) (by simp) (fun k hk _ => ?_)).mono ?_
  · simp at hk;rcases hk with rfl | rfl
    · exact hi
    · exact hj
  rintro v w' ⟨rfl,hB⟩
  refine ⟨?_,hB⟩
  have:picked u [i,j]=[nm u i,nm u j]:=by simp [picked,hi.1,hj.1]
  rw [this,joinB_two]
theorem u_doubled (u:Unt) (a:UA) (b0:Nat) (w:World) (hU:UnR T w u a) (hx:At w b0 0 (ucells u a)) (hL:Lim u) (hP:Plc u):Ret Tryz.prog 148 #[.pointer (some ⟨b0,0,none⟩)] w fun v w'=>v = .bool (doubled u)∧Bl w w':=by
  have n1:=hL.cls
  have n2:=hL.sta
  have n3:=hL.mth
  refine entr (vs:=[.pointer (some ⟨b0,0,none⟩)]) [0,2,3,4,6,7,9,11,13,17,18,19,20,32,33,34,35,48,53,54,55,56,71,72,73,74,79] tabok Tryz.func148 (by kernel_rfl) ?_
  refine ld (hx 2 _ rfl) ?_
  refine lpk u.classes.length 19 [3] [(0,.pointer (some ⟨b0,0,none⟩)),(2,.bool false),(4,.slice none 0 0),(17,.slice a.a2 u.classes.length a.c2),(18,I u.classes.length)]
    (fun k vals w'=>∃ a3 c3,vals=[.slice a3 ((u.classes.take k).map fun c=>nm u c.name).length c3]∧OwP 1 encStr w' w.heap.size 9 a3 c3 ((u.classes.take k).map fun c=>nm u c.name)∧(u.classes.take k).any (cdup u)=false∧Bl w w') ⟨none,0,rfl,Ow.nil _ _ _ _,rfl,Bl.refl _⟩ ?_
  rintro k vals w1 hk ⟨a3,c3,rfl,hO,hany,hB⟩ ih
  have ht1:((u.classes.take k).map fun c=>nm u c.name).length≤10:=by rw [List.length_map,List.length_take];omega
  by_cases hlt:k<u.classes.length
  · refine brT ?_
    obtain ⟨c,b,o,cs,hc,e2,hSb,hAt,af,cf,rfl,hF⟩:=at_some hU.cls hlt
    have hcm:=List.mem_of_getElem? hc
    have nf:=hL.flds c hcm
    rw [e2]
    refine ix ?_
    refine lda (hAt.bl hB) ?_
    refine al fun b2 w2 h2 => ?_
    refine sta h2.box (fun w3 h3 y3 => ?_)
    have hB3:Bl w w3:=hB.trans (Eng.New.wr h2 h3)
    refine ld (y3.cell rfl) ?_
    refine bs fun b4 w4 h4 => ?_
    have hB4:=hB3.trans h4.bl
    refine cl (named1 u a b0 c.name T h4 (hU.bl hB4) (hx.bl hB4) (hP.cn c hcm)) ?_
    rintro _ w5 ⟨rfl,hB5⟩
    refine bs fun b6 w6 h6 => ?_
    have hB6:=(hB4.trans hB5).trans h6.bl
    have hO6:=((hO.bl (Eng.New.wr h2 h3)).bl h4.bl).bl (hB5.trans h6.bl)
    refine apl (l1:=[nm u c.name]) hO6 (.inr ⟨b6,0,rfl,h6.box.at⟩) hB6.size (fun a7 c7 w7 hO7 hA7 _ => ?_) (hb:=by simp only [List.length_cons,List.length_nil];omega) (hn:=by simp only [List.length_cons,List.length_nil];omega)
    have hB7:Bl w w7:=Eng.Ow.below hO6 hA7 hB6 hB6.size
    have y7:=hA7.box (Bl.box ((h4.bl.trans hB5).trans h6.bl) y3) (fun e=>by have:=(hO.lt e).2;have:=h2.blk;omega)
    have e1:(u.classes.take (k+1)).map (fun c=>nm u c.name)=(u.classes.take k).map (fun c=>nm u c.name)++[nm u c.name]:=map_snoc hc
    refine ld (y7.cell rfl) ?_
    refine lpk c.fields.length 34 [7] [(0,.pointer (some ⟨b0,0,none⟩)),(2,.bool false),(4,.slice none 0 0),(17,.slice (some ⟨b,o,none⟩) u.classes.length a.c2),(18,I u.classes.length),(19,I k),(3,.slice a7 ((u.classes.take k).map (fun c=>nm u c.name)++[nm u c.name]).length c7),(32,.slice af c.fields.length cf),(33,I c.fields.length)]
      (fun i vals w'=>∃ a8 c8,vals=[.slice a8 ((c.fields.take i).map fun f=>nm u f.name).length c8]∧OwP 1 encStr w' w7.heap.size 9 a8 c8 ((c.fields.take i).map fun f=>nm u f.name)∧Bl w7 w') ⟨none,0,rfl,Ow.nil _ _ _ _,Bl.refl _⟩ ?_
    rintro i vals w8 hi ⟨a8,c8,rfl,hO8,hB8⟩ ih2
    have ht2:((c.fields.take i).map fun f=>nm u f.name).length≤7:=by rw [List.length_map,List.length_take];omega
    have hB08:=hB7.trans hB8
    by_cases hlt2:i<c.fields.length
    · refine brT ?_
      obtain ⟨f,bf,off,cs,hf,rfl,_,hAtf,rfl⟩:=at_some hF hlt2
      refine ix ?_
      refine lda (hAtf.bl hB08) ?_
      refine al fun b9 w9 h9 => ?_
      refine sta h9.box (fun w10 h10 y10 => ?_)
      have hB10:=Eng.New.wr h9 h10
      refine ld (y10.cell rfl) ?_
      refine bs fun b11 w11 h11 => ?_
      have hB11:=hB10.trans h11.bl
      refine cl (named1 u a b0 f.name T h11 (hU.bl (hB08.trans hB11)) (hx.bl (hB08.trans hB11)) (hP.fn c hcm f (List.mem_of_getElem? hf))) ?_
      rintro _ w12 ⟨rfl,hB12⟩
      refine bs fun b13 w13 h13 => ?_
      have hB13:=(hB11.trans hB12).trans h13.bl
      have hO13:=hO8.bl hB13
      refine apl (l1:=[nm u f.name]) hO13 (.inr ⟨b13,0,rfl,h13.box.at⟩) (hB8.trans hB13).size (fun a14 c14 w14 hO14 hA14 _ => ?_) (hb:=by simp only [List.length_cons,List.length_nil];omega) (hn:=by simp only [List.length_cons,List.length_nil];omega)
      have e3:(c.fields.take (i+1)).map (fun f=>nm u f.name)=(c.fields.take i).map (fun f=>nm u f.name)++[nm u f.name]:=map_snoc hf
      exact ih2 hlt2 ⟨a14,c14,by rw [e3],by rw [e3];exact hO14,Eng.Ow.below hO13 hA14 (hB8.trans hB13) (hB8.trans hB13).size⟩
    refine brF ?_
    obtain rfl:i=c.fields.length:=by omega
    rw [List.take_length] at hO8 ⊢
    refine cl (u_twice (c.fields.map fun f:Fld=>nm u f.name) a8 c8 T w8 (owp_sl hO8 (by rw [List.length_map];omega) (fun _ _=>trivial))) ?_
    rintro _ w9 ⟨rfl,hB9⟩
    refine br (t:=cdup u c) (fun h => ?_) (fun h => ?_)
    · refine rt1 ⟨vb ?_,hB08.trans hB9⟩
      have:u.classes.any (cdup u)=true:=List.any_eq_true.2 ⟨c,hcm,h⟩
      unfold doubled;rw [this];simp
    · refine ih hlt ⟨a7,c7,by rw [e1],by rw [e1];exact (hO7.bl hB8).bl hB9,any_snoc hc hany h,hB08.trans hB9⟩ (hsub:=by simp only [e2];repeat (first | exact True.intro | (refine ⟨rfl,?_⟩)))
  refine brF ?_
  obtain rfl:k=u.classes.length:=by omega
  have hany':=any_end hany
  rw [List.take_length] at hO ht1 ⊢
  refine ld ((hx.bl hB) 3 _ rfl) ?_
  refine lpk (vals:=[.slice a3 (u.classes.map fun c=>nm u c.name).length c3]) u.statics.length 55 [3] [(0,.pointer (some ⟨b0,0,none⟩)),(4,.slice none 0 0),(53,.slice a.a3 u.statics.length a.c3),(54,I u.statics.length)]
    (fun k vals w'=>∃ a3 c3,vals=[.slice a3 ((u.classes.map fun c=>nm u c.name)++(u.statics.take k).map fun f=>nm u f.name).length c3]∧OwP 1 encStr w' w.heap.size 9 a3 c3 ((u.classes.map fun c=>nm u c.name)++(u.statics.take k).map fun f=>nm u f.name)∧Bl w w') ⟨a3,c3,by simp,by simpa using hO,hB⟩ ?_
  rintro k vals w2 hk ⟨a4,c4,rfl,hO2,hB2⟩ ih
  have ht2:((u.classes.map fun c=>nm u c.name)++(u.statics.take k).map fun f=>nm u f.name).length≤20:=by rw [List.length_append,List.length_map,List.length_map,List.length_take];omega
  by_cases hlt:k<u.statics.length
  · refine brT ?_
    obtain ⟨f,b,o,cs,hf,e2,hSb,hAt,rfl⟩:=at_some hU.sta hlt
    have hfm:=List.mem_of_getElem? hf
    rw [e2]
    refine ix ?_
    refine lda (hAt.bl hB2) ?_
    refine al fun b3 w3 h3 => ?_
    refine sta h3.box (fun w4 h4 y4 => ?_)
    have hB4:=Eng.New.wr h3 h4
    refine ld (y4.cell rfl) ?_
    refine bs fun b5 w5 h5 => ?_
    have hB5:=hB4.trans h5.bl
    refine cl (named1 u a b0 f.name T h5 (hU.bl (hB2.trans hB5)) (hx.bl (hB2.trans hB5)) (hP.sn f hfm)) ?_
    rintro _ w6 ⟨rfl,hB6⟩
    refine bs fun b7 w7 h7 => ?_
    have hB7:=(hB5.trans hB6).trans h7.bl
    have hO7:=hO2.bl hB7
    refine apl (l1:=[nm u f.name]) hO7 (.inr ⟨b7,0,rfl,h7.box.at⟩) (hB2.trans hB7).size (fun a8 c8 w8 hO8 hA8 _ => ?_) (hb:=by simp only [List.length_cons,List.length_nil];omega) (hn:=by simp only [List.length_cons,List.length_nil];omega)
    have e3:(u.classes.map fun c=>nm u c.name)++(u.statics.take (k+1)).map (fun f=>nm u f.name)=((u.classes.map fun c=>nm u c.name)++(u.statics.take k).map (fun f=>nm u f.name))++[nm u f.name]:=by rw [map_snoc hf,List.append_assoc]
    exact ih hlt ⟨a8,c8,by rw [e3],by rw [e3];exact hO8,Eng.Ow.below hO7 hA8 (hB2.trans hB7) (hB2.trans hB7).size⟩ (hsub:=by simp only [e2];repeat (first | exact True.intro | (refine ⟨rfl,?_⟩)))
  refine brF ?_
  obtain rfl:k=u.statics.length:=by omega
  rw [List.take_length] at hO2 ht2 ⊢
  refine ld ((hx.bl hB2) 4 _ rfl) ?_
  refine lpk (vals:=[.slice a4 ((u.classes.map fun c=>nm u c.name)++u.statics.map fun f=>nm u f.name).length c4,.slice none 0 0]) u.methods.length 73 [3,4] [(0,.pointer (some ⟨b0,0,none⟩)),(71,.slice a.a4 u.methods.length a.c4),(72,I u.methods.length)]
    (fun k vals w'=>∃ a3 c3 a4 c4,vals=[.slice a3 (((u.classes.map fun c=>nm u c.name)++u.statics.map fun f=>nm u f.name)++((u.methods.take k).filter fun m=>decide (m.cls = -1)).map fun m=>nm u m.name).length c3,.slice a4 (((u.methods.take k).filter fun m => !decide (m.cls = -1)).map fun m=>dots (nm u m.cls) (nm u m.name)).length c4] ∧
      OwP 1 encStr w' w.heap.size 9 a3 c3 (((u.classes.map fun c=>nm u c.name)++u.statics.map fun f=>nm u f.name)++((u.methods.take k).filter fun m=>decide (m.cls = -1)).map fun m=>nm u m.name) ∧
      OwP 1 encStr w' w.heap.size 9 a4 c4 (((u.methods.take k).filter fun m => !decide (m.cls = -1)).map fun m=>dots (nm u m.cls) (nm u m.name))∧(∀ g,a3=some ⟨g,0,none⟩→a4≠some ⟨g,0,none⟩)∧Bl w w') ⟨a4,c4,none,0,by simp,by simpa using hO2,by simp only [List.take_zero,List.filter_nil,List.map_nil];exact Ow.nil _ _ _ _,(fun _ _ e=>by cases e),hB2⟩ ?_
  rintro k vals w3 hk ⟨a5,c5,a6,c6,rfl,hO3,hO4,hne,hB3⟩ ih
  have fl:∀ p:Mth→Bool,((u.methods.take k).filter p).length≤16:=fun p=>Nat.le_trans (List.length_filter_le _ _) (by rw [List.length_take];omega)
  have ht3:(((u.classes.map fun c=>nm u c.name)++u.statics.map fun f=>nm u f.name)++((u.methods.take k).filter fun m=>decide (m.cls = -1)).map fun m=>nm u m.name).length≤36:=by
    have:=fl fun m=>decide (m.cls = -1)
    rw [List.length_append,List.length_map];omega
  have ht4:(((u.methods.take k).filter fun m => !decide (m.cls = -1)).map fun m=>dots (nm u m.cls) (nm u m.name)).length≤16:=by rw [List.length_map];exact fl _
  by_cases hlt:k<u.methods.length
  · refine brT ?_
    obtain ⟨m,b,o,cs,hm,e2,hSb,hAt,a1,c1,a2,c2,a3,c3,rfl,f1,f2,f3⟩:=at_some hU.mth hlt
    have hmm:=List.mem_of_getElem? hm
    rw [e2]
    refine ix ?_
    refine lda (hAt.bl hB3) ?_
    refine al fun b4 w4 h4 => ?_
    refine sta h4.box (fun w5 h5 y5 => ?_)
    have hB5:=Eng.New.wr h4 h5
    refine ld (y5.cell rfl) ?_
    rcases hP.mc m hmm with hc | hc
    · refine brT ?_ (hp:=by show m.cls<0;omega)
      have e5:((u.methods.take (k+1)).filter fun m=>decide (m.cls = -1))=((u.methods.take k).filter fun m=>decide (m.cls = -1))++[m]:=by rw [take_succ_some hm,List.filter_append];simp [hc]
      have e6:((u.methods.take (k+1)).filter fun m => !decide (m.cls = -1))=((u.methods.take k).filter fun m => !decide (m.cls = -1)):=by rw [take_succ_some hm,List.filter_append];simp [hc]
      refine ld (y5.cell rfl) ?_
      refine bs fun b6 w6 h6 => ?_
      have hB6:=hB5.trans h6.bl
      refine cl (named1 u a b0 m.name T h6 (hU.bl (hB3.trans hB6)) (hx.bl (hB3.trans hB6)) (hP.mn m hmm)) ?_
      rintro _ w7 ⟨rfl,hB7⟩
      refine bs fun b8 w8 h8 => ?_
      have hB8:=(hB6.trans hB7).trans h8.bl
      have hO8:=hO3.bl hB8
      refine apl (l1:=[nm u m.name]) hO8 (.inr ⟨b8,0,rfl,h8.box.at⟩) (hB3.trans hB8).size (fun a9 c9 w9 hO9 hA9 hfr => ?_) (hb:=by simp only [List.length_cons,List.length_nil];omega) (hn:=by simp only [List.length_cons,List.length_nil];omega)
      refine ih hlt ⟨a9,c9,a6,c6,?_,?_,?_,?_,Eng.Ow.below hO8 hA9 (hB3.trans hB8) (hB3.trans hB8).size⟩ (hsub:=by simp only [e2];repeat (first | exact True.intro | (refine ⟨rfl,?_⟩)))
      · rw [e5,e6,List.map_append,←List.append_assoc];rfl
      · rw [e5,List.map_append,←List.append_assoc];exact hO9
      · rw [e6];exact (hO4.bl hB8).oth hA9 (fun g hg e=>hne g e hg)
      · intro g hg e
        rcases hfr g hg with h | h
        · exact hne g h e
        · have:=(hO4.lt e).2;have:=hB8.size;omega
    · refine brF ?_ (hp:=by show ¬m.cls<0;have:=hc.1;omega)
      have hcn:¬m.cls = -1:=by have:=hc.1;omega
      have e5:((u.methods.take (k+1)).filter fun m=>decide (m.cls = -1))=((u.methods.take k).filter fun m=>decide (m.cls = -1)):=by rw [take_succ_some hm,List.filter_append];simp [hcn]
      have e6:((u.methods.take (k+1)).filter fun m => !decide (m.cls = -1))=((u.methods.take k).filter fun m => !decide (m.cls = -1))++[m]:=by rw [take_succ_some hm,List.filter_append];simp [hcn]
      refine ld (y5.cell rfl) ?_
      refine ld (y5.cell rfl) ?_
      refine bs fun b6 w6 h6 => ?_
      have hB6:=hB5.trans h6.bl
      refine cl (named2 u a b0 m.cls m.name T h6 (hU.bl (hB3.trans hB6)) (hx.bl (hB3.trans hB6)) hc (hP.mn m hmm)) ?_
      rintro _ w7 ⟨rfl,hB7⟩
      refine bs fun b8 w8 h8 => ?_
      have hB8:=(hB6.trans hB7).trans h8.bl
      have hO8:=hO4.bl hB8
      refine apl (l1:=[dots (nm u m.cls) (nm u m.name)]) hO8 (.inr ⟨b8,0,rfl,h8.box.at⟩) (hB3.trans hB8).size (fun a9 c9 w9 hO9 hA9 hfr => ?_) (hb:=by simp only [List.length_cons,List.length_nil];omega) (hn:=by simp only [List.length_cons,List.length_nil];omega)
      refine ih hlt ⟨a5,c5,a9,c9,?_,?_,?_,?_,Eng.Ow.below hO8 hA9 (hB3.trans hB8) (hB3.trans hB8).size⟩ (hsub:=by simp only [e2];repeat (first | exact True.intro | (refine ⟨rfl,?_⟩)))
      · rw [e5,e6,List.map_append];rfl
      · rw [e5];exact (hO3.bl hB8).oth hA9 (fun g hg e=>hne g hg e)
      · rw [e6,List.map_append];exact hO9
      · intro g hg e
        rcases hfr g e with h | h
        · exact hne g hg h
        · have:=(hO3.lt hg).2;have:=hB8.size;omega
  refine brF ?_
  obtain rfl:k=u.methods.length:=by omega
  rw [List.take_length] at hO3 hO4 ht3 ht4 ⊢
  have eD:doubled u=(dup u.pool||dup (heads u)||dup (fulls u)):=by unfold doubled;rw [hany'];simp
  refine ld ((hx.bl hB3) 1 _ rfl) ?_
  refine cl (u_twice u.pool a.a1 a.c1 T w3 (hU.bl hB3).pool) ?_
  rintro _ w4 ⟨rfl,hB4⟩
  refine sp (.bool false) (fun q => ?_) (fun q => ?_)
  · refine cl (u_twice (heads u) a5 c5 T w4 (owp_sl (hO3.bl hB4) (by omega) (fun _ _=>trivial))) ?_
    rintro _ w5 ⟨rfl,hB5⟩
    refine sp (.bool false) (fun q2 => ?_) (fun q2 => ?_)
    · refine cl (u_twice (fulls u) a6 c6 T w5 (owp_sl ((hO4.bl hB4).bl hB5) (by omega) (fun _ _=>trivial))) ?_
      rintro _ w6 ⟨rfl,hB6⟩
      refine rt1 ⟨vb ?_,((hB3.trans hB4).trans hB5).trans hB6⟩
      rw [eD,q,show dup (heads u)=false from by simpa using q2];rfl
    · have q2':dup (heads u)=true:=by simpa using q2
      refine rt1 ⟨vb ?_,(hB3.trans hB4).trans hB5⟩
      rw [eD,q,q2'];rfl
  · have q':dup u.pool=true:=by simpa using q
    refine sp (.bool false) (fun q2 => ?_) (fun q2 => ?_)
    · rw [q'] at q2;cases q2
    refine rt1 ⟨vb ?_,hB3.trans hB4⟩
    rw [eD,q'];rfl
end Go.Proofs.YtkmdfjpafkcleaaGreatDoor
namespace Go.Proofs.YtkmdfjpafkcleaaGreatDoor
open Eng Go.RowKit
def beyB (u:Unt) (r:Rf):Bool := !refOk u.pool.length r
def frmB (u:Unt) (r:Rf):Bool:=refOk u.pool.length r&&decide (0≤r.at')&&decide (¬(path (nm u r.at'):Int)=r.parts)
theorem any_congr {α:Type} {q r:α→Bool}:∀ {l:List α},(∀ x∈l,q x=r x)→l.any q=l.any r
  | [],_=>rfl
  | x::l,h=>by rw [List.any_cons,List.any_cons,h x (List.mem_cons_self ..),any_congr fun y hy=>h y (List.mem_cons_of_mem _ hy)]
section
variable {p:Rf→Bool} (hp:∀ r:Rf,r.at' = -1→r.opt=true→p r=false)
include hp
theorem ty_any {t:Ty} (hb:bare t=true):(tyU t).any p=p (typed t):=by
  unfold tyU
  cases ht:tcls t with
  | true=>simp [typed,ht]
  | false =>
    have:t.cls = -1:=by simpa [bare,ht] using hb
    simp [hp (typed t) this (by simp [typed,ht])]
theorem fld_any {f:Fld} (hb:bare f.ty=true):(fldU f).any p=(fref f).any p:=by simp [fldU,fref,ty_any hp hb]
theorem heads_any {u:Unt} (hc:classless u=true):(headsU u).any p=(refs u).any p:=by
  unfold classless at hc
  simp only [Bool.and_eq_true,List.all_eq_true] at hc
  obtain ⟨⟨h1,h2⟩,h3⟩:=hc
  unfold headsU refs
  rw [List.any_append,List.any_append,List.any_append,List.any_append,List.any_flatMap,List.any_flatMap,List.any_flatMap,List.any_flatMap,List.any_flatMap,List.any_flatMap]
  congr 1
  · congr 1
    · refine any_congr fun c hcm => ?_
      have hb:=h1 c hcm
      simp only [bcls,List.all_eq_true] at hb
      simp only [clsU,cref,List.any_cons,List.any_append,List.any_nil,Bool.or_false,Bool.or_assoc]
      congr 2
      rw [List.any_flatMap,List.any_flatMap]
      exact any_congr fun f hf=>fld_any hp (hb f hf)
    · exact any_congr fun f hf=>fld_any hp (h2 f hf)
  · refine any_congr fun m hm => ?_
    have hb:=h3 m hm
    simp only [bmth,Bool.and_eq_true,List.all_eq_true] at hb
    obtain ⟨⟨g1,g2⟩,g3⟩:=hb
    have e:∀ l:List Ty,(∀ t∈l,bare t=true)→(l.flatMap tyU).any p=(l.map typed).any p:=fun l hl=>by
      rw [List.any_flatMap,List.any_map]
      exact any_congr fun t ht=>ty_any hp (hl t ht)
    simp only [mthU,mref,List.any_cons,List.any_append,List.any_nil,Bool.or_false,Bool.or_assoc,List.flatMap_cons,List.flatMap_nil,List.append_nil]
    rw [e _ g2,e _ g3,ty_any hp g1]
end
theorem bey_none (u:Unt):∀ r:Rf,r.at' = -1→r.opt=true→beyB u r=false:=fun r h1 h2=>by simp [beyB,refOk,h1,h2]
theorem frm_none (u:Unt):∀ r:Rf,r.at' = -1→r.opt=true→frmB u r=false:=fun r h1 h2=>by simp [frmB,h1]
theorem heads_bey {u:Unt} (hc:classless u=true):(headsU u).any (beyB u) = !(refs u).all (refOk u.pool.length):=by
  rw [heads_any (bey_none u) hc,List.not_all_eq_any_not];rfl
theorem heads_frm {u:Unt} (hc:classless u=true) (hr:(refs u).all (refOk u.pool.length)=true):(headsU u).any (frmB u) = !refsOk u:=by
  rw [heads_any (frm_none u) hc]
  unfold refsOk
  rw [List.not_all_eq_any_not]
  rw [List.all_eq_true] at hr
  have:∀ l:List Rf,(∀ r∈l,refOk u.pool.length r=true)→l.any (frmB u)=l.any fun r => !!(decide (0≤r.at')&&decide (¬(path (nm u r.at'):Int)=r.parts)):=by
    intro l hl
    induction l with
    | nil=>rfl
    | cons r l ih =>
      rw [List.any_cons,List.any_cons,ih fun x hx=>hl x (List.mem_cons_of_mem _ hx)]
      congr 1
      unfold frmB
      rw [hl r (List.mem_cons_self ..)];simp
  exact this _ hr
theorem op_any {u:Unt} {i:Ins} (hv:validI i true=true):((opU i).any (beyB u)||(opU i).any (frmB u)) = !insOk u i:=by
  have hge:=operand_ge i hv
  have h12:i.op=12→i.a=2∨i.a=3∨i.a=4:=fun h=>by
    obtain ⟨op,a,b⟩:=i
    subst h
    simp [validI,inR,rngs,isPool] at hv
    simp only
    omega
  have key:opU i=if 0<(operand i).2 then [⟨(operand i).1,(operand i).2,false⟩] else []:=by
    unfold opU operand named
    by_cases e1:i.op=17∨i.op=18
    · simp [e1]
    by_cases e2:i.op=14∨i.op=24∨i.op=22∨i.op=23∨i.op=25
    · simp [e1,e2]
    by_cases e3:i.op=16
    · simp [e3]
    by_cases e4:i.op=12
    · have:=h12 e4
      by_cases e5:i.a=3
      · simp [e4,e5]
      · have e6:i.a=2∨i.a=4:=by omega
        simp [e4,e5,e6]
    by_cases e7:i.op=26
    · simp [e7]
    simp [e1,e2,e3,e4,e7]
  rw [key]
  unfold insOk
  by_cases h0:0<(operand i).2
  · have h1:=hge h0
    simp only [if_pos h0,List.any_cons,List.any_nil,Bool.or_false,decide_eq_true h0,Bool.true_and,Bool.not_not]
    unfold beyB frmB refOk
    simp only [Bool.and_false,Bool.false_or]
    by_cases h2:(operand i).1≥u.pool.length
    · simp [h2]
    · have h3:¬(operand i).1<0:=by omega
      simp [h2,h3,h1]
  · simp [h0]
end Go.Proofs.YtkmdfjpafkcleaaGreatDoor
namespace Go.Proofs.YtkmdfjpafkcleaaGreatDoor
open Eng Go.RowKit
structure SeeJ (u:Unt) (bb bf:Nat) (w0:World) (pre:List Rf) (w:World):Prop where
  os:w.os=w0.os
  tape:w.tape=w0.tape
  output:w.output=w0.output
  size:w0.heap.size≤w.heap.size
  block:∀ k,k<w0.heap.size→k≠bb→k≠bf→w.heap[k]? = w0.heap[k]?
  bey:Box w bb 4 [.bool (pre.any (beyB u))]
  frm:Box w bf 4 [.bool (pre.any (frmB u))]
abbrev seeS (bb bf:Nat) (w0:World):Nat→Prop:=fun i=>i<w0.heap.size∧i≠bb∧i≠bf
theorem SeeJ.bl {u:Unt} {bb bf:Nat} {w0:World} {pre:List Rf} {w w':World} (h:SeeJ u bb bf w0 pre w) (k:Bl w w'):SeeJ u bb bf w0 pre w' :=
  ⟨k.os.trans h.os,k.tape.trans h.tape,k.output.trans h.output,Nat.le_trans h.size k.size,fun i h1 h2 h3=>(k.block i (Nat.lt_of_lt_of_le h1 h.size)).trans (h.block i h1 h2 h3),Bl.box k h.bey,Bl.box k h.frm⟩
theorem SeeJ.kp {u:Unt} {bb bf:Nat} {w0:World} {pre:List Rf} {w:World} (h:SeeJ u bb bf w0 pre w):Kp (seeS bb bf w0) w0 w:=fun b o v s x=>by
  rw [World.cell?_of_block (w:=w0) (h.block b s.1 s.2.1 s.2.2)];exact x
theorem SeeJ.below {u:Unt} {bb bf B:Nat} {w00 w0:World} {pre:List Rf} {w:World} (h:SeeJ u bb bf w0 pre w) (k:Below B w00 w0) (h1:B≤bb) (h2:B≤bf) (h3:B≤w0.heap.size):Below B w00 w :=
  ⟨h.os.trans k.os,h.tape.trans k.tape,h.output.trans k.output,Nat.le_trans k.size h.size,fun i hi=>(h.block i (by omega) (by omega) (by omega)).trans (k.block i hi)⟩
theorem v_see (u:Unt) (a:UA) (b1 bb bf:Nat) (hne:bb≠bf) (n1:b1≠bb) (n2:b1≠bf) (w0:World) (hb1:b1<w0.heap.size) (_hbb:bb<w0.heap.size) (_hbf:bf<w0.heap.size) (hU:UnR (seeS bb bf w0) w0 u a) (hx:At w0 b1 0 (ucells u a)) (hG:Gl w0) (hGg:seeS bb bf w0 0) (N:Nat) :
    EachC (seeS bb bf w0) w0 140 [.pointer (some ⟨b1,0,none⟩),.pointer (some ⟨bb,0,none⟩),.pointer (some ⟨bf,0,none⟩)] (SeeJ u bb bf w0) (fun _=>True) N:=by
  refine ⟨fun pre w h=>h.kp,fun pre w w' k h=>h.bl k,fun pre r b o w _ _ _ hJ hc => ?_⟩
  have hb1S:seeS bb bf w0 b1:=⟨hb1,n1,n2⟩
  show Ret Tryz.prog 140 #[.agg #[.pointer (some ⟨b,o,none⟩),I r.parts,.bool r.opt],.pointer (some ⟨b1,0,none⟩),.pointer (some ⟨bb,0,none⟩),.pointer (some ⟨bf,0,none⟩)] w _
  refine entr (vs:=[.agg #[.pointer (some ⟨b,o,none⟩),I r.parts,.bool r.opt],.pointer (some ⟨b1,0,none⟩),.pointer (some ⟨bb,0,none⟩),.pointer (some ⟨bf,0,none⟩)]) [0,1,2,3,4,5,10,17,27] tabok Tryz.func140 (by kernel_rfl) ?_
  refine bx (cs:=[.pointer (some ⟨b,o,none⟩),I r.parts,.bool r.opt]) fun b4 w1 h1 => ?_
  have hJ1:=hJ.bl h1.bl
  have X1:=hx.kp hJ1.kp hb1S
  refine ld (h1.box.cell rfl) ?_
  refine ld (h1.bl.kp T _ _ _ trivial hc) ?_
  refine ld (h1.box.cell rfl) ?_
  have e1:∀ p:Rf→Bool,(pre++[r]).any p=(pre.any p||p r):=fun p=>by rw [List.any_append];simp
  have stay:beyB u r=false→frmB u r=false→∀ {w'},SeeJ u bb bf w0 pre w'→SeeJ u bb bf w0 (pre++[r]) w':=fun h1 h2 w' h=>⟨h.os,h.tape,h.output,h.size,h.block,by rw [e1,h1,Bool.or_false];exact h.bey,by rw [e1,h2,Bool.or_false];exact h.frm⟩
  refine br (t:=r.opt&&decide (r.at' = -1)) (fun h => ?_) (fun h => ?_)
  · simp only [Bool.and_eq_true,decide_eq_true_eq] at h
    exact en (vs:=[]) (stay (bey_none u r h.2 h.1) (frm_none u r h.2 h.1) hJ1)
  refine ldg (fun _=>X1 1 _ rfl) ?_
  refine br (t:=decide (r.at'<0)||decide ((u.pool.length:Int)≤r.at')) (fun h2 => ?_) (fun h2 => ?_)
  · have hb:beyB u r=true:=by
      unfold beyB refOk
      have e3:(decide (r.at' = -1)&&r.opt)=false:=by rw [Bool.and_comm];exact h
      rw [e3];simpa using h2
    have hf:frmB u r=false:=by unfold frmB;unfold beyB at hb;simp at hb;simp [hb]
    refine st hJ1.bey (fun w2 h3 y3 => ?_)
    refine en (vs:=[]) ⟨h3.os.trans hJ1.os,h3.tape.trans hJ1.tape,h3.output.trans hJ1.output,by rw [h3.size];exact hJ1.size,fun i g1 g2 g3=>(h3.block i g2).trans (hJ1.block i g1 g2 g3),by rw [e1,hb,Bool.or_true];exact y3,by rw [e1,hf,Bool.or_false];exact h3.box hJ1.frm (Ne.symm hne)⟩
  have hin:inP u r.at':=by
    simp only [Bool.or_eq_false_iff,decide_eq_false_iff_not] at h2
    exact ⟨by omega,by omega⟩
  have hok:refOk u.pool.length r=true:=by unfold refOk;obtain ⟨g1,g2⟩:=hin;simp;right;omega
  have hb:beyB u r=false:=by unfold beyB;rw [hok];rfl
  obtain ⟨b9,o9,e9,hS9,hc9,hz9,hi9,hp9⟩:=pool_at hU hin
  refine dh T [0,1,2,3,4,6,7,5,8,9] fun w2 h2 => ?_
  have hJ2:=hJ1.bl h2.bl
  refine ld ((hx.kp hJ2.kp hb1S) 1 _ rfl) ?_
  rw [e9]
  refine ix (hij:=hi9) ?_
  refine ld (hJ2.kp _ _ _ hS9 hc9) ?_
  refine ld ((h2.box h1.box).cell rfl) ?_
  refine cl (u_Path (nm u r.at') w2 hz9 (hG.kp hJ2.kp hGg)) ?_
  rintro _ w3 ⟨rfl,hB3⟩
  have hJ3:=hJ2.bl hB3
  refine br (t:=decide (¬(path (nm u r.at'):Int)=r.parts)) (fun h3 => ?_) (fun h3 => ?_)
  · have hf:frmB u r=true:=by unfold frmB;rw [hok,decide_eq_true hin.1,h3];rfl
    refine st hJ3.frm (fun w4 h4 y4 => ?_)
    refine en (vs:=[]) ⟨h4.os.trans hJ3.os,h4.tape.trans hJ3.tape,h4.output.trans hJ3.output,by rw [h4.size];exact hJ3.size,fun i g1 g2 g3=>(h4.block i g3).trans (hJ3.block i g1 g2 g3),by rw [e1,hb,Bool.or_false];exact h4.box hJ3.bey hne,by rw [e1,hf,Bool.or_true];exact y4⟩
  · have hf:frmB u r=false:=by unfold frmB;rw [h3,Bool.and_false]
    exact en (vs:=[]) (stay hb hf hJ3)
end Go.Proofs.YtkmdfjpafkcleaaGreatDoor
namespace Go.Proofs.YtkmdfjpafkcleaaGreatDoor
open Eng Go.RowKit
theorem Gl.lt {w:World} (h:Gl w):0<w.heap.size:=let ⟨_,hm⟩:=h;cell_lt hm
theorem u_Check2 (s:ByteArray) (w:World) (hs:s.size≤1048576) (hG:Gl w):Ret Tryz.prog 145 #[.string s] w fun v w'=>v = .bool (decide ((path s:Int)=0))∧Bl w w':=by
  refine entr (vs:=[.string s]) [0,2] tabok Tryz.func145 (by kernel_rfl) ?_
  refine cl (u_Path s w hs hG) ?_
  rintro _ w1 ⟨rfl,hB⟩
  exact rt1 ⟨rfl,hB⟩
set_option maxHeartbeats 1000000 in
theorem u_Check (u:Unt) (a:UA) (w:World) (hU:UnR T w u a) (hG:Gl w):Ret Tryz.prog 89 #[.agg (ucells u a).toArray] w fun v w'=>v=I (checkE u)∧Bl w w':=by
  have hgl:=hG.lt
  refine entr (vs:=[.agg (ucells u a).toArray]) [0,1,2,3,4,5,7,8,10,12,21,24,30,32,35,36,37,38,45,49,50,51,52,63] tabok Tryz.func89 (by kernel_rfl) ?_
  refine bx (cs:=ucells u a) fun b1 w1 h1 => ?_
  refine al fun bb w2 h2 => ?_
  refine al fun bf w3 h3 => ?_
  have q1:=h1.blk
  have q2:=h2.blk
  have q3:=h3.blk
  have z1:=h1.size
  have z2:=h2.size
  have z3:=h3.size
  refine st (Bl.box h3.bl h2.box) (fun w4 h4 y4 => ?_)
  have hf4:=h4.box h3.box (by omega)
  refine st hf4 (fun w5 h5 y5 => ?_)
  have yb5:=h5.box y4 (by omega)
  have z4:=h4.size
  have z5:=h5.size
  have hB5:Bl w w5:=Below.trans (Below.trans ((h1.bl.trans h2.bl).trans h3.bl) (h4.below (by omega))) (h5.below (by omega))
  have x5:Box w5 b1 _ (ucells u a):=h5.box (h4.box (Bl.box (h2.bl.trans h3.bl) h1.box) (by omega)) (by omega)
  refine cl (u_long u a b1 w5 x5.at (hU.bl hB5)) ?_
  rintro _ w6 ⟨rfl,hB6⟩
  have hB06:=hB5.trans hB6
  refine br (t := !limits u) (fun h => ?_) (fun h => ?_)
  · exact rt1 ⟨vi (by unfold checkE;rw [if_pos (by simpa using h)]),hB06⟩
  have hl1:limits u=true:=by simpa using h
  have hL:=lim_of hl1
  have x6:=Bl.box hB6 x5
  refine ld (x6.cell rfl) ?_
  refine cl (u_Simple u.name w6 hU.nm) ?_
  rintro _ w6 ⟨rfl,rfl⟩
  refine ldg (fun _=>x6.cell rfl) ?_
  refine sp (.bool false) (fun q => ?_) (fun q => ?_)
  rotate_left
  · have hs0:simple u.name=false:=by simpa using q
    refine brt ?_ (hp:=by rw [hs0];rfl)
    exact rt1 ⟨vi (by unfold checkE;rw [if_neg (by rw [hl1];simp),if_pos hs0]),hB06⟩
  have hs1:simple u.name=true:=by simpa using q
  refine cl (ContainsFunc_str u.pool a.a1 a.c1 145 [] (fun s=>decide ((path s:Int)=0)) T w6 (hU.bl hB06).pool (fun s cs hs w' hB' hr => ?_)) ?_
  · obtain rfl:cs=[.string s]:=hr
    exact u_Check2 s w' (hU.ps s hs) (hG.bl (hB06.trans hB'))
  rintro _ w7 ⟨rfl,hB7⟩
  have hB07:=hB06.trans hB7
  have eP:pathsOk u = !(u.pool.any fun s=>decide ((path s:Int)=0)):=by
    unfold pathsOk
    rw [←Bool.not_not (u.pool.all _),List.not_all_eq_any_not]
    congr 1
    exact congrArg (fun f=>u.pool.any f) (funext fun s=>by by_cases h:(path s:Int)=0 <;> simp [h])
  refine br (t:=false||u.pool.any fun s=>decide ((path s:Int)=0)) (fun h => ?_) (fun h => ?_)
  · have h':(u.pool.any fun s=>decide ((path s:Int)=0))=true:=by simpa using h
    exact rt1 ⟨vi (by unfold checkE;rw [if_neg (by rw [hl1];simp),if_neg (by rw [hs1];simp),if_pos (by rw [eP,h'];rfl)]),hB07⟩
  have h':(u.pool.any fun s=>decide ((path s:Int)=0))=false:=by simpa using h
  have hp1:pathsOk u=true:=by rw [eP,h'];rfl
  have hE1:checkE u=if (kinds u&&places u)=false then 1 else if refsOk u=false then 8 else if doubled u=true then 9 else if mErr u.methods≠0 then mErr u.methods else if codesOk u=false then 8 else 0:=by
    unfold checkE;rw [if_neg (by rw [hl1];simp),if_neg (by rw [hs1];simp),if_neg (by rw [hp1];simp)]
  have z6:=hB6.size
  have z7:=hB7.size
  have x7:=Bl.box hB7 x6
  have U7:UnR (seeS bb bf w7) w7 u a:=((hU.lt).bl hB07).sub fun i hi=>⟨by omega,by omega,by omega⟩
  have hE:=v_see u a b1 bb bf (by omega) (by omega) (by omega) w7 x7.lt (by omega) (by omega) U7 x7.at (hG.bl hB07) ⟨by omega,by omega,by omega⟩
  have hJ7:SeeJ u bb bf w7 [] w7:=⟨rfl,rfl,rfl,Nat.le_refl _,fun _ _ _ _=>rfl,Bl.box (hB6.trans hB7) yb5,Bl.box (hB6.trans hB7) y5⟩
  have hbS:seeS bb bf w7 b1:=⟨x7.lt,by omega,by omega⟩
  have jb:∀ {pre w'},SeeJ u bb bf w7 pre w'→Bl w w':=fun h=>h.below hB07 (by omega) (by omega) hB07.size
  refine cl (h_heads (hE _) u (fun _ _=>trivial) a U7 b1 0 hbS x7.at [] w7 hJ7 (Nat.le_refl _)) ?_
  intro v8 w8 hJ8
  rw [List.nil_append] at hJ8
  have hB08:=jb hJ8
  have z8:=hJ8.size
  have X8:=x7.at.kp hJ8.kp hbS
  refine ld (hJ8.bey.cell rfl) ?_
  have U8':UnR (· < w8.heap.size) w8 u a:=((hU.lt).bl hB08).sub fun i hi=>by omega
  have hbey:∀ {c:Bool},classless u=c→c=true→(headsU u).any (beyB u) = !(refs u).all (refOk u.pool.length):=fun h1 h2=>heads_bey (by rw [h1,h2])
  refine sp (.bool false) (fun q => ?_) (fun q => ?_)
  rotate_left
  ·
    have q':(headsU u).any (beyB u)=true:=by simpa using q
    refine brt ?_ (hp:=by rw [q'];rfl)
    refine rt1 ⟨vi ?_,hB08⟩
    rw [hE1,if_pos]
    cases hc:classless u with
    | false=>unfold places;rw [hc];simp
    | true =>
      rw [heads_bey hc] at q'
      unfold places
      have:(refs u).all (refOk u.pool.length)=false:=by simpa using q'
      rw [this];simp
  have hb8:(headsU u).any (beyB u)=false:=by simpa using q
  refine cl (u_kinds u a b1 w8 U8' (by omega) X8 hL) ?_
  rintro _ w9 ⟨rfl,hB9⟩
  have hJ9:=hJ8.bl hB9
  have hB09:=hB08.trans hB9
  refine br (t:=false || !kgood u) (fun h => ?_) (fun h => ?_)
  · have h1:kgood u=false:=by simpa using h
    refine rt1 ⟨vi ?_,hB09⟩
    rw [hE1,if_pos]
    rw [kgood_eq] at h1
    unfold places
    cases hk:kinds u
    · rfl
    · rw [hk] at h1
      have:classless u=false:=by simpa using h1
      rw [this];simp
  have h1:kgood u=true:=by simpa using h
  rw [kgood_eq,Bool.and_eq_true] at h1
  obtain ⟨hk1,hc1⟩:=h1
  have hr1:(refs u).all (refOk u.pool.length)=true:=by rw [heads_bey hc1] at hb8;simpa using hb8
  have hpl:places u=true:=by unfold places;rw [hr1,hc1];rfl
  have hP:Plc u:=plc_of hr1
  have hE2:checkE u=if refsOk u=false then 8 else if doubled u=true then 9 else if mErr u.methods≠0 then mErr u.methods else if codesOk u=false then 8 else 0:=by rw [hE1,if_neg (by rw [hk1,hpl];simp)]
  have hf8:=heads_frm hc1 hr1
  refine ld (hJ9.frm.cell rfl) ?_
  refine br (t:=(headsU u).any (frmB u)) (fun h => ?_) (fun h => ?_)
  · refine rt1 ⟨vi ?_,hB09⟩
    rw [hE2,if_pos]
    rw [hf8] at h;simpa using h
  have hrf:refsOk u=true:=by rw [hf8] at h;simpa using h
  have hE3:checkE u=if doubled u=true then 9 else if mErr u.methods≠0 then mErr u.methods else if codesOk u=false then 8 else 0:=by rw [hE2,if_neg (by rw [hrf];simp)]
  have X:∀ {pre w'},SeeJ u bb bf w7 pre w'→At w' b1 0 (ucells u a):=fun h=>x7.at.kp h.kp hbS
  refine cl (u_doubled u a b1 w9 (hU.bl hB09) (X hJ9) hL hP) ?_
  rintro _ w10 ⟨rfl,hB10⟩
  have hJ10:=hJ9.bl hB10
  have hB010:=hB09.trans hB10
  refine br (t:=doubled u) (fun h => ?_) (fun h => ?_)
  · exact rt1 ⟨vi (by rw [hE3,if_pos h]),hB010⟩
  have hE4:checkE u=if mErr u.methods≠0 then mErr u.methods else if codesOk u=false then 8 else 0:=by rw [hE3,if_neg (by rw [h];simp)]
  have nm3:=hL.mth
  refine ld (X hJ10 4 _ rfl) ?_
  refine lpk u.methods.length 37 [] [(1,.pointer (some ⟨b1,0,none⟩)),(3,.pointer (some ⟨bb,0,none⟩)),(4,.pointer (some ⟨bf,0,none⟩)),(5,.func (.func 140) #[] #[.pointer (some ⟨b1,0,none⟩),.pointer (some ⟨bb,0,none⟩),.pointer (some ⟨bf,0,none⟩)]),(35,.slice a.a4 u.methods.length a.c4),(36,I u.methods.length)]
    (fun k vals w'=>vals=[]∧(∀ m∈u.methods.take k,codeE m.code true=0)∧SeeJ u bb bf w7 (headsU u) w') ⟨rfl,by simp,hJ10⟩ ?_
  rintro k vals w11 hk ⟨rfl,ha11,hJ11⟩ ih
  have hB11:=jb hJ11
  by_cases hlt:k<u.methods.length
  · refine brT ?_
    obtain ⟨m,b2,o2,cs,hm,e2,_,hAt,a1,c1,a2,c2,a3,c3,rfl,f1,f2,f3⟩:=at_some (hU.bl hB11).mth hlt
    rw [e2]
    refine ix ?_
    refine lda hAt ?_
    refine al fun b12 w12 h12 => ?_
    refine sta h12.box (fun w13 h13 y13 => ?_)
    have hB13:=Eng.New.wr h12 h13
    refine ld (y13.cell rfl) ?_
    refine cl (u_codeCheck m.code a3 c3 true T w13 (f3.bl hB13)) ?_
    rintro _ w14 ⟨rfl,hB14⟩
    have hJ14:=hJ11.bl (hB13.trans hB14)
    refine br (t:=decide (¬codeE m.code true=0)) (fun h => ?_) (fun h => ?_)
    · have h4:=of_decide_eq_true h
      refine rt1 ⟨vi ?_,jb hJ14⟩
      have:=mErr_hit hm ha11 h4
      rw [hE4,if_pos (by rw [this];exact h4),this]
    · have h4:=Classical.not_not.1 (of_decide_eq_false h)
      refine ih hlt ⟨rfl,fun y hy => ?_,hJ14⟩ (hsub:=by simp only [e2];repeat (first | exact True.intro | (refine ⟨rfl,?_⟩)))
      rw [take_succ_some hm,List.mem_append] at hy
      rcases hy with hy | hy
      · exact ha11 y hy
      · simp at hy;subst hy;exact h4
  refine brF ?_
  obtain rfl:k=u.methods.length:=by omega
  rw [List.take_length] at ha11
  have hE5:checkE u=if codesOk u=false then 8 else 0:=by rw [hE4,if_neg (by rw [mErr_none ha11];simp)]
  refine ld (X hJ11 4 _ rfl) ?_
  refine lpk u.methods.length 51 [] [(3,.pointer (some ⟨bb,0,none⟩)),(4,.pointer (some ⟨bf,0,none⟩)),(5,.func (.func 140) #[] #[.pointer (some ⟨b1,0,none⟩),.pointer (some ⟨bb,0,none⟩),.pointer (some ⟨bf,0,none⟩)]),(49,.slice a.a4 u.methods.length a.c4),(50,I u.methods.length)]
    (fun k vals w'=>vals=[]∧SeeJ u bb bf w7 (headsU u++(u.methods.take k).flatMap fun m=>m.code.flatMap opU) w') ⟨rfl,by simpa using hJ11⟩ ?_
  rintro k vals w15 hk ⟨rfl,hJ15⟩ ih
  by_cases hlt:k<u.methods.length
  · refine brT ?_
    obtain ⟨m,b2,o2,cs,hm,e2,hSb,hAt0,a1,c1,a2,c2,a3,c3,rfl,f1,f2,f3⟩:=at_some U7.mth hlt
    rw [e2]
    refine ix ?_
    refine lda (hAt0.kp hJ15.kp hSb) ?_
    refine al fun b16 w16 h16 => ?_
    refine sta h16.box (fun w17 h17 y17 => ?_)
    have hJ17:=hJ15.bl (Eng.New.wr h16 h17)
    refine ld (y17.cell rfl) ?_
    refine cl (h_operands (hE _) m.code (fun _ _ _ _=>trivial) a3 c3 f3 _ w17 hJ17 (Nat.le_refl _)) ?_
    intro v18 w18 hJ18
    refine ih hlt ⟨rfl,?_⟩ (hsub:=by simp only [e2];repeat (first | exact True.intro | (refine ⟨rfl,?_⟩)))
    rw [flatMap_snoc hm,←List.append_assoc];exact hJ18
  refine brF ?_
  obtain rfl:k=u.methods.length:=by omega
  rw [List.take_length] at hJ15
  refine ld (hJ15.bey.cell rfl) ?_
  refine ldg (fun _=>hJ15.frm.cell rfl) ?_
  have hfin:(((headsU u++u.methods.flatMap fun m=>m.code.flatMap opU).any (beyB u))||(headsU u++u.methods.flatMap fun m=>m.code.flatMap opU).any (frmB u)) = !codesOk u:=by
    have hf0:(headsU u).any (frmB u)=false:=by rw [hf8,hrf];rfl
    rw [List.any_append,List.any_append,hb8,hf0,Bool.false_or,Bool.false_or]
    have hval:∀ m∈u.methods,∀ i∈m.code,validI i true=true:=fun m hm i hi=>by
      have:=ha11 m hm
      unfold codeE at this
      split at this
      · cases this
      · split at this
        · rename_i hv
          exact List.all_eq_true.1 hv i hi
        · cases this
    have orflat:∀ {α:Type} (f:α→List Rf) (l:List α),((l.flatMap f).any (beyB u)||(l.flatMap f).any (frmB u))=l.any fun x=>(f x).any (beyB u)||(f x).any (frmB u):=fun f l=>by
      induction l with
      | nil=>rfl
      | cons x l ih =>
        rw [List.flatMap_cons,List.any_append,List.any_append,List.any_cons,←ih]
        cases (f x).any (beyB u) <;> cases (f x).any (frmB u) <;> cases (l.flatMap f).any (beyB u) <;> cases (l.flatMap f).any (frmB u) <;> rfl
    rw [orflat]
    unfold codesOk
    rw [List.not_all_eq_any_not]
    refine any_congr fun m hm => ?_
    rw [orflat,List.not_all_eq_any_not]
    exact any_congr fun i hi=>op_any (hval m hm i hi)
  refine br (t:=((headsU u++u.methods.flatMap fun m=>m.code.flatMap opU).any (beyB u))||(headsU u++u.methods.flatMap fun m=>m.code.flatMap opU).any (frmB u)) (fun h => ?_) (fun h => ?_)
  · rw [hfin] at h
    exact rt1 ⟨vi (by rw [hE5,if_pos (by simpa using h)]),jb hJ15⟩
  · rw [hfin] at h
    exact rt1 ⟨vi (by rw [hE5,if_neg (by simpa using h)]),jb hJ15⟩
end Go.Proofs.YtkmdfjpafkcleaaGreatDoor
namespace Go.Proofs.YtkmdfjpafkcleaaGreatDoor
open Eng Go.RowKit
theorem k_method1 (m:Mod) (a:MA) (k:Nat) (i:Ins) (b b2:Nat) (w:World) (hx:At w b 0 (modcells m a)) (hx2:w.cell? ⟨b2,0,none⟩=some (I k)) (hv:validI i false=true) (hk:k≤m.methods.length) (hC:∀ y∈m.methods,-1≤y.cls) (hT:∀ c∈m.classes,(c.table.length:Int)=m.sels) (hM:MdR T w m a) :
    Ret Tryz.prog 174 #[.agg (encIns i).toArray,.pointer (some ⟨b,0,none⟩),.pointer (some ⟨b2,0,none⟩)] w fun v w'=>v = .bool (!oprB m k i)∧Bl w w':=by
  refine entr (vs:=[.agg (encIns i).toArray,.pointer (some ⟨b,0,none⟩),.pointer (some ⟨b2,0,none⟩)]) [0,1,2,3,4] tabok Tryz.func174 (by kernel_rfl) ?_
  refine bx (cs:=encIns i) fun b3 w3 k3 => ?_
  refine lda (hx.bl k3.bl) ?_
  refine ld (Bl.cl k3.bl hx2) ?_
  refine lda k3.box.at ?_
  refine cl (k_operandM m a k i hv hk hC hT w3 (hM.bl k3.bl)) ?_
  rintro _ w4 ⟨rfl,B4⟩
  exact rt1 ⟨rfl,k3.bl.trans B4⟩
def room (x:MM):Int:=10-x.params.length-(if 0≤x.cls then 1 else 0)
set_option maxHeartbeats 4000000 in
theorem k_method (m:Mod) (a:MA) (k:Nat) (x:MM) (w:World) (hM:MdR T w m a) (hx:m.methods[k]? = some x) (hc10:m.classes.length≤10) (_hm16:m.methods.length≤16) (hC:∀ y∈m.methods,-1≤y.cls) (hT:∀ c∈m.classes,(c.table.length:Int)=m.sels) :
    Ret Tryz.prog 113 #[.agg (modcells m a).toArray,I k] w fun v w'=>(∃ b,v = .bool b∧(b=true↔MthP m k x))∧Bl w w':=by
  have hlt:k<m.methods.length:=(List.getElem?_eq_some_iff.1 hx).1
  obtain ⟨x',b,o,cs,hx',e2,_,hAt,a3,c3,a4,c4,a5,c5,rfl,f1,f2,f3,_⟩:=at_some hM.mth hlt
  obtain rfl:x=x':=by rw [hx] at hx';exact Option.some.inj hx'
  have q1:=f1.big
  have q2:=f2.big
  have q3:=f3.big
  have no:(MthP m k x→False)→(false=true↔MthP m k x):=fun h=>⟨(fun q=>(by cases q)),fun q=>(h q).elim⟩
  refine entr (vs:=[.agg (modcells m a).toArray,I k]) [0,1,2,3,4,5,6,19] tabok Tryz.func113 (by kernel_rfl) ?_
  refine bx (cs:=modcells m a) fun b1 w1 k1 => ?_
  refine bx (cs:=[I k]) fun b2 w2 k2 => ?_
  have B2:=k1.bl.trans k2.bl
  have x1:=Bl.box k2.bl k1.box
  have x2:=k2.box
  refine ld (x1.cell rfl) ?_
  refine ld (x2.cell rfl) ?_
  rw [e2]
  refine ix ?_
  refine lda (hAt.bl B2) ?_
  refine al fun b5 w3 h3 => ?_
  refine sta (cs':=mmcells x a3 c3 a4 c4 a5 c5) h3.box fun w4 k4 x4 => ?_
  have B24:=h3.wr k4
  have B4:=B2.trans B24
  have y4:=Bl.box B24 x1
  have z4:=Bl.box B24 x2
  refine ld (x4.cell rfl) ?_
  refine ld (x4.cell rfl) ?_
  rw [show IntKind.wrap .i64 (10-(x.params.length:Int))=10-(x.params.length:Int) from wrap_fit (by omega) (by omega)]
  refine jn [6] [(2,.pointer (some ⟨b1,0,none⟩)),(3,.pointer (some ⟨b2,0,none⟩)),(5,.pointer (some ⟨b5,0,none⟩))] (fun vals w'=>vals=[I (room x)]∧w4=w') (fun h jo => ?_) (fun h jo => ?_) ?_
  · have h':0≤x.cls:=of_decide_eq_true h
    refine jo ⟨?_,rfl⟩
    rw [wrap_fit (by omega) (by omega)]
    unfold room;rw [if_pos h']
  · have h':¬0≤x.cls:=of_decide_eq_false h
    refine jo ⟨?_,rfl⟩
    unfold room;rw [if_neg h',Int.sub_zero]
  rintro vals _ ⟨rfl,rfl⟩
  refine ld (x4.cell rfl) ?_
  refine ldg (fun _=>x4.cell rfl) ?_
  refine ldg (fun _=>y4.cell rfl) ?_
  by_cases hA : -1≤x.cls∧x.cls<m.classes.length
  rotate_left
  · refine spn (.agg (modcells m a).toArray) ?_ (hb:=by first | rfl | (simp;done) | (simp;omega))
    refine ldg (fun _=>x4.cell rfl) ?_
    refine spn (.bool false) ?_ (hb:=by first | rfl | (simp;done) | (simp;omega))
    refine spn (.agg (modcells m a).toArray) ?_ (hb:=by first | rfl | (simp;done) | (simp;omega))
    refine ldg (fun _=>x4.cell rfl) ?_
    refine spn (.bool false) ?_ (hb:=by first | rfl | (simp;done) | (simp;omega))
    refine spn (.agg (modcells m a).toArray) ?_ (hb:=by first | rfl | (simp;done) | (simp;omega))
    refine spn (.agg (encTy x.result).toArray) ?_ (hb:=by first | rfl | (simp;done) | (simp;omega))
    refine spn (.bool false) ?_ (hb:=by first | rfl | (simp;done) | (simp;omega))
    refine ldg (fun _=>x4.cell rfl) ?_
    refine spn (I 0) ?_ (hb:=by first | rfl | (simp;done) | (simp;omega))
    refine ldg (fun _=>x4.cell rfl) ?_
    refine spn (.bool false) ?_ (hb:=by first | rfl | (simp;done) | (simp;omega))
    refine rt1 ⟨⟨false,congrArg Value.bool ?_,no fun q=>by have:=q.c1;have:=q.c2;omega⟩,B4⟩
    first | rfl | (simp;done) | (simp;omega)
  have hrl:∀ q:MthP m k x,(x.locals.length:Int)≤room x:=fun q=>by have:=q.ll;unfold room;omega
  refine spt (.agg (modcells m a).toArray) ?_ (hb:=by first | rfl | (simp;done) | (simp;omega))
  refine lda y4.at ?_
  refine ldg (fun _=>x4.cell rfl) ?_
  refine spt (.bool false) ?_ (hb:=by first | rfl | (simp;done) | (simp;omega))
  refine cl (k_areTypes m a x.params a3 c3 4 w4 (f1.bl B4) (by omega)) ?_
  rintro _ w5 ⟨rfl,B45⟩
  have B5:=B4.trans B45
  have x5:=Bl.box B45 x4
  have y5:=Bl.box B45 y4
  have z5:=Bl.box B45 z4
  obtain ⟨t1,et1⟩:∃ t,(decide ((x.params.length:Int)≤4)&&x.params.all fun t=>ityp m t 1)=t:=⟨_,rfl⟩
  rw [et1]
  cases t1 with
  | false =>
    refine spn (.agg (modcells m a).toArray) ?_ (hb:=by first | rfl | (simp;done) | (simp;omega))
    refine ldg (fun _=>x5.cell rfl) ?_
    refine spn (.bool false) ?_ (hb:=by first | rfl | (simp;done) | (simp;omega))
    refine spn (.agg (modcells m a).toArray) ?_ (hb:=by first | rfl | (simp;done) | (simp;omega))
    refine spn (.agg (encTy x.result).toArray) ?_ (hb:=by first | rfl | (simp;done) | (simp;omega))
    refine spn (.bool false) ?_ (hb:=by first | rfl | (simp;done) | (simp;omega))
    refine ldg (fun _=>x5.cell rfl) ?_
    refine spn (I 0) ?_ (hb:=by first | rfl | (simp;done) | (simp;omega))
    refine ldg (fun _=>x5.cell rfl) ?_
    refine spn (.bool false) ?_ (hb:=by first | rfl | (simp;done) | (simp;omega))
    refine rt1 ⟨⟨false,congrArg Value.bool ?_,no fun q=>by rw [List.all_eq_true.2 q.pt,decide_eq_true (show (x.params.length:Int)≤4 by have:=q.pl;omega)] at et1;cases et1⟩,B5⟩
    first | rfl | (simp;done) | (simp;omega)
  | true =>
  refine spt (.agg (modcells m a).toArray) ?_ (hb:=by first | rfl | (simp;done) | (simp;omega))
  refine lda y5.at ?_
  refine ldg (fun _=>x5.cell rfl) ?_
  refine spt (.bool false) ?_ (hb:=by first | rfl | (simp;done) | (simp;omega))
  refine cl (k_areTypes m a x.locals a4 c4 (room x) w5 (f2.bl B5) (by omega)) ?_
  rintro _ w6 ⟨rfl,B56⟩
  have B6:=B5.trans B56
  have x6:=Bl.box B56 x5
  have y6:=Bl.box B56 y5
  have z6:=Bl.box B56 z5
  obtain ⟨t2,et2⟩:∃ t,(decide ((x.locals.length:Int)≤room x)&&x.locals.all fun t=>ityp m t 1)=t:=⟨_,rfl⟩
  rw [et2]
  cases t2 with
  | false =>
    refine spn (.agg (modcells m a).toArray) ?_ (hb:=by first | rfl | (simp;done) | (simp;omega))
    refine spn (.agg (encTy x.result).toArray) ?_ (hb:=by first | rfl | (simp;done) | (simp;omega))
    refine spn (.bool false) ?_ (hb:=by first | rfl | (simp;done) | (simp;omega))
    refine ldg (fun _=>x6.cell rfl) ?_
    refine spn (I 0) ?_ (hb:=by first | rfl | (simp;done) | (simp;omega))
    refine ldg (fun _=>x6.cell rfl) ?_
    refine spn (.bool false) ?_ (hb:=by first | rfl | (simp;done) | (simp;omega))
    refine rt1 ⟨⟨false,congrArg Value.bool ?_,no fun q=>by rw [List.all_eq_true.2 q.lt,decide_eq_true (hrl q)] at et2;cases et2⟩,B6⟩
    first | rfl | (simp;done) | (simp;omega)
  | true =>
  refine spt (.agg (modcells m a).toArray) ?_ (hb:=by first | rfl | (simp;done) | (simp;omega))
  refine lda y6.at ?_
  refine spt (.agg (encTy x.result).toArray) ?_ (hb:=by first | rfl | (simp;done) | (simp;omega))
  refine lda (At.left (cs:=encTy x.result) x6.at.tail.tail.tail.tail) ?_
  refine spt (.bool false) ?_ (hb:=by first | rfl | (simp;done) | (simp;omega))
  refine cl (k_isTypeM m a x.result 0 (.inl rfl) w6 (by omega)) ?_
  rintro _ w7 ⟨rfl,B67⟩
  have B7:=B6.trans B67
  have x7:=Bl.box B67 x6
  have y7:=Bl.box B67 y6
  have z7:=Bl.box B67 z6
  cases hr:ityp m x.result 0 with
  | false =>
    refine ldg (fun _=>x7.cell rfl) ?_
    refine spn (I 0) ?_ (hb:=by first | rfl | (simp;done) | (simp;omega))
    refine ldg (fun _=>x7.cell rfl) ?_
    refine spn (.bool false) ?_ (hb:=by first | rfl | (simp;done) | (simp;omega))
    refine rt1 ⟨⟨false,congrArg Value.bool ?_,no fun q=>by rw [q.rt] at hr;cases hr⟩,B7⟩
    first | rfl | (simp;done) | (simp;omega)
  | true =>
  refine ldg (fun _=>x7.cell rfl) ?_
  refine spt (I 0) ?_ (hb:=by first | rfl | (simp;done) | (simp;omega))
  refine cl (u_codeCheck x.code a5 c5 false T w7 (f3.bl B7)) ?_
  rintro _ w8 ⟨rfl,B78⟩
  have B8:=B7.trans B78
  have x8:=Bl.box B78 x7
  have y8:=Bl.box B78 y7
  have z8:=Bl.box B78 z7
  by_cases hcd:codeE x.code false=0
  rotate_left
  · refine ldg (fun _=>x8.cell rfl) ?_
    refine spn (.bool false) ?_ (hb:=by first | (simp;done) | (simp;exact hcd))
    refine rt1 ⟨⟨false,congrArg Value.bool ?_,no fun q=>hcd q.cd⟩,B8⟩
    first | (simp;done) | (simp;exact hcd)
  have hval:=code_all hcd
  refine ldg (fun _=>x8.cell rfl) ?_
  refine spt (.bool false) ?_ (hb:=by first | (simp;done) | (simp;exact hcd))
  refine cl (ContainsFunc_ins x.code a5 c5 174 [.pointer (some ⟨b1,0,none⟩),.pointer (some ⟨b2,0,none⟩)] (fun i => !oprB m k i) T w8 (f3.bl B8) fun i cs hi w' kk hr => ?_) ?_
  · obtain rfl:cs=encIns i:=hr
    exact k_method1 m a k i b1 b2 w' (Bl.box kk y8).at ((Bl.box kk z8).cell rfl) (hval i hi) (by omega) hC hT (hM.bl (B8.trans kk))
  rintro _ w9 ⟨rfl,B9⟩
  simp only [Bool.and_eq_true,decide_eq_true_eq] at et1 et2
  refine rt1 ⟨⟨x.code.all (oprB m k),congrArg Value.bool ?_,?_⟩,B8.trans B9⟩
  · rw [List.all_eq_not_any_not];simp
  · rw [List.all_eq_true]
    exact ⟨fun h=>⟨hA.1,hA.2,by omega,by have:=et2.1;unfold room at this;omega,List.all_eq_true.1 et1.2,List.all_eq_true.1 et2.2,hr,hcd,h⟩,fun q=>q.op⟩
end Go.Proofs.YtkmdfjpafkcleaaGreatDoor
namespace Go.Proofs.YtkmdfjpafkcleaaGreatDoor
open Eng Go.RowKit
theorem chkE_no {m:Mod} (h:¬ModP m):mchkE m=1:=by unfold mchkE;rw [if_neg h]
theorem chkE_yes {m:Mod} (h:ModP m):mchkE m=0:=by unfold mchkE;rw [if_pos h]
set_option maxHeartbeats 2000000 in
theorem r5_Check (m:Mod) (a:MA) (w:World) (hM:MdR T w m a):Ret Tryz.prog 19 #[.agg (modcells m a).toArray] w fun v w'=>v=I (mchkE m)∧Bl w w':=by
  have q1:=hM.cls.big
  have q2:=hM.sta.big
  have q3:=hM.mth.big
  refine entr (vs:=[.agg (modcells m a).toArray]) [0,1,2,3,4,5,6,7,8,34,44,49,55,59,68,98] tabok Tryz.func19 (by kernel_rfl) ?_
  refine bx (cs:=modcells m a) fun b1 w1 k1 => ?_
  have x1:=k1.box
  refine ld (x1.cell rfl) ?_
  refine ldg (fun _=>x1.cell rfl) ?_
  refine ldg (fun _=>x1.cell rfl) ?_
  refine ldg (fun _=>x1.cell rfl) ?_
  refine ldg (fun _=>x1.cell rfl) ?_
  by_cases hA:10<(m.classes.length:Int)∨10<(m.statics.length:Int)∨16<(m.methods.length:Int)∨m.sels<0∨16<m.sels
  · refine brt ?_ (hp:=by first | rfl | (simp;done) | (simp;omega))
    rw [chkE_no fun q=>by have:=q.cl;have:=q.sl;have:=q.ml;have:=q.z0;have:=q.z1;omega]
    exact rt1 ⟨rfl,k1.bl⟩
  refine brf ?_ (hp:=by first | rfl | (simp;done) | (simp;omega))
  refine lda x1.at ?_
  refine cl (r5_classes m a w1 (hM.bl k1.bl) (by omega) (by omega) (by omega) (by omega)) ?_ (hm:=fun _ _ r=>mdW_bl r.2)
  rintro _ w2 ⟨⟨bc,rfl,hbc⟩,B12⟩
  have B2:=k1.bl.trans B12
  have x2:=Bl.box B12 x1
  cases bc with
  | false =>
    refine spn (.agg (modcells m a).toArray) ?_
    refine spn (.slice none 0 0) ?_
    refine spn (.bool false) ?_
    refine brt ?_
    rw [chkE_no fun q=>by have:=hbc.2 q.cls;cases this]
    exact rt1 ⟨rfl,B2⟩
  | true =>
  have hP:=hbc.1 rfl
  have hT:∀ c∈m.classes,(c.table.length:Int)=m.sels:=fun c hc=>by
    obtain ⟨i,hi⟩:=List.mem_iff_getElem?.1 hc
    exact (hP i c hi).tl
  refine spt (.agg (modcells m a).toArray) ?_
  refine lda x2.at ?_
  refine ldg (fun _=>x2.cell rfl) ?_
  refine spt (.bool false) ?_
  refine cl (r5_types m a m.statics a.a2 a.c2 w2 (hM.bl B2).sta) ?_
  rintro _ w3 ⟨rfl,B23⟩
  have B3:=B2.trans B23
  have x3:=Bl.box B23 x2
  cases hst:m.statics.all fun t=>ityp m t 1 with
  | false =>
    refine brt ?_
    rw [chkE_no fun q=>by rw [List.all_eq_true.2 q.sta] at hst;cases hst]
    exact rt1 ⟨rfl,B3⟩
  | true =>
  refine brf ?_
  refine lpk m.methods.length 3 [] [(1,.pointer (some ⟨b1,0,none⟩))] (fun k vals w'=>vals=[]∧(∀ (i:Nat) x,i<k→m.methods[i]? = some x→MthP m i x)∧Bl w3 w') ⟨rfl,fun i x h=>by omega,Bl.refl _⟩ ?_
  rintro k vals w4 hk ⟨rfl,hMt,B34⟩ ih
  have x4:=Bl.box B34 x3
  have B4:=B3.trans B34
  refine ld (x4.cell rfl) ?_
  by_cases hlt:k<m.methods.length
  · refine brT ?_
    obtain ⟨x,hx⟩:=some_of_lt hlt
    refine lda x4.at ?_
    refine cl (r5_isMethod m a k x w4 (hM.bl B4) hx (by omega) (by omega) hT) ?_ (hm:=fun _ _ r=>mdW_bl r.2)
    rintro _ w5 ⟨⟨b,rfl,hb⟩,B45⟩
    cases b with
    | false =>
      refine brt ?_
      rw [chkE_no fun q=>by have:=hb.2 (q.mth k x hx);cases this]
      exact rt1 ⟨rfl,B4.trans B45⟩
    | true =>
      refine brf ?_
      refine ih hlt ⟨rfl,fun i y hi hy => ?_,B34.trans B45⟩
      rcases Nat.lt_or_ge i k with q | q
      · exact hMt i y q hy
      · obtain rfl:i=k:=by omega
        rw [hx] at hy;obtain rfl:=Option.some.inj hy;exact hb.1 rfl
  refine brF ?_
  clear ih
  have hMt':∀ (k:Nat) x,m.methods[k]? = some x→MthP m k x:=fun i x hx=>hMt i x (by have:=(List.getElem?_eq_some_iff.1 hx).1;omega) hx
  clear hMt
  obtain ⟨n,hn⟩:=Int.eq_ofNat_of_zero_le (show 0≤m.sels by omega)
  refine lpk (vals:=[]) n 4 [] [(1,.pointer (some ⟨b1,0,none⟩))] (fun s vals w'=>vals=[]∧(∀ i:Nat,i<s→AlkP m i)∧Bl w4 w') ⟨rfl,fun i h=>by omega,Bl.refl _⟩ ?_
  rintro s vals w5 hs ⟨rfl,hAl,B45⟩ ih
  have x5:=Bl.box B45 x4
  have B5:=B4.trans B45
  refine ld (x5.cell rfl) ?_
  by_cases hsl:s<n
  rotate_left
  · refine brF ?_ (hp:=by omega)
    rw [chkE_yes ⟨by omega,by omega,by omega,by omega,by omega,hP,List.all_eq_true.1 hst,hMt',fun s' h=>hAl s' (by omega)⟩]
    exact rt1 ⟨rfl,B5⟩
  refine brT ?_ (hp:=by omega)
  refine lda x5.at ?_
  refine cl (r5_targets m a s (fun c hc=>by have:=hT c hc;omega) w5 (hM.bl B5)) ?_ (hm:=fun _ _ r=>by obtain ⟨_,_,_,_,hB⟩:=r;exact mdW_bl hB)
  rintro _ w6 ⟨a6,c6,rfl,hS,B56⟩
  have x6:=Bl.box B56 x5
  have B6:=B5.trans B56
  have hlen:=trg_len (m:=m) s
  have htr:∀ t∈trgM m s,0≤t∧t<m.methods.length:=fun t ht=>by
    obtain ⟨h0,c,hc,e⟩:=mem_trg.1 ht
    obtain ⟨k,hk⟩:=List.mem_iff_getElem?.1 hc
    cases hs:c.table[s]? with
    | none=>rw [List.getD_eq_getElem?_getD,hs] at e;simp at e;omega
    | some n =>
      rw [List.getD_eq_getElem?_getD,hs] at e
      simp only [Option.getD_some] at e
      subst e
      exact ⟨h0,((hP k c hk).tb s n hs).hi⟩
  obtain ⟨tr,etr⟩:∃ tr,trgM m s=tr:=⟨_,rfl⟩
  rw [etr] at hS hlen htr ⊢
  refine lp (vals:=[I 1]) [6] [(1,.pointer (some ⟨b1,0,none⟩)),(4,I s),(5,.slice a6 tr.length c6)] (fun mm vals w'=>∃ i:Nat,mm=tr.length-i∧vals=[I i]∧1≤i∧(∀ (j:Nat) t x t0 x0,j<i→tr[j]? = some t→m.methods[t.toNat]? = some x→tr[0]? = some t0→m.methods[t0.toNat]? = some x0→x.params=x0.params∧x.result=x0.result)∧Bl w6 w') ⟨rfl,rfl,rfl,trivial⟩ (m:=tr.length-1)
    ⟨1,rfl,rfl,Nat.le_refl _,fun j t x t0 x0 hj ht hx h0 hx0=>by
      obtain rfl:j=0:=by omega
      rw [ht] at h0;obtain rfl:=Option.some.inj h0;rw [hx] at hx0;obtain rfl:=Option.some.inj hx0;exact ⟨rfl,rfl⟩,Bl.refl _⟩ ?_
  rintro mm vals w7 ⟨i,rfl,rfl,hi1,hAi,B67⟩ ih2
  have x7:=Bl.box B67 x6
  have B7:=B6.trans B67
  by_cases hil:i<tr.length
  rotate_left
  · refine brF ?_
    refine ih hsl ⟨rfl,fun j hj => ?_,(B45.trans B56).trans B67⟩
    rcases Nat.lt_or_ge j s with q | q
    · exact hAl j q
    · obtain rfl:j=s:=by omega
      intro t ht u hu x y hx hy
      rw [etr] at ht hu
      obtain ⟨i1,h1⟩:=List.mem_iff_getElem?.1 ht
      obtain ⟨i2,h2⟩:=List.mem_iff_getElem?.1 hu
      obtain ⟨t0,h0⟩:=some_of_lt (l:=tr) (k:=0) (by have:=(List.getElem?_eq_some_iff.1 h1).1;omega)
      have r0:=htr t0 (List.mem_of_getElem? h0)
      obtain ⟨x0,hx0⟩:=some_of_lt (l:=m.methods) (k:=t0.toNat) (by omega)
      obtain ⟨p1,p2⟩:=hAi i1 t x t0 x0 (by have:=(List.getElem?_eq_some_iff.1 h1).1;omega) h1 hx h0 hx0
      obtain ⟨p3,p4⟩:=hAi i2 u y t0 x0 (by have:=(List.getElem?_eq_some_iff.1 h2).1;omega) h2 hy h0 hx0
      exact ⟨p1.trans p3.symm,p2.trans p4.symm⟩
  refine brT ?_
  have l7:=x7.lt
  obtain ⟨t0,b8,o8,cs8,h0,e8,s8,hA8,rfl⟩:=at_some (hS.bl B67) (i:=0) (by omega)
  obtain ⟨t,b8',o8',cs8',ht,e8',s8',hA8',rfl⟩:=at_some (hS.bl B67) (i:=i) hil
  obtain ⟨rfl,rfl⟩:b8=b8'∧o8=o8':=by rw [e8] at e8';simpa using e8'
  have r0:=htr t0 (List.mem_of_getElem? h0)
  have r1:=htr t (List.mem_of_getElem? ht)
  obtain ⟨j0,hj0⟩:=Int.eq_ofNat_of_zero_le r0.1
  obtain ⟨j1,hj1⟩:=Int.eq_ofNat_of_zero_le r1.1
  obtain ⟨x0,b9,o9,cs9,hx0,e9,s9,hA9,a10,c10,a11,c11,a12,c12,rfl,f1,f2,f3,_⟩:=at_some ((hM.bl B7).mth) (i:=j0) (by omega)
  obtain ⟨y0,b9',o9',cs9',hy0,e9',s9',hA9',a10',c10',a11',c11',a12',c12',rfl,g1,g2,g3,_⟩:=at_some ((hM.bl B7).mth) (i:=j1) (by omega)
  obtain ⟨rfl,rfl⟩:b9=b9'∧o9=o9':=by rw [e9] at e9';simpa using e9'
  have lb8:=cell_lt (hA8 0 _ rfl)
  have lb8':=cell_lt (hA8' 0 _ rfl)
  have lb9:=cell_lt (hA9 0 _ rfl)
  have lb9':=cell_lt (hA9' 0 _ rfl)
  refine cut [7,8] [(1,.pointer (some ⟨b1,0,none⟩)),(4,I s),(5,.slice a6 tr.length c6),(6,I i)] (fun vals w'=>∃ b13 b14,vals=[.pointer (some ⟨b13,0,none⟩),.pointer (some ⟨b14,0,none⟩)]∧Bl w7 w'∧Box w' b13 54 (mmcells x0 a10 c10 a11 c11 a12 c12)∧Box w' b14 54 (mmcells y0 a10' c10' a11' c11' a12' c12')) (fun jo => ?_) ?_
  · refine dhb (· < w7.heap.size) (.row [0,1,2,3,4,5,6,7,8,9,10,11,12,13,14] (.two 15 (.row [16,17,18] .done) 16 (.row [15,17,18] .done))) fun w8 k8 => ?_
    have B8:=k8.bl
    refine ld ((k8.box x7).cell rfl) ?_ (hm:=l7)
    rw [e8]
    refine ix (j:=0) ?_ (hb:=by omega)
    refine ld (hA8.bl B8 0 _ rfl) ?_ (hm:=lb8)
    rw [e9]
    refine ix (j:=j0) ?_ (hij:=hj0) (hb:=by omega)
    refine lda (hA9.bl B8) ?_ (hm:=lb9)
    refine ld ((k8.box x7).cell rfl) ?_ (hm:=l7)
    refine ix (j:=i) ?_ (hb:=by omega)
    refine ld (hA8'.bl B8 0 _ rfl) ?_ (hm:=lb8')
    rw [e9]
    refine ix (j:=j1) ?_ (hij:=hj1) (hb:=by omega)
    refine lda (hA9'.bl B8) ?_ (hm:=lb9')
    refine bt ?_ ?_
    · refine al fun b13 w9 k9 => ?_
      refine al fun b14 w10 k10 => ?_
      have y9:=k9.blk
      have y10:=k10.blk
      have z9:=k9.size
      have z10:=k10.size
      have z8:=B8.size
      have v13:=Bl.box k10.bl k9.box
      have v14:=k10.box
      refine sta (cs':=mmcells x0 a10 c10 a11 c11 a12 c12) v13 (fun w11 k11 x11 => ?_) (hm:=wrB (by show ¬b13<_;omega))
      refine sta (cs':=mmcells y0 a10' c10' a11' c11' a12' c12') (k11.box v14 (by omega)) (fun w12 k12 x12 => ?_) (hm:=wrB (by show ¬b14<_;omega))
      refine jo ⟨b13,b14,rfl,?_,k12.box x11 (by omega),x12⟩ (hsub:=⟨rfl,rfl,by rw [e8];rfl,rfl,trivial⟩)
      exact Below.trans (Below.trans (B8.trans (k9.bl.trans k10.bl)) (k11.below (by omega))) (k12.below (by omega))
    · refine al fun b14 w9 k9 => ?_
      refine al fun b13 w10 k10 => ?_
      have y9:=k9.blk
      have y10:=k10.blk
      have z9:=k9.size
      have z10:=k10.size
      have z8:=B8.size
      have v14:=Bl.box k10.bl k9.box
      have v13:=k10.box
      refine sta (cs':=mmcells x0 a10 c10 a11 c11 a12 c12) v13 (fun w11 k11 x11 => ?_) (hm:=wrB (by show ¬b13<_;omega))
      refine sta (cs':=mmcells y0 a10' c10' a11' c11' a12' c12') (k11.box v14 (by omega)) (fun w12 k12 x12 => ?_) (hm:=wrB (by show ¬b14<_;omega))
      refine jo ⟨b13,b14,rfl,?_,k12.box x11 (by omega),x12⟩ (hsub:=⟨rfl,rfl,by rw [e8];rfl,rfl,trivial⟩)
      exact Below.trans (Below.trans (B8.trans (k9.bl.trans k10.bl)) (k11.below (by omega))) (k12.below (by omega))
  rintro vals w13 ⟨b13,b14,rfl,B713,x13,x14⟩
  have B13:=B7.trans B713
  refine ld (x13.cell rfl) ?_
  refine ld (x14.cell rfl) ?_
  refine cl (r_SameTypes x0.params y0.params a10 a10' c10 c10' w13 (f1.bl B713) (g1.bl B713)) ?_
  rintro _ w14 ⟨rfl,B14⟩
  have v13:=Bl.box B14 x13
  have v14:=Bl.box B14 x14
  have B014:=B13.trans B14
  have hx0':m.methods[t0.toNat]? = some x0:=by rw [hj0,Int.toNat_natCast];exact hx0
  have hy0':m.methods[t.toNat]? = some y0:=by rw [hj1,Int.toNat_natCast];exact hy0
  have bad:¬(y0.params=x0.params∧y0.result=x0.result)→¬ModP m:=fun hne q=>hne (q.alk s (by omega) t (by rw [etr];exact List.mem_of_getElem? ht) t0 (by rw [etr];exact List.mem_of_getElem? h0) y0 x0 hy0' hx0')
  by_cases hpp:x0.params=y0.params
  · rw [decide_eq_true hpp]
    refine spt (.agg (encTy x0.result).toArray) ?_
    refine lda (At.left (cs:=encTy x0.result) v13.at.tail.tail.tail.tail) ?_
    refine spt (.agg (encTy x0.result).toArray) ?_
    refine lda (At.left (cs:=encTy y0.result) v14.at.tail.tail.tail.tail) ?_
    refine spt (.bool false) ?_
    refine neA (fun w=>eq_ty x0.result y0.result) ?_
    by_cases hrr:x0.result=y0.result
    · rw [decide_eq_true hrr]
      refine brf ?_
      refine again (ih2 _ _ _ _ (by omega) ⟨rfl,rfl,rfl,trivial⟩ rfl ⟨i+1,rfl,lst1 (inc hil),by omega,fun j t' x' t0' x0' hj ht' hx' h0' hx0'' => ?_,(B67.trans B713).trans B14⟩)
      rw [h0] at h0';obtain rfl:=Option.some.inj h0'
      rw [hx0'] at hx0'';obtain rfl:=Option.some.inj hx0''
      rcases Nat.lt_or_ge j i with q | q
      · exact hAi j t' x' t0 x0 q ht' hx' h0 hx0'
      · obtain rfl:j=i:=by omega
        rw [ht] at ht';obtain rfl:=Option.some.inj ht'
        rw [hy0'] at hx';obtain rfl:=Option.some.inj hx'
        exact ⟨hpp.symm,hrr.symm⟩
    · rw [decide_eq_false hrr]
      refine brt ?_
      rw [chkE_no (bad fun q=>hrr q.2.symm)]
      exact rt1 ⟨rfl,B014⟩
  · rw [decide_eq_false hpp]
    refine spn (.agg (encTy x0.result).toArray) ?_
    refine spn (.agg (encTy x0.result).toArray) ?_
    refine spn (.bool false) ?_
    refine brt ?_
    rw [chkE_no (bad fun q=>hpp q.1.symm)]
    exact rt1 ⟨rfl,B014⟩
end Go.Proofs.YtkmdfjpafkcleaaGreatDoor
namespace Go.Proofs.YtkmdfjpafkcleaaGreatDoor
open Eng Go.RowKit
def mmD (m:Mod) (t:Int):MM:=(m.methods[t.toNat]?).getD ⟨⟨#[]⟩,0,[],[],⟨0,0⟩,[]⟩
def alkB (m:Mod) (t t0:Int):Bool:=decide ((mmD m t).result=(mmD m t0).result)&&decide ((mmD m t).params=(mmD m t0).params)
theorem mmD_at {m:Mod} {j:Nat} {x:MM} (h:m.methods[j]? = some x):mmD m (j:Int)=x:=by unfold mmD;rw [Int.toNat_natCast,h];rfl
set_option maxHeartbeats 1000000 in
theorem k_alike1 (m:Mod) (a:MA) (j j0 b b5:Nat) (tr:List Int) (at':Option Addr) (ct:Nat) (w:World) (hx:Box w b 94 (modcells m a)) (hx5:w.cell? ⟨b5,0,none⟩=some (.slice at' tr.length ct)) (hS:Sl eInt T w at' tr) (h0:tr[0]? = some (j0:Int)) (hj:j<m.methods.length) (hj0:j0<m.methods.length) (hM:MdR T w m a) :
    Ret Tryz.prog 176 #[I j,.pointer (some ⟨b,0,none⟩),.pointer (some ⟨b5,0,none⟩)] w fun v w'=>v = .bool (!alkB m j j0)∧Bl w w':=by
  have lb:=hx.lt
  have lb5:=cell_lt hx5
  have hbig:=hM.mth.big
  have htl:0<tr.length:=(List.getElem?_eq_some_iff.1 h0).1
  obtain ⟨t0,b8,o8,cs8,h0',e8,s8,hA8,rfl⟩:=at_some hS (i:=0) htl
  obtain rfl:t0=(j0:Int):=by rw [h0] at h0';exact (Option.some.inj h0').symm
  obtain ⟨x0,b9,o9,cs9,hx0,e9,s9,hA9,a10,c10,a11,c11,a12,c12,rfl,f1,f2,f3,_⟩:=at_some hM.mth (i:=j) hj
  obtain ⟨y0,b9',o9',cs9',hy0,e9',s9',hA9',a10',c10',a11',c11',a12',c12',rfl,g1,g2,g3,_⟩:=at_some hM.mth (i:=j0) hj0
  obtain ⟨rfl,rfl⟩:b9=b9'∧o9=o9':=by rw [e9] at e9';simpa using e9'
  have lb8:=cell_lt (hA8 0 _ rfl)
  have lb9:=cell_lt (hA9 0 _ rfl)
  have lb9':=cell_lt (hA9' 0 _ rfl)
  refine entr (vs:=[I j,.pointer (some ⟨b,0,none⟩),.pointer (some ⟨b5,0,none⟩)]) [0,1,2,4,5,6] tabok Tryz.func176 (by kernel_rfl) ?_
  refine cut [5,6] [] (fun vals w'=>∃ b13 b14,vals=[.pointer (some ⟨b13,0,none⟩),.pointer (some ⟨b14,0,none⟩)]∧Bl w w'∧Box w' b13 54 (mmcells x0 a10 c10 a11 c11 a12 c12)∧Box w' b14 54 (mmcells y0 a10' c10' a11' c11' a12' c12')) (fun jo => ?_) ?_
  · refine dhb (· < w.heap.size) (.row [0,1,2,3,4,5,6,7,8,9,10,11,12,13] (.two 14 (.row [15,16,17] .done) 15 (.row [14,16,17] .done))) fun w8 k8 => ?_
    have B8:=k8.bl
    refine ld ((k8.box hx).cell rfl) ?_ (hm:=lb)
    rw [e9]
    refine ix (j:=j) ?_
    refine lda (hA9.bl B8) ?_ (hm:=lb9)
    refine ld ((k8.box hx).cell rfl) ?_ (hm:=lb)
    refine ld (Bl.cl B8 hx5) ?_ (hm:=lb5)
    rw [e8]
    refine ix (j:=0) ?_ (hb:=by omega)
    refine ld (hA8.bl B8 0 _ rfl) ?_ (hm:=lb8)
    rw [e9]
    refine ix (j:=j0) ?_
    refine lda (hA9'.bl B8) ?_ (hm:=lb9')
    refine bt ?_ ?_
    · refine al fun b13 w9 k9 => ?_
      refine al fun b14 w10 k10 => ?_
      have y9:=k9.blk
      have y10:=k10.blk
      have z9:=k9.size
      have z10:=k10.size
      have z8:=B8.size
      have v13:=Bl.box k10.bl k9.box
      have v14:=k10.box
      refine sta (cs':=mmcells x0 a10 c10 a11 c11 a12 c12) v13 (fun w11 k11 x11 => ?_) (hm:=wrB (by show ¬b13<_;omega))
      refine sta (cs':=mmcells y0 a10' c10' a11' c11' a12' c12') (k11.box v14 (by omega)) (fun w12 k12 x12 => ?_) (hm:=wrB (by show ¬b14<_;omega))
      refine jo ⟨b13,b14,rfl,?_,k12.box x11 (by omega),x12⟩
      exact Below.trans (Below.trans (B8.trans (k9.bl.trans k10.bl)) (k11.below (by omega))) (k12.below (by omega))
    · refine al fun b14 w9 k9 => ?_
      refine al fun b13 w10 k10 => ?_
      have y9:=k9.blk
      have y10:=k10.blk
      have z9:=k9.size
      have z10:=k10.size
      have z8:=B8.size
      have v14:=Bl.box k10.bl k9.box
      have v13:=k10.box
      refine sta (cs':=mmcells x0 a10 c10 a11 c11 a12 c12) v13 (fun w11 k11 x11 => ?_) (hm:=wrB (by show ¬b13<_;omega))
      refine sta (cs':=mmcells y0 a10' c10' a11' c11' a12' c12') (k11.box v14 (by omega)) (fun w12 k12 x12 => ?_) (hm:=wrB (by show ¬b14<_;omega))
      refine jo ⟨b13,b14,rfl,?_,k12.box x11 (by omega),x12⟩
      exact Below.trans (Below.trans (B8.trans (k9.bl.trans k10.bl)) (k11.below (by omega))) (k12.below (by omega))
  rintro vals w13 ⟨b13,b14,rfl,B13,x13,x14⟩
  refine lda (At.left (cs:=encTy x0.result) x13.at.tail.tail.tail.tail) ?_
  refine lda (At.left (cs:=encTy y0.result) x14.at.tail.tail.tail.tail) ?_
  refine neA (fun w=>eq_ty x0.result y0.result) ?_
  have ea:alkB m j j0=(decide (x0.result=y0.result)&&decide (x0.params=y0.params)):=by unfold alkB;rw [mmD_at hx0,mmD_at hy0]
  rw [ea]
  by_cases hrr:x0.result=y0.result
  · rw [decide_eq_true hrr]
    refine ldg (fun _=>x13.cell rfl) ?_
    refine ldg (fun _=>x14.cell rfl) ?_
    refine spt (.bool false) ?_ (hb:=by first | rfl | (simp;done) | (simp;omega))
    refine cl (l_EqualT x0.params y0.params a10 a10' c10 c10' w13 (f1.bl B13) (g1.bl B13)) ?_
    rintro _ w14 ⟨rfl,B14⟩
    exact rt1 ⟨rfl,B13.trans B14⟩
  · rw [decide_eq_false hrr]
    refine ldg (fun _=>x13.cell rfl) ?_
    refine ldg (fun _=>x14.cell rfl) ?_
    refine spn (.bool false) ?_ (hb:=by first | rfl | (simp;done) | (simp;omega))
    exact rt1 ⟨rfl,B13⟩
theorem alk_any {m:Mod} {s:Nat} (htr:∀ t∈trgM m s,0≤t∧t<m.methods.length):((trgM m s).all fun t=>alkB m t ((trgM m s).getD 0 0))=true↔AlkP m s:=by
  have key:∀ t∈trgM m s,∀ x,m.methods[t.toNat]? = some x→mmD m t=x:=fun t ht x hx=>by unfold mmD;rw [hx];rfl
  rw [List.all_eq_true]
  constructor
  · intro h t ht u hu x y hx hy
    have h1:=h t ht
    have h2:=h u hu
    unfold alkB at h1 h2
    simp only [Bool.and_eq_true,decide_eq_true_eq] at h1 h2
    rw [key t ht x hx] at h1
    rw [key u hu y hy] at h2
    exact ⟨h1.2.trans h2.2.symm,h1.1.trans h2.1.symm⟩
  · intro h t ht
    have h0:(trgM m s).getD 0 0∈trgM m s:=by
      cases hl:trgM m s with
      | nil=>rw [hl] at ht;cases ht
      | cons z l=>exact List.mem_cons_self ..
    obtain ⟨x,hx⟩:=some_of_lt (l:=m.methods) (k:=t.toNat) (by have:=htr t ht;omega)
    obtain ⟨y,hy⟩:=some_of_lt (l:=m.methods) (k:=((trgM m s).getD 0 0).toNat) (by have:=htr _ h0;omega)
    obtain ⟨e1,e2⟩:=h t ht _ h0 x y hx hy
    unfold alkB
    rw [key t ht x hx,key _ h0 y hy,e1,e2];simp
theorem k_alike (m:Mod) (a:MA) (s:Nat) (hT:∀ c∈m.classes,s<c.table.length) (htr:∀ t∈trgM m s,0≤t∧t<m.methods.length) (w:World) (hM:MdR T w m a) :
    Ret Tryz.prog 114 #[.agg (modcells m a).toArray,I s] w fun v w'=>(∃ b,v = .bool b∧(b=true↔AlkP m s))∧Bl w w':=by
  have hbig:=hM.cls.big
  refine entr (vs:=[.agg (modcells m a).toArray,I s]) [0,1,2,4,5] tabok Tryz.func114 (by kernel_rfl) ?_
  refine bx (cs:=modcells m a) fun b1 w1 k1 => ?_
  have x1:=k1.box
  refine lda x1.at ?_
  refine cl (k_targets m a s hT w1 (hM.bl k1.bl)) ?_ (hm:=fun _ _ r=>by obtain ⟨_,_,_,_,hB⟩:=r;exact mdW_bl hB)
  rintro _ w2 ⟨a2,c2,rfl,O2,B2⟩
  have hlen:=trg_len (m:=m) s
  refine al fun b5 w3 k3 => ?_
  refine st k3.box fun w4 k4 x4 => ?_
  have B24:=k3.wr k4
  have O4:=O2.bl B24
  have B4:=(k1.bl.trans B2).trans B24
  have y4:=Bl.box (B2.trans B24) x1
  have S4:Sl eInt T w4 a2 (trgM m s):=owp_sl O4 (by omega) fun _ _=>trivial
  refine ld (x4.cell rfl) ?_
  refine cl (ContainsFunc_int (trgM m s) a2 c2 176 [.pointer (some ⟨b1,0,none⟩),.pointer (some ⟨b5,0,none⟩)] (fun t => !alkB m t ((trgM m s).getD 0 0)) T w4 S4 fun t cs ht w' kk hr => ?_) ?_
  · obtain rfl:cs=encInt t:=hr
    have h0:(trgM m s)[0]? = some ((trgM m s).getD 0 0):=by
      cases hl:trgM m s with
      | nil=>rw [hl] at ht;cases ht
      | cons z l=>rfl
    have h0m:=List.mem_of_getElem? h0
    obtain ⟨j,hj⟩:=Int.eq_ofNat_of_zero_le (htr t ht).1
    obtain ⟨j0,hj0⟩:=Int.eq_ofNat_of_zero_le (htr _ h0m).1
    have r1:=(htr t ht).2
    have r2:=(htr _ h0m).2
    rw [hj0] at h0 r2 ⊢
    subst hj
    exact k_alike1 m a j j0 b1 b5 (trgM m s) a2 c2 w' (Bl.box kk y4) ((Bl.box kk x4).cell rfl) (S4.bl kk) h0 (by omega) (by omega) (hM.bl (B4.trans kk))
  rintro _ w5 ⟨rfl,B5⟩
  refine rt1 ⟨⟨(trgM m s).all fun t=>alkB m t ((trgM m s).getD 0 0),congrArg Value.bool ?_,alk_any htr⟩,B4.trans B5⟩
  rw [List.all_eq_not_any_not]
end Go.Proofs.YtkmdfjpafkcleaaGreatDoor
namespace Go.Proofs.YtkmdfjpafkcleaaGreatDoor
open Eng Go.RowKit
set_option maxHeartbeats 1000000 in
theorem k_valid (m:Mod) (a:MA) (w:World) (hM:MdR T w m a):Ret Tryz.prog 50 #[.agg (modcells m a).toArray] w fun v w'=>(∃ b,v = .bool b∧(b=true↔ModP m))∧Bl w w':=by
  have q1:=hM.cls.big
  have q2:=hM.sta.big
  have q3:=hM.mth.big
  have no:(ModP m→False)→(false=true↔ModP m):=fun h=>⟨(fun q=>(by cases q)),fun q=>(h q).elim⟩
  refine entr (vs:=[.agg (modcells m a).toArray]) [0,1,2,3,4,5,6,7,8,37,40,41,42,58,62,63,64,69,73,74,75,80,83,84,85,90] tabok Tryz.func50 (by kernel_rfl) ?_
  refine bx (cs:=modcells m a) fun b1 w1 k1 => ?_
  refine lda k1.box.at ?_
  refine al fun b3 w2 h2 => ?_
  refine sta (cs':=modcells m a) h2.box fun w3 k3 x3 => ?_
  have B13:=h2.wr k3
  have B3:=k1.bl.trans B13
  have y3:=Bl.box B13 k1.box
  refine ld (x3.cell rfl) ?_
  refine ldg (fun _=>x3.cell rfl) ?_
  refine ldg (fun _=>x3.cell rfl) ?_
  refine ldg (fun _=>x3.cell rfl) ?_
  by_cases hA:10<(m.classes.length:Int)∨16<(m.methods.length:Int)∨m.sels<0∨16<m.sels
  · refine spn (.agg (modcells m a).toArray) ?_ (hb:=by first | rfl | (simp;done) | (simp;omega))
    refine ldg (fun _=>x3.cell rfl) ?_
    refine spn (.bool false) ?_ (hb:=by first | rfl | (simp;done) | (simp;omega))
    refine brt ?_ (hp:=by first | rfl | (simp;done) | (simp;omega))
    exact rt1 ⟨⟨false,rfl,no fun q=>by have:=q.cl;have:=q.ml;have:=q.z0;have:=q.z1;omega⟩,B3⟩
  refine spt (.agg (modcells m a).toArray) ?_ (hb:=by first | rfl | (simp;done) | (simp;omega))
  refine lda y3.at ?_
  refine ldg (fun _=>x3.cell rfl) ?_
  refine spt (.bool false) ?_ (hb:=by first | rfl | (simp;done) | (simp;omega))
  refine cl (k_areTypes m a m.statics a.a2 a.c2 10 w3 (hM.bl B3).sta (by omega)) ?_
  rintro _ w4 ⟨rfl,B34⟩
  have B4:=B3.trans B34
  have x4:=Bl.box B34 x3
  have y4:=Bl.box B34 y3
  obtain ⟨t1,et1⟩:∃ t,(decide ((m.statics.length:Int)≤10)&&m.statics.all fun t=>ityp m t 1)=t:=⟨_,rfl⟩
  rw [et1]
  cases t1 with
  | false =>
    refine brt ?_ (hp:=by first | rfl | (simp;done) | (simp;omega))
    exact rt1 ⟨⟨false,rfl,no fun q=>by rw [List.all_eq_true.2 q.sta,decide_eq_true (show (m.statics.length:Int)≤10 by have:=q.sl;omega)] at et1;cases et1⟩,B4⟩
  | true =>
  simp only [Bool.and_eq_true,decide_eq_true_eq] at et1
  refine brf ?_ (hp:=by first | rfl | (simp;done) | (simp;omega))
  refine ld (x4.cell rfl) ?_
  refine lpk m.methods.length 41 [] [(1,.pointer (some ⟨b1,0,none⟩)),(3,.pointer (some ⟨b3,0,none⟩)),(40,I m.methods.length)] (fun k vals w'=>vals=[]∧(∀ (i:Nat) y,i<k→m.methods[i]? = some y → -1≤y.cls∧y.cls<m.classes.length)∧w4=w') ⟨rfl,fun i y h=>by omega,rfl⟩ ?_
  rintro k vals _ hk ⟨rfl,hR,rfl⟩ ih
  by_cases hlt:k<m.methods.length
  · refine brT ?_
    obtain ⟨y,b,o,cs,hy,e2,_,hAt,a5,c5,a6,c6,a7,c7,rfl,_⟩:=at_some (hM.bl B4).mth hlt
    refine ld (x4.cell rfl) ?_
    rw [e2]
    refine ix ?_
    refine ld (hAt 1 _ rfl) ?_
    refine ldg (fun _=>x4.cell rfl) ?_
    by_cases hB:y.cls < -1∨(m.classes.length:Int)≤y.cls
    · refine brt ?_ (hp:=by first | rfl | (simp;done) | (simp;omega))
      exact rt1 ⟨⟨false,rfl,no fun q=>by have:=(q.mth k y hy).c1;have:=(q.mth k y hy).c2;omega⟩,B4⟩
    · refine brf ?_ (hp:=by first | rfl | (simp;done) | (simp;omega))
      refine ih hlt ⟨rfl,fun i z hi hz => ?_,rfl⟩
      rcases Nat.lt_or_ge i k with q | q
      · exact hR i z q hz
      · obtain rfl:i=k:=by omega
        rw [hy] at hz;obtain rfl:=Option.some.inj hz;omega
  refine brF ?_
  clear ih
  have hC:∀ y∈m.methods,-1≤y.cls:=fun y hy=>by
    obtain ⟨i,hi⟩:=List.mem_iff_getElem?.1 hy
    exact (hR i y (by have:=(List.getElem?_eq_some_iff.1 hi).1;omega) hi).1
  refine ld (x4.cell rfl) ?_
  refine lpk (vals:=[]) m.classes.length 63 [] [(1,.pointer (some ⟨b1,0,none⟩)),(3,.pointer (some ⟨b3,0,none⟩)),(62,I m.classes.length)] (fun k vals w'=>vals=[]∧(∀ (i:Nat) x,i<k→m.classes[i]? = some x→ClsP m i x)∧Bl w4 w') ⟨rfl,fun i y h=>by omega,Bl.refl _⟩ ?_
  clear hk hR hlt
  rintro k vals w5 hk ⟨rfl,hP,B45⟩ ih
  have x5:=Bl.box B45 x4
  have y5:=Bl.box B45 y4
  have B5:=B4.trans B45
  by_cases hlt:k<m.classes.length
  · refine brT ?_
    obtain ⟨c,hc⟩:=some_of_lt hlt
    refine lda y5.at ?_
    refine cl (k_class m a k c w5 (hM.bl B5) hc hP (by omega) (by omega) (by omega) (by omega)) ?_ (hm:=fun _ _ r=>mdW_bl r.2)
    rintro _ w6 ⟨⟨b,rfl,hb⟩,B6⟩
    cases b with
    | false =>
      refine brt ?_ (hp:=by first | rfl | (simp;done) | (simp;omega))
      exact rt1 ⟨⟨false,rfl,no fun q=>by have:=hb.2 (q.cls k c hc);cases this⟩,B5.trans B6⟩
    | true =>
      refine brf ?_ (hp:=by first | rfl | (simp;done) | (simp;omega))
      refine ih hlt ⟨rfl,fun i z hi hz => ?_,B45.trans B6⟩
      rcases Nat.lt_or_ge i k with q | q
      · exact hP i z q hz
      · obtain rfl:i=k:=by omega
        rw [hc] at hz;obtain rfl:=Option.some.inj hz;exact hb.1 rfl
  refine brF ?_
  clear ih
  have hP':∀ (k:Nat) x,m.classes[k]? = some x→ClsP m k x:=fun i x hx=>hP i x (by have:=(List.getElem?_eq_some_iff.1 hx).1;omega) hx
  have hT:∀ c∈m.classes,(c.table.length:Int)=m.sels:=fun c hc=>by
    obtain ⟨i,hi⟩:=List.mem_iff_getElem?.1 hc
    exact (hP' i c hi).tl
  refine ld (x5.cell rfl) ?_
  refine lpk (vals:=[]) m.methods.length 74 [] [(1,.pointer (some ⟨b1,0,none⟩)),(3,.pointer (some ⟨b3,0,none⟩)),(73,I m.methods.length)] (fun k vals w'=>vals=[]∧(∀ (i:Nat) x,i<k→m.methods[i]? = some x→MthP m i x)∧Bl w5 w') ⟨rfl,fun i y h=>by omega,Bl.refl _⟩ ?_
  clear hk hP hlt
  rintro k vals w6 hk ⟨rfl,hMt,B56⟩ ih
  have x6:=Bl.box B56 x5
  have y6:=Bl.box B56 y5
  have B6:=B5.trans B56
  by_cases hlt:k<m.methods.length
  · refine brT ?_
    obtain ⟨x,hx⟩:=some_of_lt hlt
    refine lda y6.at ?_
    refine cl (k_method m a k x w6 (hM.bl B6) hx (by omega) (by omega) hC hT) ?_ (hm:=fun _ _ r=>mdW_bl r.2)
    rintro _ w7 ⟨⟨b,rfl,hb⟩,B7⟩
    cases b with
    | false =>
      refine brt ?_ (hp:=by first | rfl | (simp;done) | (simp;omega))
      exact rt1 ⟨⟨false,rfl,no fun q=>by have:=hb.2 (q.mth k x hx);cases this⟩,B6.trans B7⟩
    | true =>
      refine brf ?_ (hp:=by first | rfl | (simp;done) | (simp;omega))
      refine ih hlt ⟨rfl,fun i z hi hz => ?_,B56.trans B7⟩
      rcases Nat.lt_or_ge i k with q | q
      · exact hMt i z q hz
      · obtain rfl:i=k:=by omega
        rw [hx] at hz;obtain rfl:=Option.some.inj hz;exact hb.1 rfl
  refine brF ?_
  clear ih
  have hMt':∀ (k:Nat) x,m.methods[k]? = some x→MthP m k x:=fun i x hx=>hMt i x (by have:=(List.getElem?_eq_some_iff.1 hx).1;omega) hx
  clear hMt hk
  obtain ⟨n,hn⟩:=Int.eq_ofNat_of_zero_le (show 0≤m.sels by omega)
  refine ld (x6.cell rfl) ?_
  refine lpk (vals:=[]) n 84 [] [(1,.pointer (some ⟨b1,0,none⟩)),(83,I m.sels)] (fun s vals w'=>vals=[]∧(∀ i:Nat,i<s→AlkP m i)∧Bl w6 w') ⟨rfl,fun i h=>by omega,Bl.refl _⟩ ?_
  rintro s vals w7 hs ⟨rfl,hAl,B67⟩ ih
  have y7:=Bl.box B67 y6
  have B7:=B6.trans B67
  by_cases hsl:s<n
  rotate_left
  · refine brF ?_ (hp:=by omega)
    exact rt1 ⟨⟨true,rfl,⟨fun _=>⟨by omega,by omega,by omega,by omega,by omega,hP',List.all_eq_true.1 et1.2,hMt',fun s' h=>hAl s' (by omega)⟩,fun _=>rfl⟩⟩,B7⟩
  refine brT ?_ (hp:=by omega)
  have htr:∀ t∈trgM m s,0≤t∧t<m.methods.length:=fun t ht=>by
    obtain ⟨h0,c,hc,e⟩:=mem_trg.1 ht
    obtain ⟨k,hk⟩:=List.mem_iff_getElem?.1 hc
    cases hs:c.table[s]? with
    | none=>rw [List.getD_eq_getElem?_getD,hs] at e;simp at e;omega
    | some n =>
      rw [List.getD_eq_getElem?_getD,hs] at e
      simp only [Option.getD_some] at e
      subst e
      exact ⟨h0,((hP' k c hk).tb s n hs).hi⟩
  refine lda y7.at ?_
  refine cl (k_alike m a s (fun c hc=>by have:=hT c hc;omega) htr w7 (hM.bl B7)) ?_ (hm:=fun _ _ r=>mdW_bl r.2)
  rintro _ w8 ⟨⟨b,rfl,hb⟩,B8⟩
  cases b with
  | false =>
    refine brt ?_ (hp:=by first | rfl | (simp;done) | (simp;omega))
    exact rt1 ⟨⟨false,rfl,no fun q=>by have:=hb.2 (q.alk s (by omega));cases this⟩,B7.trans B8⟩
  | true =>
    refine brf ?_ (hp:=by first | rfl | (simp;done) | (simp;omega))
    refine ih hsl ⟨rfl,fun i hi => ?_,B67.trans B8⟩
    rcases Nat.lt_or_ge i s with q | q
    · exact hAl i q
    · obtain rfl:i=s:=by omega
      exact hb.1 rfl
theorem k_Check (m:Mod) (a:MA) (w:World) (hM:MdR T w m a):Ret Tryz.prog 18 #[.agg (modcells m a).toArray] w fun v w'=>v=I (mchkE m)∧Bl w w':=by
  refine entr (vs:=[.agg (modcells m a).toArray]) [0,1,2,6] tabok Tryz.func18 (by kernel_rfl) ?_
  refine bx (cs:=modcells m a) fun b1 w1 k1 => ?_
  refine lda k1.box.at ?_
  refine bd (cs:=modcells m a) ?_
  refine cl (k_valid m a w1 (hM.bl k1.bl)) ?_ (hm:=fun _ _ r=>mdW_bl r.2)
  rintro _ w2 ⟨⟨b,rfl,hb⟩,B2⟩
  cases b with
  | false =>
    refine brt ?_ (hp:=by first | rfl | (simp;done) | (simp;omega))
    rw [chkE_no fun q=>by have:=hb.2 q;cases this]
    exact rt1 ⟨rfl,k1.bl.trans B2⟩
  | true =>
    refine brf ?_ (hp:=by first | rfl | (simp;done) | (simp;omega))
    rw [chkE_yes (hb.1 rfl)]
    exact rt1 ⟨rfl,k1.bl.trans B2⟩
end Go.Proofs.YtkmdfjpafkcleaaGreatDoor
namespace Go.Proofs.YtkmdfjpafkcleaaGreatDoor
open Eng Go.RowKit
noncomputable def askE (m:Mod) (n:Int) (ix:List Int):Int:=if mchkE m=0∧∀ i∈ix,0≤i∧i<n then 0 else 1
theorem chkE_cases (m:Mod):mchkE m=0∨mchkE m=1:=by
  by_cases h:ModP m
  · exact .inl (chkE_yes h)
  · exact .inr (chkE_no h)
theorem modP_of {m:Mod} (h:mchkE m=0):ModP m:=Classical.byContradiction fun q=>by rw [chkE_no q] at h;cases h
theorem ask_yes {m:Mod} {n:Int} {ix:List Int} (h:askE m n ix=0):mchkE m=0∧∀ i∈ix,0≤i∧i<n:=by
  unfold askE at h
  split at h
  · rename_i q;exact q
  · cases h
theorem ask_cases (m:Mod) (n:Int) (ix:List Int):askE m n ix=0∨askE m n ix=1:=by
  unfold askE
  split
  · exact .inl rfl
  · exact .inr rfl
theorem k_asked1 (x n:Int) (b:Nat) (w:World) (hx:w.cell? ⟨b,0,none⟩=some (I n)):Ret Tryz.prog 133 #[I x,.pointer (some ⟨b,0,none⟩)] w fun v w'=>v = .bool (decide (x<0)||decide (n≤x))∧Bl w w':=by
  refine entr (vs:=[I x,.pointer (some ⟨b,0,none⟩)]) [0,1,3] tabok Tryz.func133 (by kernel_rfl) ?_
  refine ldg (fun _=>hx) ?_
  exact rt1 ⟨rfl,Bl.refl _⟩
theorem k_asked (m:Mod) (a:MA) (n:Int) (ix:List Int) (ai:Option Addr) (ci:Nat) (w:World) (hM:MdR T w m a) (hS:Sl eInt T w ai ix) :
    Ret Tryz.prog 69 #[.agg (modcells m a).toArray,I n,.slice ai ix.length ci] w fun v w'=>v=I (askE m n ix)∧Bl w w':=by
  refine entr (vs:=[.agg (modcells m a).toArray,I n,.slice ai ix.length ci]) [0,1,2,3,4,6,14] tabok Tryz.func69 (by kernel_rfl) ?_
  refine bx (cs:=modcells m a) fun b1 w1 k1 => ?_
  refine bx (cs:=[I n]) fun b2 w2 k2 => ?_
  have B2:=k1.bl.trans k2.bl
  refine lda (Bl.box k2.bl k1.box).at ?_
  refine cl (k_Check m a w2 (hM.bl B2)) ?_
  rintro _ w3 ⟨rfl,B23⟩
  have B3:=B2.trans B23
  by_cases h0:mchkE m=0
  rotate_left
  · refine spn (.bool false) ?_ (hb:=by first | (simp;done) | (simp;exact h0))
    refine brt ?_ (hp:=by first | (simp;done) | (simp;exact h0))
    have:askE m n ix=1:=by unfold askE;rw [if_neg fun q=>h0 q.1]
    rw [this]
    exact rt1 ⟨rfl,B3⟩
  refine spt (.bool false) ?_ (hb:=by first | (simp;done) | (simp;exact h0))
  refine cl (ContainsFunc_int ix ai ci 133 [.pointer (some ⟨b2,0,none⟩)] (fun x=>decide (x<0)||decide (n≤x)) T w3 (hS.bl B3) fun x cs hx w' kk hr => ?_) ?_
  · obtain rfl:cs=encInt x:=hr
    exact k_asked1 x n b2 w' ((Bl.box (B23.trans kk) k2.box).cell rfl)
  rintro _ w4 ⟨rfl,B34⟩
  rw [h0]
  cases hb:ix.any fun x=>decide (x<0)||decide (n≤x) with
  | true =>
    refine brt ?_
    obtain ⟨x,hx,hx2⟩:=List.any_eq_true.1 hb
    have:askE m n ix=1:=by
      unfold askE;rw [if_neg fun q => ?_]
      have:=q.2 x hx
      simp only [Bool.or_eq_true,decide_eq_true_eq] at hx2
      omega
    rw [this]
    exact rt1 ⟨rfl,B3.trans B34⟩
  | false =>
    refine brf ?_
    have:askE m n ix=0:=by
      unfold askE
      refine if_pos ⟨h0,fun x hx => ?_⟩
      have:=List.any_eq_false.1 hb x hx
      simp only [Bool.or_eq_true,decide_eq_true_eq] at this
      omega
    rw [this]
    exact rt1 ⟨rfl,B3.trans B34⟩
theorem r5_within (m:Mod) (a:MA) (i n:Int) (w:World) (hM:MdR T w m a):Ret Tryz.prog 70 #[.agg (modcells m a).toArray,I i,I n] w fun v w'=>v=I (askE m n [i])∧Bl w w':=by
  refine entr (vs:=[.agg (modcells m a).toArray,I i,I n]) [0,1,2,3,6,7,20] tabok Tryz.func70 (by kernel_rfl) ?_
  refine bx (cs:=modcells m a) fun b1 w1 k1 => ?_
  refine lda k1.box.at ?_
  refine cl (r5_Check m a w1 (hM.bl k1.bl)) ?_
  rintro _ w2 ⟨rfl,B2⟩
  by_cases h0:mchkE m=0
  · rw [h0]
    by_cases hi:0≤i∧i<n
    · refine brf ?_ (hp:=by first | rfl | (simp;done) | (simp;omega))
      have:askE m n [i]=0:=by unfold askE;rw [if_pos ⟨h0,by simpa using hi⟩]
      rw [this]
      exact rt1 ⟨rfl,k1.bl.trans B2⟩
    · refine brt ?_ (hp:=by first | rfl | (simp;done) | (simp;omega))
      have:askE m n [i]=1:=by unfold askE;rw [if_neg fun q=>hi (q.2 i (by simp))]
      rw [this]
      exact rt1 ⟨rfl,k1.bl.trans B2⟩
  · refine brf ?_ (hp:=by first | (simp;done) | (simp;exact h0) | (rw [decide_eq_false h0];simp))
    have h1:=(chkE_cases m).resolve_left h0
    have:askE m n [i]=1:=by unfold askE;rw [if_neg fun q=>h0 q.1]
    rw [this,h1]
    exact rt1 ⟨rfl,k1.bl.trans B2⟩
theorem one_int {w w':World} {b:Nat} {x:Int} (h:New w b 3 [I x] w'):Sl eInt T w' (some ⟨b,0,none⟩) [x] :=
  owp_sl (l:=[x]) (enc:=encInt) (sz:=1) (Ow.made (n:=1) h rfl (by omega)) (by simp) fun _ _=>trivial
end Go.Proofs.YtkmdfjpafkcleaaGreatDoor
namespace Go.Proofs.YtkmdfjpafkcleaaGreatDoor
open Eng Go.RowKit
def tcl (t:Ty):List Int:=if t.kind=2∨t.kind=4 then [t.cls] else []
def locM (x:MM):List Ty:=(if 0≤x.cls then [⟨2,x.cls⟩] else [])++x.params++x.locals
def insC (i:Ins):List Int:=if i.op=12 then tcl ⟨i.a,i.b⟩ else if i.op=14∨i.op=24 then [i.a] else if i.op=16 then [i.b] else []
def insS (i:Ins):List Int:=if i.op=22∨i.op=23 then [i.a] else []
def needC (x:MM):List Int:=(locM x++[x.result]).flatMap tcl++x.code.flatMap insC
def needS (x:MM):List Int:=x.code.flatMap insS
def sucC (m:Mod) (c:Int):List Int:=((m.classes[c.toNat]?).map fun x=>(if 0≤x.super then [x.super] else [])++x.fields.flatMap tcl).getD []
def staC (m:Mod) (i:Int):List Int:=((m.statics[i.toNat]?).map tcl).getD []
inductive Nd where
  | m (n:Int)
  | c (n:Int)
  | s (n:Int)
deriving DecidableEq
def mths (m:Mod) (k:Int):MM:=(m.methods[k.toNat]?).getD ⟨⟨#[]⟩,-1,[],[],⟨0,0⟩,[]⟩
def suc (m:Mod):Nd→List Nd
  | .m k=>(needC (mths m k)).map .c++(needS (mths m k)).map .s++(calM m k.toNat).map .m
  | .c c=>(sucC m c).map .c
  | .s i=>(staC m i).map .c
inductive Rch (m:Mod) (R:Nd→Prop):Nd→Prop
  | root {x:Nd} (h:R x):Rch m R x
  | step {x y:Nd} (h:Rch m R x) (hy:y∈suc m x):Rch m R y
theorem Rch.mono {m:Mod} {R R':Nd→Prop} (h:∀ x,R x→R' x) {x:Nd} (k:Rch m R x):Rch m R' x:=by
  induction k with
  | root q=>exact .root (h _ q)
  | step _ hy ih=>exact .step ih hy
theorem Rch.trans {m:Mod} {R R':Nd→Prop} (h:∀ x,R x→Rch m R' x) {x:Nd} (k:Rch m R x):Rch m R' x:=by
  induction k with
  | root q=>exact h _ q
  | step _ hy ih=>exact .step ih hy
structure Dfs (m:Mod) (R V V':Nd→Prop):Prop where
  mono:∀ x,V x→V' x
  new:∀ x,V' x→V x∨Rch m R x
  cl:∀ x,V' x→¬V x→∀ y∈suc m x,V' y
  has:∀ x,R x→V' x
theorem Dfs.refl (m:Mod) {R V:Nd→Prop} (h:∀ x,R x→V x):Dfs m R V V:=⟨fun _ h=>h,fun _ h => .inl h,fun _ h k=>absurd h k,h⟩
theorem Dfs.trans {m:Mod} {R R' V V1 V2:Nd→Prop} (h:Dfs m R V V1) (k:Dfs m R' V1 V2):Dfs m (fun x=>R x∨R' x) V V2 :=
  ⟨fun x q=>k.mono x (h.mono x q),fun x q=>by
    rcases k.new x q with q | q
    · exact (h.new x q).imp id (Rch.mono fun _ => .inl)
    · exact .inr (q.mono fun _ => .inr),fun x q hV y hy=>by
    by_cases h1:V1 x
    · exact k.mono y (h.cl x h1 hV y hy)
    · exact k.cl x q h1 y hy,fun x q=>by
    rcases q with q | q
    · exact k.mono x (h.has x q)
    · exact k.has x q⟩
theorem Dfs.congr {m:Mod} {R R' V V':Nd→Prop} (h:Dfs m R V V') (k:∀ x,R x↔R' x):Dfs m R' V V' :=
  ⟨h.mono,fun x q=>(h.new x q).imp id (Rch.mono fun _=>(k _).1),h.cl,fun x q=>h.has x ((k x).2 q)⟩
theorem Dfs.node {m:Mod} {n:Nd} {V V':Nd→Prop} (h:Dfs m (· ∈ suc m n) (fun x=>V x∨x=n) V'):Dfs m (· = n) V V' :=
  ⟨fun x q=>h.mono x (.inl q),fun x q=>by
    rcases h.new x q with (q | rfl) | q
    · exact .inl q
    · exact .inr (.root rfl)
    · exact .inr (Rch.trans (R':=(· = n)) (fun y hy => .step (.root rfl) hy) q),fun x q hV y hy=>by
    by_cases h1:x=n
    · subst h1;exact h.has y hy
    · exact h.cl x q (fun e=>e.elim hV h1) y hy,fun x q=>by subst q;exact h.mono _ (.inr rfl)⟩
theorem Dfs.all {m:Mod} {R V':Nd→Prop} (h:Dfs m R (fun _=>False) V') (x:Nd):V' x↔Rch m R x:=by
  constructor
  · intro q;exact (h.new x q).resolve_left id
  · intro q
    induction q with
    | root q=>exact h.has _ q
    | step _ hy ih=>exact h.cl _ ih id _ hy
def NdIn (m:Mod):Nd→Prop
  | .m n=>0≤n∧n<m.methods.length
  | .c n=>0≤n∧n<m.classes.length
  | .s n=>0≤n∧n<m.statics.length
theorem tcl_in {m:Mod} {t:Ty} {least c:Int} (h:ityp m t least=true) (hc:c∈tcl t):0≤c∧c<m.classes.length:=by
  unfold tcl at hc
  unfold ityp at h
  split at hc
  · rename_i q
    rw [if_pos q] at h
    simp only [List.mem_singleton] at hc
    subst hc
    simpa using h
  · cases hc
theorem mths_at {m:Mod} {k:Nat} {x:MM} (h:m.methods[k]? = some x):mths m (k:Int)=x:=by unfold mths;rw [Int.toNat_natCast,h];rfl
theorem calM_mem {m:Mod} {k:Nat} {x:MM} (h:m.methods[k]? = some x) {c:Int}:c∈calM m k↔∃ i∈x.code,c∈calO m i:=by
  unfold calM
  rw [mem_srtI,h]
  simp only [Option.map_some,Option.getD_some,List.mem_flatMap]
theorem val_sta {i:Ins} (hv:validI i false=true) (h:i.op=22∨i.op=23):0≤i.a:=by
  obtain ⟨op,a,b⟩:=i
  simp only at h ⊢
  rcases h with rfl | rfl <;> (simp [validI,inR,rngs,mosts] at hv;omega)
theorem calO_lt {m:Mod} (P:ModP m) {k:Nat} {x:MM} (h:m.methods[k]? = some x) {i:Ins} (hi:i∈x.code) {c:Int} (hc:c∈calO m i):0≤c∧c<k:=by
  have M:=P.mth k x h
  have hop:=M.op i hi
  have hv:=code_all M.cd i hi
  unfold calO at hc
  split at hc
  · rename_i q
    simp only [List.mem_singleton] at hc
    subst hc
    have h0:=val_call hv (.inl q)
    unfold oprB at hop
    simp [q] at hop
    exact ⟨h0,hop.1⟩
  · split at hc
    · rename_i q
      have h0:=(P.trg hc).1
      unfold oprB at hop
      simp [q] at hop
      exact ⟨h0,hop.2 c hc⟩
    · cases hc
theorem calM_lt {m:Mod} (P:ModP m) {k:Nat} {x:MM} (h:m.methods[k]? = some x) {c:Int} (hc:c∈calM m k):0≤c∧c<k:=by
  obtain ⟨i,hi,hc⟩:=(calM_mem h).1 hc
  exact calO_lt P h hi hc
theorem sucC_in {m:Mod} (P:ModP m) {k:Nat} {x:MC} (h:m.classes[k]? = some x) {c:Int} (hc:c∈sucC m k):0≤c∧c<m.classes.length:=by
  unfold sucC at hc
  rw [Int.toNat_natCast,h] at hc
  simp only [Option.map_some,Option.getD_some,List.mem_append,List.mem_flatMap] at hc
  have C:=P.cls k x h
  have hk:=(List.getElem?_eq_some_iff.1 h).1
  rcases hc with hc | ⟨t,ht,hc⟩
  · split at hc
    · simp only [List.mem_singleton] at hc
      subst hc
      have:=C.s2
      omega
    · cases hc
  · exact tcl_in (C.ft t ht) hc
theorem insC_in {m:Mod} {k:Nat} {i:Ins} (hop:oprB m k i=true) (hv:validI i false=true) {c:Int} (hc:c∈insC i):0≤c∧c<m.classes.length:=by
  unfold insC at hc
  split at hc
  · rename_i q
    have h0:=val_b hv (.inr q)
    unfold tcl at hc
    unfold oprB at hop
    split at hc
    · rename_i q2
      simp only [List.mem_singleton] at hc
      subst hc
      simp [q] at hop
      refine ⟨h0,?_⟩
      rcases hop with hop | hop
      · simp only at q2;omega
      · exact hop
    · cases hc
  · split at hc
    · rename_i q1 q
      simp only [List.mem_singleton] at hc
      subst hc
      have h0:=val_a hv q
      unfold oprB at hop
      rw [if_neg q1,if_pos q] at hop
      exact ⟨h0,by simpa using hop⟩
    · split at hc
      · rename_i q1 q2 q
        simp only [List.mem_singleton] at hc
        subst hc
        have h0:=val_b hv (.inl q)
        unfold oprB at hop
        rw [if_neg q1,if_neg q2,if_pos q] at hop
        exact ⟨h0,by simpa using hop⟩
      · cases hc
theorem insS_in {m:Mod} {k:Nat} {i:Ins} (hop:oprB m k i=true) (hv:validI i false=true) {c:Int} (hc:c∈insS i):0≤c∧c<m.statics.length:=by
  unfold insS at hc
  split at hc
  · rename_i q
    simp only [List.mem_singleton] at hc
    subst hc
    have h0:=val_sta hv q
    unfold oprB at hop
    rw [if_neg (by omega),if_neg (by omega),if_neg (by omega),if_pos q] at hop
    exact ⟨h0,by simpa using hop⟩
  · cases hc
theorem needC_in {m:Mod} (P:ModP m) {k:Nat} {x:MM} (h:m.methods[k]? = some x) {c:Int} (hc:c∈needC x):0≤c∧c<m.classes.length:=by
  have M:=P.mth k x h
  unfold needC at hc
  simp only [List.mem_append,List.mem_flatMap,List.mem_singleton] at hc
  rcases hc with ⟨t,ht,hc⟩ | ⟨i,hi,hc⟩
  · rcases ht with ht | rfl
    · unfold locM at ht
      simp only [List.mem_append] at ht
      rcases ht with (ht | ht) | ht
      · split at ht
        · simp only [List.mem_singleton] at ht
          subst ht
          simp [tcl] at hc
          have:=M.c2
          omega
        · cases ht
      · exact tcl_in (M.pt t ht) hc
      · exact tcl_in (M.lt t ht) hc
    · exact tcl_in M.rt hc
  · exact insC_in (M.op i hi) (code_all M.cd i hi) hc
theorem needS_in {m:Mod} (P:ModP m) {k:Nat} {x:MM} (h:m.methods[k]? = some x) {c:Int} (hc:c∈needS x):0≤c∧c<m.statics.length:=by
  have M:=P.mth k x h
  unfold needS at hc
  obtain ⟨i,hi,hc⟩:=List.mem_flatMap.1 hc
  exact insS_in (M.op i hi) (code_all M.cd i hi) hc
theorem staC_in {m:Mod} (P:ModP m) {i c:Int} (hc:c∈staC m i):0≤c∧c<m.classes.length:=by
  unfold staC at hc
  cases ht:m.statics[i.toNat]? with
  | none=>rw [ht] at hc;cases hc
  | some t =>
    rw [ht] at hc
    exact tcl_in (P.sta t (List.mem_of_getElem? ht)) hc
theorem suc_in {m:Mod} (P:ModP m) {x y:Nd} (hx:NdIn m x) (hy:y∈suc m x):NdIn m y:=by
  cases x with
  | m n =>
    obtain ⟨k,rfl⟩:=Int.eq_ofNat_of_zero_le hx.1
    obtain ⟨z,hz⟩:=some_of_lt (l:=m.methods) (k:=k) (by have:=hx.2;omega)
    simp only [suc,mths_at hz,Int.toNat_natCast,List.mem_append,List.mem_map] at hy
    rcases hy with (⟨c,hc,rfl⟩ | ⟨c,hc,rfl⟩) | ⟨c,hc,rfl⟩
    · exact needC_in P hz hc
    · exact needS_in P hz hc
    · have:=calM_lt P hz hc
      have h2:=hx.2
      exact ⟨this.1,by omega⟩
  | c n =>
    obtain ⟨k,rfl⟩:=Int.eq_ofNat_of_zero_le hx.1
    obtain ⟨z,hz⟩:=some_of_lt (l:=m.classes) (k:=k) (by have:=hx.2;omega)
    obtain ⟨c,hc,rfl⟩:=List.mem_map.1 hy
    exact sucC_in P hz hc
  | s n =>
    obtain ⟨c,hc,rfl⟩:=List.mem_map.1 hy
    exact staC_in P hc
theorem Rch.isIn {m:Mod} (P:ModP m) {R:Nd→Prop} (hR:∀ x,R x→NdIn m x) {x:Nd} (h:Rch m R x):NdIn m x:=by
  induction h with
  | root q=>exact hR _ q
  | step _ hy ih=>exact suc_in P ih hy
noncomputable def sel (n:Nat) (p:Int→Prop):List Int:=by
  classical exact ((List.range n).map fun i:Nat=>(i:Int)).filter fun i=>decide (p i)
theorem mem_sel {n:Nat} {p:Int→Prop} {x:Int}:x∈sel n p↔(0≤x∧x<n)∧p x:=by
  unfold sel
  rw [List.mem_filter,List.mem_map]
  simp only [List.mem_range,decide_eq_true_eq]
  constructor
  · rintro ⟨⟨i,hi,rfl⟩,h⟩;exact ⟨⟨by omega,by omega⟩,h⟩
  · rintro ⟨⟨h0,h1⟩,h⟩;exact ⟨⟨x.toNat,by omega,by omega⟩,h⟩
theorem sel_asc (n:Nat) (p:Int→Prop):AscI (sel n p):=by
  unfold sel AscI
  refine List.Pairwise.filter _ ?_
  rw [List.pairwise_map]
  exact List.pairwise_lt_range.imp fun h=>by omega
theorem sel_of {n:Nat} {p:Int→Prop} {l:List Int} (ha:AscI l) (h:∀ x,x∈l↔p x) (hp:∀ x,p x→0≤x∧x<n):l=sel n p :=
  asc_eq ha (sel_asc n p) fun x=>by rw [mem_sel,h];exact ⟨fun q=>⟨hp x q,q⟩,fun q=>q.2⟩
def rootsN (roots:List Int):Nd→Prop:=fun x=>∃ k∈roots,x = .m k
noncomputable def meL (m:Mod) (roots:List Int):List Int:=sel m.methods.length fun k=>Rch m (rootsN roots) (.m k)
noncomputable def clL (m:Mod) (roots:List Int):List Int:=sel m.classes.length fun k=>Rch m (rootsN roots) (.c k)
noncomputable def stL (m:Mod) (roots:List Int):List Int:=sel m.statics.length fun k=>Rch m (rootsN roots) (.s k)
end Go.Proofs.YtkmdfjpafkcleaaGreatDoor
namespace Go.Proofs.YtkmdfjpafkcleaaGreatDoor
open Go Go.RowKit Eng
abbrev MpI (α:Type):=List (Int×α)
def getI {α:Type}:MpI α→Int→Option α
  | [],_=>none
  | (k',v)::m,k=>if k'=k then some v else getI m k
def putI {α:Type}:MpI α→Int→α→MpI α
  | [],k,v=>[(k,v)]
  | (k',v')::m,k,v=>if k'=k then (k,v)::m else (k',v')::putI m k v
def hasI {α:Type} (m:MpI α) (k:Int):Bool:=(getI m k).isSome
def keysI {α:Type} (m:MpI α):List Int:=m.map (·.1)
abbrev kvi {α:Type} (enc:α→Value) (p:Int×α):Value×Value:=(I p.1,enc p.2)
structure MapIsI {α:Type} (enc:α→Value) (w:World) (b:Nat) (m:MpI α):Prop where
  is:∃ es clock,w.heap[b]? = some (.map es clock)∧es.toList.map kv=m.map (kvi enc)∧MapKept.Stamped es clock
theorem MapIsI.lt {α:Type} {enc:α→Value} {w:World} {b:Nat} {m:MpI α} (h:MapIsI enc w b m):b<w.heap.size:=by
  obtain ⟨es,clock,h1,_⟩:=h.is
  exact (Array.getElem?_eq_some_iff.1 h1).1
theorem MapIsI.same {α:Type} {enc:α→Value} {w w':World} {b:Nat} {m:MpI α} (h:MapIsI enc w b m) (hs:w'.heap[b]? = w.heap[b]?):MapIsI enc w' b m:=by
  obtain ⟨es,clock,h1,h2⟩:=h.is
  exact ⟨⟨es,clock,hs.trans h1,h2⟩⟩
theorem MapIsI.bl {α:Type} {enc:α→Value} {w w':World} {b:Nat} {m:MpI α} (h:MapIsI enc w b m) (k:Bl w w'):MapIsI enc w' b m:=h.same (k.block b h.lt)
theorem MapIsI.wr {α:Type} {enc:α→Value} {w w':World} {b c:Nat} {m:MpI α} (h:MapIsI enc w b m) (k:Wr w c w') (hb:b≠c):MapIsI enc w' b m:=h.same (k.block b hb)
theorem MapIsI.ne {α:Type} {enc:α→Value} {w:World} {b c:Nat} {m:MpI α} {t:TypeId} {cs:List Value} (h:MapIsI enc w b m) (hb:Box w c t cs):b≠c:=by
  rintro rfl
  obtain ⟨es,clock,h1,_⟩:=h.is
  unfold Box at hb
  rw [h1] at hb;cases hb
theorem keysI_nodup {α:Type} {enc:α→Value} {w:World} {b:Nat} {m:MpI α} (h:MapIsI enc w b m):(keysI m).Nodup:=by
  obtain ⟨es,clock,_,h2,h3⟩:=h.is
  have e:es.toList.map (·.key)=(keysI m).map I:=by
    have:=congrArg (List.map Prod.fst) h2
    simp only [List.map_map] at this
    unfold keysI
    rw [List.map_map];exact this
  have:=h3.2.2
  rw [e] at this
  exact List.Pairwise.of_map (f:=I) (fun a b hab e=>hab (congrArg _ e)) this
theorem MapIsI.len {α:Type} {enc:α→Value} {w:World} {b:Nat} {m:MpI α} (h:MapIsI enc w b m):∃ es clock,w.heap[b]? = some (.map es clock)∧es.size=m.length:=by
  obtain ⟨es,clock,h1,h2,_⟩:=h.is
  refine ⟨es,clock,h1,?_⟩
  have:=congrArg List.length h2
  simpa using this
theorem same_intk (a b:Int):Instr.sameNow (.int .i64) (I a) (I b)=some (decide (a=b)):=rfl
theorem findNow_okI {α:Type} {enc:α→Value} (k:Int):∀ (L:List MapEntry) (m:MpI α) (i:Nat),L.map kv=m.map (kvi enc) →
    (getI m k=none∧Instr.findNow (.int .i64) (I k) L i=some none∧(∀ x∈L,x.key≠I k)∧∀ v,putI m k v=m++[(k,v)]) ∨
    ∃ v j,getI m k=some v∧Instr.findNow (.int .i64) (I k) L i=some (some (i+j,enc v))∧(∃ e,L[j]? = some e∧e.key=I k) ∧
      ∀ v',(L.modify j fun e=>{ e with key:=I k,val:=enc v' }).map kv=(putI m k v').map (kvi enc)
  | [],[],i,_ => .inl ⟨rfl,rfl,by simp,fun v=>rfl⟩
  | [],_::_,i,h=>by simp at h
  | _::_,[],i,h=>by simp at h
  | e::L,(k',v0)::m,i,h=>by
    simp only [List.map_cons,List.cons.injEq,Prod.mk.injEq] at h
    obtain ⟨⟨hk,hv⟩,hr⟩:=h
    simp only [getI,putI,Instr.findNow,hk,same_intk]
    by_cases hkk:k'=k
    · subst hkk
      refine .inr ⟨v0,0,by simp,by simp [hv],⟨e,rfl,hk⟩,fun v' => ?_⟩
      simp [hr]
    · have hkk':¬k=k':=fun e=>hkk e.symm
      simp only [if_neg hkk,decide_eq_false hkk']
      rcases findNow_okI k L m (i+1) hr with ⟨h1,h2,h3,h4⟩ | ⟨v,j,h1,h2,⟨e',h3,h3'⟩,h4⟩
      · refine .inl ⟨h1,h2,fun x hx => ?_,fun v=>by rw [h4];rfl⟩
        rcases List.mem_cons.1 hx with rfl | hx
        · rw [hk];intro q;exact hkk (Value.int.inj q).2
        · exact h3 x hx
      · refine .inr ⟨v,j+1,h1,by rw [h2];congr 3;omega,⟨e',by simpa using h3,h3'⟩,fun v' => ?_⟩
        rw [List.modify_succ_cons,List.map_cons,h4]
        simp [hk,hv]
structure MapTI (P:Program) (T et:TypeId) (z:Value):Prop where
  kt:∃ kt,P.underlying T=some (.map kt et)∧P.underlying kt=some (.int .i64)
  zero:∀ w,(zeroValue et).run P w = .ok z w
theorem checkKey_runI {P:Program} {w:World} {kt:TypeId} {e:Bool} {n:Nat} {s:Int} (h:P.underlying kt=some (.int .i64)):(Instr.checkKey e (n+1) kt (I s)).run P w = .ok () w:=by
  unfold Instr.checkKey
  rw [run_bind_ok (und_run h w)];rfl
theorem look_runI {P:Program} {T et:TypeId} {z:Value} (ht:MapTI P T et z) {α:Type} {enc:α→Value} {w:World} {b:Nat} {m:MpI α} (h:MapIsI enc w b m) (k:Int) (ok:Bool) :
    (Instr.lookup T (.map (some b)) (I k) ok).run P w = .ok (if ok then .tuple #[((getI m k).map enc).getD z,.bool (hasI m k)] else ((getI m k).map enc).getD z) w:=by
  obtain ⟨kt,h1,h2⟩:=ht.kt
  obtain ⟨es,clock,h3,h4,h5⟩:=h.is
  have e2:∀ r,Instr.findNow (.int .i64) (I k) es.toList 0=some r→(Instr.findKey kt (I k) es.toList).run P w = .ok r w:=fun r q=>by
    unfold Instr.findKey
    rw [run_bind_ok (und_run h2 w),q];rfl
  have e4:=ht.zero w
  rcases findNow_okI k es.toList m 0 h4 with ⟨g,q,_⟩ | ⟨v,j,g,q,_⟩
  · have e5:=e2 _ q
    have e6:((getI m k).map enc).getD z=z:=by rw [g];rfl
    have e7:hasI m k=false:=by unfold hasI;rw [g];rfl
    rw [e6,e7]
    simp [Instr.lookup,run_underlying h1,MapKept.run_getObj_map h3,checkKey_runI h2,e5,e4,Result.andThen]
  · have e5:=e2 _ q
    have e6:((getI m k).map enc).getD z=enc v:=by rw [g];rfl
    have e7:hasI m k=true:=by unfold hasI;rw [g];rfl
    rw [e6,e7]
    simp [Instr.lookup,run_underlying h1,MapKept.run_getObj_map h3,checkKey_runI h2,e5,Result.andThen]
theorem put_runI {P:Program} {T et:TypeId} {z:Value} (ht:MapTI P T et z) {α:Type} {enc:α→Value} {w:World} {b:Nat} {m:MpI α} (h:MapIsI enc w b m) (k:Int) (v:α) :
    ∃ w',(Instr.mapUpdate T (.map (some b)) (I k) (enc v)).run P w = .ok () w'∧Wr w b w'∧MapIsI enc w' b (putI m k v):=by
  obtain ⟨kt,h1,h2⟩:=ht.kt
  obtain ⟨es,clock,h3,h4,h5⟩:=h.is
  have hlt:=h.lt
  have upd:∀ o:Obj,(w.heap.setIfInBounds b o)[b]? = some o:=fun o=>by simp [hlt]
  have e2:∀ r,Instr.findNow (.int .i64) (I k) es.toList 0=some r→(Instr.findKey kt (I k) es.toList).run P w = .ok r w:=fun r q=>by
    unfold Instr.findKey
    rw [run_bind_ok (und_run h2 w),q];rfl
  rcases findNow_okI k es.toList m 0 h4 with ⟨_,q,q3,q4⟩ | ⟨u,j,_,q,⟨e,hj,hek⟩,q4⟩
  · refine ⟨{ w with heap:=w.heap.setIfInBounds b (.map (es.push { key:=I k,val:=enc v,born:=clock }) (clock+1)) },?_,setMap_wr ..,⟨_,_,upd _,?_,MapKept.stamped_push h5 q3⟩⟩
    · unfold Instr.mapUpdate
      rw [run_bind_ok (und_run h1 w)]
      simp only
      rw [run_bind_ok (getObj_run h3)]
      simp only
      rw [run_bind_ok (checkKey_runI h2),run_bind_ok (e2 _ q)]
      exact setObj_run h3
    · rw [Array.toList_push,List.map_append,h4,q4,List.map_append];rfl
  · have hj':es[j]? = some e:=by rw [←Array.getElem?_toList];exact hj
    refine ⟨{ w with heap:=w.heap.setIfInBounds b (.map (es.modify j fun e=>{ e with key:=I k,val:=enc v }) clock) },?_,setMap_wr ..,⟨_,_,upd _,?_,?_⟩⟩
    · unfold Instr.mapUpdate
      rw [run_bind_ok (und_run h1 w)]
      simp only
      rw [run_bind_ok (getObj_run h3)]
      simp only
      rw [run_bind_ok (checkKey_runI h2),run_bind_ok (e2 _ q)]
      simp only
      have e3:(Instr.keyThatStays (((es[0+j]?).map (·.key)).getD (I k)) (I k)).run P w = .ok (I k) w:=by
        rw [Nat.zero_add,hj']
        simp only [Option.map_some,Option.getD_some,hek]
        unfold Instr.keyThatStays
        have:Instr.sameBits 10000 (I k) (I k)=true:=by unfold Instr.sameBits;simp
        rw [this];rfl
      rw [run_bind_ok e3,Nat.zero_add]
      exact setObj_run h3
    · rw [Array.toList_modify,q4]
    · refine MapKept.stamped_modify h5 j _ (fun _ _=>rfl) fun e' _ he' => ?_
      rw [hj'] at he'
      obtain rfl:=Option.some.inj he'
      exact hek.symm
theorem putI_get {α:Type} (m:MpI α) (k k':Int) (v:α):getI (putI m k v) k'=if k=k' then some v else getI m k':=by
  induction m with
  | nil=>simp [putI,getI]
  | cons p m ih =>
    obtain ⟨k0,v0⟩:=p
    simp only [putI,getI]
    by_cases h:k0=k
    · subst h
      simp only [if_true,getI]
      by_cases h1:k0=k'
      · simp [h1]
      · simp [h1]
    · simp only [if_neg h,getI,ih]
      by_cases h1:k=k'
      · subst h1;simp [h]
      · simp [h1]
theorem mdR_mapI {α:Type} {enc:α→Value} {md:Option Md} {w w':World} {b:Nat} {m:MpI α} (hb:mdB md b) (h:mdR md w w') (hM:MapIsI enc w b m):MapIsI enc w' b m:=by
  cases md with
  | none=>have e:w'=w:=h;rw [e];exact hM
  | some m=>cases m with
    | t n=>have e:w'=w:=h;rw [e];exact hM
    | h S t=>exact hM.same (Kb.blk h b hb hM.lt)
    | b S t=>exact hM.same (Kb.blk h b hb hM.lt)
namespace Eng
variable {C:Cx} {s:St} {w:World}
theorem lki {md:Option Md} {ops:Array Oper} {T et:TypeId} {z:Value} {x i:Operand} {d:Nat} {ty:TypeId} {pos:String} {af:Array Edge} {g:Option (Nat×Bool)} {rest:List Oper} {k:List Item} {l:Env} {c:CEnv} {α:Type} {enc:α→Value} {b:Nat} {m:MpI α} {key:Int}
    (ht:MapTI C.P T et z) (hM:MapIsI enc w b m) (h:Wk C (.reg md ops rest k ((d,((getI m key).map enc).getD z)::l) c) w)
    (hs:adv C.tab C.n C.ks 400 s = .opn md ops ⟨some d,.lookup T x i false,ty,pos,af,g⟩ rest k l c []:=by rfl)
    (hx:evc l c [] x=some (.map (some b)):=by rfl) (hi:evc l c [] i=some (I key):=by rfl) (hf:fresh d l c []=true:=by rfl) (hm:mdB md b:=by first | exact True.intro | assumption | (simp only [mdB];omega)):Wk C s w :=
  rd (p:=[]) (fun _ _ hA hp _ hk=>by
    have hM':=mdR_mapI hm hk hM
    simp only [execOp,evc_ok hA.k hA.kc.c hp hx,evc_ok hA.k hA.kc.c hp hi]
    exact (run_bind_ok (look_runI ht hM' key false)).trans rfl) h hs rfl hf (okR_no rfl)
theorem mui {md:Option Md} {ops:Array Oper} {T et:TypeId} {z:Value} {x i y:Operand} {ty:TypeId} {pos:String} {af:Array Edge} {g:Option (Nat×Bool)} {rest:List Oper} {k:List Item} {l:Env} {c:CEnv} {α:Type} {enc:α→Value} {b:Nat} {m:MpI α} {key:Int} (v:α)
    (ht:MapTI C.P T et z) (hM:MapIsI enc w b m) (h:∀ w',Wr w b w'→MapIsI enc w' b (putI m key v)→Wk C (.reg md ops rest k l c) w')
    (hs:adv C.tab C.n C.ks 400 s = .opn md ops ⟨none,.mapUpdate T x i y,ty,pos,af,g⟩ rest k l c []:=by rfl)
    (hx:evc l c [] x=some (.map (some b)):=by rfl) (hi:evc l c [] i=some (I key):=by rfl) (hy:evc l c [] y=some (enc v):=by rfl) (hm:∀ w',Wr w b w'→mdW md w w':=by intros;exact True.intro) (hnt:notT md=true:=by rfl):Wk C s w:=by
  obtain ⟨w',hr,hw,hM'⟩:=put_runI ht hM key v
  exact op_unit (okW_of rfl hnt) (hm _ hw) (fun _ a hA=>by
    simp only [execOp,evc_ok hA.k hA.kc.c (p:=[]) trivial hx,evc_ok hA.k hA.kc.c (p:=[]) trivial hi,evc_ok hA.k hA.kc.c (p:=[]) trivial hy]
    exact (run_bind_ok hr).trans rfl) (h w' hw hM') hs rfl
theorem NewM.isI {w w':World} {b:Nat} (h:NewM w b w') {α:Type} (enc:α→Value):MapIsI enc w' b []:=by
  refine ⟨⟨#[],0,?_,rfl,MapKept.stamped_empty 0⟩⟩
  rw [h.eq,h.blk];show (w.heap.push _)[w.heap.size]? = _;simp
end Eng
end Go.Proofs.YtkmdfjpafkcleaaGreatDoor
namespace Go.Proofs.YtkmdfjpafkcleaaGreatDoor
open Eng Go.RowKit
theorem l_heavyM (m:Mod) (a:MA) (w:World) (hM:MdR T w m a):Ret Tryz.prog 16 #[.agg (modcells m a).toArray] w fun v w'=>∃ b,v = .bool b∧Bl w w':=by
  have q1:=hM.cls.big
  have q2:=hM.mth.big
  refine entr (vs:=[.agg (modcells m a).toArray]) [0,1,2,3,4,5,25,53] tabok Tryz.func16 (by kernel_rfl) ?_
  refine bx (cs:=modcells m a) fun b1 w1 k1 => ?_
  have x1:=k1.box
  refine ld (x1.cell rfl) ?_
  refine ld (x1.cell rfl) ?_
  refine ld (x1.cell rfl) ?_
  refine lpk m.classes.length 4 [3] [(1,.pointer (some ⟨b1,0,none⟩))] (fun k vals w'=>(∃ n,vals=[I n])∧Bl w1 w') ⟨⟨_,rfl⟩,Bl.refl _⟩ ?_
  rintro k vals w2 hk ⟨⟨n,rfl⟩,B2⟩ ih
  have x2:=Bl.box B2 x1
  refine ld (x2.cell rfl) ?_
  refine br (fun h => ?_) (fun h => ?_)
  · have hlt:k<m.classes.length:=by
      rcases Nat.lt_or_ge k m.classes.length with q | q
      · exact q
      · rw [decide_eq_false (show ¬((k:Int)<m.classes.length) by omega)] at h
        simp at h
    obtain ⟨c,b,o,cs,hc,e2,_,hAt,a3,c3,a4,c4,rfl,_⟩:=at_some (hM.bl (k1.bl.trans B2)).cls hlt
    refine dh T (List.range 18) fun w3 h3 => ?_
    have x3:=h3.box x2
    have hA:=hAt.bl h3.bl
    refine ld (x3.cell rfl) ?_ (hm:=trivial)
    rw [e2]
    refine ix ?_
    refine ld (hA 2 _ rfl) ?_ (hm:=trivial)
    refine ld (x3.cell rfl) ?_ (hm:=trivial)
    rw [e2]
    refine ix ?_
    refine ld (hA 3 _ rfl) ?_ (hm:=trivial)
    exact ih hlt ⟨⟨_,rfl⟩,B2.trans h3.bl⟩
  clear ih h
  refine lpk m.methods.length 5 [3] [(1,.pointer (some ⟨b1,0,none⟩))] (fun k vals w'=>(∃ n,vals=[I n])∧Bl w1 w') ⟨⟨_,rfl⟩,B2⟩ ?_
  clear x2 B2
  rintro k vals w2 hk ⟨⟨n,rfl⟩,B2⟩ ih
  have x2:=Bl.box B2 x1
  refine ld (x2.cell rfl) ?_
  refine br (fun h => ?_) (fun h => ?_)
  · have hlt:k<m.methods.length:=by
      rcases Nat.lt_or_ge k m.methods.length with q | q
      · exact q
      · rw [decide_eq_false (show ¬((k:Int)<m.methods.length) by omega)] at h
        simp at h
    obtain ⟨c,b,o,cs,hc,e2,_,hAt,a3,c3,a4,c4,a5,c5,rfl,_⟩:=at_some (hM.bl (k1.bl.trans B2)).mth hlt
    refine dh T (List.range 26) fun w3 h3 => ?_
    have x3:=h3.box x2
    have hA:=hAt.bl h3.bl
    refine ld (x3.cell rfl) ?_ (hm:=trivial)
    rw [e2]
    refine ix ?_
    refine ld (hA 6 _ rfl) ?_ (hm:=trivial)
    refine ld (x3.cell rfl) ?_ (hm:=trivial)
    rw [e2]
    refine ix ?_
    refine ld (hA 2 _ rfl) ?_ (hm:=trivial)
    refine ld (x3.cell rfl) ?_ (hm:=trivial)
    rw [e2]
    refine ix ?_
    refine ld (hA 3 _ rfl) ?_ (hm:=trivial)
    exact ih hlt ⟨⟨_,rfl⟩,B2.trans h3.bl⟩
  exact rt1 ⟨_,rfl,k1.bl.trans B2⟩
end Go.Proofs.YtkmdfjpafkcleaaGreatDoor
