import Derived.Test.YtkmdfjpafkcleaaGreatDoorM3
import Derived.Test.YtkmdfjpafkcleaaGreatDoorM4
import Derived.Lib.LastIndexByte
import Derived.Test.YtkmdfjpafkcleaaGreatDoorM2
/- Walks: what all units declare. -/
namespace Go.Proofs.YtkmdfjpafkcleaaGreatDoor
open Eng Go.RowKit
structure Nc (b:Nat) (w w':World):Prop where
  os:w'.os=w.os
  tape:w'.tape=w.tape
  output:w'.output=w.output
  size:w.heap.size≤w'.heap.size
  blk:∀ i,i<w.heap.size→i≠b→w'.heap[i]? = w.heap[i]?
theorem Nc.nb {b:Nat} {w w':World} (h:Nc b w w'):Nb b w w':=⟨h.size,h.blk⟩
theorem Nc.of_bl {b:Nat} {w w':World} (h:Bl w w'):Nc b w w':=⟨h.os,h.tape,h.output,h.size,fun i hi _=>h.block i hi⟩
theorem Nc.trans {b:Nat} {w w1 w2:World} (h:Nc b w w1) (k:Nc b w1 w2):Nc b w w2:=⟨k.os.trans h.os,k.tape.trans h.tape,k.output.trans h.output,Nat.le_trans h.size k.size,fun i hi hne=>(k.blk i (Nat.lt_of_lt_of_le hi h.size) hne).trans (h.blk i hi hne)⟩
theorem Nc.bl {b:Nat} {w w1 w2:World} (h:Nc b w w1) (k:Bl w1 w2):Nc b w w2:=h.trans (Nc.of_bl k)
theorem Nc.wr {b c:Nat} {w w1 w2:World} (h:Nc b w w1) (k:Wr w1 c w2) (hc:c=b∨w.heap.size≤c):Nc b w w2 :=
  ⟨k.os.trans h.os,k.tape.trans h.tape,k.output.trans h.output,by rw [k.size];exact h.size,fun i hi hne=>(k.block i (by rcases hc with rfl | hc <;> omega)).trans (h.blk i hi hne)⟩
theorem Nc.ap {b:Nat} {w w1 w2:World} {a:Option Addr} (h:Nc b w w1) (k:Ap w1 a w2) (ha:∀ g,a=some ⟨g,0,none⟩→w.heap.size≤g):Nc b w w2 :=
  ⟨k.os.trans h.os,k.tape.trans h.tape,k.output.trans h.output,Nat.le_trans h.size k.size,fun i hi hne=>(k.block i (Nat.lt_of_lt_of_le hi h.size) fun e=>by have:=ha i e;omega).trans (h.blk i hi hne)⟩
theorem Nc.below {b B:Nat} {w0 w w':World} (h:Below B w0 w) (k:Nc b w w') (hb:B≤b) (hB:B≤w.heap.size):Below B w0 w':=h.trans ⟨k.os,k.tape,k.output,k.size,fun i hi=>k.blk i (by omega) (by omega)⟩
abbrev lcells (u m1 m2 m3 m4 m5 m6 o1 o2 o3 o4 ly:Value):List Value:=[u,m1,m2,m3,m4,m5,m6,o1,o2,o3,o4,ly]
abbrev nilS:Value := .slice none 0 0
abbrev mpv (m:Nat):Value := .map (some m)
structure RowsD (w:World) (base:Nat) (M:Mp Rs):Prop where
  ow:∀ k r,getM M k=some r→OwP 1 encStr w base 9 r.a r.c r.l
  ne:∀ k k' r r',getM M k=some r→getM M k'=some r'→k≠k'→∀ g,r.a=some ⟨g,0,none⟩→r'.a≠some ⟨g,0,none⟩
theorem RowsD.nil (w:World) (base:Nat):RowsD w base []:=⟨fun _ _ h=>(by cases h),fun _ _ _ _ h=>(by cases h)⟩
theorem RowsD.bl {w w':World} {base:Nat} {M:Mp Rs} (h:RowsD w base M) (k:Bl w w'):RowsD w' base M:=⟨fun x r hr=>(h.ow x r hr).bl k,h.ne⟩
theorem RowsD.wr {w w':World} {base m:Nat} {M:Mp Rs} (h:RowsD w base M) (k:Wr w m w') {α:Type} {enc:α→Value} {X:Mp α} (hm:MapIs enc w m X):RowsD w' base M :=
  ⟨fun x r hr=>(h.ow x r hr).wr k fun g hg e=>hm.ow (h.ow x r hr) (by rw [hg,e]),h.ne⟩
theorem RowsD.at0 {w:World} {base:Nat} {M:Mp Rs} (h:RowsD w base M) (k:ByteArray):OwP 1 encStr w base 9 ((getM M k).getD rs0).a ((getM M k).getD rs0).c ((getM M k).getD rs0).l:=by
  cases hg:getM M k with
  | none=>exact Ow.nil ..
  | some r=>exact h.ow k r hg
theorem RowsD.app {w w':World} {base:Nat} {M:Mp Rs} (h:RowsD w base M) (k:ByteArray) {x:ByteArray} {a':Option Addr} {c':Nat} (hA:Ap w ((getM M k).getD rs0).a w') (hO:OwP 1 encStr w' base 9 a' c' (((getM M k).getD rs0).l++[x]))
    (hf:∀ g,a'=some ⟨g,0,none⟩→((getM M k).getD rs0).a=some ⟨g,0,none⟩∨w.heap.size≤g):RowsD w' base (putM M k ⟨a',c',((getM M k).getD rs0).l++[x]⟩):=by
  have hne:∀ k' r',k'≠k→getM M k'=some r'→∀ g,r'.a=some ⟨g,0,none⟩→((getM M k).getD rs0).a≠some ⟨g,0,none⟩:=fun k' r' hk hr g hg=>by
    cases hq:getM M k with
    | none=>intro e;cases e
    | some r=>exact fun e=>h.ne k k' r r' hq hr (fun q=>hk q.symm) g e hg
  have hnew:∀ k' r',k'≠k→getM M k'=some r'→∀ g,r'.a=some ⟨g,0,none⟩→a'≠some ⟨g,0,none⟩:=fun k' r' hk hr g hg e=>by
    rcases hf g e with q | q
    · exact hne k' r' hk hr g hg q
    · have:=((h.ow k' r' hr).lt hg).2;omega
  refine ⟨fun k' r hr => ?_,fun k1 k2 r1 r2 h1 h2 hk g hg => ?_⟩
  · rw [putM_get] at hr
    split at hr
    · obtain rfl:=Option.some.inj hr;exact hO
    · rename_i hk
      exact (h.ow k' r hr).apart hA (hne k' r (fun e=>hk e.symm) hr)
  · rw [putM_get] at h1 h2
    split at h1
    · rename_i e1
      obtain rfl:=Option.some.inj h1
      split at h2
      · rename_i e2;exact absurd (e1.symm.trans e2) hk
      · rename_i e2;exact fun e=>hnew k2 r2 (fun q=>e2 q.symm) h2 g e hg
    · rename_i e1
      split at h2
      · obtain rfl:=Option.some.inj h2
        exact hnew k1 r1 (fun q=>e1 q.symm) h1 g hg
      · exact h.ne k1 k2 r1 r2 h1 h2 hk g hg
structure DcW (w0:World) (b:Nat) (u:Value) (m1 m2 m3 m4 m5 m6:Nat) (D:Dcl) (M:Mp Rs) (N:Nat) (w:World):Prop where
  box:Box w b 88 (lcells u (mpv m1) (mpv m2) (mpv m3) (mpv m4) (mpv m5) (mpv m6) nilS nilS nilS nilS (.map none))
  cl:MapIs encD w m1 D.classes
  st:MapIs encD w m2 D.statics
  ca:MapIs encD w m3 D.calls
  se:MapIs encD w m4 D.sends
  na:MapIs encR w m5 M
  nm:mapV Rs.l M=D.named
  fi:MapIs Value.bool w m6 D.fields
  rw:RowsD w w0.heap.size M
  nd:m1≠m2∧m1≠m3∧m1≠m4∧m1≠m5∧m1≠m6∧m2≠m3∧m2≠m4∧m2≠m5∧m2≠m6∧m3≠m4∧m3≠m5∧m3≠m6∧m4≠m5∧m4≠m6∧m5≠m6
  ge:w0.heap.size≤m1∧w0.heap.size≤m2∧w0.heap.size≤m3∧w0.heap.size≤m4∧w0.heap.size≤m5∧w0.heap.size≤m6
  nc:Nc b w0 w
  ln:∀ p∈D.named,p.2.length≤N
variable {w0 w w':World} {b:Nat} {u:Value} {m1 m2 m3 m4 m5 m6:Nat} {D:Dcl} {M:Mp Rs} {N:Nat}
theorem DcW.bl (h:DcW w0 b u m1 m2 m3 m4 m5 m6 D M N w) (k:Bl w w'):DcW w0 b u m1 m2 m3 m4 m5 m6 D M N w' :=
  ⟨Bl.box k h.box,h.cl.bl k,h.st.bl k,h.ca.bl k,h.se.bl k,h.na.bl k,h.nm,h.fi.bl k,h.rw.bl k,h.nd,h.ge,h.nc.bl k,h.ln⟩
theorem DcW.cls (h:DcW w0 b u m1 m2 m3 m4 m5 m6 D M N w) (k:Wr w m1 w') {X:Mp (Nat×Nat)} (hX:MapIs encD w' m1 X):DcW w0 b u m1 m2 m3 m4 m5 m6 { D with classes:=X } M N w':=by
  obtain ⟨n1,n2,n3,n4,n5,n6,n7,n8,n9,n10,n11,n12,n13,n14,n15⟩:=h.nd
  exact ⟨k.box h.box (h.cl.ne h.box).symm,hX,h.st.wr k n1.symm,h.ca.wr k n2.symm,h.se.wr k n3.symm,h.na.wr k n4.symm,h.nm,h.fi.wr k n5.symm,h.rw.wr k h.cl,h.nd,h.ge,h.nc.wr k (.inr h.ge.1),h.ln⟩
theorem DcW.sta (h:DcW w0 b u m1 m2 m3 m4 m5 m6 D M N w) (k:Wr w m2 w') {X:Mp (Nat×Nat)} (hX:MapIs encD w' m2 X):DcW w0 b u m1 m2 m3 m4 m5 m6 { D with statics:=X } M N w':=by
  obtain ⟨n1,n2,n3,n4,n5,n6,n7,n8,n9,n10,n11,n12,n13,n14,n15⟩:=h.nd
  exact ⟨k.box h.box (h.st.ne h.box).symm,h.cl.wr k n1,hX,h.ca.wr k n6.symm,h.se.wr k n7.symm,h.na.wr k n8.symm,h.nm,h.fi.wr k n9.symm,h.rw.wr k h.st,h.nd,h.ge,h.nc.wr k (.inr h.ge.2.1),h.ln⟩
theorem DcW.cal (h:DcW w0 b u m1 m2 m3 m4 m5 m6 D M N w) (k:Wr w m3 w') {X:Mp (Nat×Nat)} (hX:MapIs encD w' m3 X):DcW w0 b u m1 m2 m3 m4 m5 m6 { D with calls:=X } M N w':=by
  obtain ⟨n1,n2,n3,n4,n5,n6,n7,n8,n9,n10,n11,n12,n13,n14,n15⟩:=h.nd
  exact ⟨k.box h.box (h.ca.ne h.box).symm,h.cl.wr k n2,h.st.wr k n6,hX,h.se.wr k n10.symm,h.na.wr k n11.symm,h.nm,h.fi.wr k n12.symm,h.rw.wr k h.ca,h.nd,h.ge,h.nc.wr k (.inr h.ge.2.2.1),h.ln⟩
theorem DcW.sen (h:DcW w0 b u m1 m2 m3 m4 m5 m6 D M N w) (k:Wr w m4 w') {X:Mp (Nat×Nat)} (hX:MapIs encD w' m4 X):DcW w0 b u m1 m2 m3 m4 m5 m6 { D with sends:=X } M N w':=by
  obtain ⟨n1,n2,n3,n4,n5,n6,n7,n8,n9,n10,n11,n12,n13,n14,n15⟩:=h.nd
  exact ⟨k.box h.box (h.se.ne h.box).symm,h.cl.wr k n3,h.st.wr k n7,h.ca.wr k n10,hX,h.na.wr k n13.symm,h.nm,h.fi.wr k n14.symm,h.rw.wr k h.se,h.nd,h.ge,h.nc.wr k (.inr h.ge.2.2.2.1),h.ln⟩
theorem DcW.fld (h:DcW w0 b u m1 m2 m3 m4 m5 m6 D M N w) (k:Wr w m6 w') {X:Mp Bool} (hX:MapIs Value.bool w' m6 X):DcW w0 b u m1 m2 m3 m4 m5 m6 { D with fields:=X } M N w':=by
  obtain ⟨n1,n2,n3,n4,n5,n6,n7,n8,n9,n10,n11,n12,n13,n14,n15⟩:=h.nd
  exact ⟨k.box h.box (h.fi.ne h.box).symm,h.cl.wr k n5,h.st.wr k n9,h.ca.wr k n12,h.se.wr k n14,h.na.wr k n15,h.nm,hX,h.rw.wr k h.fi,h.nd,h.ge,h.nc.wr k (.inr h.ge.2.2.2.2.2),h.ln⟩
theorem putM_mem {α:Type}:∀ {m:Mp α} {k:ByteArray} {v:α} {p:ByteArray×α},p∈putM m k v→p=(k,v)∨p∈m
  | [],_,_,_,h => .inl (by simpa [putM] using h)
  | (k0,v0)::m,k,v,p,h=>by
    simp only [putM] at h
    split at h
    · rcases List.mem_cons.1 h with e | h
      · exact .inl e
      · exact .inr (List.mem_cons_of_mem _ h)
    · rcases List.mem_cons.1 h with e | h
      · exact .inr (by rw [e];exact List.mem_cons_self ..)
      · rcases putM_mem h with e | e
        · exact .inl e
        · exact .inr (List.mem_cons_of_mem _ e)
theorem DcW.nam {w1:World} (h:DcW w0 b u m1 m2 m3 m4 m5 m6 D M N w) (key:ByteArray) {x:ByteArray} {a':Option Addr} {c':Nat} (hA:Ap w ((getM M key).getD rs0).a w1) (hO:OwP 1 encStr w1 w0.heap.size 9 a' c' (((getM M key).getD rs0).l++[x]))
    (hf:∀ g,a'=some ⟨g,0,none⟩→((getM M key).getD rs0).a=some ⟨g,0,none⟩∨w.heap.size≤g) (k:Wr w1 m5 w') (hX:MapIs encR w' m5 (putM M key ⟨a',c',((getM M key).getD rs0).l++[x]⟩)) :
    DcW w0 b u m1 m2 m3 m4 m5 m6 { D with named:=putM D.named key ((getM D.named key).getD []++[x]) } (putM M key ⟨a',c',((getM M key).getD rs0).l++[x]⟩) (N+1) w':=by
  obtain ⟨n1,n2,n3,n4,n5,n6,n7,n8,n9,n10,n11,n12,n13,n14,n15⟩:=h.nd
  have o:=h.rw.at0 key
  have hl:=named_at h.nm key
  have na1:=h.na.ap hA (h.na.ow o)
  have box1:=hA.box h.box (o.nbox h.box (by decide))
  refine ⟨k.box box1 (na1.ne box1).symm,(h.cl.ap hA (h.cl.ow o)).wr k n4,(h.st.ap hA (h.st.ow o)).wr k n8,(h.ca.ap hA (h.ca.ow o)).wr k n11,(h.se.ap hA (h.se.ow o)).wr k n13,hX,?_,(h.fi.ap hA (h.fi.ow o)).wr k n15.symm,
    (h.rw.app key hA hO hf).wr k na1,h.nd,h.ge,(h.nc.ap hA fun g hg=>(o.lt hg).1).wr k (.inr h.ge.2.2.2.2.1),fun p hp => ?_⟩
  · rw [←putM_mapV,h.nm,hl]
  · rcases putM_mem hp with rfl | hp
    · have:((getM D.named key).getD []).length≤N:=by
        cases hg:getM D.named key with
        | none=>exact Nat.zero_le _
        | some l=>exact h.ln _ (getM_mem hg)
      simp only [List.length_append,List.length_cons,List.length_nil];omega
    · have:=h.ln p hp;omega
end Go.Proofs.YtkmdfjpafkcleaaGreatDoor
namespace Go.Proofs.YtkmdfjpafkcleaaGreatDoor
open Eng Go.RowKit
abbrev tLn:TypeId:=88
theorem poolAt {S:Nat→Prop} {w:World} {u:Unt} {ua:UA} (h:UnR S w u ua) {i:Int} (hi:inP u i):∃ (k:Nat) (b o:Nat),i=k∧k<u.pool.length∧ua.a1=some ⟨b,o,none⟩∧S b∧w.cell? ⟨b,o+k*1,none⟩=some (.string (nm u i)):=by
  obtain ⟨k,rfl,hk⟩:=inP_at hi
  obtain ⟨b,o,cs,e,hs,hAt,rfl⟩:=h.pool.el k _ hk
  exact ⟨k,b,o,rfl,(List.getElem?_eq_some_iff.1 hk).1,e,hs,hAt 0 _ rfl⟩
theorem nm_size {S:Nat→Prop} {w:World} {u:Unt} {ua:UA} (h:UnR S w u ua) {i:Int} (hi:inP u i):(nm u i).size≤1048576:=h.ps _ (nm_mem hi)
theorem dots_size (x y:ByteArray):(dots x y).size=x.size+1+y.size:=by
  unfold dots
  rw [ByteArray.size_append,ByteArray.size_append];rfl
set_option maxHeartbeats 4000000 in
theorem k_declare {w0:World} {b:Nat} {us:List Unt} {au:Option Addr} {cu:Nat} (hx:Box w0 b tLn (lcells (.slice au us.length cu) (.map none) (.map none) (.map none) (.map none) (.map none) (.map none) nilS nilS nilS nilS (.map none)))
    (hS:Sl eUnt (· ≠ b) w0 au us) (hC:∀ u∈us,CkU u) (h5:us.length≤5) :
    Ret Tryz.prog 91 #[.pointer (some ⟨b,0,none⟩)] w0 fun _ w'=>∃ m1 m2 m3 m4 m5 m6 M,DcW w0 b (.slice au us.length cu) m1 m2 m3 m4 m5 m6 (decl us) M 1000 w':=by
  have hb0:=hx.lt
  refine entr (vs:=[.pointer (some ⟨b,0,none⟩)]) [0,2,3,4,5,6,8,9,10,11,12,13,14,42,43,44,45,50,51,52,53,76,77,78,79,98,99,100,101,124,125,126,127,139] tabok Tryz.func91 (by kernel_rfl) ?_
  refine mm fun m1 w1 k1 => ?_
  refine mm fun m2 w2 k2 => ?_
  refine mm fun m3 w3 k3 => ?_
  have B13:=k2.bl.trans k3.bl
  refine st (Bl.box (k1.bl.trans B13) hx) fun w4 k4 x4 => ?_
  refine st x4 fun w5 k5 x5 => ?_
  refine st x5 fun w6 k6 x6 => ?_
  refine mm fun m4 w7 k7 => ?_
  refine mm fun m5 w8 k8 => ?_
  refine mm fun m6 w9 k9 => ?_
  have B79:=k8.bl.trans k9.bl
  refine st (Bl.box (k7.bl.trans B79) x6) fun w10 k10 x10 => ?_
  refine st x10 fun w11 k11 x11 => ?_
  refine st x11 fun w12 k12 x12 => ?_
  have z1:=k1.size;have z2:=k2.size;have z3:=k3.size;have z4:=k4.size;have z5:=k5.size;have z6:=k6.size;have z7:=k7.size;have z8:=k8.size;have z9:=k9.size;have z10:=k10.size;have z11:=k11.size;have z12:=k12.size
  have y1:=k1.blk;have y2:=k2.blk;have y3:=k3.blk;have y7:=k7.blk;have y8:=k8.blk;have y9:=k9.blk
  have n912:Nc b w9 w12:=((Nc.of_bl (Bl.refl w9)).wr k10 (.inl rfl)).wr k11 (.inl rfl) |>.wr k12 (.inl rfl)
  have n812:=(Nc.of_bl (b:=b) k9.bl).trans n912
  have n712:=(Nc.of_bl (b:=b) B79).trans n912
  have n612:=(Nc.of_bl (b:=b) k7.bl).trans n712
  have n312:Nc b w3 w12:=(((Nc.of_bl (Bl.refl w3)).wr k4 (.inl rfl)).wr k5 (.inl rfl) |>.wr k6 (.inl rfl)).trans n612
  have n212:=(Nc.of_bl (b:=b) k3.bl).trans n312
  have n112:=(Nc.of_bl (b:=b) B13).trans n312
  have n012:=(Nc.of_bl (b:=b) k1.bl).trans n112
  have D12:DcW w0 b (.slice au us.length cu) m1 m2 m3 m4 m5 m6 dcl0 [] 0 w12 :=
    ⟨x12,(k1.is encD).nb n112.nb (by omega),(k2.is encD).nb n212.nb (by omega),(k3.is encD).nb n312.nb (by omega),(k7.is encD).nb n712.nb (by omega),(k8.is encR).nb n812.nb (by omega),rfl,(k9.is Value.bool).nb n912.nb (by omega),RowsD.nil ..,by omega,by omega,n012,fun p hp=>by cases hp⟩
  clear n912 n812 n712 n612 n312 n212 n112 n012
  refine ld (x12.cell rfl) ?_
  refine lpk us.length 44 [] [(0,.pointer (some ⟨b,0,none⟩)),(42,.slice au us.length cu),(43,I us.length)] (fun n vals w'=>vals=[]∧∃ M,DcW w0 b (.slice au us.length cu) m1 m2 m3 m4 m5 m6 (foldI dUnt (us.take n) dcl0) M (16*n) w') ⟨rfl,[],D12⟩ ?_
  rintro n vals v1 hn ⟨rfl,M,D1⟩ ih
  by_cases hlt:n<us.length
  rotate_left
  · refine brF ?_
    obtain rfl:n=us.length:=by omega
    rw [foldI_end] at D1
    exact en (vs:=[]) ⟨m1,m2,m3,m4,m5,m6,M,{ D1 with ln:=fun p hp=>by have:=D1.ln p hp;omega }⟩
  refine brT ?_
  obtain ⟨u,bu,ou,cs,hu,rfl,hbu,hAtu,ua,rfl,hU⟩:=at_some hS hlt
  have hum:=List.mem_of_getElem? hu
  have hCu:=hC u hum
  have hI:=ixs_of hCu
  have hLm:=lim_of hCu.lim
  refine ix ?_
  refine lda (hAtu.kp D1.nc.nb.kp hbu) ?_
  refine al fun b3 v2 k2 => ?_
  refine sta (cs':=ucells u ua) k2.box fun v3 k3 x3 => ?_
  have D3:=D1.bl (k2.wr k3)
  refine ld (x3.cell rfl) ?_
  refine lpk (vals:=[]) u.classes.length 52 [] [(0,.pointer (some ⟨b,0,none⟩)),(42,.slice (some ⟨bu,ou,none⟩) us.length cu),(43,I us.length),(44,I n),(2,I n),(3,.pointer (some ⟨b3,0,none⟩)),(50,.slice ua.a2 u.classes.length ua.c2),(51,I u.classes.length)]
    (fun k vals w'=>vals=[]∧Box w' b3 38 (ucells u ua)∧∃ M,DcW w0 b (.slice (some ⟨bu,ou,none⟩) us.length cu) m1 m2 m3 m4 m5 m6 (foldI (dCls u n) (u.classes.take k) (foldI dUnt (us.take n) dcl0)) M (16*n) w') ⟨rfl,x3,M,D3⟩ ?_ (hn:=by have:=hLm.cls;omega)
  rintro k vals v4 hk ⟨rfl,x4,M,D4⟩ ih2
  by_cases hkl:k<u.classes.length
  · refine brT ?_
    obtain ⟨c,bc,oc,cs,hc,e2,hbc,hAtc,af,cf,rfl,hF⟩:=at_some hU.cls hkl
    have hcm:=List.mem_of_getElem? hc
    rw [e2]
    refine ix ?_
    refine lda (hAtc.kp D4.nc.nb.kp hbc) ?_
    refine al fun b5 v5 k5 => ?_
    refine sta (cs':=ccells c af cf) k5.box fun v6 k6 x6 => ?_
    have D6:=D4.bl (k5.wr k6)
    have x46:=Bl.box (k5.wr k6) x4
    refine ds fun v7 k7 => ?_
    have D7:=D6.bl k7.bl
    have x47:=k7.box x46
    have x67:=k7.box x6
    obtain ⟨ip,bp,op,ei,hip,ep,hbp,hcp⟩:=poolAt hU (hI.plc.cn c hcm)
    refine ld (x47.cell rfl) ?_
    refine cat ?_ (hab:=by have:=hU.nm;show _+1≤_;omega)
    refine ld (x47.cell rfl) ?_
    refine ld (x67.cell rfl) ?_
    rw [ep]
    refine ix (j:=ip) ?_ (hij:=ei)
    refine ld (D7.nc.nb.kp _ _ _ hbp hcp) ?_
    refine cat ?_ (hab:=by have:=hU.nm;have:=nm_size hU (hI.plc.cn c hcm);rw [ByteArray.size_append];show _+1+_≤_;omega)
    obtain ⟨p,hp⟩:∃ p,u.name++⟨#[46]⟩++nm u c.name=p:=⟨_,rfl⟩
    have hpd:dots u.name (nm u c.name)=p:=hp
    have hps:p.size≤2097153:=by have:=hU.nm;have:=nm_size hU (hI.plc.cn c hcm);rw [←hpd,dots_size];omega
    rw [hp]
    refine ld (D7.box.cell rfl) ?_
    refine bd ?_
    refine mu (n,k) tD D7.cl fun v8 k8 hM8 => ?_
    have D8:=D7.cls k8 hM8
    have x48:=k8.box x47 (D7.cl.ne x47).symm
    have x68:=k8.box x67 (D7.cl.ne x67).symm
    refine ld (x68.cell rfl) ?_
    refine lpk (vals:=[]) c.fields.length 78 [] [(0,.pointer (some ⟨b,0,none⟩)),(42,.slice (some ⟨bu,ou,none⟩) us.length cu),(43,I us.length),(44,I n),(2,I n),(3,.pointer (some ⟨b3,0,none⟩)),(50,.slice (some ⟨bc,oc,none⟩) u.classes.length ua.c2),(51,I u.classes.length),(52,I k),(6,.string p),(76,.slice af c.fields.length cf),(77,I c.fields.length)]
      (fun j vals w'=>vals=[]∧Box w' b3 38 (ucells u ua)∧∃ M,DcW w0 b (.slice (some ⟨bu,ou,none⟩) us.length cu) m1 m2 m3 m4 m5 m6 ((c.fields.take j).foldl (dFld u p) { (foldI (dCls u n) (u.classes.take k) (foldI dUnt (us.take n) dcl0)) with classes:=putM (foldI (dCls u n) (u.classes.take k) (foldI dUnt (us.take n) dcl0)).classes p (n,k) }) M (16*n) w') ⟨rfl,x48,M,D8⟩ ?_ (hn:=by have:=hLm.flds c hcm;omega)
    rintro j vals v9 hj ⟨rfl,x9,M,D9⟩ ih3
    by_cases hjl:j<c.fields.length
    · refine brT ?_
      obtain ⟨f,bf,off,cs,hf,rfl,hbf,hAtf,rfl⟩:=at_some hF hjl
      have hfi:=hI.plc.fn c hcm f (List.mem_of_getElem? hf)
      refine ix ?_
      refine lda (hAtf.kp D9.nc.nb.kp hbf) ?_
      refine al fun b8 v10 k10 => ?_
      refine sta (cs':=encFld f) k10.box fun v11 k11 x11 => ?_
      have D11:=D9.bl (k10.wr k11)
      have x911:=Bl.box (k10.wr k11) x9
      refine dt 1 fun v12 k12 => ?_
      have D12:=D11.bl k12.bl
      have x912:=k12.box x911
      have x1112:=k12.box x11
      obtain ⟨ip,bp,op,ei,hip,ep,hbp,hcp⟩:=poolAt hU hfi
      have hnf:=nm_size hU hfi
      refine ld (D12.box.cell rfl) ?_
      refine cat ?_ (hab:=by show _+1≤_;omega)
      refine ld (x912.cell rfl) ?_
      refine ld (x1112.cell rfl) ?_
      rw [ep]
      refine ix (j:=ip) ?_ (hij:=ei)
      refine ld (D12.nc.nb.kp _ _ _ hbp hcp) ?_
      refine cat ?_ (hab:=by rw [ByteArray.size_append];show _+1+_≤_;omega)
      refine mu true tB D12.fi fun v13 k13 hM13 => ?_
      have D13:=D12.fld k13 hM13
      exact ih3 hjl ⟨rfl,k13.box x912 (D12.fi.ne x912).symm,M,by rw [take_succ_some hf,List.foldl_append];exact D13⟩
    · refine brF ?_
      obtain rfl:j=c.fields.length:=by omega
      rw [List.take_length] at D9
      refine ih2 hkl ⟨rfl,x9,M,?_⟩ (hsub:=by simp only [e2];repeat (first | exact True.intro | (refine ⟨rfl,?_⟩)))
      rw [foldI_snoc hc]
      unfold dCls
      rw [hpd];exact D9
  · refine brF ?_
    obtain rfl:k=u.classes.length:=by omega
    clear ih2
    rw [foldI_end] at D4
    refine ld (x4.cell rfl) ?_
    refine lpk (vals:=[]) u.statics.length 100 [] [(0,.pointer (some ⟨b,0,none⟩)),(42,.slice (some ⟨bu,ou,none⟩) us.length cu),(43,I us.length),(44,I n),(2,I n),(3,.pointer (some ⟨b3,0,none⟩)),(98,.slice ua.a3 u.statics.length ua.c3),(99,I u.statics.length)]
      (fun k vals w'=>vals=[]∧Box w' b3 38 (ucells u ua)∧∃ M,DcW w0 b (.slice (some ⟨bu,ou,none⟩) us.length cu) m1 m2 m3 m4 m5 m6 (foldI (dSta u n) (u.statics.take k) (foldI (dCls u n) u.classes (foldI dUnt (us.take n) dcl0))) M (16*n) w') ⟨rfl,x4,M,D4⟩ ?_ (hn:=by have:=hLm.sta;omega)
    clear D4 x4
    rintro k vals v4 hk ⟨rfl,x4,M,D4⟩ ih2
    by_cases hkl:k<u.statics.length
    · refine brT ?_
      obtain ⟨f,bc,oc,cs,hc,e2,hbc,hAtc,rfl⟩:=at_some hU.sta hkl
      have hfi:=hI.plc.sn f (List.mem_of_getElem? hc)
      rw [e2]
      refine ix ?_
      refine lda (hAtc.kp D4.nc.nb.kp hbc) ?_
      refine al fun b5 v5 k5 => ?_
      refine sta (cs':=encFld f) k5.box fun v6 k6 x6 => ?_
      have D6:=D4.bl (k5.wr k6)
      have x46:=Bl.box (k5.wr k6) x4
      refine dt 1 fun v7 k7 => ?_
      have D7:=D6.bl k7.bl
      have x47:=k7.box x46
      have x67:=k7.box x6
      obtain ⟨ip,bp,op,ei,hip,ep,hbp,hcp⟩:=poolAt hU hfi
      have hnf:=nm_size hU hfi
      have hnu:=hU.nm
      refine ld (D7.box.cell rfl) ?_
      refine ld (x47.cell rfl) ?_
      refine cat ?_ (hab:=by show _+1≤_;omega)
      refine ld (x47.cell rfl) ?_
      refine ld (x67.cell rfl) ?_
      rw [ep]
      refine ix (j:=ip) ?_ (hij:=ei)
      refine ld (D7.nc.nb.kp _ _ _ hbp hcp) ?_
      refine cat ?_ (hab:=by rw [ByteArray.size_append];show _+1+_≤_;omega)
      refine bd ?_
      refine mu (n,k) tD D7.st fun v8 k8 hM8 => ?_
      have D8:=D7.sta k8 hM8
      refine ih2 hkl ⟨rfl,k8.box x47 (D7.st.ne x47).symm,M,?_⟩ (hsub:=by simp only [e2];repeat (first | exact True.intro | (refine ⟨rfl,?_⟩)))
      rw [foldI_snoc hc];exact D8
    · refine brF ?_
      obtain rfl:k=u.statics.length:=by omega
      clear ih2
      rw [foldI_end] at D4
      refine ld (x4.cell rfl) ?_
      refine lpk (vals:=[]) u.methods.length 126 [] [(0,.pointer (some ⟨b,0,none⟩)),(42,.slice (some ⟨bu,ou,none⟩) us.length cu),(43,I us.length),(44,I n),(2,I n),(3,.pointer (some ⟨b3,0,none⟩)),(124,.slice ua.a4 u.methods.length ua.c4),(125,I u.methods.length)]
        (fun k vals w'=>vals=[]∧Box w' b3 38 (ucells u ua)∧∃ M,DcW w0 b (.slice (some ⟨bu,ou,none⟩) us.length cu) m1 m2 m3 m4 m5 m6 (foldI (dMth u n) (u.methods.take k) (foldI (dSta u n) u.statics (foldI (dCls u n) u.classes (foldI dUnt (us.take n) dcl0)))) M (16*n+k) w') ⟨rfl,x4,M,D4⟩ ?_ (hn:=by have:=hLm.mth;omega)
      clear D4 x4
      rintro k vals v4 hk ⟨rfl,x4,M,D4⟩ ih2
      by_cases hkl:k<u.methods.length
      · refine brT ?_
        obtain ⟨m,bc,oc,cs,hc,e2,hbc,hAtc,a1,c1,a2,c2,a3,c3,rfl,_⟩:=at_some hU.mth hkl
        have hmm:=List.mem_of_getElem? hc
        have hni:=hI.plc.mn m hmm
        have hnm:=nm_size hU hni
        have hnu:=hU.nm
        have hkn:16*n+k≤1000:=by have:=hLm.mth;omega
        rw [e2]
        refine ix ?_
        refine lda (hAtc.kp D4.nc.nb.kp hbc) ?_
        refine al fun b5 v5 k5 => ?_
        refine sta (cs':=mcells m a1 c1 a2 c2 a3 c3) k5.box fun v6 k6 x6 => ?_
        have D6:=D4.bl (k5.wr k6)
        have x46:=Bl.box (k5.wr k6) x4
        obtain ⟨ip,bp,op,ei,hip,ep,hbp,hcp⟩:=poolAt hU hni
        refine ld (x46.cell rfl) ?_
        refine ld (x6.cell rfl) ?_
        rw [ep]
        refine ix (j:=ip) ?_ (hij:=ei)
        refine ld (D6.nc.nb.kp _ _ _ hbp hcp) ?_
        refine ld (x6.cell rfl) ?_
        by_cases hcl:m.cls<0
        · refine brT ?_ (hp:=hcl)
          refine dt 1 fun v7 k7 => ?_
          have D7:=D6.bl k7.bl
          have x47:=k7.box x46
          refine ld (D7.box.cell rfl) ?_
          refine ld (x47.cell rfl) ?_
          refine cat ?_ (hab:=by show _+1≤_;omega)
          refine cat ?_ (hab:=by rw [ByteArray.size_append];show _+1+_≤_;omega)
          refine bd ?_
          refine mu (n,k) tD D7.ca fun v8 k8 hM8 => ?_
          have D8:=D7.cal k8 hM8
          refine ih2 hkl ⟨rfl,k8.box x47 (D7.ca.ne x47).symm,M,?_⟩ (hsub:=by simp only [e2];repeat (first | exact True.intro | (refine ⟨rfl,?_⟩)))
          rw [foldI_snoc hc]
          unfold dMth
          rw [if_pos hcl]
          exact { D8 with ln:=fun p hp=>by have:=D8.ln p hp;omega }
        · refine brF ?_ (hp:=hcl)
          have hci:inP u m.cls:=(hI.plc.mc m hmm).resolve_left fun e=>hcl (by omega)
          have hnc:=nm_size hU hci
          obtain ⟨iq,bq,oq,eq,hiq,epq,hbq,hcq⟩:=poolAt hU hci
          refine ld (x46.cell rfl) ?_
          refine ld (x6.cell rfl) ?_
          rw [epq]
          refine ix (j:=iq) ?_ (hij:=eq)
          refine ld (D6.nc.nb.kp _ _ _ hbq hcq) ?_
          refine cat ?_ (hab:=by show _+1≤_;omega)
          refine cat ?_ (hab:=by rw [ByteArray.size_append];show _+1+_≤_;omega)
          refine ld (D6.box.cell rfl) ?_
          refine bd ?_
          refine mu (n,k) tD D6.se fun v8 k8 hM8 => ?_
          have D8:=D6.sen k8 hM8
          have x48:=k8.box x46 (D6.se.ne x46).symm
          refine dht 1 (fun i=>i=b∨i=m5) (List.range 14) fun v9 k9 => ?_
          have D9:=D8.bl k9.bl
          have x49:=k9.box x48
          refine ld (D9.box.cell rfl) ?_ (hm:=by exact .inl rfl)
          refine ld (D9.box.cell rfl) ?_ (hm:=by exact .inl rfl)
          refine lk tN D9.na ?_ (hm:=by exact .inr rfl)
          rw [getD_enc]
          refine bs fun b10 v10 k10 => ?_
          have D10:=D9.bl k10.bl
          have x410:=Bl.box k10.bl x49
          have o10:=D10.rw.at0 (nm u m.name)
          have hl10:((getM M (nm u m.name)).getD rs0).l.length≤1000:=by
            rw [named_at D10.nm]
            cases hg:getM (_:Mp (List ByteArray)) (nm u m.name) with
            | none=>exact Nat.zero_le _
            | some l=>exact Nat.le_trans (D10.ln _ (getM_mem hg)) hkn
          refine apl (l1:=[nm u m.cls++(⟨#[46]⟩:ByteArray)++nm u m.name]) o10 (.inr ⟨b10,0,rfl,k10.box.at⟩) D10.nc.size (fun a11 c11 v11 o11 A11 f11 => ?_) (hb:=by simp only [List.length_cons,List.length_nil];omega) (hn:=by simp only [List.length_cons,List.length_nil];omega)
            (hm:=apS fun g hg e=>by
              rcases e with rfl | rfl
              · exact o10.nbox D10.box (by decide) hg
              · exact D10.na.ow o10 hg)
          have na11:=D10.na.ap A11 (D10.na.ow o10)
          refine mu (⟨a11,c11,((getM M (nm u m.name)).getD rs0).l++[nm u m.cls++(⟨#[46]⟩:ByteArray)++nm u m.name]⟩:Rs) tN na11 fun v12 k12 hM12 => ?_
          have D12:=D10.nam (nm u m.name) A11 o11 f11 k12 hM12
          have x411:=A11.box x410 (o10.nbox x410 (by decide))
          refine ih2 hkl ⟨rfl,k12.box x411 (na11.ne x411).symm,putM M (nm u m.name) ⟨a11,c11,((getM M (nm u m.name)).getD rs0).l++[nm u m.cls++(⟨#[46]⟩:ByteArray)++nm u m.name]⟩,?_⟩ (hsub:=by simp only [e2];repeat (first | exact True.intro | (refine ⟨rfl,?_⟩)))
          rw [foldI_snoc hc]
          unfold dMth
          rw [if_neg hcl]
          exact D12
      · refine brF ?_
        obtain rfl:k=u.methods.length:=by omega
        rw [foldI_end] at D4
        refine ih hlt ⟨rfl,M,?_⟩
        rw [foldI_snoc hu]
        unfold dUnt
        exact { D4 with ln:=fun p hp=>by have:=D4.ln p hp;have:=hLm.mth;omega }
end Go.Proofs.YtkmdfjpafkcleaaGreatDoor
namespace Go.Proofs.YtkmdfjpafkcleaaGreatDoor
open Eng Go.RowKit
theorem getM_of_mem {α:Type}:∀ {M:Mp α} {k:ByteArray} {r:α},(keysM M).Nodup→(k,r)∈M→getM M k=some r
  | [],_,_,_,h=>by cases h
  | (k0,r0)::M,k,r,hn,h=>by
    simp only [keysM,List.map_cons,List.nodup_cons] at hn
    simp only [getM]
    rcases List.mem_cons.1 h with e | h
    · obtain ⟨rfl,rfl⟩:=Prod.mk.inj e
      rw [if_pos rfl]
    · rw [if_neg fun (e:k0=k)=>hn.1 (by rw [e];exact List.mem_map.2 ⟨_,h,rfl⟩)]
      exact getM_of_mem hn.2 h
theorem DcW.lnk {w0 w:World} {b:Nat} {us:List Unt} {au:Option Addr} {cu:Nat} {m1 m2 m3 m4 m5 m6:Nat} {D:Dcl} {M:Mp Rs} {N:Nat} (h:DcW w0 b (.slice au us.length cu) m1 m2 m3 m4 m5 m6 D M N w) (hN:N≤4194304) (hS:Sl eUnt (· ≠ b) w0 au us):Lnk w b us D:=by
  refine ⟨⟨au,cu,h.box.cell rfl,hS.kp h.nc.nb.kp⟩,⟨m1,h.box.cell rfl,h.cl⟩,⟨m2,h.box.cell rfl,h.st⟩,⟨m3,h.box.cell rfl,h.ca⟩,⟨m4,h.box.cell rfl,h.se⟩,⟨m5,M,h.box.cell rfl,h.na,h.nm,fun p hp => ?_⟩,⟨m6,h.box.cell rfl,h.fi⟩⟩
  have hg:=getM_of_mem (keys_nodup h.na) (show (p.1,p.2)∈M from hp)
  have o:=h.rw.ow p.1 p.2 hg
  have hl:p.2.l.length≤N:=h.ln (p.1,p.2.l) (by rw [←h.nm];exact List.mem_map.2 ⟨p,hp,rfl⟩)
  exact owp_sl o (by omega) fun g hg (e:g=b)=>o.nbox h.box (by decide) (by rw [hg,e])
theorem hasPre (n p:ByteArray):Lib.hasPrefix p.data.toList (n++⟨#[46]⟩).data.toList=preL n p:=by
  unfold Lib.hasPrefix preL
  rw [Joins.data_append]
theorem l_HasPrefix (s p:ByteArray) (w:World):Ret Tryz.prog 155 #[.string s,.string p] w fun v w'=>v = .bool (Lib.hasPrefix s.data.toList p.data.toList)∧w'=w :=
  ⟨by kernel_rfl,(Tryz.strings_HasPrefix s p w).mono fun e w' r=>by obtain ⟨rfl,rfl⟩:=r;exact ⟨rfl,rfl⟩⟩
variable {w:World} {b:Nat} {us:List Unt} {D:Dcl}
set_option maxHeartbeats 4000000 in
theorem k_defined (hL:Lnk w b us D) (hC:∀ u∈us,CkU u) (h5:us.length≤5):Ret Tryz.prog 92 #[.pointer (some ⟨b,0,none⟩)] w fun v w'=>v = .bool (definedL us D)∧Bl w w':=by
  obtain ⟨au,cu,h0,hS⟩:=hL.us
  refine entr (vs:=[.pointer (some ⟨b,0,none⟩)]) [0,2,3,4,6,8,10,12,13,15,17,21,22,23,24,29,30,31,32,50,52,53,54,55,63,67,68,69,70,78,81,82,83,84,89,109,111,112,113,114,121,124,125,126,127,134] tabok Tryz.func92 (by kernel_rfl) ?_
  refine ld h0 ?_
  refine lpk us.length 23 [] [(0,.pointer (some ⟨b,0,none⟩)),(21,.slice au us.length cu),(22,I us.length)] (fun n vals w'=>vals=[]∧Bl w w'∧(us.take n).all (defU D)=true) ⟨rfl,Bl.refl _,rfl⟩ ?_
  rintro n vals v1 hn ⟨rfl,B1,ha1⟩ ih
  by_cases hlt:n<us.length
  rotate_left
  · refine brF ?_
    obtain rfl:n=us.length:=by omega
    exact rt1 ⟨vb (all_end ha1).symm,B1⟩
  refine brT ?_
  obtain ⟨u,bu,ou,cs,hu,rfl,_,hAtu,ua,rfl,hU⟩:=at_some hS hlt
  have hum:=List.mem_of_getElem? hu
  have hCu:=hC u hum
  have hI:=ixs_of hCu
  have hLm:=lim_of hCu.lim
  have miss:defU D u=false→definedL us D=false:=fun h=>all_miss hu h
  refine ix ?_
  refine lda (hAtu.bl B1) ?_
  refine al fun b3 v2 k2 => ?_
  refine sta (cs':=ucells u ua) k2.box fun v3 k3 x3 => ?_
  have B13:=k2.wr k3
  have B3:=B1.trans B13
  refine ld (x3.cell rfl) ?_
  refine lpk (vals:=[]) u.classes.length 31 [] [(0,.pointer (some ⟨b,0,none⟩)),(21,.slice (some ⟨bu,ou,none⟩) us.length cu),(22,I us.length),(23,I n),(3,I n),(4,.pointer (some ⟨b3,0,none⟩)),(29,.slice ua.a2 u.classes.length ua.c2),(30,I u.classes.length)]
    (fun k vals w'=>vals=[]∧Bl v3 w'∧(u.classes.take k).all (defC D u)=true) ⟨rfl,Bl.refl _,rfl⟩ ?_ (hn:=by have:=hLm.cls;omega)
  rintro k vals v4 hk ⟨rfl,B34,ha2⟩ ih2
  have B4:=B3.trans B34
  by_cases hkl:k<u.classes.length
  · refine brT ?_
    obtain ⟨c,bc,oc,cs,hc,e2,_,hAtc,af,cf,rfl,hF⟩:=at_some hU.cls hkl
    have hcm:=List.mem_of_getElem? hc
    have missC:defC D u c=false→defU D u=false:=fun h=>by unfold defU;rw [all_miss hc h];rfl
    rw [e2]
    refine ix ?_
    refine lda (hAtc.bl B4) ?_
    refine al fun b5 v5 k5 => ?_
    refine sta (cs':=ccells c af cf) k5.box fun v6 k6 x6 => ?_
    have B46:=k5.wr k6
    have B6:=B4.trans B46
    have hs:=hI.sup c hcm
    have KP:Eng.Env:=[]
    refine cut [50] [(0,.pointer (some ⟨b,0,none⟩)),(21,.slice (some ⟨bu,ou,none⟩) us.length cu),(22,I us.length),(23,I n),(3,I n),(4,.pointer (some ⟨b3,0,none⟩)),(29,.slice (some ⟨bc,oc,none⟩) u.classes.length ua.c2),(30,I u.classes.length),(31,I k),(6,.pointer (some ⟨b5,0,none⟩))]
      (fun vals w'=>vals=[.bool (!(decide (c.super<0)||hasM D.classes (nm u c.super)))]∧Bl v6 w') (fun jo => ?_) ?_
    · refine dh T (List.range 16) fun v7 k7 => ?_
      have B67:Bl v6 v7:=k7.bl
      have B7:=B6.trans B67
      have L7:=hL.bl B7
      have x67:=k7.box x6
      obtain ⟨m,h1,hm⟩:=L7.cl
      refine ld (x67.cell rfl) ?_ (hm:=trivial)
      by_cases h0:c.super<0
      · refine spn (.map none) ?_ (hb:=by rw [decide_eq_false (by omega)];rfl)
        refine spn (I 0) ?_ (hb:=by rw [decide_eq_false (by omega)];rfl)
        refine spn (.string nost) ?_ (hb:=by rw [decide_eq_false (by omega)];rfl)
        refine spn (.bool false) ?_ (hb:=by rw [decide_eq_false (by omega)];rfl)
        refine jo ⟨lst1 (vb ?_),B67⟩
        simp [h0]
      · refine spt (.map none) ?_ (hb:=decide_eq_true (by omega))
        refine ld h1 ?_ (hm:=trivial)
        refine spt (I 0) ?_
        refine ld (x67.cell rfl) ?_ (hm:=trivial)
        refine spt (.string nost) ?_
        refine cl (k_path L7 hu (hs.inP h0)) ?_
        rintro _ _ ⟨rfl,rfl⟩
        refine spt (.bool false) ?_
        refine cl (k_has hm _) ?_
        rintro _ v8 ⟨rfl,B78⟩
        refine jo ⟨lst1 (vb ?_),B67.trans B78⟩
        simp [h0]
    rintro _ v8 ⟨rfl,B68⟩
    have B8:=B6.trans B68
    cases hsup:decide (c.super<0)||hasM D.classes (nm u c.super) with
    | false =>
      refine brt ?_
      refine rt1 ⟨vb ?_,B8⟩
      rw [miss (missC (by unfold defC;rw [hsup];rfl))]
    | true =>
      refine brf ?_
      refine ld ((Bl.box B68 x6).cell rfl) ?_
      refine lpk (vals:=[]) c.fields.length 54 [] [(0,.pointer (some ⟨b,0,none⟩)),(21,.slice (some ⟨bu,ou,none⟩) us.length cu),(22,I us.length),(23,I n),(3,I n),(4,.pointer (some ⟨b3,0,none⟩)),(29,.slice (some ⟨bc,oc,none⟩) u.classes.length ua.c2),(30,I u.classes.length),(31,I k),(52,.slice af c.fields.length cf),(53,I c.fields.length)]
        (fun j vals w'=>vals=[]∧Bl v8 w'∧(c.fields.take j).all (fun f=>isTypeL D u f.ty)=true) ⟨rfl,Bl.refl _,rfl⟩ ?_ (hn:=by have:=hLm.flds c hcm;omega)
      rintro j vals v9 hj ⟨rfl,B89,ha3⟩ ih3
      have B9:=B8.trans B89
      by_cases hjl:j<c.fields.length
      · refine brT ?_
        obtain ⟨f,bf,off,cs,hf,rfl,_,hAtf,rfl⟩:=at_some (hF.bl B9) hjl
        refine ix ?_
        refine lda hAtf ?_
        refine al fun b8 v10 k10 => ?_
        refine sta (cs':=encFld f) k10.box fun v11 k11 x11 => ?_
        have B11:=B9.trans (k10.wr k11)
        refine lda (x11.at.sub 1 2) ?_
        refine cl (k_isType (hL.bl B11) hu (hI.fty c hcm f (List.mem_of_getElem? hf))) ?_
        rintro _ v12 ⟨rfl,B12⟩
        cases ht:isTypeL D u f.ty with
        | false =>
          refine brt ?_
          refine rt1 ⟨vb ?_,B11.trans B12⟩
          rw [miss (missC (by unfold defC;rw [all_miss hf ht,Bool.and_false]))]
        | true =>
          refine brf ?_
          exact ih3 hjl ⟨rfl,(B89.trans (k10.wr k11)).trans B12,all_snoc' hf ha3 ht⟩
      · refine brF ?_
        obtain rfl:j=c.fields.length:=by omega
        exact ih2 hkl ⟨rfl,((B34.trans B46).trans B68).trans B89,all_snoc' hc ha2 (by unfold defC;rw [hsup,all_end ha3];rfl)⟩ (hsub:=by simp only [e2];repeat (first | exact True.intro | (refine ⟨rfl,?_⟩)))
  refine brF ?_
  obtain rfl:k=u.classes.length:=by omega
  clear ih2
  have hcls:=all_end ha2
  refine ld ((Bl.box B34 x3).cell rfl) ?_
  refine lpk (vals:=[]) u.statics.length 69 [] [(0,.pointer (some ⟨b,0,none⟩)),(21,.slice (some ⟨bu,ou,none⟩) us.length cu),(22,I us.length),(23,I n),(3,I n),(4,.pointer (some ⟨b3,0,none⟩)),(67,.slice ua.a3 u.statics.length ua.c3),(68,I u.statics.length)]
    (fun k vals w'=>vals=[]∧Bl v3 w'∧(u.statics.take k).all (fun f=>isTypeL D u f.ty)=true) ⟨rfl,B34,rfl⟩ ?_ (hn:=by have:=hLm.sta;omega)
  rintro k vals v5 hk ⟨rfl,B35,ha4⟩ ih2
  have B5:=B3.trans B35
  by_cases hkl:k<u.statics.length
  · refine brT ?_
    obtain ⟨f,bf,off,cs,hf,e2,_,hAtf,rfl⟩:=at_some (hU.sta.bl B5) hkl
    rw [e2]
    refine ix ?_
    refine lda hAtf ?_
    refine al fun b8 v10 k10 => ?_
    refine sta (cs':=encFld f) k10.box fun v11 k11 x11 => ?_
    have B11:=B5.trans (k10.wr k11)
    refine lda (x11.at.sub 1 2) ?_
    refine cl (k_isType (hL.bl B11) hu (hI.sty f (List.mem_of_getElem? hf))) ?_
    rintro _ v12 ⟨rfl,B12⟩
    cases ht:isTypeL D u f.ty with
    | false =>
      refine brt ?_
      refine rt1 ⟨vb ?_,B11.trans B12⟩
      rw [miss (by unfold defU;rw [all_miss (p:=fun f=>isTypeL D u f.ty) hf ht,Bool.false_and,Bool.and_false])]
    | true =>
      refine brf ?_
      exact ih2 hkl ⟨rfl,(B35.trans (k10.wr k11)).trans B12,all_snoc' hf ha4 ht⟩ (hsub:=by simp only [e2];repeat (first | exact True.intro | (refine ⟨rfl,?_⟩)))
  refine brF ?_
  obtain rfl:k=u.statics.length:=by omega
  clear ih2
  have hsta:=all_end ha4
  refine ld ((Bl.box B35 x3).cell rfl) ?_
  refine lpk (vals:=[]) u.methods.length 83 [] [(0,.pointer (some ⟨b,0,none⟩)),(21,.slice (some ⟨bu,ou,none⟩) us.length cu),(22,I us.length),(23,I n),(3,I n),(4,.pointer (some ⟨b3,0,none⟩)),(81,.slice ua.a4 u.methods.length ua.c4),(82,I u.methods.length)]
    (fun k vals w'=>vals=[]∧Bl v3 w'∧(u.methods.take k).all (defM D u)=true) ⟨rfl,B35,rfl⟩ ?_ (hn:=by have:=hLm.mth;omega)
  rintro k vals v6 hk ⟨rfl,B36,ha5⟩ ih2
  have B6:=B3.trans B36
  by_cases hkl:k<u.methods.length
  rotate_left
  · refine brF ?_
    obtain rfl:k=u.methods.length:=by omega
    exact ih hlt ⟨rfl,B13.trans B36 |> fun q=>B1.trans q,all_snoc' hu ha1 (by unfold defU;rw [hcls,hsta,all_end ha5];rfl)⟩
  refine brT ?_
  obtain ⟨m,bm,om,cs,hm,e2,_,hAtm,a1,c1,a2,c2,a3,c3,rfl,hF1,hF2,hF3⟩:=at_some hU.mth hkl
  have hmm:=List.mem_of_getElem? hm
  have missM:defM D u m=false→defU D u=false:=fun h=>by unfold defU;rw [all_miss hm h,Bool.and_false,Bool.and_false]
  rw [e2]
  refine ix ?_
  refine lda (hAtm.bl B6) ?_
  refine al fun b5 v7 k7 => ?_
  refine sta (cs':=mcells m a1 c1 a2 c2 a3 c3) k7.box fun v8 k8 x8 => ?_
  have B68:=k7.wr k8
  have B8:=B6.trans B68
  have x38:=Bl.box (B36.trans B68) x3
  refine ld (x8.cell rfl) ?_
  have hmc:¬m.cls<0→inP u m.cls:=fun h=>(hI.plc.mc m hmm).resolve_left fun e=>h (by omega)
  refine jn [] [(0,.pointer (some ⟨b,0,none⟩)),(21,.slice (some ⟨bu,ou,none⟩) us.length cu),(22,I us.length),(23,I n),(3,I n),(4,.pointer (some ⟨b3,0,none⟩)),(81,.slice (some ⟨bm,om,none⟩) u.methods.length ua.c4),(82,I u.methods.length),(83,I k),(12,.pointer (some ⟨b5,0,none⟩))] (fun vals w'=>vals=[]∧Bl v8 w'∧(decide (m.cls<0)||(hasM D.classes (nm u m.cls)&&preL u.name (nm u m.cls)))=true) (fun h jo => ?_) (fun h jo => ?_) ?_
  · have h0:0≤m.cls:=of_decide_eq_true h
    have hi:=hmc (by omega)
    refine ld (x8.cell rfl) ?_
    refine cl (k_path (hL.bl B8) hu hi) ?_
    rintro _ _ ⟨rfl,rfl⟩
    obtain ⟨mb,h1,hmb⟩:=(hL.bl B8).cl
    refine ld h1 ?_
    refine cl (k_has hmb _) ?_
    rintro _ v9 ⟨rfl,B89⟩
    have B9:=B8.trans B89
    cases hh:hasM D.classes (nm u m.cls) with
    | false =>
      refine spn (.string nost) ?_
      refine spn (.string nost) ?_
      refine spn (.bool false) ?_
      refine brt ?_
      refine rt1 ⟨vb ?_,B9⟩
      rw [miss (missM (by unfold defM;rw [hh,decide_eq_false (by omega)];rfl))]
    | true =>
      refine spt (.string nost) ?_
      refine ld ((Bl.box B89 x38).cell rfl) ?_
      refine spt (.string nost) ?_
      refine cat ?_ (hab:=by have:=hU.nm;show _+1≤_;omega)
      refine spt (.bool false) ?_
      refine cl (l_HasPrefix _ _ v9) ?_
      rintro _ _ ⟨rfl,rfl⟩
      rw [hasPre]
      cases hp:preL u.name (nm u m.cls) with
      | false =>
        refine brt ?_
        refine rt1 ⟨vb ?_,B9⟩
        rw [miss (missM (by unfold defM;rw [hh,hp,decide_eq_false (by omega)];rfl))]
      | true =>
        refine brf ?_
        exact jo ⟨rfl,B89,by simp [hh,hp]⟩
  · have h0:¬0≤m.cls:=of_decide_eq_false h
    exact jo ⟨rfl,Bl.refl _,by rw [decide_eq_true (by omega)];rfl⟩
  rintro _ v9 ⟨rfl,B89,hcl⟩
  have B9:=B8.trans B89
  have x9:=Bl.box B89 x8
  have hp4:=hLm.pars m hmm
  have hl10:=hLm.locs m hmm
  refine lda x9.at ?_
  refine cl (k_types m a1 c1 a2 c2 a3 c3 ((hF1.bl B9).sub fun _ _=>trivial) ((hF2.bl B9).sub fun _ _=>trivial) (by omega) (by omega)) ?_
  rintro _ v10 ⟨at',ct,rfl,O10,B910⟩
  have B10:=B9.trans B910
  have htl:(m.params++m.locals++[m.result]).length≤11:=by simp only [List.length_append,List.length_cons,List.length_nil];omega
  have S10:Sl eTy T v10 at' (m.params++m.locals++[m.result]):=owp_sl O10 (by omega) fun _ _=>trivial
  refine lpk (vals:=[]) (m.params++m.locals++[m.result]).length 113 [] [(0,.pointer (some ⟨b,0,none⟩)),(21,.slice (some ⟨bu,ou,none⟩) us.length cu),(22,I us.length),(23,I n),(3,I n),(4,.pointer (some ⟨b3,0,none⟩)),(81,.slice (some ⟨bm,om,none⟩) u.methods.length ua.c4),(82,I u.methods.length),(83,I k),(12,.pointer (some ⟨b5,0,none⟩)),(111,.slice at' (m.params++m.locals++[m.result]).length ct),(112,I (m.params++m.locals++[m.result]).length)]
    (fun j vals w'=>vals=[]∧Bl v10 w'∧((m.params++m.locals++[m.result]).take j).all (isTypeL D u)=true) ⟨rfl,Bl.refl _,rfl⟩ ?_
  rintro j vals v11 hj ⟨rfl,B1011,ha6⟩ ih3
  have B11:=B10.trans B1011
  by_cases hjl:j<(m.params++m.locals++[m.result]).length
  · refine brT ?_
    obtain ⟨t,bf,off,cs,ht,rfl,_,hAtf,rfl⟩:=at_some (S10.bl B1011) hjl
    refine ix ?_
    refine lda hAtf ?_
    refine al fun b8 v12 k12 => ?_
    refine sta (cs':=encTy t) k12.box fun v13 k13 x13 => ?_
    have B13':=B11.trans (k12.wr k13)
    refine lda x13.at ?_
    refine cl (k_isType (hL.bl B13') hu (hI.mty m hmm t (List.mem_of_getElem? ht))) ?_
    rintro _ v14 ⟨rfl,B14⟩
    cases hti:isTypeL D u t with
    | false =>
      refine brt ?_
      refine rt1 ⟨vb ?_,B13'.trans B14⟩
      rw [miss (missM (by unfold defM;rw [all_miss ht hti,Bool.false_and,Bool.and_false]))]
    | true =>
      refine brf ?_
      exact ih3 hjl ⟨rfl,(B1011.trans (k12.wr k13)).trans B14,all_snoc' ht ha6 hti⟩
  refine brF ?_
  obtain rfl:j=(m.params++m.locals++[m.result]).length:=by omega
  clear ih3
  have htys:=all_end ha6
  refine ld ((Bl.box (B910.trans B1011) x9).cell rfl) ?_
  refine lpk (vals:=[]) m.code.length 126 [] [(0,.pointer (some ⟨b,0,none⟩)),(21,.slice (some ⟨bu,ou,none⟩) us.length cu),(22,I us.length),(23,I n),(3,I n),(4,.pointer (some ⟨b3,0,none⟩)),(81,.slice (some ⟨bm,om,none⟩) u.methods.length ua.c4),(82,I u.methods.length),(83,I k),(12,.pointer (some ⟨b5,0,none⟩)),(124,.slice a3 m.code.length c3),(125,I m.code.length)]
    (fun j vals w'=>vals=[]∧Bl v11 w'∧(m.code.take j).all (operL D u)=true) ⟨rfl,Bl.refl _,rfl⟩ ?_ (hn:=by have:=hF3.big;omega)
  rintro j vals v12 hj ⟨rfl,B1112,ha7⟩ ih3
  have B12:=B11.trans B1112
  by_cases hjl:j<m.code.length
  · refine brT ?_
    obtain ⟨i,bf,off,cs,hi,rfl,_,hAtf,rfl⟩:=at_some (hF3.bl B12) hjl
    have him:=List.mem_of_getElem? hi
    refine ix ?_
    refine lda hAtf ?_
    refine al fun b8 v13 k13 => ?_
    refine sta (cs':=encIns i) k13.box fun v14 k14 x14 => ?_
    have B14:=B12.trans (k13.wr k14)
    refine lda x14.at ?_
    refine cl (k_operand (hL.bl B14) hu (hI.opa m hmm i him) (hI.opb m hmm i him)) ?_
    rintro _ v15 ⟨rfl,B15⟩
    cases hop:operL D u i with
    | false =>
      refine brt ?_
      refine rt1 ⟨vb ?_,B14.trans B15⟩
      rw [miss (missM (by unfold defM;rw [all_miss hi hop,Bool.and_false,Bool.and_false]))]
    | true =>
      refine brf ?_
      exact ih3 hjl ⟨rfl,(B1112.trans (k13.wr k14)).trans B15,all_snoc' hi ha7 hop⟩
  · refine brF ?_
    obtain rfl:j=m.code.length:=by omega
    exact ih2 hkl ⟨rfl,(((((B36.trans B68).trans B89).trans B910).trans B1011).trans B1112),all_snoc' hm ha5 (by unfold defM;rw [hcl,htys,all_end ha7];rfl)⟩ (hsub:=by simp only [e2];repeat (first | exact True.intro | (refine ⟨rfl,?_⟩)))
end Go.Proofs.YtkmdfjpafkcleaaGreatDoor
namespace Go.Proofs.YtkmdfjpafkcleaaGreatDoor
open Eng Go.RowKit
theorem Eng.Box.get {w:World} {b:Nat} {t:TypeId} {cs:List Value} (h:Box w b t cs) (o:Nat):w.cell? ⟨b,o,none⟩=cs[o]? := by
  unfold Box at h
  simp [World.cell?,h]
abbrev tPl:TypeId:=82
structure RnW (w0:World) (b b1:Nat) (us:List Unt) (U:Value) (m1 m2 m3 m4 m5 m6:Nat) (o1 o2 o3 o4 ly:Value) (w:World):Prop where
  box:Box w b tLn (lcells U (mpv m1) (mpv m2) (mpv m3) (mpv m4) (mpv m5) (mpv m6) o1 o2 o3 o4 ly)
  x1:Box w b1 tPl [.pointer (some ⟨b,0,none⟩)]
  lnk:Lnk w b us (decl us)
  nc:Nc b w0 w
variable {w0 w w':World} {b b1:Nat} {us:List Unt} {U:Value} {m1 m2 m3 m4 m5 m6:Nat} {o1 o2 o3 o4 ly:Value}
theorem RnW.bl (h:RnW w0 b b1 us U m1 m2 m3 m4 m5 m6 o1 o2 o3 o4 ly w) (k:Bl w w'):RnW w0 b b1 us U m1 m2 m3 m4 m5 m6 o1 o2 o3 o4 ly w':=⟨Bl.box k h.box,Bl.box k h.x1,h.lnk.bl k,h.nc.bl k⟩
theorem lnk_wr {D:Dcl} (h:Lnk w b us D) (k:Wr w b w') {u q1 q2 q3 q4 q5 q6:Value} {r r':List Value} (hb:Box w b tLn (u::q1::q2::q3::q4::q5::q6::r)) (hb':Box w' b tLn (u::q1::q2::q3::q4::q5::q6::r')):Lnk w' b us D :=
  h.nb ⟨by rw [k.size];exact Nat.le_refl _,fun i _ hne=>k.block i hne⟩ fun o ho=>by
    rw [hb.get,hb'.get]
    match o,ho with
    | 0,_=>rfl
    | 1,_=>rfl
    | 2,_=>rfl
    | 3,_=>rfl
    | 4,_=>rfl
    | 5,_=>rfl
    | 6,_=>rfl
theorem box_ne {w:World} {b c:Nat} {t t':TypeId} {cs cs':List Value} (h:Box w b t cs) (h':Box w c t' cs') (hne:t≠t'):b≠c:=by
  rintro rfl
  unfold Box at h h'
  rw [h] at h'
  simp only [Option.some.injEq,Obj.cells.injEq] at h'
  exact hne h'.2.1
theorem RnW.to (h:RnW w0 b b1 us U m1 m2 m3 m4 m5 m6 o1 o2 o3 o4 ly w) (k:Wr w b w') {o1' o2' o3' o4' ly':Value} (hb:Box w' b tLn (lcells U (mpv m1) (mpv m2) (mpv m3) (mpv m4) (mpv m5) (mpv m6) o1' o2' o3' o4' ly')):RnW w0 b b1 us U m1 m2 m3 m4 m5 m6 o1' o2' o3' o4' ly' w' :=
  ⟨hb,k.box h.x1 (box_ne h.x1 h.box (by decide)),lnk_wr h.lnk k h.box hb,h.nc.wr k (.inl rfl)⟩
theorem chk_take {us:List Unt} {n:Nat} {u:Unt} (h:∀ x∈us.take n,checkE x=0) (hu:us[n]? = some u) (he:checkE u≠0):chkE us=checkE u:=by
  induction us generalizing n with
  | nil=>simp at hu
  | cons x us ih =>
    cases n with
    | zero=>simp at hu;subst hu;unfold chkE;rw [if_neg he]
    | succ n =>
      unfold chkE
      rw [if_pos (h x (by simp)),ih (n:=n) (fun y hy=>h y (by simp [hy])) (by simpa using hu)]
theorem chk_zero {us:List Unt} (h:∀ x∈us,checkE x=0):chkE us=0:=by
  induction us with
  | nil=>rfl
  | cons x us ih=>unfold chkE;rw [if_pos (h x (by simp)),ih fun y hy=>h y (by simp [hy])]
theorem chk_all {us:List Unt} (h:chkE us=0):∀ x∈us,checkE x=0:=by
  induction us with
  | nil=>intro x hx;cases hx
  | cons y us ih =>
    unfold chkE at h
    split at h
    · rename_i h1
      intro x hx
      rcases List.mem_cons.1 hx with rfl | hx
      · exact h1
      · exact ih h x hx
    · rename_i h1;exact absurd h h1
structure LayW (b:Nat) (us:List Unt) (l:List ByteArray) (ly:Nat) (Y:Mp Rs) (w:World):Prop where
  is:MapIs encR w ly Y
  at':∀ p∈l,∃ r,getM Y p=some r∧r.l=lay us p∧Sl eStr (· ≠ b) w r.a r.l
  only:∀ q r,getM Y q=some r→q∈l
structure RunW (b:Nat) (us:List Unt) (w:World):Prop where
  lnk:Lnk w b us (decl us)
  oc:∃ l a c,ordC us=some l∧w.cell? ⟨b,7,none⟩=some (.slice a l.length c)∧Sl eStr (· ≠ b) w a l
  os:∃ a c,w.cell? ⟨b,8,none⟩=some (.slice a (sortL (keysM (decl us).statics)).length c)∧Sl eStr (· ≠ b) w a (sortL (keysM (decl us).statics))
  om:∃ l a c,ordM us=some l∧w.cell? ⟨b,9,none⟩=some (.slice a l.length c)∧Sl eStr (· ≠ b) w a l
  oz:∃ a c,w.cell? ⟨b,10,none⟩=some (.slice a (sortL (keysM (decl us).named)).length c)∧Sl eStr (· ≠ b) w a (sortL (keysM (decl us).named))
  ly:∃ l m Y,ordC us=some l∧w.cell? ⟨b,11,none⟩=some (.map (some m))∧LayW b us l m Y w
theorem k_needC (hL:Lnk w b us (decl us)) (hC:∀ u∈us,CkU u) {b1:Nat} (hx:w.cell? ⟨b1,0,none⟩=some (.pointer (some ⟨b,0,none⟩))) {p:ByteArray} (hp:p∈keysM (decl us).classes) :
    Ret Tryz.prog 95 #[.string p,.pointer (some ⟨b1,0,none⟩)] w fun v w'=>∃ a c,v = .slice a (neeC us (decl us) p).length c∧Sl eStr T w' a (neeC us (decl us) p)∧Bl w w':=by
  obtain ⟨n,k,u,x,hc⟩:=clsI_of (dok_decl hC) hp
  refine entr (vs:=[.string p,.pointer (some ⟨b1,0,none⟩)]) [0,1,3,4,9] tabok Tryz.func95 (by kernel_rfl) ?_
  refine ld hx ?_
  refine cl (k_super hL (fun u hu=>ixs_of (hC u hu)) hc) ?_
  rintro _ w1 ⟨rfl,B1⟩
  unfold neeC
  by_cases hs:supL us (decl us) p=nost
  · refine brF ?_ (hp:=by exact fun h=>h hs)
    rw [if_pos hs]
    exact rt1 ⟨none,0,rfl,Sl.nil ..,B1⟩
  · refine brT ?_ (hp:=hs)
    rw [if_neg hs]
    refine bs fun b2 w2 k2 => ?_
    refine rt1 ⟨some ⟨b2,0,none⟩,1,rfl,?_,B1.trans k2.bl⟩
    have hO:OwP 1 encStr w2 b2 9 (some ⟨b2,0,none⟩) 1 [supL us (decl us) p]:=Ow.made (n:=1) k2 rfl (by omega)
    exact owp_sl hO (by simp) fun _ _=>trivial
end Go.Proofs.YtkmdfjpafkcleaaGreatDoor
namespace Go.Proofs.YtkmdfjpafkcleaaGreatDoor
open Eng Go.RowKit
theorem Eng.Wr.kpm {w w':World} {m:Nat} (k:Wr w m w') {α:Type} {enc:α→Value} {X:Mp α} (hM:MapIs enc w m X):Kp T w w':=fun i o v _ x=>by
  have hne:i≠m:=fun e=>cell_map_ne hM x e.symm
  rw [World.cell?_of_block (w:=w) (k.block i hne)];exact x
variable {w0 w w':World} {b b1:Nat} {us:List Unt} {U:Value} {m1 m2 m3 m4 m5 m6:Nat} {o1 o2 o3 o4 ly:Value}
theorem RnW.go (h:RnW w0 b b1 us U m1 m2 m3 m4 m5 m6 o1 o2 o3 o4 ly w) (k:Nc b w w') {o1' o2' o3' o4' ly':Value} (hb:Box w' b tLn (lcells U (mpv m1) (mpv m2) (mpv m3) (mpv m4) (mpv m5) (mpv m6) o1' o2' o3' o4' ly')):RnW w0 b b1 us U m1 m2 m3 m4 m5 m6 o1' o2' o3' o4' ly' w':=by
  refine ⟨hb,?_,h.lnk.nb k.nb fun o ho => ?_,h.nc.trans k⟩
  · unfold Box
    rw [k.blk b1 h.x1.lt (box_ne h.x1 h.box (by decide))];exact h.x1
  · rw [h.box.get,hb.get]
    match o,ho with
    | 0,_=>rfl
    | 1,_=>rfl
    | 2,_=>rfl
    | 3,_=>rfl
    | 4,_=>rfl
    | 5,_=>rfl
    | 6,_=>rfl
set_option maxHeartbeats 8000000 in
theorem k_run {w0:World} {b:Nat} {us:List Unt} {au:Option Addr} {cu:Nat} (hx:Box w0 b tLn (lcells (.slice au us.length cu) (.map none) (.map none) (.map none) (.map none) (.map none) (.map none) nilS nilS nilS nilS (.map none)))
    (hS:Sl eUnt (· ≠ b) w0 au us) (hG:Gl w0) :
    Ret Tryz.prog 46 #[.pointer (some ⟨b,0,none⟩)] w0 fun v w'=>v=I (runE us)∧Nc b w0 w'∧(runE us=0→RunW b us w'):=by
  have fail:∀ {e:Int} {w':World},runE us=e→e≠0→Nc b w0 w'→(I e=I (runE us)∧Nc b w0 w'∧(runE us=0→RunW b us w')):=fun he hne hn=>⟨by rw [he],hn,fun h=>absurd (he.symm.trans h) hne⟩
  have hbig:=hS.big
  refine entr (vs:=[.pointer (some ⟨b,0,none⟩)]) [0,1,2,3,5,6,7,9,11,17,21,22,23,24,30,39,44,60,88,97,98,99,100,118,124,125,126,127,136,139,182] tabok Tryz.func46 (by kernel_rfl) ?_
  refine bx (cs:=[.pointer (some ⟨b,0,none⟩)]) fun b1 w1 k1 => ?_
  refine ld (k1.box.cell rfl) ?_
  refine ld (k1.bl.cl (hx.cell rfl)) ?_
  by_cases h5:5<us.length
  · refine brT ?_
    exact rt1 (fail (by unfold runE;rw [if_pos h5]) (by decide) (Nc.of_bl k1.bl))
  refine brF ?_
  refine ld (k1.box.cell rfl) ?_
  refine ld (k1.bl.cl (hx.cell rfl)) ?_
  refine lpk (vals:=[nilS]) us.length 23 [3] [(1,.pointer (some ⟨b1,0,none⟩)),(21,.slice au us.length cu),(22,I us.length)]
    (fun n vals w'=>∃ a c,vals=[.slice a ((us.take n).map fun u:Unt=>u.name).length c]∧OwP 1 encStr w' w1.heap.size 9 a c ((us.take n).map fun u:Unt=>u.name)∧Bl w1 w'∧∀ x∈us.take n,checkE x=0) ⟨none,0,rfl,Ow.nil ..,Bl.refl _,by simp⟩ ?_
  rintro n vals w2 hn ⟨a,c,rfl,O2,B12,hck⟩ ih
  have B02:=k1.bl.trans B12
  by_cases hlt:n<us.length
  · refine brT ?_
    obtain ⟨u,bu,ou,cs,hu,rfl,hbu,hAt,ua,rfl,hU⟩:=at_some hS hlt
    refine ix ?_
    refine lda (hAt.bl B02) ?_
    refine al fun b5 w3 k3 => ?_
    refine sta (cs':=ucells u ua) k3.box fun w4 k4 x4 => ?_
    have B24:=k3.wr k4
    have B04:=B02.trans B24
    refine lda x4.at ?_
    refine cl (u_Check u ua w4 ((hU.bl B04).sub fun _ _=>trivial) (hG.bl B04)) ?_
    rintro _ w5 ⟨rfl,B45⟩
    have B25:=B24.trans B45
    by_cases hE:checkE u=0
    · refine brF ?_ (hp:=by exact fun h=>h hE)
      refine ld ((Bl.box B45 x4).cell rfl) ?_
      refine bs fun b6 w6 k6 => ?_
      have O6:=(O2.bl B25).bl k6.bl
      have B16:=(B12.trans B25).trans k6.bl
      have e1:(us.take (n+1)).map (fun u:Unt=>u.name)=(us.take n).map (fun u:Unt=>u.name)++[u.name]:=map_snoc hu
      have hl:((us.take n).map fun u:Unt=>u.name).length≤5:=by rw [List.length_map,List.length_take];omega
      refine apl (l1:=[u.name]) O6 (.inr ⟨b6,0,rfl,k6.box.at⟩) B16.size (fun a7 c7 w7 O7 A7 _ => ?_) (hb:=by simp only [List.length_cons,List.length_nil];omega) (hn:=by simp only [List.length_cons,List.length_nil];omega)
      refine ih hlt ⟨a7,c7,by rw [e1],by rw [e1];exact O7,Eng.Ow.below O6 A7 B16 B16.size,fun x hx => ?_⟩
      rw [take_succ_some hu] at hx
      rcases List.mem_append.1 hx with hx | hx
      · exact hck x hx
      · rw [List.mem_singleton.1 hx];exact hE
    · refine brT ?_ (hp:=hE)
      have:=chk_take hck hu hE
      exact rt1 (fail (by unfold runE;rw [if_neg h5,if_pos (by rw [this];exact hE),this]) hE (Nc.of_bl (B02.trans B25)))
  refine brF ?_
  obtain rfl:n=us.length:=by omega
  clear ih
  rw [List.take_length] at O2 hck ⊢
  have hC:∀ u∈us,CkU u:=fun u hu=>(ckU_iff u).1 (hck u hu)
  have hc0:=chk_zero hck
  have hlm:(us.map fun u:Unt=>u.name).length≤5:=by rw [List.length_map];omega
  refine cl (k_doubled (us.map fun u:Unt=>u.name) a c T w2 (owp_sl O2 (by omega) fun _ _=>trivial)) ?_
  rintro _ w3 ⟨rfl,B23⟩
  have B03:=B02.trans B23
  cases hdu:dup (us.map fun u:Unt=>u.name) with
  | true =>
    refine brt ?_
    exact rt1 (fail (by unfold runE;rw [if_neg h5,if_neg (by rw [hc0];exact fun h=>h rfl),if_pos hdu]) (by decide) (Nc.of_bl B03))
  | false =>
  refine brf ?_
  have x13:=Bl.box (B12.trans B23) k1.box
  refine ld (x13.cell rfl) ?_
  refine cl (k_declare (Bl.box B03 hx) (hS.bl B03) hC (by omega)) ?_
  rintro _ w4 ⟨m1,m2,m3,m4,m5,m6,M,D4⟩
  have L4:=D4.lnk (by omega) (hS.bl B03)
  have hN:=D4.ln
  have R4:RnW w0 b b1 us (.slice au us.length cu) m1 m2 m3 m4 m5 m6 nilS nilS nilS nilS (.map none) w4 :=
    ⟨D4.box,by unfold Box;rw [D4.nc.blk b1 x13.lt (box_ne x13 (Bl.box B03 hx) (by decide))];exact x13,L4,(Nc.of_bl B03).trans D4.nc⟩
  have hm1:=D4.cl
  clear D4
  refine ld (R4.x1.cell rfl) ?_
  refine cl (k_defined R4.lnk hC (by omega)) ?_
  rintro _ w5 ⟨rfl,B45⟩
  have R5:=R4.bl B45
  have runA:∀ {e:Int},runE us=(if definedL us (decl us)=false then 8 else match ordC us with
    | none=>10
    | some oc =>
      if bigD (decl us)=true then 2
      else if (oc.any fun p=>decide (7<(lay us p).length))=true then 2
      else if (oc.any fun p=>dup (lay us p))=true then 9
      else if unlikeL us (decl us)=true then 11
      else match ordM us with
        | none=>10
        | some _=>0):=by
    intro e
    unfold runE
    rw [if_neg h5,if_neg (by rw [hc0];exact fun h=>h rfl),hdu,if_neg (by decide)]
    rfl
  have runA := @runA 0
  cases hdf:definedL us (decl us) with
  | false =>
    refine brt ?_
    exact rt1 (fail (by rw [runA,if_pos hdf]) (by decide) R5.nc)
  | true =>
  rw [hdf,if_neg (by decide)] at runA
  refine brf ?_
  have dok:=dok_decl hC
  have hlc:(keysM (decl us).classes).length≤50:=by have:=dok.lc;unfold keysM;rw [List.length_map];omega
  have hzc:∀ p∈(decl us).classes,p.1.size≤maxLen:=fun p hp=>by have:=dok.zc p hp;unfold maxLen;omega
  refine dht 5 T [0,1,2,3,4,6,5,7,8,9,10] fun w6 k6 => ?_
  have R6:=R5.bl k6.bl
  refine ld (R6.x1.cell rfl) ?_ (hm:=trivial)
  refine ld (R6.x1.cell rfl) ?_ (hm:=trivial)
  refine ld (R6.box.cell rfl) ?_ (hm:=trivial)
  refine cl (k_keys (hm1.bl (B45.trans k6.bl)) (by have:=dok.lc;omega) hzc) ?_ (hm:=fun _ _ r=>by obtain ⟨_,_,_,_,_,_,hB⟩:=r;exact mdW_bl hB)
  rintro _ w7 ⟨a7,c7,l7,rfl,O7,hp7,B67⟩
  have R7:=R6.bl B67
  have hl7:l7.length≤50:=by have:=hp7.length_eq;simp only [List.length_map] at this;omega
  have e7:orderL (neeC us (decl us)) l7=ordC us:=by unfold ordC;exact orderL_names hp7
  have hin7:∀ p∈l7,p∈keysM (decl us).classes:=fun p hp=>by
    have:=hp7.mem_iff.1 (List.mem_map.2 ⟨p,hp,rfl⟩)
    obtain ⟨q,hq,e⟩:=List.mem_map.1 this
    rw [←ba_ext e];exact hq
  refine cl (k_place (g:=95) (first:=[]) (caps:=[.pointer (some ⟨b1,0,none⟩)]) (needs:=neeC us (decl us)) (owp_sl O7 (by omega) fun _ _=>trivial) ⟨fun p hp w' k=>k_needC (R7.lnk.bl k) hC (k.cl (R7.x1.cell rfl)) (hin7 p hp)⟩) ?_ (hm:=fun _ _ r=>mdW_bl r.1)
  rintro v w8 ⟨B78,hv⟩
  rw [e7] at hv
  have R8:=R7.bl B78
  cases hoc:ordC us with
  | none =>
    rw [hoc] at hv runA
    simp only at hv runA
    subst hv
    refine st R8.box fun w9 k9 x9 => ?_
    refine brt ?_
    exact rt1 (fail runA (by decide) (R8.to k9 x9).nc)
  | some oc =>
  rw [hoc] at hv runA
  simp only at hv runA
  obtain ⟨a8,c8,rfl,O8⟩:=hv
  refine st R8.box fun w9 k9 x9 => ?_
  have R9:=R8.to k9 x9
  have hb8:=R8.box.lt
  have hoc8:∀ g,a8=some ⟨g,0,none⟩→g≠b:=fun g hg e=>O8.nbox R8.box (by decide) (by rw [hg,e])
  have hlo:oc.length≤50:=by have:=(orderL_perm (show orderL (neeC us (decl us)) (keysM (decl us).classes)=some oc from hoc)).length_eq;omega
  have S9:Sl eStr (· ≠ b) w9 a8 oc:=owp_sl (O8.wr k9 hoc8) (by omega) hoc8
  have hm19:=(hm1.bl ((B45.trans k6.bl).trans (B67.trans B78))).wr k9 (R8.lnk.cl.elim fun _ h=>by
    have:=(hm1.bl ((B45.trans k6.bl).trans (B67.trans B78))).ne R8.box;exact this)
  refine brf ?_
  refine cut [88] [(1,.pointer (some ⟨b1,0,none⟩))] (fun vals w'=>vals=[.bool (bigD (decl us))]∧Bl w9 w') (fun jo => ?_) ?_
  · refine ds fun w10 k10 => ?_
    have R10:=R9.bl k10.bl
    obtain ⟨q1,h1,M1⟩:=R10.lnk.cl
    obtain ⟨q2,h2,M2⟩:=R10.lnk.st
    obtain ⟨q3,h3,M3⟩:=R10.lnk.ca
    obtain ⟨q4,h4,M4⟩:=R10.lnk.se
    have pb:∀ {o:Nat} {v:Value},w10.cell? ⟨b1,0,none⟩=some (.pointer (some ⟨b,0,none⟩)):=R10.x1.cell rfl
    refine ld (R10.x1.cell rfl) ?_
    refine ld h1 ?_
    refine lnm tD M1 ?_
    have hsum:IntKind.i64.wrap (((decl us).calls.length:Int)+((decl us).sends.length:Int))=(((decl us).calls.length+(decl us).sends.length:Nat):Int):=by
      have:=dok.lm
      rw [wrap_fit (by omega) (by omega)];omega
    by_cases g1:10<(decl us).classes.length
    · have q1:decide ((10:Int)<((decl us).classes.length:Int))=true:=decide_eq_true (by omega)
      refine spn (.pointer (some ⟨b,0,none⟩)) ?_ (hb:=q1)
      refine spn (.map none) ?_ (hb:=q1)
      refine spn (I 0) ?_ (hb:=q1)
      refine spn (.pointer (some ⟨b,0,none⟩)) ?_ (hb:=by rw [q1];rfl)
      refine spn (.map none) ?_ (hb:=by rw [q1];rfl)
      refine spn (I 0) ?_ (hb:=by rw [q1];rfl)
      refine spn (.pointer (some ⟨b,0,none⟩)) ?_ (hb:=by rw [q1];rfl)
      refine spn (.map none) ?_ (hb:=by rw [q1];rfl)
      refine spn (I 0) ?_ (hb:=by rw [q1];rfl)
      refine jo ⟨lst1 (vb ?_),k10.bl⟩
      rw [q1]
      unfold bigD
      rw [decide_eq_true g1];rfl
    · have q1:decide ((10:Int)<((decl us).classes.length:Int))=false:=decide_eq_false (by omega)
      refine spt (.pointer none) ?_ (hb:=q1)
      refine ld (R10.x1.cell rfl) ?_
      refine spt (.map none) ?_
      refine ld h2 ?_
      refine spt (I 0) ?_
      refine lnm tD M2 ?_
      by_cases g2:10<(decl us).statics.length
      · have q2:decide ((10:Int)<((decl us).statics.length:Int))=true:=decide_eq_true (by omega)
        refine spn (.pointer (some ⟨b,0,none⟩)) ?_ (hb:=by rw [q2];rfl)
        refine spn (.map none) ?_ (hb:=by rw [q2];rfl)
        refine spn (I 0) ?_ (hb:=by rw [q2];rfl)
        refine spn (.pointer (some ⟨b,0,none⟩)) ?_ (hb:=by rw [q2];rfl)
        refine spn (.map none) ?_ (hb:=by rw [q2];rfl)
        refine spn (I 0) ?_ (hb:=by rw [q2];rfl)
        refine jo ⟨lst1 (vb ?_),k10.bl⟩
        rw [q2]
        unfold bigD
        rw [decide_eq_true g2];simp
      · have q2:decide ((10:Int)<((decl us).statics.length:Int))=false:=decide_eq_false (by omega)
        refine spt (.pointer none) ?_ (hb:=by rw [q2];rfl)
        refine ld (R10.x1.cell rfl) ?_
        refine spt (.map none) ?_
        refine ld h3 ?_
        refine spt (I 0) ?_
        refine lnm tD M3 ?_
        refine spt (.pointer none) ?_
        refine ld (R10.x1.cell rfl) ?_
        refine spt (.map none) ?_
        refine ld h4 ?_
        refine spt (I 0) ?_
        refine lnm tD M4 ?_
        refine jo ⟨lst1 (vb ?_),k10.bl⟩
        unfold bigD
        rw [decide_eq_false g1,decide_eq_false g2,hsum]
        simp
        omega
  rintro _ w10 ⟨rfl,B910⟩
  have R10:=R9.bl B910
  have S10:=S9.bl B910
  cases hbg:bigD (decl us) with
  | true =>
    rw [if_pos hbg] at runA
    refine brt ?_
    exact rt1 (fail runA (by decide) R10.nc)
  | false =>
  rw [hbg,if_neg (by decide)] at runA
  refine brf ?_
  refine ld (R10.x1.cell rfl) ?_
  refine mm fun ml w11 k11 => ?_
  have R11:=R10.bl k11.bl
  refine st R11.box fun w12 k12 x12 => ?_
  have R12:=R11.to k12 x12
  have hMl0:=k11.is encR
  have hMl12:=hMl0.wr k12 (hMl0.ne R11.box)
  have yl:=k11.blk
  have n1012:Nc b w10 w12:=(Nc.of_bl k11.bl).wr k12 (.inl rfl)
  refine ld (R12.x1.cell rfl) ?_
  refine ld (R12.box.cell rfl) ?_
  have hperm:=orderL_perm (show orderL (neeC us (decl us)) (keysM (decl us).classes)=some oc from hoc)
  have hkl:(keysM (decl us).classes).length=oc.length:=hperm.length_eq.symm
  have hdeep:∀ p∈oc,Deep us (decl us) (keysM (decl us).classes).length p:=fun p hp=>by
    obtain ⟨i,hi⟩:=List.mem_iff_getElem?.1 hp
    have hil:i<oc.length:=(List.getElem?_eq_some_iff.1 hi).1
    exact deep_le (deep_of (fun q hq=>clsI_of dok (hperm.mem_iff.1 hq)) (orderL_placed hoc) i p hi) (by omega)
  have hI:∀ u∈us,Ixs u:=fun u hu=>ixs_of (hC u hu)
  have hF7:∀ u∈us,∀ c∈u.classes,c.fields.length≤7:=fun u hu=>(lim_of (hC u hu).lim).flds
  refine lpk (vals:=[]) oc.length 99 [] [(1,.pointer (some ⟨b1,0,none⟩)),(97,.slice a8 oc.length c8),(98,I oc.length)]
    (fun n vals w'=>vals=[]∧Nc b w10 w'∧Box w' b tLn (lcells (.slice au us.length cu) (mpv m1) (mpv m2) (mpv m3) (mpv m4) (mpv m5) (mpv m6) (.slice a8 oc.length c8) nilS nilS nilS (mpv ml))∧(∃ Y,LayW b us (oc.take n) ml Y w')∧(oc.take n).any (fun p=>decide (7<(lay us p).length))=false)
    ⟨rfl,n1012,x12,⟨[],hMl12,(fun p hp=>by simp at hp),(fun _ _ h=>by cases h)⟩,rfl⟩ ?_
  rintro n vals w13 hn ⟨rfl,n13,x13',⟨Y,hY⟩,hany⟩ ih
  have R13:=R10.go n13 x13'
  have S13:=S10.kp n13.nb.kp
  by_cases hlt:n<oc.length
  · refine brT ?_
    obtain ⟨p,bp,op,cs,hp,rfl,_,hAt,rfl⟩:=at_some S13 hlt
    have hpm:=List.mem_of_getElem? hp
    refine ix ?_
    refine ld (hAt 0 _ rfl) ?_
    refine dht 1 T (List.range 8) fun w14 k14 => ?_
    have R14:=R13.bl k14.bl
    refine ld (R14.x1.cell rfl) ?_ (hm:=trivial)
    refine ld (R14.box.cell rfl) ?_ (hm:=trivial)
    refine ld (R14.x1.cell rfl) ?_ (hm:=trivial)
    refine cl (k_layout hI hF7 (keysM (decl us).classes).length p w14 (by omega) R14.lnk (hdeep p hpm)) ?_ (hm:=fun _ _ r=>by obtain ⟨_,_,_,_,_,hB⟩:=r;exact mdW_bl hB)
    rintro _ w15 ⟨a15,c15,rfl,O15,hl15,B15⟩
    have B1315:=k14.bl.trans B15
    have R15:=R14.bl B15
    have hne15:∀ g,a15=some ⟨g,0,none⟩→g≠b:=fun g hg e=>O15.nbox R15.box (by decide) (by rw [hg,e])
    refine mu (⟨a15,c15,lay us p⟩:Rs) tN (hY.is.bl B1315) fun w16 k16 hM16 => ?_
    have hMl:=hY.is.bl B1315
    have kp16:=k16.kpm hMl
    have n16:Nc b w10 w16:=(n13.bl B1315).wr k16 (.inr (Nat.le_of_eq yl.symm))
    have x16:=k16.box R15.box (hMl.ne R15.box).symm
    have R16:=R10.go n16 x16
    have hrow:Sl eStr (· ≠ b) w16 a15 (lay us p):=(owp_sl O15 (by omega) hne15).kp (kp16.sub fun _ _=>trivial)
    have hY16:LayW b us (oc.take (n+1)) ml (putM Y p ⟨a15,c15,lay us p⟩) w16:=by
      refine ⟨hM16,fun q hq => ?_,fun q r hq => ?_⟩
      rotate_left
      · rw [putM_get] at hq
        rw [take_succ_some hp]
        split at hq
        · rename_i e;rw [←e];simp
        · exact List.mem_append_left _ (hY.only q r hq)
      rw [putM_get]
      by_cases e:p=q
      · subst e
        exact ⟨_,by rw [if_pos rfl],rfl,hrow⟩
      · rw [if_neg e]
        rw [take_succ_some hp] at hq
        rcases List.mem_append.1 hq with hq | hq
        · obtain ⟨r,h1,h2,h3⟩:=hY.at' q hq
          exact ⟨r,h1,h2,(h3.bl B1315).kp (kp16.sub fun _ _=>trivial)⟩
        · exact absurd (List.mem_singleton.1 hq).symm e
    refine ld (R16.x1.cell rfl) ?_
    refine ld (R16.box.cell rfl) ?_
    refine lk tN hM16 ?_
    rw [getD_enc,putM_get,if_pos rfl]
    by_cases h7:7<(lay us p).length
    · refine brT ?_ (hp:=by show ((7:Int)<((lay us p).length:Int));omega)
      rw [if_pos (any_hit hp (by rw [decide_eq_true h7]))] at runA
      exact rt1 (fail runA (by decide) R16.nc)
    · refine brF ?_ (hp:=by show ¬((7:Int)<((lay us p).length:Int));omega)
      exact ih hlt ⟨rfl,n16,x16,⟨_,hY16⟩,any_snoc hp hany (decide_eq_false h7)⟩
  refine brF ?_
  obtain rfl:n=oc.length:=by omega
  clear ih
  rw [List.take_length] at hY
  rw [if_neg (by rw [any_end hany];decide)] at runA
  refine ld (R13.x1.cell rfl) ?_
  refine ld (R13.box.cell rfl) ?_
  refine lpk (vals:=[]) oc.length 126 [] [(1,.pointer (some ⟨b1,0,none⟩)),(124,.slice a8 oc.length c8),(125,I oc.length)]
    (fun n vals w'=>vals=[]∧Bl w13 w'∧(oc.take n).any (fun p=>dup (lay us p))=false) ⟨rfl,Bl.refl _,rfl⟩ ?_
  rintro n vals w14 hn ⟨rfl,B14,hany2⟩ ih
  have R14:=R13.bl B14
  by_cases hlt:n<oc.length
  · refine brT ?_
    obtain ⟨p,bp,op,cs,hp,rfl,_,hAt,rfl⟩:=at_some (S13.bl B14) hlt
    obtain ⟨r,hr1,hr2,hr3⟩:=hY.at' p (List.mem_of_getElem? hp)
    refine ix ?_
    refine ld (hAt 0 _ rfl) ?_
    refine ld (R14.x1.cell rfl) ?_
    refine ld (R14.box.cell rfl) ?_
    refine lk tN (hY.is.bl B14) ?_
    rw [getD_enc,hr1]
    refine cl (k_doubled r.l r.a r.c (· ≠ b) w14 (hr3.bl B14)) ?_
    rintro _ w15 ⟨rfl,B15⟩
    rw [hr2]
    cases hd:dup (lay us p) with
    | true =>
      refine brt ?_
      rw [if_pos (any_hit hp hd)] at runA
      exact rt1 (fail runA (by decide) (R14.bl B15).nc)
    | false =>
      refine brf ?_
      exact ih hlt ⟨rfl,B14.trans B15,any_snoc hp hany2 hd⟩
  refine brF ?_
  obtain rfl:n=oc.length:=by omega
  clear ih
  rw [if_neg (by rw [any_end hany2];decide)] at runA
  refine ld (R14.x1.cell rfl) ?_
  refine cl (k_unlike R14.lnk (fun u hu=>tyOk_of (hC u hu)) (sendI_of dok)) ?_
  rintro _ w15 ⟨rfl,B15⟩
  have R15:=R14.bl B15
  cases hul:unlikeL us (decl us) with
  | true =>
    refine brt ?_
    rw [if_pos hul] at runA
    exact rt1 (fail runA (by decide) R15.nc)
  | false =>
  rw [hul,if_neg (by decide)] at runA
  refine brf ?_
  have hY15:LayW b us oc ml Y w15:=⟨hY.is.bl (B14.trans B15),fun p hp=>by
    obtain ⟨r,h1,h2,h3⟩:=hY.at' p hp
    exact ⟨r,h1,h2,h3.bl (B14.trans B15)⟩,hY.only⟩
  have S15:=S13.bl (B14.trans B15)
  have hzs:∀ p∈(decl us).statics,p.1.size≤maxLen:=fun p hp=>by have:=dok.zs p hp;unfold maxLen;omega
  have hza:∀ p∈(decl us).calls,p.1.size≤maxLen:=fun p hp=>by have:=dok.za p hp;unfold maxLen;omega
  have hze:∀ p∈(decl us).sends,p.1.size≤maxLen:=fun p hp=>by have:=dok.ze p hp;unfold maxLen;omega
  have hzn:∀ p∈(decl us).named,p.1.size≤maxLen:=fun p hp=>by have:=dok.zn p hp;unfold maxLen;omega
  have hls:=dok.ls
  have hlm2:=dok.lm
  have hln:=dok.ln
  obtain ⟨o2,eo2⟩:∃ o2,sortL (keysM (decl us).statics)=o2:=⟨_,rfl⟩
  have lo2:o2.length≤50:=by rw [←eo2,sortL_len];unfold keysM;rw [List.length_map];omega
  refine dht 4 T [0,1,2,3,4,5,6] fun w16 k16 => ?_
  have R16:=R15.bl k16.bl
  obtain ⟨q2,h2,M2⟩:=R16.lnk.st
  refine ld (R16.x1.cell rfl) ?_ (hm:=trivial)
  refine ld (R16.x1.cell rfl) ?_ (hm:=trivial)
  refine ld h2 ?_ (hm:=trivial)
  refine cl (k_KeysD q2 w16) ?_ (hm:=fun _ _ r=>by obtain ⟨_,_,h⟩:=r;exact mdW_bl h.bl)
  rintro _ w17 ⟨b17,rfl,k17⟩
  refine cl (k_sortD (M2.bl k17.bl) (by omega) hzs k17) ?_ (hm:=fun _ _ r=>by obtain ⟨_,_,_,_,hB⟩:=r;exact mdW_bl hB)
  rintro _ w18 ⟨a18,c18,rfl,O18,B1718⟩
  rw [eo2] at O18 ⊢
  have B1518:=(k16.bl.trans k17.bl).trans B1718
  have R18:=R15.bl B1518
  refine st R18.box fun w19 k19 x19 => ?_
  have R19:=R18.to k19 x19
  have kb19:Kp (· ≠ b) w18 w19:=k19.kp fun _ h=>h
  have hne18:∀ g,a18=some ⟨g,0,none⟩→g≠b:=fun g hg e=>O18.nbox R18.box (by decide) (by rw [hg,e])
  have T19:Sl eStr (· ≠ b) w19 a18 o2:=owp_sl (O18.wr k19 hne18) (by omega) hne18
  have S19:=(S15.bl B1518).kp kb19
  have hY19:LayW b us oc ml Y w19:=⟨(hY15.is.bl B1518).wr k19 ((hY15.is.bl B1518).ne R18.box),fun p hp=>by
    obtain ⟨r,h1,h2,h3⟩:=hY15.at' p hp
    exact ⟨r,h1,h2,(h3.bl B1518).kp kb19⟩,hY15.only⟩
  obtain ⟨o4,eo4⟩:∃ o4,sortL (keysM (decl us).named)=o4:=⟨_,rfl⟩
  have lo4:o4.length≤80:=by rw [←eo4,sortL_len];unfold keysM;rw [List.length_map];omega
  refine dht 4 T [0,1,2,3,4,5,6] fun w20 k20 => ?_
  have R20:=R19.bl k20.bl
  obtain ⟨q5,M5,h5',hM5,hN5,_⟩:=R20.lnk.na
  have hk5:keysM M5=keysM (decl us).named:=by rw [←hN5,keys_mapV]
  have hl5:M5.length=(decl us).named.length:=by rw [←hN5];unfold mapV;rw [List.length_map]
  have hz5:∀ p∈M5,p.1.size≤maxLen:=fun p hp=>hzn (p.1,p.2.l) (by rw [←hN5];exact List.mem_map.2 ⟨p,hp,rfl⟩)
  refine ld (R20.x1.cell rfl) ?_ (hm:=trivial)
  refine ld (R20.x1.cell rfl) ?_ (hm:=trivial)
  refine ld h5' ?_ (hm:=trivial)
  refine cl (k_KeysN q5 w20) ?_ (hm:=fun _ _ r=>by obtain ⟨_,_,h⟩:=r;exact mdW_bl h.bl)
  rintro _ w21 ⟨b21,rfl,k21⟩
  refine cl (k_sortN (hM5.bl k21.bl) (by omega) hz5 k21) ?_ (hm:=fun _ _ r=>by obtain ⟨_,_,_,_,hB⟩:=r;exact mdW_bl hB)
  rintro _ w22 ⟨a22,c22,rfl,O22,B2122⟩
  rw [hk5,eo4] at O22 ⊢
  have B1922:=(k20.bl.trans k21.bl).trans B2122
  have R22:=R19.bl B1922
  refine st R22.box fun w23 k23 x23 => ?_
  have R23:=R22.to k23 x23
  have kb23:Kp (· ≠ b) w22 w23:=k23.kp fun _ h=>h
  have hne22:∀ g,a22=some ⟨g,0,none⟩→g≠b:=fun g hg e=>O22.nbox R22.box (by decide) (by rw [hg,e])
  have V23:Sl eStr (· ≠ b) w23 a22 o4:=owp_sl (O22.wr k23 hne22) (by omega) hne22
  have S23:=(S19.bl B1922).kp kb23
  have T23:=(T19.bl B1922).kp kb23
  have hY23:LayW b us oc ml Y w23:=⟨(hY19.is.bl B1922).wr k23 ((hY19.is.bl B1922).ne R22.box),fun p hp=>by
    obtain ⟨r,h1,h2,h3⟩:=hY19.at' p hp
    exact ⟨r,h1,h2,(h3.bl B1922).kp kb23⟩,hY19.only⟩
  refine dht 5 (· < w23.heap.size) [0,1,2,3,4,6,7,8,9,12,13,5,10,11,14,15,16,17] fun w24 k24 => ?_
  have R24:=R23.bl k24.bl
  have lt1:b1<w23.heap.size:=R23.x1.lt
  have ltb:b<w23.heap.size:=R23.box.lt
  obtain ⟨q3,h3,M3⟩:=R24.lnk.ca
  obtain ⟨q4,h4,M4⟩:=R24.lnk.se
  refine ld (R24.x1.cell rfl) ?_ (hm:=lt1)
  refine ld (R24.x1.cell rfl) ?_ (hm:=lt1)
  refine ld h3 ?_ (hm:=ltb)
  refine ld (R24.x1.cell rfl) ?_ (hm:=lt1)
  refine ld h4 ?_ (hm:=ltb)
  refine ld (R24.x1.cell rfl) ?_ (hm:=lt1)
  refine cl (k_keys M3 (by omega) hza) ?_ (hm:=fun _ _ r=>by obtain ⟨_,_,_,_,_,_,hB⟩:=r;exact mdW_bl hB)
  rintro _ w25 ⟨a25,c25,l25,rfl,O25,hp25,B2425⟩
  refine cl (k_keys (M4.bl B2425) (by omega) hze) ?_ (hm:=fun _ _ r=>by obtain ⟨_,_,_,_,_,_,hB⟩:=r;exact mdW_bl hB)
  rintro _ w26 ⟨a26,c26,l26,rfl,O26,hp26,B2526⟩
  have hl25:l25.length≤80:=by have:=hp25.length_eq;simp only [List.length_map] at this;unfold keysM at this;rw [List.length_map] at this;omega
  have hl26:l26.length≤80:=by have:=hp26.length_eq;simp only [List.length_map] at this;unfold keysM at this;rw [List.length_map] at this;omega
  have B2426:=B2425.trans B2526
  have z24:w24.heap.size=w23.heap.size:=by rw [k24.heap]
  refine apl (O25.bl B2526) (src_of (owp_sl (S:=T) O26 (by omega) fun _ _=>trivial)) B2426.size (fun a27 c27 w27 O27 A27 _ => ?_) (hm:=apS fun g hg=>by have:=(O25.lt hg).1;omega)
  have B2427:Bl w24 w27:=Eng.Ow.below (O25.bl B2526) A27 B2426 B2426.size
  have R27:=R24.bl B2427
  have hpm:((l25++l26).map toL).Perm ((keysM (decl us).calls++keysM (decl us).sends).map toL):=by
    rw [List.map_append,List.map_append];exact hp25.append hp26
  have hin27:∀ p∈l25++l26,p∈keysM (decl us).calls++keysM (decl us).sends:=fun p hp=>by
    have:=hpm.mem_iff.1 (List.mem_map.2 ⟨p,hp,rfl⟩)
    obtain ⟨q,hq,e⟩:=List.mem_map.1 this
    rw [←ba_ext e];exact hq
  have e27:orderL (calL us (decl us)) (l25++l26)=ordM us:=by unfold ordM;exact orderL_names hpm
  refine cl (k_place (g:=102) (first:=[.pointer (some ⟨b,0,none⟩)]) (caps:=[]) (needs:=calL us (decl us)) (owp_sl O27 (by rw [List.length_append];omega) fun _ _=>trivial) ⟨fun p hp w' k=>by
    obtain ⟨n,k',u,m,hM⟩:=mthI_of dok (hin27 p hp)
    refine (k_callees (R27.lnk.bl k) hI hN hM (code_len (hC u (List.mem_of_getElem? hM.hu)) (List.mem_of_getElem? hM.hm))).mono ?_
    rintro v w'' ⟨a,c,rfl,hO,hlen,hB⟩
    exact ⟨a,c,rfl,owp_sl hO (by omega) fun _ _=>trivial,hB⟩⟩) ?_ (hm:=fun _ _ r=>mdW_bl r.1)
  rintro v w28 ⟨B2728,hv⟩
  rw [e27] at hv
  have B2328:=(k24.bl.trans B2427).trans B2728
  have R28:=R23.bl B2328
  cases hom:ordM us with
  | none =>
    rw [hom] at hv runA
    simp only at hv runA
    subst hv
    refine st R28.box fun w29 k29 x29 => ?_
    refine brt ?_
    exact rt1 (fail runA (by decide) (R28.to k29 x29).nc)
  | some om =>
  rw [hom] at hv runA
  simp only at hv runA
  obtain ⟨a28,c28,rfl,O28⟩:=hv
  refine st R28.box fun w29 k29 x29 => ?_
  have R29:=R28.to k29 x29
  have kb29:Kp (· ≠ b) w28 w29:=k29.kp fun _ h=>h
  have hne28:∀ g,a28=some ⟨g,0,none⟩→g≠b:=fun g hg e=>O28.nbox R28.box (by decide) (by rw [hg,e])
  have lom:om.length≤160:=by
    have:=(orderL_perm (show orderL (calL us (decl us)) (keysM (decl us).calls++keysM (decl us).sends)=some om from hom)).length_eq
    rw [this,List.length_append];unfold keysM;rw [List.length_map,List.length_map];omega
  have W29:Sl eStr (· ≠ b) w29 a28 om:=owp_sl (O28.wr k29 hne28) (by omega) hne28
  refine brf ?_
  refine rt1 ⟨by rw [runA],R29.nc,fun _=>⟨R29.lnk,⟨oc,a8,c8,hoc,R29.box.cell rfl,(S23.bl B2328).kp kb29⟩,⟨a18,c18,by rw [eo2];exact R29.box.cell rfl,by rw [eo2];exact (T23.bl B2328).kp kb29⟩,⟨om,a28,c28,hom,R29.box.cell rfl,W29⟩,
    ⟨a22,c22,by rw [eo4];exact R29.box.cell rfl,by rw [eo4];exact (V23.bl B2328).kp kb29⟩,⟨oc,ml,Y,hoc,R29.box.cell rfl,(hY23.is.bl B2328).wr k29 ((hY23.is.bl B2328).ne R28.box),fun p hp=>by
      obtain ⟨r,h1,h2,h3⟩:=hY23.at' p hp
      exact ⟨r,h1,h2,(h3.bl B2328).kp kb29⟩,hY23.only⟩⟩⟩
end Go.Proofs.YtkmdfjpafkcleaaGreatDoor
namespace Go.Proofs.YtkmdfjpafkcleaaGreatDoor
open Eng Go.RowKit
theorem l_Index {S:Nat→Prop} {w:World} {a:Option Addr} {l:List ByteArray} (hS:Sl eStr S w a l) (cap:Nat) (x:ByteArray):Ret Tryz.prog 103 #[.slice a l.length cap,.string x] w fun v w'=>v=I (idxB l x)∧w'=w:=by
  refine ⟨by kernel_rfl,?_⟩
  have hbig:=hS.big
  cases l with
  | nil =>
    refine (Tryz.slices_Index_string_empty a cap x w).mono ?_
    rintro e w' ⟨rfl,rfl⟩
    exact ⟨rfl,rfl⟩
  | cons y l =>
    obtain ⟨b,o,cs,rfl,_,_⟩:=hS.el 0 y rfl
    refine (Tryz.slices_Index_string b o (y::l).length cap (y::l) x w (Nat.le_refl _) (by omega) fun j hj => ?_).mono ?_
    · obtain ⟨s,hs⟩:=some_of_lt hj
      obtain ⟨b',o',cs',e,_,hAt,rfl⟩:=hS.el j s hs
      simp only [Option.some.injEq,Addr.mk.injEq,and_true] at e
      obtain ⟨rfl,rfl⟩:=e
      have:=hAt 0 _ rfl
      rw [List.getD_eq_getElem?_getD,hs]
      simpa [eStr,plainEl] using this
    · rintro e w' ⟨rfl,rfl⟩
      exact ⟨by rw [List.take_length],rfl⟩
theorem idxB_ge (l:List ByteArray) (x:ByteArray):idxB l x = -1∨0≤idxB l x:=by
  have key:∀ (l:List ByteArray) (i:Nat),Lib.idxFromS l x i = -1∨0≤Lib.idxFromS l x i:=by
    intro l
    induction l with
    | nil=>intro i;exact .inl rfl
    | cons y l ih =>
      intro i
      unfold Lib.idxFromS
      split
      · right;omega
      · exact ih (i+1)
  exact key l 0
structure RunO (b:Nat) (us:List Unt) (O:Ords) (w:World):Prop where
  lnk:Lnk w b us (decl us)
  oc:∃ a c,w.cell? ⟨b,7,none⟩=some (.slice a O.oc.length c)∧Sl eStr (· ≠ b) w a O.oc
  os:∃ a c,w.cell? ⟨b,8,none⟩=some (.slice a O.os.length c)∧Sl eStr (· ≠ b) w a O.os
  om:∃ a c,w.cell? ⟨b,9,none⟩=some (.slice a O.om.length c)∧Sl eStr (· ≠ b) w a O.om
  oz:∃ a c,w.cell? ⟨b,10,none⟩=some (.slice a O.oz.length c)∧Sl eStr (· ≠ b) w a O.oz
  ly:∃ m Y,w.cell? ⟨b,11,none⟩=some (.map (some m))∧LayW b us O.oc m Y w
theorem RunW.o {b:Nat} {us:List Unt} {w:World} (h:RunW b us w):RunO b us (ordsL us) w:=by
  obtain ⟨l1,a1,c1,e1,h1,s1⟩:=h.oc
  obtain ⟨l2,a2,c2,e2,h2,s2⟩:=h.om
  obtain ⟨l3,m,Y,e3,h3,y⟩:=h.ly
  have q1:(ordsL us).oc=l1:=by unfold ordsL;rw [e1];rfl
  have q2:(ordsL us).om=l2:=by unfold ordsL;rw [e2];rfl
  have q3:(ordsL us).oc=l3:=by unfold ordsL;rw [e3];rfl
  exact ⟨h.lnk,⟨a1,c1,by rw [q1];exact h1,by rw [q1];exact s1⟩,h.os,⟨a2,c2,by rw [q2];exact h2,by rw [q2];exact s2⟩,h.oz,⟨m,Y,h3,by rw [q3];exact y⟩⟩
variable {w w':World} {b:Nat} {us:List Unt} {O:Ords}
theorem LayW.bl {l:List ByteArray} {m:Nat} {Y:Mp Rs} (h:LayW b us l m Y w) (k:Bl w w'):LayW b us l m Y w' :=
  ⟨h.is.bl k,fun p hp=>by obtain ⟨r,h1,h2,h3⟩:=h.at' p hp;exact ⟨r,h1,h2,h3.bl k⟩,h.only⟩
theorem RunO.bl (h:RunO b us O w) (k:Bl w w'):RunO b us O w':=by
  obtain ⟨a1,c1,h1,s1⟩:=h.oc
  obtain ⟨a2,c2,h2,s2⟩:=h.os
  obtain ⟨a3,c3,h3,s3⟩:=h.om
  obtain ⟨a4,c4,h4,s4⟩:=h.oz
  obtain ⟨m,Y,h5,y⟩:=h.ly
  exact ⟨h.lnk.bl k,⟨a1,c1,k.cl h1,s1.bl k⟩,⟨a2,c2,k.cl h2,s2.bl k⟩,⟨a3,c3,k.cl h3,s3.bl k⟩,⟨a4,c4,k.cl h4,s4.bl k⟩,⟨m,Y,k.cl h5,y.bl k⟩⟩
theorem k_kind (h:RunO b us O w) {n:Nat} {u:Unt} (hu:us[n]? = some u) {t:Ty} (ht:optP u t.cls) :
    Ret Tryz.prog 106 #[.pointer (some ⟨b,0,none⟩),I n,.agg (encTy t).toArray] w fun v w'=>v = .agg (encTy (kindM O.oc u t)).toArray∧Bl w w':=by
  refine entr (vs:=[.pointer (some ⟨b,0,none⟩),I n,.agg (encTy t).toArray]) [0,1,2,5,6,9] tabok Tryz.func106 (by kernel_rfl) ?_
  refine bx (cs:=encTy t) fun b5 w1 k1 => ?_
  refine al fun b6 w2 k2 => ?_
  have x2:=Bl.box k2.bl k1.box
  refine ld (x2.cell rfl) ?_
  have B2:=k1.bl.trans k2.bl
  have y2:=k2.blk
  have z1:=k1.size
  by_cases h0:t.cls<0
  · refine brT ?_ (hp:=h0)
    refine ld (x2.cell rfl) ?_
    refine bd ?_
    refine sta (cs':=[I t.kind,I 0]) k2.box fun w3 k3 x3 => ?_
    refine rtc (cs:=[I t.kind,I 0]) x3.at ⟨?_,Below.trans B2 (k3.below (by omega))⟩
    unfold kindM
    rw [if_pos h0]
  · refine brF ?_ (hp:=h0)
    refine dt 1 fun w3 k3 => ?_
    have B3:=B2.trans k3.bl
    have H3:=h.bl B3
    obtain ⟨a,c,hc,hS⟩:=H3.oc
    refine ld ((k3.box x2).cell rfl) ?_
    refine ld hc ?_
    refine ld ((k3.box x2).cell rfl) ?_
    refine clq (k_path H3.lnk hu (ht.inP h0)) ?_
    refine clq (l_Index hS c _) ?_
    refine bd ?_
    refine sta (cs':=[I t.kind,I (idxB O.oc (nm u t.cls))]) (k3.box k2.box) fun w4 k4 x4 => ?_
    refine rtc (cs:=[I t.kind,I (idxB O.oc (nm u t.cls))]) x4.at ⟨?_,Below.trans B3 (k4.below (by omega))⟩
    unfold kindM
    rw [if_neg h0]
theorem k_kinds (h:RunO b us O w) {n:Nat} {u:Unt} (hu:us[n]? = some u) {l:List Ty} {a:Option Addr} {c:Nat} (hS:Sl eTy T w a l) (ht:∀ t∈l,optP u t.cls) :
    Ret Tryz.prog 107 #[.pointer (some ⟨b,0,none⟩),I n,.slice a l.length c] w fun v w'=>∃ a' c',v = .slice a' (l.map (kindM O.oc u)).length c'∧OwP 2 encTy w' w.heap.size 51 a' c' (l.map (kindM O.oc u))∧Bl w w':=by
  have hbig:=hS.big
  refine entr (vs:=[.pointer (some ⟨b,0,none⟩),I n,.slice a l.length c]) [0,1,2,6,7,9,10,11,12,13] tabok Tryz.func107 (by kernel_rfl) ?_
  refine lpk (vals:=[nilS]) l.length 12 [7] [(0,.pointer (some ⟨b,0,none⟩)),(1,I n),(10,.slice a l.length c),(11,I l.length)]
    (fun j vals w'=>∃ a' c',vals=[.slice a' ((l.take j).map (kindM O.oc u)).length c']∧OwP 2 encTy w' w.heap.size 51 a' c' ((l.take j).map (kindM O.oc u))∧Bl w w') ⟨none,0,rfl,Ow.nil ..,Bl.refl _⟩ ?_
  rintro j vals w1 hj ⟨a',c',rfl,O1,B1⟩ ih
  by_cases hlt:j<l.length
  · refine brT ?_
    obtain ⟨t,bf,off,cs,hti,rfl,_,hAt,rfl⟩:=at_some (hS.bl B1) hlt
    refine ix ?_
    refine lda hAt ?_
    refine al fun b2 w2 k2 => ?_
    refine sta (cs':=encTy t) k2.box fun w3 k3 x3 => ?_
    have B13:=k2.wr k3
    have B3:=B1.trans B13
    refine lda x3.at ?_
    refine cl (k_kind (h.bl B3) hu (ht t (List.mem_of_getElem? hti))) ?_
    rintro _ w4 ⟨rfl,B34⟩
    refine bs (cs:=encTy (kindM O.oc u t)) fun b5 w5 k5 => ?_
    have B15:=(B13.trans B34).trans k5.bl
    have B5:=B1.trans B15
    have O5:=O1.bl B15
    have hl:((l.take j).map (kindM O.oc u)).length≤4194304:=by rw [List.length_map,List.length_take];omega
    have e1:(l.take (j+1)).map (kindM O.oc u)=(l.take j).map (kindM O.oc u)++[kindM O.oc u t]:=map_snoc hti
    refine apl (l1:=[kindM O.oc u t]) O5 (.inr ⟨b5,0,rfl,k5.box.at⟩) B5.size (fun a6 c6 w6 O6 A6 _ => ?_) (hb:=by simp only [List.length_cons,List.length_nil];omega) (hn:=by simp only [List.length_cons,List.length_nil];omega)
    exact ih hlt ⟨a6,c6,by rw [e1],by rw [e1];exact O6,Eng.Ow.below O5 A6 B5 B5.size⟩
  · refine brF ?_
    obtain rfl:j=l.length:=by omega
    rw [List.take_length] at O1 ⊢
    exact rt1 ⟨a',c',rfl,O1,B1⟩
end Go.Proofs.YtkmdfjpafkcleaaGreatDoor
namespace Go.Proofs.YtkmdfjpafkcleaaGreatDoor
open Eng Go.RowKit
variable {w w':World} {b:Nat} {us:List Unt} {O:Ords}
theorem ClsI.ownT {us:List Unt} {D:Dcl} {p:ByteArray} {n k:Nat} {u:Unt} {c:Cls} {oc:List ByteArray} (h:ClsI us D p n k u c):ownT us D oc p=c.fields.map fun f=>kindM oc u f.ty:=by
  unfold Go.Proofs.YtkmdfjpafkcleaaGreatDoor.ownT;rw [h.of]
theorem k_fieldTypes (hI:∀ u∈us,Ixs u) (hF7:∀ u∈us,∀ c∈u.classes,c.fields.length≤7):∀ (m:Nat) (p:ByteArray) (w:World),m≤1000→RunO b us O w→Deep us (decl us) m p →
    Ret Tryz.prog 104 #[.pointer (some ⟨b,0,none⟩),.string p] w fun v w'=>∃ a c,v = .slice a (ftL us (decl us) O.oc m p).length c∧OwP 2 encTy w' w.heap.size 51 a c (ftL us (decl us) O.oc m p)∧(ftL us (decl us) O.oc m p).length≤7*m∧Bl w w'
  | 0,_,_,_,_,h=>h.elim
  | m+1,p,w,hm,hL,⟨⟨n,k,u,c,hc⟩,hd⟩=>by
    have hum:=List.mem_of_getElem? hc.hu
    have hcm:=List.mem_of_getElem? hc.hc
    have hf7:=hF7 u hum c hcm
    refine entr (vs:=[.pointer (some ⟨b,0,none⟩),.string p]) [0,1,4,5,6,7,9,14,37,38,39,40] tabok Tryz.func104 (by kernel_rfl) ?_
    refine cl (k_super hL.lnk hI hc) ?_
    rintro _ w1 ⟨rfl,B1⟩
    have hlay:ftL us (decl us) O.oc (m+1) p=(if supL us (decl us) p=nost then [] else ftL us (decl us) O.oc m (supL us (decl us) p))++c.fields.map fun f=>kindM O.oc u f.ty:=by
      rw [←hc.ownT];rfl
    refine jn [5] [(0,.pointer (some ⟨b,0,none⟩)),(1,.string p)] (fun vals w2=>∃ up a c,vals=[.slice a up.length c]∧OwP 2 encTy w2 w.heap.size 51 a c up∧up=(if supL us (decl us) p=nost then [] else ftL us (decl us) O.oc m (supL us (decl us) p))∧up.length≤7*m∧Bl w w2) (fun h jo => ?_) (fun h jo => ?_) ?_
    · have hs:¬supL us (decl us) p=nost:=of_decide_eq_true h
      refine cl (k_fieldTypes hI hF7 m _ w1 (by omega) (hL.bl B1) (hd.resolve_left hs)) ?_
      rintro _ w2 ⟨a,cc,rfl,hO,hlen,B2⟩
      exact jo ⟨_,a,cc,rfl,hO.base B1.size,by rw [if_neg hs],hlen,B1.trans B2⟩
    · have hs:supL us (decl us) p=nost:=Classical.byContradiction fun q=>of_decide_eq_false h q
      exact jo ⟨[],none,0,rfl,Ow.nil ..,by rw [if_pos hs],by simp,B1⟩
    rintro _ w2 ⟨up,a0,c0,rfl,hO2,hup,hlen,B2⟩
    rw [←hup] at hlay
    obtain ⟨m1,h1,hm1⟩:=(hL.bl B2).lnk.cl
    refine ld h1 ?_
    refine lk tD hm1 ?_
    rw [hc.g]
    refine al fun b3 w3 k3 => ?_
    refine sta (vs:=[I n,I k]) (cs':=[I n,I k]) k3.box fun w4 k4 x4 => ?_
    have B4:=B2.trans (k3.wr k4)
    refine ds fun w5 k5 => ?_
    have B5:=B4.trans k5.bl
    have x5:=k5.box x4
    obtain ⟨a,cc,h0,hS⟩:=hL.lnk.us
    obtain ⟨b6,o6,cs6,rfl,_,hAt,ua,rfl,hU⟩:=hS.el n u hc.hu
    obtain ⟨b7,o7,cs7,e7,_,hAt7,af,cf,rfl,hF⟩:=hU.cls.el k c hc.hc
    have hn:n<us.length:=(List.getElem?_eq_some_iff.1 hc.hu).1
    have hk:k<u.classes.length:=(List.getElem?_eq_some_iff.1 hc.hc).1
    refine ld (B5.cl h0) ?_
    refine ld (x5.cell rfl) ?_
    refine ix ?_
    refine ld ((hAt.bl B5) 2 _ rfl) ?_
    refine ld (x5.cell rfl) ?_
    rw [e7]
    refine ix ?_
    refine ld ((hAt7.bl B5) 2 _ rfl) ?_
    have hO5:=hO2.bl ((k3.wr k4).trans k5.bl)
    refine lpk (vals:=[.slice a0 up.length c0]) c.fields.length 39 [5] [(0,.pointer (some ⟨b,0,none⟩)),(7,.pointer (some ⟨b3,0,none⟩)),(37,.slice af c.fields.length cf),(38,I c.fields.length)]
      (fun j vals w'=>∃ a9 c9,vals=[.slice a9 (up++(c.fields.take j).map fun f=>kindM O.oc u f.ty).length c9]∧OwP 2 encTy w' w.heap.size 51 a9 c9 (up++(c.fields.take j).map fun f=>kindM O.oc u f.ty)∧Bl w w'∧Box w' b3 151 [I n,I k]) ⟨a0,c0,by simp,by simpa using hO5,B5,x5⟩ ?_
    rintro j vals w6 hj ⟨a9,c9,rfl,hO6,B6,x6⟩ ih
    by_cases hlt:j<c.fields.length
    · refine brT ?_
      obtain ⟨f,bf,off,csf,hf,rfl,_,hAtf,rfl⟩:=at_some (hF.bl B6) hlt
      refine ix ?_
      refine lda hAtf ?_
      refine al fun b8 w8 k8 => ?_
      refine sta k8.box fun w9 k9 x9 => ?_
      have B69:=k8.wr k9
      have x69:=Bl.box B69 x6
      refine ld (x69.cell rfl) ?_
      refine lda (x9.at.sub 1 2) ?_
      refine cl (k_kind (hL.bl (B6.trans B69)) hc.hu ((hI u hum).fty c hcm f (List.mem_of_getElem? hf))) ?_
      rintro _ w9' ⟨rfl,B9'⟩
      have B69:=B69.trans B9'
      have x69:=Bl.box B9' x69
      refine bs (cs:=encTy (kindM O.oc u f.ty)) fun b10 w10 k10 => ?_
      have B10:=(B6.trans B69).trans k10.bl
      have O10:=(hO6.bl B69).bl k10.bl
      have hl:(up++(c.fields.take j).map fun f=>kindM O.oc u f.ty).length≤7*m+7:=by rw [List.length_append,List.length_map,List.length_take];omega
      have e1:up++(c.fields.take (j+1)).map (fun f=>kindM O.oc u f.ty)=(up++(c.fields.take j).map fun f=>kindM O.oc u f.ty)++[kindM O.oc u f.ty]:=by rw [map_snoc hf,List.append_assoc]
      refine apl (l1:=[kindM O.oc u f.ty]) O10 (.inr ⟨b10,0,rfl,k10.box.at⟩) B10.size (fun a11 c11 w11 hO11 hA11 _ => ?_) (hb:=by simp only [List.length_cons,List.length_nil];omega) (hn:=by simp only [List.length_cons,List.length_nil];omega)
      have x10:=Bl.box k10.bl x69
      exact ih hlt ⟨a11,c11,by rw [e1],by rw [e1];exact hO11,Eng.Ow.below O10 hA11 B10 B10.size,hA11.box x10 (O10.nbox x10 (by decide))⟩
    · refine brF ?_
      obtain rfl:j=c.fields.length:=by omega
      rw [List.take_length,←hlay] at hO6 ⊢
      exact rt1 ⟨a9,c9,rfl,hO6,by rw [hlay,List.length_append,List.length_map];omega,B6⟩
theorem near_len {D:Dcl} {om:List ByteArray} {f:Nat} {c s:ByteArray} (h:¬c=nost):nearM us D om (f+1) c s=if 0≤idxB om (dots c s) then idxB om (dots c s) else nearM us D om f (supL us D c) s:=by
  simp only [nearM]
  rw [if_neg h]
theorem k_row (h:RunO b us O w) (hC:∀ u∈us,CkU u) {K:Nat} {p:ByteArray} (hd:Deep us (decl us) K p) (hp:p.size≤200) (hz:∀ s∈O.oz,s.size≤200) (_hp0:¬p=nost) :
    Ret Tryz.prog 105 #[.pointer (some ⟨b,0,none⟩),.string p] w fun v w'=>∃ a c,v = .slice a (O.oz.map fun s=>nearM us (decl us) O.om (K+1) p s).length c∧OwP 1 encInt w' w.heap.size 3 a c (O.oz.map fun s=>nearM us (decl us) O.om (K+1) p s)∧Bl w w':=by
  have hI:∀ u∈us,Ixs u:=fun u hu=>ixs_of (hC u hu)
  obtain ⟨az,cz,hcz,hSz⟩:=h.oz
  have hbig:=hSz.big
  refine entr (vs:=[.pointer (some ⟨b,0,none⟩),.string p]) [0,1,4,5,7,8,9,14,15,16,17,26] tabok Tryz.func105 (by kernel_rfl) ?_
  refine ld hcz ?_
  refine lpk (vals:=[nilS]) O.oz.length 16 [5] [(0,.pointer (some ⟨b,0,none⟩)),(1,.string p),(14,.slice az O.oz.length cz),(15,I O.oz.length)]
    (fun j vals w'=>∃ a' c',vals=[.slice a' ((O.oz.take j).map fun s=>nearM us (decl us) O.om (K+1) p s).length c']∧OwP 1 encInt w' w.heap.size 3 a' c' ((O.oz.take j).map fun s=>nearM us (decl us) O.om (K+1) p s)∧Bl w w') ⟨none,0,rfl,Ow.nil ..,Bl.refl _⟩ ?_
  rintro j vals w1 hj ⟨a',c',rfl,O1,B1⟩ ih
  by_cases hlt:j<O.oz.length
  · refine brT ?_
    obtain ⟨s,bf,off,cs,hs,rfl,_,hAt,rfl⟩:=at_some (hSz.bl B1) hlt
    have hsz:=hz s (List.mem_of_getElem? hs)
    refine ix ?_
    refine ld (hAt 0 _ rfl) ?_
    refine lp [8,9] [(0,.pointer (some ⟨b,0,none⟩)),(1,.string p),(14,.slice (some ⟨bf,off,none⟩) O.oz.length cz),(15,I O.oz.length),(16,I j),(5,.slice a' ((O.oz.take j).map fun s=>nearM us (decl us) O.om (K+1) p s).length c'),(7,.string s)]
      (fun m vals w'=>∃ (c:ByteArray) (at':Int),vals=[I at',.string c]∧(c=nost∨Deep us (decl us) m c)∧c.size≤200∧(at' = -1∨0≤at')∧(if 0≤at' then at' else nearM us (decl us) O.om (m+1) c s)=nearM us (decl us) O.om (K+1) p s∧Bl w1 w')
      ⟨rfl,rfl,rfl,rfl,rfl,rfl,rfl,trivial⟩ ⟨p,-1,rfl,.inr hd,hp,.inl rfl,rfl,Bl.refl _⟩ ?_
    rintro m vals w2 ⟨c,at',rfl,hdc,hcs,hat,heq,B12⟩ ih2
    have B2:=B1.trans B12
    by_cases hgo:¬c=nost∧at'<0
    · obtain ⟨hc0,ha0⟩:=hgo
      refine brt ?_ (hp:=by simp [hc0,ha0])
      have hdm:=hdc.resolve_left hc0
      obtain ⟨m',rfl⟩:∃ m',m=m'+1:=by
        cases m with
        | zero=>exact hdm.elim
        | succ m'=>exact ⟨m',rfl⟩
      obtain ⟨⟨n,k,u,x,hcI⟩,hd2⟩:=hdm
      have H2:=h.bl B2
      obtain ⟨am,cm,hcm,hSm⟩:=H2.om
      refine ld hcm ?_
      refine cat ?_ (hab:=by show _+1≤_;omega)
      refine cat ?_ (hab:=by rw [ByteArray.size_append];show _+1+_≤_;omega)
      refine cl (l_Index hSm cm _) ?_
      rintro _ _ ⟨rfl,rfl⟩
      refine cl (k_super H2.lnk hI hcI) ?_
      rintro _ w4 ⟨rfl,B24⟩
      have hss:(supL us (decl us) c).size≤200:=by
        rw [hcI.sup]
        split
        · rename_i q
          have hum:=List.mem_of_getElem? hcI.hu
          exact Nat.le_trans ((ck_small (hC u hum)).2 _ (((hI u hum).sup x (List.mem_of_getElem? hcI.hc)).inP (by omega))) (by omega)
        · exact Nat.zero_le _
      refine again (ih2 _ _ _ _ (Nat.lt_succ_self m') ⟨rfl,rfl,rfl,rfl,rfl,rfl,rfl,trivial⟩ rfl ⟨supL us (decl us) c,idxB O.om (dots c s),rfl,hd2,hss,idxB_ge ..,?_,B12.trans B24⟩)
      rw [if_neg (by omega),near_len hc0] at heq
      exact heq
    · refine brf ?_ (hp:=by
        by_cases hc0:c=nost
        · simp [hc0]
        · have:¬at'<0:=fun q=>hgo ⟨hc0,q⟩
          simp only [hc0,not_false_eq_true,decide_true,Bool.true_and]
          exact decide_eq_false this)
      have hval:at'=nearM us (decl us) O.om (K+1) p s:=by
        rw [←heq]
        by_cases h0:0≤at'
        · rw [if_pos h0]
        · rw [if_neg h0]
          have hc0:c=nost:=Classical.byContradiction fun q=>hgo ⟨q,by omega⟩
          simp only [nearM]
          rw [if_pos hc0]
          exact hat.resolve_right h0
      refine bs fun b5 w5 k5 => ?_
      have B15:=B12.trans k5.bl
      have B5:=B1.trans B15
      have O5:=O1.bl B15
      have hl:((O.oz.take j).map fun s=>nearM us (decl us) O.om (K+1) p s).length≤4194304:=by rw [List.length_map,List.length_take];omega
      have e1:(O.oz.take (j+1)).map (fun s=>nearM us (decl us) O.om (K+1) p s)=(O.oz.take j).map (fun s=>nearM us (decl us) O.om (K+1) p s)++[at']:=by rw [map_snoc hs,hval]
      refine apl (enc:=encInt) (l1:=[at']) O5 (.inr ⟨b5,0,rfl,k5.box.at⟩) B5.size (fun a6 c6 w6 O6 A6 _ => ?_) (hb:=by simp only [List.length_cons,List.length_nil];omega) (hn:=by simp only [List.length_cons,List.length_nil];omega)
      exact ih hlt ⟨a6,c6,by rw [e1],by rw [e1];exact O6,Eng.Ow.below O5 A6 B5 B5.size⟩
  · refine brF ?_
    obtain rfl:j=O.oz.length:=by omega
    rw [List.take_length] at O1 ⊢
    exact rt1 ⟨a',c',rfl,O1,B1⟩
end Go.Proofs.YtkmdfjpafkcleaaGreatDoor
namespace Go.Proofs.YtkmdfjpafkcleaaGreatDoor
open Eng Go.RowKit
variable {w w':World} {b:Nat} {us:List Unt} {O:Ords}
theorem cut_of {p:ByteArray} (h:(46:UInt8)∈p.data.toList):Lib.lastIndexByte p 46=(cutI p:Nat)∧cutI p<p.size:=by
  rcases Lib.lastIndexByte_spec p 46 with ⟨_,hn⟩ | ⟨i,hi,e,_,_⟩
  · obtain ⟨j,hj⟩:=List.mem_iff_getElem?.1 h
    obtain ⟨hlt,e⟩:=List.getElem?_eq_some_iff.1 hj
    have hs:j<p.size:=by rw [←ba_len];exact hlt
    refine absurd ?_ (hn j hs)
    have:p.data[j]! = 46:=by
      rw [getElem!_pos p.data j (by simpa using hlt)]
      simpa using e
    rw [this];rfl
  · unfold cutI
    rw [e]
    exact ⟨by simp,by simpa using hi⟩
theorem dot_of {s:ByteArray} (h:1<path s):(46:UInt8)∈s.data.toList:=by
  refine Classical.byContradiction fun hm => ?_
  unfold path pathL at h
  split at h
  · have key:∀ l:List UInt8,(46:UInt8) ∉ l→(cutDot l).length=1:=by
      intro l
      induction l with
      | nil=>intro _;rfl
      | cons c r ih =>
        intro hn
        rw [List.mem_cons,not_or] at hn
        have:=ih hn.2
        simp only [cutDot]
        rw [if_neg (fun q=>hn.1 q.symm)]
        cases hr:cutDot r with
        | nil=>rw [hr] at this;cases this
        | cons p ps=>rw [hr] at this;simpa using this
    have:=key _ hm
    omega
  · omega
theorem l_LastIndex {p:ByteArray} (hp:p.size≤200):Ret Tryz.prog 167 #[.string p,.string ⟨#[46]⟩] w fun v w'=>v=I (Lib.lastIndexByte p 46)∧w'=w:=by
  refine ⟨by kernel_rfl,?_⟩
  refine (Tryz.strings_LastIndex_one p ⟨#[46]⟩ rfl (by omega) w).mono ?_
  rintro e w' ⟨rfl,rfl⟩
  exact ⟨rfl,rfl⟩
theorem LayW.get {l:List ByteArray} {m:Nat} {Y:Mp Rs} (h:LayW b us l m Y w) (q:ByteArray):∃ a c,((getM Y q).map encR).getD (encR ⟨none,0,[]⟩) = .slice a (layA us l q).length c∧Sl eStr (· ≠ b) w a (layA us l q):=by
  unfold layA
  by_cases hq:q∈l
  · obtain ⟨r,h1,h2,h3⟩:=h.at' q hq
    rw [if_pos (by simpa [hasB] using hq),h1,←h2]
    exact ⟨r.a,r.c,rfl,h3⟩
  · rw [if_neg (by simpa [hasB] using hq)]
    cases hg:getM Y q with
    | some r=>exact absurd (h.only q r hg) hq
    | none=>exact ⟨none,0,rfl,Sl.nil ..⟩
theorem k_instr (h:RunO b us O w) {n:Nat} {u:Unt} (hu:us[n]? = some u) {i:Ins}
    (ha:(i.op=14∨i.op=24∨i.op=17∨i.op=18∨i.op=22∨i.op=23∨i.op=25∨i.op=26)→inP u i.a) (hb:(i.op=16∨i.op=12∧¬i.a=3)→inP u i.b)
    (hf:i.op=17∨i.op=18→(46:UInt8)∈(nm u i.a).data.toList∧(nm u i.a).size≤200) :
    Ret Tryz.prog 109 #[.pointer (some ⟨b,0,none⟩),I n,.agg (encIns i).toArray] w fun v w'=>v = .agg (encIns (instM us O u i)).toArray∧Bl w w':=by
  refine entr (vs:=[.pointer (some ⟨b,0,none⟩),I n,.agg (encIns i).toArray]) [0,1,2,5,6,7,8,10,11,26,40,44,57,81,96,110] tabok Tryz.func109 (by kernel_rfl) ?_
  refine bx (cs:=encIns i) fun b5 w1 k1 => ?_
  refine al fun b6 w2 k2 => ?_
  have x2:=Bl.box k2.bl k1.box
  have B2:=k1.bl.trans k2.bl
  have z1:=k1.size
  have y1:=k1.blk
  have y2:=k2.blk
  refine ld (x2.cell rfl) ?_
  by_cases e1:i.op=14∨i.op=24
  ·
    by_cases q14:i.op=14
    · refine brT ?_ (hp:=q14)
      refine brT ?_ (hp:=q14)
      refine dt 1 fun w3 k3 => ?_
      have B3:=B2.trans k3.bl
      have H3:=h.bl B3
      obtain ⟨a,c,hc,hS⟩:=H3.oc
      have x3:=Bl.box k3.bl x2
      refine ld hc ?_
      refine ld (x3.cell rfl) ?_
      refine clq (k_path H3.lnk hu (ha (by omega))) ?_
      refine clq (l_Index hS c _) ?_
      refine stx x3 (fun w4 k4 x4 => ?_) (ho:=by simp [encIns])
      refine lda x4.at ?_
      refine sta (cs':=[I i.op,I (idxB O.oc (nm u i.a)),I i.b]) (k4.box (Bl.box k3.bl k2.box) (by omega)) fun w5 k5 x5 => ?_
      refine rtc (cs:=[I i.op,I (idxB O.oc (nm u i.a)),I i.b]) x5.at ⟨?_,Below.trans (Below.trans B3 (k4.below (by omega))) (k5.below (by omega))⟩
      unfold instM;rw [if_pos e1]
    · refine brF ?_ (hp:=q14)
      refine brT ?_ (hp:=by omega)
      refine dt 1 fun w3 k3 => ?_
      have B3:=B2.trans k3.bl
      have H3:=h.bl B3
      obtain ⟨a,c,hc,hS⟩:=H3.oc
      have x3:=Bl.box k3.bl x2
      refine ld hc ?_
      refine ld (x3.cell rfl) ?_
      refine clq (k_path H3.lnk hu (ha (by omega))) ?_
      refine clq (l_Index hS c _) ?_
      refine stx x3 (fun w4 k4 x4 => ?_) (ho:=by simp [encIns])
      refine lda x4.at ?_
      refine sta (cs':=[I i.op,I (idxB O.oc (nm u i.a)),I i.b]) (k4.box (Bl.box k3.bl k2.box) (by omega)) fun w5 k5 x5 => ?_
      refine rtc (cs:=[I i.op,I (idxB O.oc (nm u i.a)),I i.b]) x5.at ⟨?_,Below.trans (Below.trans B3 (k4.below (by omega))) (k5.below (by omega))⟩
      unfold instM;rw [if_pos e1]
  refine brF ?_ (hp:=by omega)
  refine brF ?_ (hp:=by omega)
  by_cases e2:i.op=16
  · refine brT ?_ (hp:=e2)
    refine dt 1 fun w3 k3 => ?_
    have B3:=B2.trans k3.bl
    have H3:=h.bl B3
    obtain ⟨a,c,hc,hS⟩:=H3.oc
    have x3:=Bl.box k3.bl x2
    refine ld hc ?_
    refine ld (x3.cell rfl) ?_
    refine clq (k_path H3.lnk hu (hb (by omega))) ?_
    refine clq (l_Index hS c _) ?_
    refine stx x3 (fun w4 k4 x4 => ?_) (ho:=by simp [encIns])
    refine lda x4.at ?_
    refine sta (cs':=[I i.op,I i.a,I (idxB O.oc (nm u i.b))]) (k4.box (Bl.box k3.bl k2.box) (by omega)) fun w5 k5 x5 => ?_
    refine rtc (cs:=[I i.op,I i.a,I (idxB O.oc (nm u i.b))]) x5.at ⟨?_,Below.trans (Below.trans B3 (k4.below (by omega))) (k5.below (by omega))⟩
    unfold instM;rw [if_neg e1,if_pos e2]
  refine brF ?_ (hp:=e2)
  by_cases e3:i.op=12
  · refine brT ?_ (hp:=e3)
    refine ld (x2.cell rfl) ?_
    by_cases h3:i.a=3
    · refine brf ?_ (hp:=by simp [h3])
      have x4:=x2
      refine lda x4.at ?_
      refine sta (cs':=encIns i) k2.box fun w5 k5 x5 => ?_
      refine rtc (cs:=encIns i) x5.at ⟨?_,Below.trans B2 (k5.below (by omega))⟩
      unfold instM;rw [if_neg e1,if_neg e2,if_pos e3,if_pos h3]
    · refine brT ?_ (hp:=h3)
      refine dt 1 fun w3 k3 => ?_
      have B3:=B2.trans k3.bl
      have H3:=h.bl B3
      obtain ⟨a,c,hc,hS⟩:=H3.oc
      have x3:=Bl.box k3.bl x2
      refine ld hc ?_
      refine ld (x3.cell rfl) ?_
      refine clq (k_path H3.lnk hu (hb (by omega))) ?_
      refine clq (l_Index hS c _) ?_
      refine stx x3 (fun w4 k4 x4 => ?_) (ho:=by simp [encIns])
      refine lda x4.at ?_
      refine sta (cs':=[I i.op,I i.a,I (idxB O.oc (nm u i.b))]) (k4.box (Bl.box k3.bl k2.box) (by omega)) fun w5 k5 x5 => ?_
      refine rtc (cs:=[I i.op,I i.a,I (idxB O.oc (nm u i.b))]) x5.at ⟨?_,Below.trans (Below.trans B3 (k4.below (by omega))) (k5.below (by omega))⟩
      unfold instM;rw [if_neg e1,if_neg e2,if_pos e3,if_neg h3]
  refine brF ?_ (hp:=e3)
  by_cases e4:i.op=17∨i.op=18
  ·
    by_cases q17:i.op=17
    · refine brT ?_ (hp:=q17)
      refine brT ?_ (hp:=q17)
      have hi:=ha (by omega)
      obtain ⟨hdot,hsz⟩:=hf (by omega)
      obtain ⟨hcut,hlt⟩:=cut_of hdot
      refine ld (x2.cell rfl) ?_
      refine cl (k_path (h.bl B2).lnk hu hi) ?_
      rintro _ _ ⟨rfl,rfl⟩
      refine cl (l_LastIndex hsz) ?_
      rintro _ _ ⟨rfl,rfl⟩
      rw [hcut]
      refine dt 1 fun w3 k3 => ?_
      have B3:=B2.trans k3.bl
      have H3:=h.bl B3
      obtain ⟨m,Y,hm,hY⟩:=H3.ly
      have x3:=Bl.box k3.bl x2
      refine ld hm ?_
      refine sls 0 (cutI (nm u i.a)) ?_
      refine lk tN hY.is ?_
      obtain ⟨a,c,hg,hS⟩:=hY.get ((nm u i.a).extract 0 (cutI (nm u i.a)))
      rw [hg]
      refine sls (cutI (nm u i.a)+1) (nm u i.a).size ?_ (h1:=by exact ⟨.i64,congrArg (Value.int .i64) (by rw [wrap_fit (by omega) (by omega)];omega)⟩)
      refine clq (l_Index hS c _) ?_
      refine stx x3 (fun w4 k4 x4 => ?_) (ho:=by simp [encIns])
      refine lda x4.at ?_
      refine sta (cs':=[I i.op,I (fldM us O.oc (nm u i.a)),I i.b]) (k4.box (Bl.box k3.bl k2.box) (by omega)) fun w5 k5 x5 => ?_
      refine rtc (cs:=[I i.op,I (fldM us O.oc (nm u i.a)),I i.b]) x5.at ⟨?_,Below.trans (Below.trans B3 (k4.below (by omega))) (k5.below (by omega))⟩
      unfold instM;rw [if_neg e1,if_neg e2,if_neg e3,if_pos e4]
    · refine brF ?_ (hp:=q17)
      refine brT ?_ (hp:=by omega)
      have hi:=ha (by omega)
      obtain ⟨hdot,hsz⟩:=hf (by omega)
      obtain ⟨hcut,hlt⟩:=cut_of hdot
      refine ld (x2.cell rfl) ?_
      refine cl (k_path (h.bl B2).lnk hu hi) ?_
      rintro _ _ ⟨rfl,rfl⟩
      refine cl (l_LastIndex hsz) ?_
      rintro _ _ ⟨rfl,rfl⟩
      rw [hcut]
      refine dt 1 fun w3 k3 => ?_
      have B3:=B2.trans k3.bl
      have H3:=h.bl B3
      obtain ⟨m,Y,hm,hY⟩:=H3.ly
      have x3:=Bl.box k3.bl x2
      refine ld hm ?_
      refine sls 0 (cutI (nm u i.a)) ?_
      refine lk tN hY.is ?_
      obtain ⟨a,c,hg,hS⟩:=hY.get ((nm u i.a).extract 0 (cutI (nm u i.a)))
      rw [hg]
      refine sls (cutI (nm u i.a)+1) (nm u i.a).size ?_ (h1:=by exact ⟨.i64,congrArg (Value.int .i64) (by rw [wrap_fit (by omega) (by omega)];omega)⟩)
      refine clq (l_Index hS c _) ?_
      refine stx x3 (fun w4 k4 x4 => ?_) (ho:=by simp [encIns])
      refine lda x4.at ?_
      refine sta (cs':=[I i.op,I (fldM us O.oc (nm u i.a)),I i.b]) (k4.box (Bl.box k3.bl k2.box) (by omega)) fun w5 k5 x5 => ?_
      refine rtc (cs:=[I i.op,I (fldM us O.oc (nm u i.a)),I i.b]) x5.at ⟨?_,Below.trans (Below.trans B3 (k4.below (by omega))) (k5.below (by omega))⟩
      unfold instM;rw [if_neg e1,if_neg e2,if_neg e3,if_pos e4]
  refine brF ?_ (hp:=by omega)
  refine brF ?_ (hp:=by omega)
  by_cases e5:i.op=22∨i.op=23
  ·
    by_cases q22:i.op=22
    · refine brT ?_ (hp:=q22)
      refine brT ?_ (hp:=q22)
      refine dt 1 fun w3 k3 => ?_
      have B3:=B2.trans k3.bl
      have H3:=h.bl B3
      obtain ⟨a,c,hc,hS⟩:=H3.os
      have x3:=Bl.box k3.bl x2
      refine ld hc ?_
      refine ld (x3.cell rfl) ?_
      refine clq (k_path H3.lnk hu (ha (by omega))) ?_
      refine clq (l_Index hS c _) ?_
      refine stx x3 (fun w4 k4 x4 => ?_) (ho:=by simp [encIns])
      refine lda x4.at ?_
      refine sta (cs':=[I i.op,I (idxB O.os (nm u i.a)),I i.b]) (k4.box (Bl.box k3.bl k2.box) (by omega)) fun w5 k5 x5 => ?_
      refine rtc (cs:=[I i.op,I (idxB O.os (nm u i.a)),I i.b]) x5.at ⟨?_,Below.trans (Below.trans B3 (k4.below (by omega))) (k5.below (by omega))⟩
      unfold instM;rw [if_neg e1,if_neg e2,if_neg e3,if_neg e4,if_pos e5]
    · refine brF ?_ (hp:=q22)
      refine brT ?_ (hp:=by omega)
      refine dt 1 fun w3 k3 => ?_
      have B3:=B2.trans k3.bl
      have H3:=h.bl B3
      obtain ⟨a,c,hc,hS⟩:=H3.os
      have x3:=Bl.box k3.bl x2
      refine ld hc ?_
      refine ld (x3.cell rfl) ?_
      refine clq (k_path H3.lnk hu (ha (by omega))) ?_
      refine clq (l_Index hS c _) ?_
      refine stx x3 (fun w4 k4 x4 => ?_) (ho:=by simp [encIns])
      refine lda x4.at ?_
      refine sta (cs':=[I i.op,I (idxB O.os (nm u i.a)),I i.b]) (k4.box (Bl.box k3.bl k2.box) (by omega)) fun w5 k5 x5 => ?_
      refine rtc (cs:=[I i.op,I (idxB O.os (nm u i.a)),I i.b]) x5.at ⟨?_,Below.trans (Below.trans B3 (k4.below (by omega))) (k5.below (by omega))⟩
      unfold instM;rw [if_neg e1,if_neg e2,if_neg e3,if_neg e4,if_pos e5]
  refine brF ?_ (hp:=by omega)
  refine brF ?_ (hp:=by omega)
  by_cases e6:i.op=25
  · refine brT ?_ (hp:=e6)
    refine dt 1 fun w3 k3 => ?_
    have B3:=B2.trans k3.bl
    have H3:=h.bl B3
    obtain ⟨a,c,hc,hS⟩:=H3.om
    have x3:=Bl.box k3.bl x2
    refine ld hc ?_
    refine ld (x3.cell rfl) ?_
    refine clq (k_path H3.lnk hu (ha (by omega))) ?_
    refine clq (l_Index hS c _) ?_
    refine stx x3 (fun w4 k4 x4 => ?_) (ho:=by simp [encIns])
    refine lda x4.at ?_
    refine sta (cs':=[I i.op,I (idxB O.om (nm u i.a)),I i.b]) (k4.box (Bl.box k3.bl k2.box) (by omega)) fun w5 k5 x5 => ?_
    refine rtc (cs:=[I i.op,I (idxB O.om (nm u i.a)),I i.b]) x5.at ⟨?_,Below.trans (Below.trans B3 (k4.below (by omega))) (k5.below (by omega))⟩
    unfold instM;rw [if_neg e1,if_neg e2,if_neg e3,if_neg e4,if_neg e5,if_pos e6]
  refine brF ?_ (hp:=e6)
  by_cases e7:i.op=26
  · refine brT ?_ (hp:=e7)
    refine dt 1 fun w3 k3 => ?_
    have B3:=B2.trans k3.bl
    have H3:=h.bl B3
    obtain ⟨a,c,hc,hS⟩:=H3.oz
    have x3:=Bl.box k3.bl x2
    refine ld hc ?_
    refine ld (x3.cell rfl) ?_
    refine clq (k_path H3.lnk hu (ha (by omega))) ?_
    refine clq (l_Index hS c _) ?_
    refine stx x3 (fun w4 k4 x4 => ?_) (ho:=by simp [encIns])
    refine lda x4.at ?_
    refine sta (cs':=[I i.op,I (idxB O.oz (nm u i.a)),I i.b]) (k4.box (Bl.box k3.bl k2.box) (by omega)) fun w5 k5 x5 => ?_
    refine rtc (cs:=[I i.op,I (idxB O.oz (nm u i.a)),I i.b]) x5.at ⟨?_,Below.trans (Below.trans B3 (k4.below (by omega))) (k5.below (by omega))⟩
    unfold instM;rw [if_neg e1,if_neg e2,if_neg e3,if_neg e4,if_neg e5,if_neg e6,if_pos e7]
  refine brF ?_ (hp:=e7)
  have x4:=x2
  refine lda x4.at ?_
  refine sta (cs':=encIns i) k2.box fun w5 k5 x5 => ?_
  refine rtc (cs:=encIns i) x5.at ⟨?_,Below.trans B2 (k5.below (by omega))⟩
  unfold instM;rw [if_neg e1,if_neg e2,if_neg e3,if_neg e4,if_neg e5,if_neg e6,if_neg e7]
end Go.Proofs.YtkmdfjpafkcleaaGreatDoor
namespace Go.Proofs.YtkmdfjpafkcleaaGreatDoor
open Eng Go.RowKit
variable {w w':World} {b:Nat} {us:List Unt} {O:Ords}
structure OOk (us:List Unt) (O:Ords):Prop where
  oc:∀ p∈O.oc,(∃ n k u c,ClsI us (decl us) p n k u c)∧Deep us (decl us) (keysM (decl us).classes).length p∧p.size≤200∧¬p=nost
  os:∀ p∈O.os,p∈keysM (decl us).statics
  om:∀ p∈O.om,p∈keysM (decl us).calls++keysM (decl us).sends
  oz:∀ s∈O.oz,s.size≤200
  zm:∀ s∈O.om,s.size≤200
  kc:(keysM (decl us).classes).length≤50
  lc:O.oc.length≤50
  ls:O.os.length≤50
  lm:O.om.length≤80
  lz:O.oz.length≤80
abbrev mdc (a1:Option Addr) (n1 c1:Nat) (a2:Option Addr) (n2 c2:Nat) (a3:Option Addr) (n3 c3:Nat) (z:Nat):List Value:=[.slice a1 n1 c1,.slice a2 n2 c2,.slice a3 n3 c3,I z]
theorem Nc.box {b c:Nat} {w w':World} (h:Nc b w w') {t:TypeId} {cs:List Value} (hb:Box w c t cs) (hne:c≠b):Box w' c t cs:=by unfold Box;rw [h.blk c hb.lt hne];exact hb
theorem fld_dot {u:Unt} (hC:CkU u) {m:Mth} (hm:m∈u.methods) {i:Ins} (hi:i∈m.code) (h:i.op=17∨i.op=18):(46:UInt8)∈(nm u i.a).data.toList∧(nm u i.a).size≤200:=by
  have hn:named i=(1,3):=by unfold named;rw [if_pos h]
  have ho:operand i=(i.a,3):=by unfold operand;rw [hn];rfl
  have:=op_in hC hm hi (by rw [ho];exact (by decide:(0:Int)<3))
  rw [ho] at this
  obtain ⟨h1,h2,h3⟩:=this
  refine ⟨dot_of (by simp only at h3;omega),?_⟩
  have:=(ck_small hC).2 i.a ⟨h1,h2⟩
  omega
theorem staM_at {p:ByteArray} {n k:Nat} {u:Unt} {f:Fld} (hg:getM (decl us).statics p=some (n,k)) (hu:us[n]? = some u) (hf:u.statics[k]? = some f):staM us O p=kindM O.oc u f.ty:=by
  unfold staM
  rw [hg]
  simp [hu,hf]
theorem mthM_at {p:ByteArray} {n k:Nat} {u:Unt} {m:Mth} (h:MthI us (mthD (decl us) p) n k u m):mthM us O p=⟨p,if 0≤m.cls then idxB O.oc (nm u m.cls) else -1,m.params.map (kindM O.oc u),m.locals.map (kindM O.oc u),kindM O.oc u m.result,m.code.map (instM us O u)⟩:=by
  unfold mthM mthOf
  rw [h.of]
theorem k_module {c0 s0 m0:Nat} (h:RunO b us O w) (hC:∀ u∈us,CkU u) (hO:OOk us O) (dok:DOk us c0 s0 m0 (decl us)) (hF7:∀ u∈us,∀ c∈u.classes,c.fields.length≤7) :
    Ret Tryz.prog 47 #[.pointer (some ⟨b,0,none⟩)] w fun v w'=>∃ a,v = .agg (modcells (modO us O) a).toArray∧MdR (fun i=>w.heap.size≤i∧i<w'.heap.size) w' (modO us O) a∧Bl w w':=by
  have hI:∀ u∈us,Ixs u:=fun u hu=>ixs_of (hC u hu)
  obtain ⟨az,cz,hcz,hSz⟩:=h.oz
  obtain ⟨ac,cc,hcc,hSc⟩:=h.oc
  obtain ⟨as',cs',hcs,hSs⟩:=h.os
  obtain ⟨am,cm,hcm,hSm⟩:=h.om
  have hlt:=h.lnk.lt
  have hlc:=hO.lc
  have hls:=hO.ls
  have hlm:=hO.lm
  have hlz:=hO.lz
  have hkc:=hO.kc
  refine entr (vs:=[.pointer (some ⟨b,0,none⟩)]) [0,2,3,5,7,8,10,11,12,13,14,16,28,29,30,31,61,62,63,64,101,102,103,104,117,159,174,175,176,177] tabok Tryz.func47 (by kernel_rfl) ?_
  refine al fun b2 w1 k1 => ?_
  refine ld (k1.bl.cl hcz) ?_
  refine bd ?_
  refine al fun b3 w2 k2 => ?_
  refine sta (cs':=mdc none 0 0 none 0 0 none 0 0 O.oz.length) k2.box fun w3 k3 x3 => ?_
  have z1:=k1.size
  have y1:=k1.blk
  have z2:=k2.size
  have y2:=k2.blk
  have z3:=k3.size
  have B3:Bl w w3:=k1.bl.trans (k2.wr k3)
  have x2:Box w3 b2 29 (mdc none 0 0 none 0 0 none 0 0 0):=Bl.box (k2.wr k3) k1.box
  refine ld (B3.cl hcc) ?_
  refine lpk (vals:=[]) O.oc.length 30 [] [(0,.pointer (some ⟨b,0,none⟩)),(2,.pointer (some ⟨b2,0,none⟩)),(3,.pointer (some ⟨b3,0,none⟩)),(28,.slice ac O.oc.length cc),(29,I O.oc.length)]
    (fun j vals w'=>vals=[]∧Nc b3 w3 w'∧∃ a1 c1,Box w' b3 29 (mdc a1 ((O.oc.take j).map (clsM us O)).length c1 none 0 0 none 0 0 O.oz.length)∧OwC eMC (fun i=>w3.heap.size≤i) w' w3.heap.size 49 a1 c1 ((O.oc.take j).map (clsM us O)))
    ⟨rfl,.of_bl (Bl.refl _),none,0,x3,OwC.nil ..⟩ ?_
  rintro j vals w4 hj ⟨rfl,N4,a1,c1,x4,O4⟩ ih
  have B4:Bl w w4:=Nc.below B3 N4 (by omega) B3.size
  have z4:=N4.size
  by_cases hjl:j<O.oc.length
  · refine brT ?_
    obtain ⟨p,bf,off,cs,hp,rfl,_,hAt,rfl⟩:=at_some (hSc.bl B4) hjl
    obtain ⟨⟨n,k,u,c,hcI⟩,hdp,hps,hp0⟩:=hO.oc p (List.mem_of_getElem? hp)
    refine ix ?_
    refine ld (hAt 0 _ rfl) ?_
    have hna:∀ g,a1=some ⟨g,0,none⟩→w3.heap.size≤g:=fun g hg=>(O4.lt hg).1
    refine dht 1 (fun i=>i<w3.heap.size) [0,1,2,3,4,5,6,7,8,9,12,13,15,16,10,11,14,17,18,19,20,21] fun w5 k5 => ?_
    have B5:=B4.trans k5.bl
    have N5:=N4.bl k5.bl
    have x5:=Bl.box k5.bl x4
    refine ld (x5.cell rfl) ?_ (hm:=by show b3<_;omega)
    refine ld (B5.cl hcc) ?_ (hm:=by show b<_;omega)
    refine cl (k_super (h.bl B5).lnk hI hcI) ?_
    rintro _ w6 ⟨rfl,B56⟩
    have B6:=B5.trans B56
    refine cl (l_Index (hSc.bl B6) cc _) ?_
    rintro _ w6x ⟨rfl,q6⟩
    rw [q6]
    refine cl (k_fieldTypes hI hF7 (keysM (decl us).classes).length p w6 (by have:=hO.kc;omega) (h.bl B6) hdp) ?_ (hm:=fun _ _ r=>by obtain ⟨_,_,_,_,_,hB⟩:=r;exact mdW_bl hB)
    rintro _ w7 ⟨a7,c7,rfl,O7,hl7,B67⟩
    have B7:=B6.trans B67
    refine cl (k_row (h.bl B7) hC hdp hps hO.oz hp0) ?_ (hm:=fun _ _ r=>by obtain ⟨_,_,_,_,hB⟩:=r;exact mdW_bl hB)
    rintro _ w8 ⟨a8,c8,rfl,O8,B78⟩
    refine bd ?_
    refine bs (cs:=mccells (clsM us O p) a7 c7 a8 c8) fun b9 w9 k9 => ?_
    have B49:=(k5.bl.trans B56).trans ((B67.trans B78).trans k9.bl)
    have B9:=B4.trans B49
    obtain ⟨xs,e1,e3,hOx,e4⟩:=(O4.bl B49).row
    have z5:w5.heap.size=w4.heap.size:=by rw [k5.heap]
    have z56:=B56.size
    have z67:=B67.size
    have z78:=B78.size
    have z9:=k9.size
    have hl9:((O.oc.take j).map (clsM us O)).length≤50:=by rw [List.length_map,List.length_take];omega
    refine ap hOx (.inr ⟨b9,0,rfl,k9.box.at⟩) (by omega) (fun a10 c10 w10 hO10 hA10 hf10 => ?_) (hm:=apS fun g hg=>by have:=hna g hg;show ¬g<_;omega)
    have hrel:eMC.rel (fun i=>w3.heap.size≤i∧a1≠some ⟨i,0,none⟩∧i<w9.heap.size) w9 (mccells (clsM us O p) a7 c7 a8 c8) (clsM us O p):=by
      refine ⟨a7,c7,a8,c8,rfl,?_,?_,Nat.le_trans hps (by decide),O7.capn.1⟩
      · exact owp_sl (enc:=encTy) ((O7.bl B78).bl k9.bl) (by show (ftL us (decl us) O.oc _ p).length≤_;omega) fun g hg=>by
          have q1:=O7.lt hg
          exact ⟨by omega,fun e=>by have:=(O4.lt e).2;omega,by omega⟩
      · exact owp_sl (enc:=encInt) (O8.bl k9.bl) (by rw [List.length_map];omega) fun g hg=>by
          have q1:=O8.lt hg
          exact ⟨by omega,fun e=>by have:=(O4.lt e).2;omega,by omega⟩
    have hO10':=OwC.push e1 e3 e4 hO10 hA10 hf10 hrel
    have x10:=hA10.box (Bl.box B49 x4) fun e=>by have:=hna _ e;omega
    refine st x10 fun w11 k11 x11 => ?_
    have e5:(O.oc.take (j+1)).map (clsM us O)=(O.oc.take j).map (clsM us O)++[clsM us O p]:=map_snoc hp
    have N10:Nc b3 w3 w10:=(N4.bl B49).ap hA10 hna
    exact ih hjl ⟨rfl,N10.wr k11 (.inl rfl),a10,c10,by rw [e5,List.length_append];exact x11,by rw [e5];exact hO10'.wr k11 (by omega) fun i hi=>by omega⟩
  refine brF ?_
  obtain rfl:j=O.oc.length:=by omega
  rw [List.take_length] at x4 O4
  have SC4:Sl eMC (fun i=>w3.heap.size≤i∧i<w4.heap.size) w4 a1 (O.oc.map (clsM us O)):=O4.sl2 (by rw [List.length_map];omega)
  have x24:=N4.box x2 (by omega)
  clear ih
  refine ld (B4.cl hcs) ?_
  refine lpk (vals:=[]) O.os.length 63 [] [(0,.pointer (some ⟨b,0,none⟩)),(2,.pointer (some ⟨b2,0,none⟩)),(3,.pointer (some ⟨b3,0,none⟩)),(61,.slice as' O.os.length cs'),(62,I O.os.length)]
    (fun j vals w'=>vals=[]∧Nc b3 w4 w'∧∃ a2 c2,Box w' b3 29 (mdc a1 (O.oc.map (clsM us O)).length c1 a2 ((O.os.take j).map (staM us O)).length c2 none 0 0 O.oz.length)∧OwP 2 encTy w' w4.heap.size 51 a2 c2 ((O.os.take j).map (staM us O)))
    ⟨rfl,.of_bl (Bl.refl _),none,0,x4,Ow.nil ..⟩ ?_
  rintro j vals w5 hj ⟨rfl,N5,a2,c2,x5,O5⟩ ih
  have B5:Bl w w5:=Nc.below B4 N5 (by omega) B4.size
  have z5:=N5.size
  by_cases hjl:j<O.os.length
  · refine brT ?_
    obtain ⟨p,bf,off,cs,hp,rfl,_,hAt,rfl⟩:=at_some (hSs.bl B5) hjl
    obtain ⟨⟨n,k⟩,hg⟩:=mem_keys (hO.os p (List.mem_of_getElem? hp))
    obtain ⟨u,f,hu,hf⟩:=dok.st p _ hg
    have hum:=List.mem_of_getElem? hu
    refine ix ?_
    refine ld (hAt 0 _ rfl) ?_
    obtain ⟨m1,h1,hm1⟩:=(h.bl B5).lnk.st
    refine ld h1 ?_
    refine lk tD hm1 ?_
    rw [hg]
    refine al fun b8 w6 k6 => ?_
    refine sta (vs:=[I n,I k]) (cs':=[I n,I k]) k6.box fun w7 k7 x7 => ?_
    have hna:∀ g,a2=some ⟨g,0,none⟩→w4.heap.size≤g∧g<w5.heap.size:=fun g hg=>O5.lt hg
    have z6:=k6.size
    have y6:=k6.blk
    have z7:=k7.size
    refine dht 1 (fun i=>i<w4.heap.size∨i=b8) (List.range 23) fun w8 k8 => ?_
    have z8:w8.heap.size=w7.heap.size:=by rw [k8.heap]
    have B58:=(k6.wr k7).trans k8.bl
    have B8:=B5.trans B58
    have x8:=Bl.box k8.bl x7
    obtain ⟨a,cu,h0,hS⟩:=h.lnk.us
    obtain ⟨b6,o6,cs6,rfl,_,hAt6,ua,rfl,hU⟩:=hS.el n u hu
    obtain ⟨b7,o7,cs7,e7,_,hAt7,rfl⟩:=hU.sta.el k f hf
    have hn:n<us.length:=(List.getElem?_eq_some_iff.1 hu).1
    have hk:k<u.statics.length:=(List.getElem?_eq_some_iff.1 hf).1
    have hb6:b6<w.heap.size:=cell_lt (hAt6 3 _ rfl)
    have hb7:b7<w.heap.size:=cell_lt (hAt7 0 _ rfl)
    have sB:=B3.size
    refine ld ((Bl.box B58 x5).cell rfl) ?_ (hm:=by exact .inl (by omega))
    refine ld (x8.cell rfl) ?_ (hm:=by exact .inr rfl)
    refine ld (B8.cl h0) ?_ (hm:=by exact .inl (by omega))
    refine ld (x8.cell rfl) ?_ (hm:=by exact .inr rfl)
    refine ix ?_
    refine ld ((hAt6.bl B8) 3 _ rfl) ?_ (hm:=by exact .inl (by omega))
    refine ld (x8.cell rfl) ?_ (hm:=by exact .inr rfl)
    rw [e7]
    refine ix ?_
    refine lda ((hAt7.bl B8).sub 1 2) ?_ (hm:=by exact .inl (by omega))
    refine cl (k_kind (h.bl B8) hu ((hI u hum).sty f (List.mem_of_getElem? hf))) ?_
    rintro _ w9 ⟨rfl,B89⟩
    refine bs (cs:=encTy (kindM O.oc u f.ty)) fun b10 w10 k10 => ?_
    have B510:=(B58.trans B89).trans k10.bl
    have O10:=O5.bl B510
    have z10:=B510.size
    have y10:=k10.blk
    have s9:=B89.size
    have hl:((O.os.take j).map (staM us O)).length≤50:=by rw [List.length_map,List.length_take];omega
    have e1:(O.os.take (j+1)).map (staM us O)=(O.os.take j).map (staM us O)++[kindM O.oc u f.ty]:=by rw [map_snoc hp,staM_at hg hu hf]
    refine apl (l1:=[kindM O.oc u f.ty]) O10 (.inr ⟨b10,0,rfl,k10.box.at⟩) (by omega) (fun a11 c11 w11 hO11 hA11 _ => ?_) (hb:=by simp only [List.length_cons,List.length_nil];omega) (hn:=by simp only [List.length_cons,List.length_nil];omega) (hm:=apS fun g hg q=>by have:=hna g hg;rcases q with q | q <;> omega)
    have x11:=hA11.box (Bl.box B510 x5) fun e=>by have:=hna _ e;omega
    refine st x11 fun w12 k12 x12 => ?_
    have N11:Nc b3 w4 w11:=(N5.bl B510).ap hA11 fun g hg=>(hna g hg).1
    exact ih hjl ⟨rfl,N11.wr k12 (.inl rfl),a11,c11,by rw [e1];exact x12,by rw [e1];exact hO11.wr k12 fun g hg=>by have:=(hO11.lt hg).1;omega⟩
  refine brF ?_
  obtain rfl:j=O.os.length:=by omega
  rw [List.take_length] at x5 O5
  have SC5:=SC4.kp (N5.nb.kp.sub fun i hi=>by omega)
  have SS5:Sl eTy (fun i=>w3.heap.size≤i∧i<w5.heap.size) w5 a2 (O.os.map (staM us O)):=owp_sl O5 (by rw [List.length_map];omega) fun g hg=>by have:=O5.lt hg;omega
  have x25:=N5.box x24 (by omega)
  clear ih
  refine ld (B5.cl hcm) ?_
  refine lpk (vals:=[]) O.om.length 103 [] [(0,.pointer (some ⟨b,0,none⟩)),(2,.pointer (some ⟨b2,0,none⟩)),(3,.pointer (some ⟨b3,0,none⟩)),(101,.slice am O.om.length cm),(102,I O.om.length)]
    (fun j vals w'=>vals=[]∧Nc b3 w5 w'∧∃ a3 c3,Box w' b3 29 (mdc a1 (O.oc.map (clsM us O)).length c1 a2 (O.os.map (staM us O)).length c2 a3 ((O.om.take j).map (mthM us O)).length c3 O.oz.length)∧OwC eMM (fun i=>w5.heap.size≤i) w' w5.heap.size 54 a3 c3 ((O.om.take j).map (mthM us O)))
    ⟨rfl,.of_bl (Bl.refl _),none,0,x5,OwC.nil ..⟩ ?_
  rintro j vals w6 hj ⟨rfl,N6,a3,c3,x6,O6⟩ ih
  have B6:Bl w w6:=Nc.below B5 N6 (by omega) B5.size
  have z6:=N6.size
  have sB:=B3.size
  by_cases hjl:j<O.om.length
  · refine brT ?_
    obtain ⟨p,bf,off,cs,hp,rfl,_,hAt,rfl⟩:=at_some (hSm.bl B6) hjl
    obtain ⟨n,k,u,m,hm⟩:=mthI_of dok (hO.om p (List.mem_of_getElem? hp))
    have hum:=List.mem_of_getElem? hm.hu
    have hmm:=List.mem_of_getElem? hm.hm
    have hg:=hm.g
    unfold mthD at hg
    have hna:∀ g,a3=some ⟨g,0,none⟩→w5.heap.size≤g∧g<w6.heap.size:=fun g hg=>O6.lt hg
    refine ix ?_
    refine ld (hAt 0 _ rfl) ?_
    obtain ⟨m1,h1,hm1⟩:=(h.bl B6).lnk.ca
    refine ld h1 ?_
    refine lko tD hm1 ?_
    rw [getD_enc]
    refine al fun b11 w7 k7 => ?_
    refine sta k7.box fun w8 k8 x8 => ?_
    have B68:=k7.wr k8
    have y7:=k7.blk
    have z7:=k7.size
    have z8:=k8.size
    refine jn [] [(0,.pointer (some ⟨b,0,none⟩)),(2,.pointer (some ⟨b2,0,none⟩)),(3,.pointer (some ⟨b3,0,none⟩)),(101,.slice (some ⟨bf,off,none⟩) O.om.length cm),(102,I O.om.length),(103,I j),(10,.string p),(11,.pointer (some ⟨b11,0,none⟩))] (fun vals w'=>vals=[]∧Box w' b11 151 [I n,I k]∧Bl w6 w') (fun q jo => ?_) (fun q jo => ?_) ?_
    · have hn:getM (decl us).calls p=none:=by
        simp only [hasM,Bool.not_eq_true'] at q
        cases hc:getM (decl us).calls p with
        | none=>rfl
        | some d=>rw [hc] at q;cases q
      have hg2:getM (decl us).sends p=some (n,k):=by rw [hn] at hg;exact hg
      obtain ⟨m2,h2,hm2⟩:=(h.bl (B6.trans B68)).lnk.se
      refine ld h2 ?_
      refine lk tD hm2 ?_
      rw [hg2]
      refine sta (vs:=[I n,I k]) (cs':=[I n,I k]) x8 fun w9 k9 x9 => ?_
      exact jo ⟨rfl,x9,Below.trans B68 (k9.below (Nat.le_of_eq k7.blk.symm))⟩
    · simp only [hasM,Bool.not_eq_false'] at q
      obtain ⟨d,hd⟩:=Option.isSome_iff_exists.1 q
      have hd2:d=(n,k):=by rw [hd] at hg;exact Option.some.inj hg
      rw [hd,hd2] at x8
      exact jo ⟨rfl,x8,B68⟩
    clear x8 k8 B68 z8 k7 z7
    rintro _ w8 ⟨rfl,x8,B68⟩
    have z8:=B68.size
    have l8:=x8.lt
    obtain ⟨a,cu,h0,hS⟩:=h.lnk.us
    obtain ⟨b6,o6,cs6,rfl,_,hAt6,ua,rfl,hU⟩:=hS.el n u hm.hu
    obtain ⟨b7,o7,cs7,e7,_,hAt7,p1,d1,p2,d2,p3,d3,rfl,hF1,hF2,hF3⟩:=hU.mth.el k m hm.hm
    have hn:n<us.length:=(List.getElem?_eq_some_iff.1 hm.hu).1
    have hk:k<u.methods.length:=(List.getElem?_eq_some_iff.1 hm.hm).1
    have hb6:b6<w.heap.size:=cell_lt (hAt6 4 _ rfl)
    have hb7:b7<w.heap.size:=cell_lt (hAt7 0 _ rfl)
    have sB6:=B6.size
    have hcl:0≤m.cls→inP u m.cls:=fun q=>((hI u hum).plc.mc m hmm).resolve_left (by omega)
    refine dh (· < w8.heap.size) (List.range 15) fun w9 k9 => ?_
    have B69:=B68.trans k9.bl
    have z9:w9.heap.size=w8.heap.size:=by rw [k9.heap]
    have B9:=B6.trans B69
    have x9:=Bl.box k9.bl x8
    refine ld (B9.cl h0) ?_ (hm:=by show b<_;omega)
    refine ld (x9.cell rfl) ?_ (hm:=by show b11<_;omega)
    refine ix ?_
    refine ld ((hAt6.bl B9) 4 _ rfl) ?_ (hm:=by show b6<_;omega)
    refine ld (x9.cell rfl) ?_ (hm:=by show b11<_;omega)
    rw [e7]
    refine ix ?_
    refine lda (hAt7.bl B9) ?_ (hm:=by show b7<_;omega)
    refine al fun b13 w10 k10 => ?_
    have y10:=k10.blk
    have z10:=k10.size
    refine sta k10.box (fun w11 k11 x11 => ?_) (hm:=wrS (by show ¬b13<_;omega))
    have z11:=k11.size
    have B611:Bl w6 w11:=B69.trans (k10.wr k11)
    have B11:=B6.trans B611
    have d11:=Bl.box (k10.wr k11) x9
    refine cut [14] [(0,.pointer (some ⟨b,0,none⟩)),(2,.pointer (some ⟨b2,0,none⟩)),(3,.pointer (some ⟨b3,0,none⟩)),(101,.slice (some ⟨bf,off,none⟩) O.om.length cm),(102,I O.om.length),(103,I j),(10,.string p),(11,.pointer (some ⟨b11,0,none⟩)),(13,.pointer (some ⟨b13,0,none⟩))]
      (fun vals w'=>∃ b14 a5 c5 a6 c6,vals=[.pointer (some ⟨b14,0,none⟩)]∧w11.heap.size≤b14∧Bl w11 w'∧Box w' b14 54 (mmcells ⟨p,-1,m.params.map (kindM O.oc u),m.locals.map (kindM O.oc u),kindM O.oc u m.result,[]⟩ a5 c5 a6 c6 none 0) ∧
        Sl eTy (fun i=>w11.heap.size≤i∧i<w'.heap.size∧i≠b14) w' a5 (m.params.map (kindM O.oc u))∧Sl eTy (fun i=>w11.heap.size≤i∧i<w'.heap.size∧i≠b14) w' a6 (m.locals.map (kindM O.oc u))) (fun jo => ?_) ?_
    · refine dhb (· < w11.heap.size) (.row [0,1,2,3,4,5,7,8,9,10,11,13,14,15,16,17] (.two 6 (.two 12 (.two 18 (.row [19,20,21] .done) 20 (.row [18,19,21] .done)) 20 (.row [12,18,19,21] .done)) 20 (.row [6,12,18,19,21] .done))) fun w12 k12 => ?_
      have hIu:=hI u hum
      have hty1:∀ t∈m.params,optP u t.cls:=fun t ht=>hIu.mty m hmm t (List.mem_append_left _ (List.mem_append_left _ ht))
      have hty2:∀ t∈m.locals,optP u t.cls:=fun t ht=>hIu.mty m hmm t (List.mem_append_left _ (List.mem_append_right _ ht))
      have hty3:optP u m.result.cls:=hIu.mty m hmm _ (List.mem_append_right _ (List.mem_singleton.2 rfl))
      have g1:=hF1.big
      have g2:=hF2.big
      have l11:=x11.lt
      have B1_12:=k12.bl
      have s12:w12.heap.size=w11.heap.size:=by rw [k12.heap]
      have d12:=Bl.box k12.bl d11
      have x12:=Bl.box k12.bl x11
      refine ld (d12.cell rfl) ?_ (hm:=by show b11<_;omega)
      refine ld (x12.cell rfl) ?_ (hm:=by show b13<_;omega)
      refine ld (d12.cell rfl) ?_ (hm:=by show b11<_;omega)
      refine ld (x12.cell rfl) ?_ (hm:=by show b13<_;omega)
      refine ld (d12.cell rfl) ?_ (hm:=by show b11<_;omega)
      refine lda (x12.at.sub 4 2) ?_ (hm:=by show b13<_;omega)
      refine bt ?_ ?_
      · refine cl (k_kinds (h.bl (B11.trans B1_12)) hm.hu ((hF1.bl (B11.trans B1_12)).sub fun _ _=>trivial) hty1) ?_ (hm:=fun _ _ r=>by obtain ⟨_,_,_,_,hB⟩:=r;exact mdW_bl hB)
        rintro _ v13 ⟨a5,c5,rfl,O5_13,q13⟩
        have s13:=q13.size
        have l5:=fun g (hg:a5=some ⟨g,0,none⟩)=>O5_13.lt hg
        have B1_13:=B1_12.trans q13
        refine bt ?_ ?_
        · refine cl (k_kinds (h.bl (B11.trans B1_13)) hm.hu ((hF2.bl (B11.trans B1_13)).sub fun _ _=>trivial) hty2) ?_ (hm:=fun _ _ r=>by obtain ⟨_,_,_,_,hB⟩:=r;exact mdW_bl hB)
          rintro _ v14 ⟨a6,c6,rfl,O6_14,q14⟩
          have s14:=q14.size
          have l6:=fun g (hg:a6=some ⟨g,0,none⟩)=>O6_14.lt hg
          have B1_14:=B1_13.trans q14
          have O5_14:=O5_13.bl q14
          refine bt ?_ ?_
          · refine cl (k_kind (h.bl (B11.trans B1_14)) hm.hu hty3) ?_
            rintro _ v15 ⟨rfl,q15⟩
            have s15:=q15.size
            have B1_15:=B1_14.trans q15
            have O5_15:=O5_14.bl q15
            have O6_15:=O6_14.bl q15
            refine bd ?_
            refine al fun b14 v16 k16 => ?_
            have q16:=k16.bl
            have s16:=k16.size
            have y14:=k16.blk
            have B1_16:=B1_15.trans q16
            have x_16:Box v16 b14 54 _:=k16.box
            have O5_16:=O5_15.bl q16
            have O6_16:=O6_15.bl q16
            refine sta (cs':=(mmcells ⟨p,-1,m.params.map (kindM O.oc u),m.locals.map (kindM O.oc u),kindM O.oc u m.result,[]⟩ a5 c5 a6 c6 none 0)) x_16 (fun wz kz xz => ?_) (hm:=wrB (by show ¬b14<_;omega))
            have sz:=kz.size
            refine jo ⟨b14,a5,c5,a6,c6,rfl,by omega,Below.trans B1_16 (kz.below (by omega)),xz,?_,?_⟩
            · exact owp_sl (O5_16.wr kz fun g hg=>by have:=l5 g hg;omega) (by rw [List.length_map];omega) fun g hg=>by have:=l5 g hg;exact ⟨by omega,by omega,by omega⟩
            · exact owp_sl (O6_16.wr kz fun g hg=>by have:=l6 g hg;omega) (by rw [List.length_map];omega) fun g hg=>by have:=l6 g hg;exact ⟨by omega,by omega,by omega⟩
          · refine al fun b14 v15 k15 => ?_
            have q15:=k15.bl
            have s15:=k15.size
            have y14:=k15.blk
            have B1_15:=B1_14.trans q15
            have x_15:Box v15 b14 54 _:=k15.box
            have O5_15:=O5_14.bl q15
            have O6_15:=O6_14.bl q15
            refine cl (k_kind (h.bl (B11.trans B1_15)) hm.hu hty3) ?_
            rintro _ v16 ⟨rfl,q16⟩
            have s16:=q16.size
            have B1_16:=B1_15.trans q16
            have O5_16:=O5_15.bl q16
            have O6_16:=O6_15.bl q16
            have x_16:=Bl.box q16 x_15
            refine bd ?_
            refine sta (cs':=(mmcells ⟨p,-1,m.params.map (kindM O.oc u),m.locals.map (kindM O.oc u),kindM O.oc u m.result,[]⟩ a5 c5 a6 c6 none 0)) x_16 (fun wz kz xz => ?_) (hm:=wrB (by show ¬b14<_;omega))
            have sz:=kz.size
            refine jo ⟨b14,a5,c5,a6,c6,rfl,by omega,Below.trans B1_16 (kz.below (by omega)),xz,?_,?_⟩
            · exact owp_sl (O5_16.wr kz fun g hg=>by have:=l5 g hg;omega) (by rw [List.length_map];omega) fun g hg=>by have:=l5 g hg;exact ⟨by omega,by omega,by omega⟩
            · exact owp_sl (O6_16.wr kz fun g hg=>by have:=l6 g hg;omega) (by rw [List.length_map];omega) fun g hg=>by have:=l6 g hg;exact ⟨by omega,by omega,by omega⟩
        · refine al fun b14 v14 k14 => ?_
          have q14:=k14.bl
          have s14:=k14.size
          have y14:=k14.blk
          have B1_14:=B1_13.trans q14
          have x_14:Box v14 b14 54 _:=k14.box
          have O5_14:=O5_13.bl q14
          refine cl (k_kinds (h.bl (B11.trans B1_14)) hm.hu ((hF2.bl (B11.trans B1_14)).sub fun _ _=>trivial) hty2) ?_ (hm:=fun _ _ r=>by obtain ⟨_,_,_,_,hB⟩:=r;exact mdW_bl hB)
          rintro _ v15 ⟨a6,c6,rfl,O6_15,q15⟩
          have s15:=q15.size
          have l6:=fun g (hg:a6=some ⟨g,0,none⟩)=>O6_15.lt hg
          have B1_15:=B1_14.trans q15
          have O5_15:=O5_14.bl q15
          have x_15:=Bl.box q15 x_14
          refine cl (k_kind (h.bl (B11.trans B1_15)) hm.hu hty3) ?_
          rintro _ v16 ⟨rfl,q16⟩
          have s16:=q16.size
          have B1_16:=B1_15.trans q16
          have O5_16:=O5_15.bl q16
          have O6_16:=O6_15.bl q16
          have x_16:=Bl.box q16 x_15
          refine bd ?_
          refine sta (cs':=(mmcells ⟨p,-1,m.params.map (kindM O.oc u),m.locals.map (kindM O.oc u),kindM O.oc u m.result,[]⟩ a5 c5 a6 c6 none 0)) x_16 (fun wz kz xz => ?_) (hm:=wrB (by show ¬b14<_;omega))
          have sz:=kz.size
          refine jo ⟨b14,a5,c5,a6,c6,rfl,by omega,Below.trans B1_16 (kz.below (by omega)),xz,?_,?_⟩
          · exact owp_sl (O5_16.wr kz fun g hg=>by have:=l5 g hg;omega) (by rw [List.length_map];omega) fun g hg=>by have:=l5 g hg;exact ⟨by omega,by omega,by omega⟩
          · exact owp_sl (O6_16.wr kz fun g hg=>by have:=l6 g hg;omega) (by rw [List.length_map];omega) fun g hg=>by have:=l6 g hg;exact ⟨by omega,by omega,by omega⟩
      · refine al fun b14 v13 k13 => ?_
        have q13:=k13.bl
        have s13:=k13.size
        have y14:=k13.blk
        have B1_13:=B1_12.trans q13
        have x_13:Box v13 b14 54 _:=k13.box
        refine cl (k_kinds (h.bl (B11.trans B1_13)) hm.hu ((hF1.bl (B11.trans B1_13)).sub fun _ _=>trivial) hty1) ?_ (hm:=fun _ _ r=>by obtain ⟨_,_,_,_,hB⟩:=r;exact mdW_bl hB)
        rintro _ v14 ⟨a5,c5,rfl,O5_14,q14⟩
        have s14:=q14.size
        have l5:=fun g (hg:a5=some ⟨g,0,none⟩)=>O5_14.lt hg
        have B1_14:=B1_13.trans q14
        have x_14:=Bl.box q14 x_13
        refine cl (k_kinds (h.bl (B11.trans B1_14)) hm.hu ((hF2.bl (B11.trans B1_14)).sub fun _ _=>trivial) hty2) ?_ (hm:=fun _ _ r=>by obtain ⟨_,_,_,_,hB⟩:=r;exact mdW_bl hB)
        rintro _ v15 ⟨a6,c6,rfl,O6_15,q15⟩
        have s15:=q15.size
        have l6:=fun g (hg:a6=some ⟨g,0,none⟩)=>O6_15.lt hg
        have B1_15:=B1_14.trans q15
        have O5_15:=O5_14.bl q15
        have x_15:=Bl.box q15 x_14
        refine cl (k_kind (h.bl (B11.trans B1_15)) hm.hu hty3) ?_
        rintro _ v16 ⟨rfl,q16⟩
        have s16:=q16.size
        have B1_16:=B1_15.trans q16
        have O5_16:=O5_15.bl q16
        have O6_16:=O6_15.bl q16
        have x_16:=Bl.box q16 x_15
        refine bd ?_
        refine sta (cs':=(mmcells ⟨p,-1,m.params.map (kindM O.oc u),m.locals.map (kindM O.oc u),kindM O.oc u m.result,[]⟩ a5 c5 a6 c6 none 0)) x_16 (fun wz kz xz => ?_) (hm:=wrB (by show ¬b14<_;omega))
        have sz:=kz.size
        refine jo ⟨b14,a5,c5,a6,c6,rfl,by omega,Below.trans B1_16 (kz.below (by omega)),xz,?_,?_⟩
        · exact owp_sl (O5_16.wr kz fun g hg=>by have:=l5 g hg;omega) (by rw [List.length_map];omega) fun g hg=>by have:=l5 g hg;exact ⟨by omega,by omega,by omega⟩
        · exact owp_sl (O6_16.wr kz fun g hg=>by have:=l6 g hg;omega) (by rw [List.length_map];omega) fun g hg=>by have:=l6 g hg;exact ⟨by omega,by omega,by omega⟩
    rintro _ w12 ⟨b14,a5,c5,a6,c6,rfl,hb14,B1112,x12,S5,S6⟩
    have z12:=B1112.size
    have l12:=x12.lt
    have B612:=B611.trans B1112
    have B12:=B6.trans B612
    have d12:=Bl.box B1112 d11
    have xm12:=Bl.box B1112 x11
    refine ld (xm12.cell rfl) ?_
    refine jn [] [(0,.pointer (some ⟨b,0,none⟩)),(2,.pointer (some ⟨b2,0,none⟩)),(3,.pointer (some ⟨b3,0,none⟩)),(101,.slice (some ⟨bf,off,none⟩) O.om.length cm),(102,I O.om.length),(103,I j),(10,.string p),(11,.pointer (some ⟨b11,0,none⟩)),(13,.pointer (some ⟨b13,0,none⟩)),(14,.pointer (some ⟨b14,0,none⟩))]
      (fun vals w'=>vals=[]∧Nc b14 w12 w'∧Box w' b14 54 (mmcells ⟨p,if 0≤m.cls then idxB O.oc (nm u m.cls) else -1,m.params.map (kindM O.oc u),m.locals.map (kindM O.oc u),kindM O.oc u m.result,[]⟩ a5 c5 a6 c6 none 0)) (fun q jo => ?_) (fun q jo => ?_) ?_
    · have q0:0≤m.cls:=of_decide_eq_true q
      refine dt 1 fun w13 k13 => ?_
      have B13:=B12.trans k13.bl
      refine ld (B13.cl hcc) ?_
      refine ld ((k13.box d12).cell rfl) ?_
      refine ld ((k13.box xm12).cell rfl) ?_
      refine clq (k_path (h.bl B13).lnk hm.hu (hcl q0)) ?_
      refine clq (l_Index (hSc.bl B13) cc _) ?_
      refine st (k13.box x12) fun w14 k14 x14 => ?_
      exact jo ⟨rfl,(Nc.of_bl k13.bl).wr k14 (.inl rfl),by rw [if_pos q0];exact x14⟩
    · have q0:¬0≤m.cls:=of_decide_eq_false q
      exact jo ⟨rfl,.of_bl (Bl.refl _),by rw [if_neg q0];exact x12⟩
    rintro _ w13 ⟨rfl,N13,x13⟩
    have z13:=N13.size
    have B13:Bl w w13:=Nc.below B12 N13 (by omega) B12.size
    have g3:=code_len (hC u hum) hmm
    have xm13:=N13.box xm12 (by omega)
    refine ld (xm13.cell rfl) ?_
    refine lpk (vals:=[]) m.code.length 176 [] [(0,.pointer (some ⟨b,0,none⟩)),(2,.pointer (some ⟨b2,0,none⟩)),(3,.pointer (some ⟨b3,0,none⟩)),(101,.slice (some ⟨bf,off,none⟩) O.om.length cm),(102,I O.om.length),(103,I j),(10,.string p),(11,.pointer (some ⟨b11,0,none⟩)),(14,.pointer (some ⟨b14,0,none⟩)),(174,.slice p3 m.code.length d3),(175,I m.code.length)]
      (fun i vals w'=>vals=[]∧Nc b14 w13 w'∧∃ a7 c7,Box w' b14 54 [.string p,I (if 0≤m.cls then idxB O.oc (nm u m.cls) else -1),.slice a5 (m.params.map (kindM O.oc u)).length c5,.slice a6 (m.locals.map (kindM O.oc u)).length c6,I (kindM O.oc u m.result).kind,I (kindM O.oc u m.result).cls,.slice a7 ((m.code.take i).map (instM us O u)).length c7]∧OwP 3 encIns w' w13.heap.size 120 a7 c7 ((m.code.take i).map (instM us O u)))
      ⟨rfl,.of_bl (Bl.refl _),none,0,x13,Ow.nil ..⟩ ?_
    rintro i vals w14 hi ⟨rfl,N14,a7,c7,x14,O14⟩ ih2
    have z14:=N14.size
    have B14:Bl w w14:=Nc.below B13 N14 (by omega) B13.size
    have N1214:=N13.trans N14
    have d14:=N1214.box d12 (by omega)
    by_cases hil:i<m.code.length
    · refine brT ?_
      obtain ⟨ins,bg,og,csg,hin,rfl,_,hAtg,rfl⟩:=at_some (hF3.bl B14) hil
      have him:=List.mem_of_getElem? hin
      have hIu:=hI u hum
      have l7:=fun g (hg:a7=some ⟨g,0,none⟩)=>O14.lt hg
      refine ix ?_
      refine lda hAtg ?_
      refine al fun b16 w15 k15 => ?_
      refine sta k15.box fun w16 k16 x16 => ?_
      have y15:=k15.blk
      have z15:=k15.size
      have z16:=k16.size
      have lx14:=x14.lt
      refine dht 1 (fun i=>i<w13.heap.size∨i=b16) (List.range 10) fun w17 k17 => ?_
      have B1417:=(k15.wr k16).trans k17.bl
      have B17:=B14.trans B1417
      have z17:w17.heap.size=w16.heap.size:=by rw [k17.heap]
      have ld11:=d12.lt
      refine ld ((Bl.box B1417 x14).cell rfl) ?_ (hm:=by exact .inl (by omega))
      refine ld ((Bl.box B1417 d14).cell rfl) ?_ (hm:=by exact .inl (by omega))
      refine lda (Bl.box k17.bl x16).at ?_ (hm:=by exact .inr rfl)
      refine cl (k_instr (h.bl B17) hm.hu (hIu.opa m hmm ins him) (hIu.opb m hmm ins him) (fld_dot (hC u hum) hmm him)) ?_
      rintro _ w18 ⟨rfl,B1718⟩
      refine bs (cs:=encIns (instM us O u ins)) fun b19 w19 k19 => ?_
      have B1419:=(B1417.trans B1718).trans k19.bl
      have z18:=B1718.size
      have z19:=k19.size
      have y19:=k19.blk
      have e1:(m.code.take (i+1)).map (instM us O u)=(m.code.take i).map (instM us O u)++[instM us O u ins]:=map_snoc hin
      have hl:((m.code.take i).map (instM us O u)).length≤120:=by rw [List.length_map,List.length_take];omega
      refine apl (l1:=[instM us O u ins]) (O14.bl B1419) (.inr ⟨b19,0,rfl,k19.box.at⟩) (by omega) (fun a20 c20 w20 O20 A20 _ => ?_) (hb:=by simp only [List.length_cons,List.length_nil];omega) (hn:=by simp only [List.length_cons,List.length_nil];omega) (hm:=apS fun g hg q=>by have:=l7 g hg;rcases q with q | q <;> omega)
      have x20:=A20.box (Bl.box B1419 x14) fun e=>by have:=l7 _ e;omega
      refine st x20 fun w21 k21 x21 => ?_
      have N20:Nc b14 w13 w20:=(N14.bl B1419).ap A20 fun g hg=>(l7 g hg).1
      exact ih2 hil ⟨rfl,N20.wr k21 (.inl rfl),a20,c20,by rw [e1];exact x21,by rw [e1];exact O20.wr k21 fun g hg=>by have:=(O20.lt hg).1;omega⟩
    refine brF ?_
    obtain rfl:i=m.code.length:=by omega
    rw [List.take_length] at x14 O14
    clear ih2
    have N614:Nc b14 w6 w14:=(Nc.of_bl B612).trans N1214
    have x614:=N614.box x6 (by have:=x6.lt;omega)
    refine ld (x614.cell rfl) ?_
    refine lda x14.at ?_
    refine bs (cs:=mmcells (mthM us O p) a5 c5 a6 c6 a7 c7) (fun b15 w15 k15 => ?_) (hcs:=by rw [mthM_at hm];rfl)
    have y15:=k15.blk
    have z15:=k15.size
    have B614:Bl w6 w14:=Nc.below B612 N1214 (by omega) B612.size
    have B615:Bl w6 w15:=B614.trans k15.bl
    obtain ⟨xs,e1,e3,hOx,e4⟩:=(O6.bl B615).row
    have hl9:((O.om.take j).map (mthM us O)).length≤80:=by rw [List.length_map,List.length_take];omega
    refine ap hOx (.inr ⟨b15,0,rfl,k15.box.at⟩) (by omega) (fun a16 c16 w16 hO16 hA16 hf16 => ?_)
    have hrel:eMM.rel (fun i=>w5.heap.size≤i∧a3≠some ⟨i,0,none⟩∧i<w15.heap.size) w15 (mmcells (mthM us O p) a5 c5 a6 c6 a7 c7) (mthM us O p):=by
      have hps:p.size≤200:=hO.zm p (List.mem_of_getElem? hp)
      rw [mthM_at hm]
      refine ⟨a5,c5,a6,c6,a7,c7,rfl,?_,?_,?_,Nat.le_trans hps (by decide)⟩
      · exact ((S5.kp (N1214.nb.kp.sub fun i hi=>hi.2.2)).bl k15.bl).sub fun i hi=>⟨by omega,fun e=>by have:=hna _ e;omega,by omega⟩
      · exact ((S6.kp (N1214.nb.kp.sub fun i hi=>hi.2.2)).bl k15.bl).sub fun i hi=>⟨by omega,fun e=>by have:=hna _ e;omega,by omega⟩
      · exact owp_sl (O14.bl k15.bl) (by rw [List.length_map];omega) fun g hg=>by
          have q1:=O14.lt hg
          exact ⟨by omega,fun e=>by have:=hna _ e;omega,by omega⟩
    have hO16':=OwC.push e1 e3 e4 hO16 hA16 hf16 hrel
    have x16:=hA16.box (Bl.box k15.bl x614) fun e=>by have:=hna _ e;omega
    refine st x16 fun w17 k17 x17 => ?_
    have e5:(O.om.take (j+1)).map (mthM us O)=(O.om.take j).map (mthM us O)++[mthM us O p]:=map_snoc hp
    have N16:Nc b3 w5 w16:=(N6.bl B615).ap hA16 fun g hg=>(hna g hg).1
    exact ih hjl ⟨rfl,N16.wr k17 (.inl rfl),a16,c16,by rw [e5,List.length_append];exact x17,by rw [e5];exact hO16'.wr k17 (by omega) fun i hi=>by omega⟩
  refine brF ?_
  obtain rfl:j=O.om.length:=by omega
  rw [List.take_length] at x6 O6
  have SC6:=SC5.kp (N6.nb.kp.sub fun i hi=>by omega)
  have SS6:=SS5.kp (N6.nb.kp.sub fun i hi=>by omega)
  have SM6:Sl eMM (fun i=>w5.heap.size≤i∧i<w6.heap.size) w6 a3 (O.om.map (mthM us O)):=O6.sl2 (by rw [List.length_map];omega)
  have x26:=N6.box x25 (by omega)
  refine lda x6.at ?_
  refine sta (cs':=mdc a1 (O.oc.map (clsM us O)).length c1 a2 (O.os.map (staM us O)).length c2 a3 (O.om.map (mthM us O)).length c3 O.oz.length) x26 fun w7 k7 x7 => ?_
  have z7:=k7.size
  refine rtc (cs:=mdc a1 (O.oc.map (clsM us O)).length c1 a2 (O.os.map (staM us O)).length c2 a3 (O.om.map (mthM us O)).length c3 O.oz.length) x7.at ⟨⟨a1,c1,a2,c2,a3,c3⟩,rfl,⟨?_,?_,?_⟩,Below.trans B6 (k7.below (by omega))⟩
  · exact (SC6.kp (k7.kp fun i hi=>by omega)).sub fun i hi=>by omega
  · exact (SS6.kp (k7.kp fun i hi=>by omega)).sub fun i hi=>by omega
  · exact (SM6.kp (k7.kp fun i hi=>by omega)).sub fun i hi=>by omega
end Go.Proofs.YtkmdfjpafkcleaaGreatDoor
namespace Go.Proofs.YtkmdfjpafkcleaaGreatDoor
open Eng Go.RowKit
variable {w w':World} {b:Nat} {us:List Unt} {O:Ords}
theorem cls_ne (us:List Unt):∀ p∈(decl us).classes,0<p.1.size:=by
  have put:∀ {D:Dcl} {p:ByteArray} {v:Nat×Nat},(∀ q∈D.classes,0<q.1.size)→0<p.size→∀ q∈putM D.classes p v,0<q.1.size:=fun h hp q hq=>by
    rcases putM_in hq with rfl | hq
    · exact hp
    · exact h q hq
  refine foldI_ind (f:=dUnt) (l:=us) (fun _ D=>∀ p∈D.classes,0<p.1.size) (fun _ h=>by cases h) fun n u D _ h => ?_
  have h1:=foldI_ind (f:=dCls u n) (l:=u.classes) (fun _ D=>∀ p∈D.classes,0<p.1.size) h fun k x D _ h=>by
    unfold dCls
    obtain ⟨f,hf⟩:=dfld_fold u (dots u.name (nm u x.name)) x.fields { D with classes:=putM D.classes (dots u.name (nm u x.name)) (n,k) }
    rw [hf]
    exact put h (by rw [dots_sz];omega)
  have h2:=foldI_ind (f:=dSta u n) (l:=u.statics) (fun _ D=>∀ p∈D.classes,0<p.1.size) h1 fun k x D _ h=>h
  exact foldI_ind (f:=dMth u n) (l:=u.methods) (fun _ D=>∀ p∈D.classes,0<p.1.size) h2 fun k x D _ h=>by
    unfold dMth
    split <;> exact h
theorem keys_in {α:Type} {m:Mp α} {k:ByteArray} (h:k∈keysM m):∃ v,(k,v)∈m:=by
  obtain ⟨v,hv⟩:=mem_keys h
  exact ⟨v,getM_in hv⟩
structure RunK (us:List Unt):Prop where
  ck:∀ u∈us,CkU u
  n5:us.length≤5
  du:dup (us.map fun u:Unt=>u.name)=false
  df:definedL us (decl us)=true
  oc:ordC us=some (ordsL us).oc
  om:ordM us=some (ordsL us).om
  bg:bigD (decl us)=false
  ly:((ordsL us).oc.any fun p=>decide (7<(lay us p).length))=false
  dl:((ordsL us).oc.any fun p=>dup (lay us p))=false
  un:unlikeL us (decl us)=false
theorem runK_of (h:runE us=0):RunK us:=by
  unfold runE at h
  split at h
  · cases h
  rename_i h5
  split at h
  · rename_i h1;exact absurd h h1
  rename_i h1
  split at h
  · cases h
  rename_i h2
  split at h
  · cases h
  rename_i h3
  split at h
  · cases h
  rename_i oc hoc
  split at h
  · cases h
  rename_i h4
  split at h
  · cases h
  rename_i h6
  split at h
  · cases h
  rename_i h7
  split at h
  · cases h
  rename_i h8
  split at h
  · cases h
  rename_i om hom
  have e1:(ordsL us).oc=oc:=by unfold ordsL;rw [hoc];rfl
  have e2:(ordsL us).om=om:=by unfold ordsL;rw [hom];rfl
  refine ⟨fun u hu=>(ckU_iff u).1 (chk_all (Classical.not_not.1 h1) u hu),by omega,?_,?_,by rw [e1];exact hoc,by rw [e2];exact hom,?_,?_,?_,?_⟩
  · simpa using h2
  · simpa using h3
  · simpa using h4
  · rw [e1];simpa using h6
  · rw [e1];simpa using h7
  · simpa using h8
theorem RunK.f7 (h:RunK us):∀ u∈us,∀ c∈u.classes,c.fields.length≤7:=fun u hu=>(lim_of (h.ck u hu).lim).flds
theorem RunK.ook (h:RunK us):OOk us (ordsL us):=by
  have dok:=dok_decl h.ck
  have n5:=h.n5
  have hpc:=orderL_perm (show orderL (neeC us (decl us)) (keysM (decl us).classes)=some (ordsL us).oc from h.oc)
  have hpm:=orderL_perm (show orderL (calL us (decl us)) (keysM (decl us).calls++keysM (decl us).sends)=some (ordsL us).om from h.om)
  have kl:∀ {α:Type} (m:Mp α),(keysM m).length=m.length:=fun m=>by unfold keysM;rw [List.length_map]
  have lc:=dok.lc
  have ls:=dok.ls
  have lm:=dok.lm
  have ln:=dok.ln
  have hkl:(keysM (decl us).classes).length=(ordsL us).oc.length:=hpc.length_eq.symm
  refine ⟨fun p hp => ?_,fun p hp => ?_,fun p hp=>hpm.mem_iff.1 hp,fun p hp => ?_,fun p hp => ?_,by rw [kl];omega,by rw [hpc.length_eq,kl];omega,?_,by rw [hpm.length_eq,List.length_append,kl,kl];omega,?_⟩
  · have hk:=hpc.mem_iff.1 hp
    obtain ⟨v,hv⟩:=keys_in hk
    obtain ⟨i,hi⟩:=List.mem_iff_getElem?.1 hp
    have hil:i<(ordsL us).oc.length:=(List.getElem?_eq_some_iff.1 hi).1
    refine ⟨clsI_of dok hk,deep_le (deep_of (fun q hq=>clsI_of dok (hpc.mem_iff.1 hq)) (orderL_placed h.oc) i p hi) (by omega),dok.zc _ hv,fun e => ?_⟩
    have:=cls_ne us _ hv
    simp only [e] at this
    exact absurd this (by decide)
  · exact (sortL_perm' _).mem_iff.1 hp
  · have hk:=(sortL_perm' _).mem_iff.1 hp
    obtain ⟨v,hv⟩:=keys_in hk
    exact dok.zn _ hv
  · rcases List.mem_append.1 (hpm.mem_iff.1 hp) with q | q
    · obtain ⟨v,hv⟩:=keys_in q;exact dok.za _ hv
    · obtain ⟨v,hv⟩:=keys_in q;exact dok.ze _ hv
  · show (sortL _).length≤_
    rw [(sortL_perm' _).length_eq,kl];omega
  · show (sortL _).length≤_
    rw [(sortL_perm' _).length_eq,kl];omega
theorem k_Link {au:Option Addr} {cu:Nat} (hS:Sl eUnt (· < w.heap.size) w au us) (hG:Gl w) :
    Ret Tryz.prog 14 #[.slice au us.length cu] w fun v w'=>∃ a,v = .tuple #[.agg (modcells (modL us) a).toArray,I (runE us)]∧MdR (fun i=>w.heap.size≤i∧i<w'.heap.size) w' (modL us) a∧Bl w w':=by
  refine entr (vs:=[.slice au us.length cu]) [0,2,3,4,5,12] tabok Tryz.func14 (by kernel_rfl) ?_
  refine al fun b2 w1 k1 => ?_
  refine bd ?_
  refine bx (cs:=lcells (.slice au us.length cu) (.map none) (.map none) (.map none) (.map none) (.map none) (.map none) nilS nilS nilS nilS (.map none)) fun b8 w2 k2 => ?_
  have y1:=k1.blk
  have z1:=k1.size
  have y2:=k2.blk
  have z2:=k2.size
  have B2:=k1.bl.trans k2.bl
  have x2:=Bl.box k2.bl k1.box
  refine cl (k_run k2.box ((hS.bl B2).sub fun i hi=>by omega) (hG.bl B2)) ?_
  rintro _ w3 ⟨rfl,N3,hR⟩
  have z3:=N3.size
  have B3:Bl w w3:=Nc.below B2 N3 (by omega) B2.size
  have x3:=N3.box x2 (by omega)
  by_cases h0:runE us=0
  · refine brf ?_ (hp:=by simp [h0])
    have K:=runK_of h0
    refine cl (k_module (hR h0).o K.ck K.ook (dok_decl K.ck) K.f7) ?_
    rintro _ w4 ⟨a,rfl,M4,B34⟩
    have e:modL us=modO us (ordsL us):=by unfold modL;rw [if_pos h0]
    rw [e,h0]
    have z4:=B34.size
    refine sta (cs':=modcells (modO us (ordsL us)) a) (Bl.box B34 x3) fun w5 k5 x5 => ?_
    have z5:=k5.size
    refine rtc2 (cs:=modcells (modO us (ordsL us)) a) x5.at ⟨a,rfl,(M4.kp (k5.kp fun i hi=>by omega)).sub fun i hi=>by omega,Below.trans (B3.trans B34) (k5.below (by omega))⟩
  · refine brT ?_ (hp:=h0)
    have e:modL us=mod0:=by unfold modL;rw [if_neg h0]
    rw [e]
    refine bd ?_
    refine sta (cs':=modcells mod0 ⟨none,0,none,0,none,0⟩) x3 fun w5 k5 x5 => ?_
    refine rtc2 (cs:=modcells mod0 ⟨none,0,none,0,none,0⟩) x5.at ⟨⟨none,0,none,0,none,0⟩,rfl,⟨Sl.nil ..,Sl.nil ..,Sl.nil ..⟩,Below.trans B3 (k5.below (by omega))⟩
end Go.Proofs.YtkmdfjpafkcleaaGreatDoor
namespace Go.Proofs.YtkmdfjpafkcleaaGreatDoor
open Eng Go.RowKit
def una:Unt:=⟨⟨#[97]⟩,[⟨#[112]⟩,⟨#[120]⟩],[⟨0,-1,[⟨1,⟨1,-1⟩⟩]⟩],[],[]⟩
def unb:Unt:=⟨⟨#[98]⟩,[⟨#[113]⟩,⟨#[97,46,112]⟩],[⟨0,1,[]⟩],[],[]⟩
theorem un_keys:keysM (decl [unb,una]).classes=[⟨#[98,46,113]⟩,⟨#[97,46,112]⟩]:=by kernel_rfl
theorem un_sort:sortL [(⟨#[98,46,113]⟩:ByteArray),⟨#[97,46,112]⟩]=[⟨#[97,46,112]⟩,⟨#[98,46,113]⟩]:=by
  have e:([[98,46,113],[97,46,112]]:List (List UInt8)).mergeSort (fun x y=>decide (x≤y))=[[97,46,112],[98,46,113]]:=by
    simp [List.mergeSort,List.MergeSort.Internal.splitInTwo,List.merge]
    decide
  show (([[98,46,113],[97,46,112]]:List (List UInt8)).mergeSort (fun x y=>decide (x≤y))).map ofL=_
  rw [e]
  kernel_rfl
theorem un_oc:ordC [unb,una]=some [⟨#[97,46,112]⟩,⟨#[98,46,113]⟩]:=by
  show placeL _ (keysM (decl [unb,una]).classes).length (sortL (keysM (decl [unb,una]).classes)) []=_
  rw [un_keys,un_sort]
  kernel_rfl
theorem un_run:runE [unb,una]=0:=by
  unfold runE
  rw [un_oc]
  kernel_rfl
theorem un_cls:(modL [unb,una]).classes=[⟨⟨#[97,46,112]⟩,-1,[⟨1,0⟩],[]⟩,⟨⟨#[98,46,113]⟩,0,[⟨1,0⟩],[]⟩]:=by
  unfold modL
  rw [if_pos un_run]
  unfold modO ordsL
  rw [un_oc]
  kernel_rfl
theorem sl_new {α:Type} {E:El α} {S:Nat→Prop} {w:World} {b:Nat} {t:TypeId} {cs:List Value} {css:List (List Value)} {l:List α} (hb:Box w b t cs) (hc:cs=css.flatten) (hS:S b) (hl:css.length=l.length) (hn:l.length≤4194304)
    (h:∀ (i:Nat) (c:List Value) (x:α),css[i]? = some c→l[i]? = some x→E.rel S w c x):Sl E S w (some ⟨b,0,none⟩) l:=by
  subst hc
  have hsz:∀ c∈css,c.length=E.sz:=fun c hc=>by
    obtain ⟨i,hi⟩:=List.mem_iff_getElem?.1 hc
    obtain ⟨x,hx⟩:=some_of_lt (l:=l) (k:=i) (by have:=(List.getElem?_eq_some_iff.1 hi).1;omega)
    exact E.len (h i c x hi hx)
  refine ⟨hn,fun i x hx => ?_⟩
  obtain ⟨c,hc⟩:=some_of_lt (l:=css) (k:=i) (by have:=(List.getElem?_eq_some_iff.1 hx).1;omega)
  refine ⟨b,0,c,rfl,hS,fun j v hj => ?_,h i c x hc hx⟩
  have hj':j<E.sz:=by rw [←hsz c (List.mem_of_getElem? hc)];exact (List.getElem?_eq_some_iff.1 hj).1
  have:=hb.at (i*E.sz+j) v (by rw [flatten_get hsz hc j hj'];exact hj)
  rw [Nat.zero_add] at this ⊢
  exact this
theorem l_sane (w:World) (hG:Gl w):Ret Tryz.prog 13 #[] w fun v w'=>v = .bool true∧Bl w w':=by
  refine entr (vs:=[]) [0,1,2,3,4] tabok Tryz.func13 (by kernel_rfl) ?_
  refine bs (cs:=[.string ⟨#[112]⟩,.string ⟨#[120]⟩]) fun b1 w1 k1 => ?_
  refine bd ?_
  refine bd ?_
  refine bs (cs:=encFld ⟨1,⟨1,-1⟩⟩) fun b2 w2 k2 => ?_
  refine bd ?_
  refine bs (cs:=ccells ⟨0,-1,[⟨1,⟨1,-1⟩⟩]⟩ (some ⟨b2,0,none⟩) 1) fun b3 w3 k3 => ?_
  refine bd ?_
  refine al fun b4 w4 k4 => ?_
  refine sta (cs':=ucells una ⟨some ⟨b1,0,none⟩,2,some ⟨b3,0,none⟩,1,none,0,none,0⟩) k4.box fun w5 k5 x5 => ?_
  have B5:=((k1.bl.trans k2.bl).trans k3.bl).trans (k4.wr k5)
  have B15:=(k2.bl.trans k3.bl).trans (k4.wr k5)
  have B25:=k3.bl.trans (k4.wr k5)
  refine bs (cs:=[.string ⟨#[113]⟩,.string ⟨#[97,46,112]⟩]) fun b6 w6 k6 => ?_
  refine bd ?_
  refine bs (cs:=ccells ⟨0,1,[]⟩ none 0) fun b7 w7 k7 => ?_
  refine bd ?_
  refine al fun b8 w8 k8 => ?_
  refine sta (cs':=ucells unb ⟨some ⟨b6,0,none⟩,2,some ⟨b7,0,none⟩,1,none,0,none,0⟩) k8.box fun w9 k9 x9 => ?_
  have B59:=(k6.bl.trans k7.bl).trans (k8.wr k9)
  refine lda x9.at ?_
  refine lda (Bl.box B59 x5).at ?_
  refine bs (cs:=ucells unb ⟨some ⟨b6,0,none⟩,2,some ⟨b7,0,none⟩,1,none,0,none,0⟩++ucells una ⟨some ⟨b1,0,none⟩,2,some ⟨b3,0,none⟩,1,none,0,none,0⟩) fun b10 w10 k10 => ?_
  have B10:=(B5.trans B59).trans k10.bl
  have l10:=k10.box.lt
  have e1:=(Bl.box ((B15.trans B59).trans k10.bl) k1.box)
  have e2:=(Bl.box ((B25.trans B59).trans k10.bl) k2.box)
  have e3:=(Bl.box (((k4.wr k5).trans B59).trans k10.bl) k3.box)
  have e6:=(Bl.box ((k7.bl.trans (k8.wr k9)).trans k10.bl) k6.box)
  have e7:=(Bl.box ((k8.wr k9).trans k10.bl) k7.box)
  have hS:Sl eUnt (· < w10.heap.size) w10 (some ⟨b10,0,none⟩) [unb,una]:=by
    refine sl_new (css:=[ucells unb ⟨some ⟨b6,0,none⟩,2,some ⟨b7,0,none⟩,1,none,0,none,0⟩,ucells una ⟨some ⟨b1,0,none⟩,2,some ⟨b3,0,none⟩,1,none,0,none,0⟩]) k10.box rfl l10 rfl (by decide) fun i c x hc hx => ?_
    match i,hc,hx with
    | 0,hc,hx =>
      obtain rfl:=Option.some.inj hc
      obtain rfl:=Option.some.inj hx
      refine ⟨_,rfl,by decide,by decide,?_,?_,Sl.nil ..,Sl.nil ..⟩
      · exact sl_new (css:=[[.string ⟨#[113]⟩],[.string ⟨#[97,46,112]⟩]]) e6 rfl e6.lt rfl (by decide) fun i c x hc hx=>by
          match i,hc,hx with
          | 0,hc,hx=>obtain rfl:=Option.some.inj hc;obtain rfl:=Option.some.inj hx;rfl
          | 1,hc,hx=>obtain rfl:=Option.some.inj hc;obtain rfl:=Option.some.inj hx;rfl
      · exact sl_new (css:=[ccells ⟨0,1,[]⟩ none 0]) e7 rfl e7.lt rfl (by decide) fun i c x hc hx=>by
          match i,hc,hx with
          | 0,hc,hx=>obtain rfl:=Option.some.inj hc;obtain rfl:=Option.some.inj hx;exact ⟨_,_,rfl,Sl.nil ..⟩
    | 1,hc,hx =>
      obtain rfl:=Option.some.inj hc
      obtain rfl:=Option.some.inj hx
      refine ⟨_,rfl,by decide,by decide,?_,?_,Sl.nil ..,Sl.nil ..⟩
      · exact sl_new (css:=[[.string ⟨#[112]⟩],[.string ⟨#[120]⟩]]) e1 rfl e1.lt rfl (by decide) fun i c x hc hx=>by
          match i,hc,hx with
          | 0,hc,hx=>obtain rfl:=Option.some.inj hc;obtain rfl:=Option.some.inj hx;rfl
          | 1,hc,hx=>obtain rfl:=Option.some.inj hc;obtain rfl:=Option.some.inj hx;rfl
      · exact sl_new (css:=[ccells ⟨0,-1,[⟨1,⟨1,-1⟩⟩]⟩ (some ⟨b2,0,none⟩) 1]) e3 rfl e3.lt rfl (by decide) fun i c x hc hx=>by
          match i,hc,hx with
          | 0,hc,hx =>
            obtain rfl:=Option.some.inj hc
            obtain rfl:=Option.some.inj hx
            refine ⟨_,_,rfl,?_⟩
            exact sl_new (css:=[encFld ⟨1,⟨1,-1⟩⟩]) e2 rfl e2.lt rfl (by decide) fun i c x hc hx=>by
              match i,hc,hx with
              | 0,hc,hx=>obtain rfl:=Option.some.inj hc;obtain rfl:=Option.some.inj hx;rfl
  refine cl (k_Link (us:=[unb,una]) (cu:=2) hS (hG.bl B10)) ?_ (hm:=fun _ _ r=>by obtain ⟨_,_,_,hB⟩:=r;exact mdW_bl hB)
  rintro _ w11 ⟨a,rfl,M,B11⟩
  rw [un_run]
  have hcs:=M.cls
  have hcl:=un_cls
  obtain ⟨md,hmd⟩:∃ md,modL [unb,una]=md:=⟨_,rfl⟩
  rw [hmd] at hcs hcl ⊢
  rw [hcl] at hcs
  have ecells:modcells md a=[.slice a.a1 2 a.c1,.slice a.a2 md.statics.length a.c2,.slice a.a3 md.methods.length a.c3,I md.sels]:=by unfold modcells;rw [hcl];rfl
  rw [ecells]
  refine al fun b12 w12 k12 => ?_
  refine sta (cs':=[.slice a.a1 2 a.c1,.slice a.a2 md.statics.length a.c2,.slice a.a3 md.methods.length a.c3,I md.sels]) k12.box fun w13 k13 x13 => ?_
  obtain ⟨g0,o0,cs0,ea,_,hA0,a1,c1,a2,c2,rfl,f0,_,_⟩:=hcs.el 0 _ rfl
  obtain ⟨g1,o1,cs1,ea',_,hA1,a3,c3,a4,c4,rfl,f1,_,_⟩:=hcs.el 1 _ rfl
  have B13:=k12.wr k13
  rw [ea] at ea'
  obtain ⟨rfl,rfl⟩:g0=g1∧o0=o1:=by simpa using ea'
  rw [ea] at x13
  have q0:=hA0.bl B13
  have q1:=hA1.bl B13
  refine ldg (fun _=>x13.cell rfl) ?_
  refine ldg (fun _=>x13.cell rfl) ?_
  refine spt (.pointer none) ?_
  refine ix (j:=0) ?_ (hb:=by decide)
  refine ldg (fun _=>q0 0 _ rfl) ?_
  refine ldg (fun _=>x13.cell rfl) ?_
  refine spt (.pointer none) ?_
  refine ix (j:=1) ?_ (hb:=by decide)
  refine ldg (fun _=>q1 0 _ rfl) ?_
  refine ldg (fun _=>x13.cell rfl) ?_
  refine spt (.pointer none) ?_
  refine ix (j:=1) ?_ (hb:=by decide)
  refine ldg (fun _=>q1 1 _ rfl) ?_
  refine ldg (fun _=>x13.cell rfl) ?_
  refine spt (.pointer none) ?_
  refine ix (j:=1) ?_ (hb:=by decide)
  refine ldg (fun _=>q1 2 _ rfl) ?_
  exact rt1 ⟨rfl,(B10.trans B11).trans B13⟩
end Go.Proofs.YtkmdfjpafkcleaaGreatDoor
namespace Go.Proofs.YtkmdfjpafkcleaaGreatDoor
open Eng Go.RowKit
end Go.Proofs.YtkmdfjpafkcleaaGreatDoor
namespace Go.Proofs.YtkmdfjpafkcleaaGreatDoor
open Eng Go.RowKit
end Go.Proofs.YtkmdfjpafkcleaaGreatDoor
namespace Go.Proofs.YtkmdfjpafkcleaaGreatDoor
open Eng Go.RowKit
theorem ask_one {m:Mod} {n x:Int} (h:askE m n [x]=0):ModP m∧0≤x∧x<n:=by
  obtain ⟨h1,h2⟩:=ask_yes h
  exact ⟨modP_of h1,h2 x (by simp)⟩
theorem ask_n {m:Mod} {n:Int} {l:List Int} (h:¬askE m n l=0):askE m n l=1:=(ask_cases m n l).resolve_left h
theorem r5_Has (l:List Int) (al:Option Addr) (ce:Nat) (n:Int) (w:World) (hS:Sl eInt T w al l):Ret Tryz.prog 30 #[.slice al l.length ce,I n] w fun v w'=>v = .bool (decide (n∈l))∧Bl w w':=by
  have q1:=hS.big
  refine entr (vs:=[.slice al l.length ce,I n]) [0,1,4,5,9,17] tabok Tryz.func30 (by kernel_rfl) ?_
  refine lpk l.length 5 [] [(0,.slice al l.length ce),(1,I n)] (fun k vals w'=>vals=[]∧w=w'∧∀ i y,i<k→l[i]? = some y→¬y=n) ⟨rfl,rfl,fun i y h=>by omega⟩ ?_
  rintro k vals _ hk ⟨rfl,rfl,hno⟩ ih
  by_cases hlt:k<l.length
  · refine brT ?_
    obtain ⟨x,b,o,cs,hx,rfl,_,hAt,rfl⟩:=at_some hS hlt
    refine ix ?_
    refine ld (hAt 0 _ rfl) ?_
    by_cases h:x=n
    · refine brT ?_ (hp:=h)
      have:n∈l:=h▸List.mem_of_getElem? hx
      rw [decide_eq_true this]
      exact rt1 ⟨rfl,Bl.refl _⟩
    · refine brF ?_ (hp:=h)
      refine ih hlt ⟨rfl,rfl,fun i y hi hy => ?_⟩
      by_cases e:i=k
      · subst e;rw [hx] at hy;obtain rfl:=Option.some.inj hy;exact h
      · exact hno i y (by omega) hy
  · refine brF ?_
    have:¬n∈l:=fun h=>by
      obtain ⟨i,hi⟩:=List.mem_iff_getElem?.1 h
      exact hno i n (by have:=(List.getElem?_eq_some_iff.1 hi).1;omega) hi rfl
    rw [decide_eq_false this]
    exact rt1 ⟨rfl,Bl.refl _⟩
end Go.Proofs.YtkmdfjpafkcleaaGreatDoor
namespace Go.Proofs.YtkmdfjpafkcleaaGreatDoor
open Eng Go.RowKit
def selfM (x:MM):List Ty:=if 0≤x.cls then [⟨2,x.cls⟩] else []
theorem locM_eq (x:MM):locM x=selfM x++x.params++x.locals:=rfl
theorem selfM_len (x:MM):(selfM x).length≤1:=by unfold selfM;split <;> simp
set_option maxHeartbeats 1000000 in
theorem k_locals (x:MM) (a1:Option Addr) (c1:Nat) (a2:Option Addr) (c2:Nat) (a3:Option Addr) (c3:Nat) (w:World) (h1:Sl eTy T w a1 x.params) (h2:Sl eTy T w a2 x.locals) :
    Ret Tryz.prog 74 #[.agg (mmcells x a1 c1 a2 c2 a3 c3).toArray] w fun v w'=>∃ a c,v = .slice a (locM x).length c∧OwP 2 encTy w' w.heap.size 51 a c (locM x)∧Bl w w':=by
  have g1:=h1.big
  have g2:=h2.big
  have g3:=selfM_len x
  refine entr (vs:=[.agg (mmcells x a1 c1 a2 c2 a3 c3).toArray]) [0,1,2,3,6] tabok Tryz.func74 (by kernel_rfl) ?_
  refine bx (cs:=mmcells x a1 c1 a2 c2 a3 c3) fun b1 w1 k1 => ?_
  have z1:=k1.size
  have y1:=k1.blk
  refine ld (k1.box.cell rfl) ?_
  refine jn [3] [(1,.pointer (some ⟨b1,0,none⟩))] (fun vals w'=>∃ a c,vals=[.slice a (selfM x).length c]∧OwP 2 encTy w' w1.heap.size 51 a c (selfM x)∧Bl w1 w') (fun h go => ?_) (fun h go => ?_) ?_
  · have h0:0≤x.cls:=of_decide_eq_true h
    have e:selfM x=[⟨2,x.cls⟩]:=if_pos h0
    refine ld (k1.box.cell rfl) ?_
    refine bd (cs:=[I 2,I x.cls]) ?_
    refine bs (cs:=[I 2,I x.cls]) fun b5 w5 k5 => ?_
    have z5:=k5.size
    refine apl (enc:=encTy) (base:=w1.heap.size) (l0:=[]) (l1:=[⟨2,x.cls⟩]) (Ow.nil ..) (.inr ⟨b5,0,rfl,k5.box.at⟩) (by omega) fun a7 c7 w7 O7 A7 _ => ?_
    rw [←e] at O7
    refine go ⟨a7,c7,by rw [e],O7,Below.trans k5.bl (A7.below (by omega) fun g hg=>by cases hg)⟩
  · have h0:¬0≤x.cls:=of_decide_eq_false h
    have e:selfM x=[]:=if_neg h0
    refine go ⟨none,0,by rw [e],by rw [e];exact Ow.nil ..,Bl.refl _⟩
  rintro _ w5 ⟨a5,c5,rfl,O5,B15⟩
  have x5:=Bl.box B15 k1.box
  have z5:=B15.size
  refine dh (fun i=>i=b1) [0,1,2,4,5,3,6,7] fun w6 k6 => ?_
  have x6:=k6.box x5
  have B6:=(k1.bl.trans B15).trans k6.bl
  have O6:=O5.bl k6.bl
  have z6:=k6.bl.size
  refine ld (x6.cell rfl) ?_ (hm:=rfl)
  refine ld (x6.cell rfl) ?_ (hm:=rfl)
  refine apl (l0:=selfM x) (l1:=x.params) O6 (src_of (h1.bl B6)) (by omega) (fun a7 c7 w7 O7 A7 F7 => ?_) (hm:=apS fun g hg q=>by have:=(O6.lt hg).1;omega)
  have z7:=A7.size
  have D7:Below w.heap.size w w7:=Below.trans B6 (A7.below (by omega) fun g hg=>by have:=(O6.lt hg).1;omega)
  have L7:Sl eTy (· < w.heap.size) w7 a2 x.locals:=(Sl.lt (by decide) h2).kp (Below.kp D7)
  refine apl (l0:=selfM x++x.params) (l1:=x.locals) O7 (src_of L7) (by omega) (fun a8 c8 w8 O8 A8 F8 => ?_) (hm:=apS fun g hg q=>by have:=(O7.lt hg).1;omega)
  refine rt1 ⟨a8,c8,rfl,O8.base (by omega),Below.trans D7 (A8.below (by omega) fun g hg=>by have:=(O7.lt hg).1;omega)⟩
open Classical in
noncomputable def locL (m:Mod) (k:Int):List Ty:=if askE m m.methods.length [k]=0 then locM (mths m k) else []
theorem k_LocalsF (m:Mod) (a:MA) (k:Int) (w:World) (hM:MdR T w m a):Ret Tryz.prog 34 #[.agg (modcells m a).toArray,I k] w fun v w'=>∃ a c,v = .tuple #[.slice a (locL m k).length c,I (askE m m.methods.length [k])]∧OwP 2 encTy w' w.heap.size 51 a c (locL m k)∧Bl w w':=by
  have q1:=hM.mth.big
  refine entr (vs:=[.agg (modcells m a).toArray,I k]) [0,1,2,4,5,6,15] tabok Tryz.func34 (by kernel_rfl) ?_
  refine bx (cs:=modcells m a) fun b1 w1 k1 => ?_
  refine lda k1.box.at ?_
  refine ld (k1.box.cell rfl) ?_
  refine bs (cs:=[I k]) fun b2 w2 k2 => ?_
  have B2:=k1.bl.trans k2.bl
  refine cl (k_asked m a m.methods.length [k] _ 1 w2 (hM.bl B2) (one_int k2)) ?_
  rintro _ w3 ⟨rfl,B23⟩
  have B3:=B2.trans B23
  have x3:=Bl.box (k2.bl.trans B23) k1.box
  by_cases h1:askE m m.methods.length [k]=0
  rotate_left
  · have e:locL m k=[]:=if_neg h1
    rw [ask_n h1,e]
    refine brt ?_
    exact rt2 ⟨none,0,rfl,Ow.nil ..,B3⟩
  have e:locL m k=locM (mths m k):=if_pos h1
  rw [h1,e]
  refine brf ?_
  obtain ⟨P,c0,c1⟩:=ask_one h1
  obtain ⟨k,rfl⟩:=Int.eq_ofNat_of_zero_le c0
  obtain ⟨x,b,o,cs,hx,e2,_,hAt,a1,d1,a2,d2,a3,d3,rfl,f1,f2,_⟩:=at_some (hM.bl B3).mth (i:=k) (by omega)
  rw [mths_at hx]
  refine ld (x3.cell rfl) ?_
  rw [e2]
  refine ix ?_
  refine lda hAt ?_
  refine cl (k_locals x a1 d1 a2 d2 a3 d3 w3 f1 f2) ?_ (hm:=fun _ _ r=>by obtain ⟨_,_,_,_,hB⟩:=r;exact mdW_bl hB)
  rintro _ w4 ⟨a4,c4,rfl,O4,B34⟩
  exact rt2 ⟨a4,c4,rfl,O4.base B3.size,B3.trans B34⟩
set_option maxHeartbeats 1000000 in
theorem r5_Locals (m:Mod) (a:MA) (k:Int) (w:World) (hM:MdR T w m a):Ret Tryz.prog 35 #[.agg (modcells m a).toArray,I k] w fun v w'=>∃ a c,v = .tuple #[.slice a (locL m k).length c,I (askE m m.methods.length [k])]∧OwP 2 encTy w' w.heap.size 51 a c (locL m k)∧Bl w w':=by
  have q1:=hM.mth.big
  refine entr (vs:=[.agg (modcells m a).toArray,I k]) [0,1,2,4,5,6,7,8,16,25] tabok Tryz.func35 (by kernel_rfl) ?_
  refine bx (cs:=modcells m a) fun b1 w1 k1 => ?_
  refine lda k1.box.at ?_
  refine ld (k1.box.cell rfl) ?_
  refine cl (r5_within m a k m.methods.length w1 (hM.bl k1.bl)) ?_
  rintro _ w3 ⟨rfl,B13⟩
  have B3:=k1.bl.trans B13
  have x3:=Bl.box B13 k1.box
  by_cases h1:askE m m.methods.length [k]=0
  rotate_left
  · have e:locL m k=[]:=if_neg h1
    rw [ask_n h1,e]
    refine brt ?_
    exact rt2 ⟨none,0,rfl,Ow.nil ..,B3⟩
  have e:locL m k=locM (mths m k):=if_pos h1
  rw [h1,e]
  refine brf ?_
  obtain ⟨P,c0,c1⟩:=ask_one h1
  obtain ⟨k,rfl⟩:=Int.eq_ofNat_of_zero_le c0
  obtain ⟨x,b,o,cs,hx,e2,_,hAt,a1,d1,a2,d2,a3,d3,rfl,f1,f2,_⟩:=at_some (hM.bl B3).mth (i:=k) (by omega)
  rw [mths_at hx]
  have g1:=f1.big
  have g2:=f2.big
  have g3:=selfM_len x
  refine ld (x3.cell rfl) ?_
  rw [e2]
  refine ix ?_
  refine lda hAt ?_
  refine al fun b4 w4 k4 => ?_
  refine sta (cs':=mmcells x a1 d1 a2 d2 a3 d3) k4.box fun w5 k5 x5 => ?_
  have B35:=k4.wr k5
  have y4:=k4.blk
  have z5:=B35.size
  have l5:=x5.lt
  refine ld (x5.cell rfl) ?_
  refine jn [8] [(7,.pointer (some ⟨b4,0,none⟩))] (fun vals w'=>∃ a c,vals=[.slice a (selfM x).length c]∧OwP 2 encTy w' w5.heap.size 51 a c (selfM x)∧Bl w5 w') (fun h go => ?_) (fun h go => ?_) ?_
  · have h0:0≤x.cls:=of_decide_eq_true h
    have e:selfM x=[⟨2,x.cls⟩]:=if_pos h0
    refine ld (x5.cell rfl) ?_
    refine bd (cs:=[I 2,I x.cls]) ?_
    refine bs (cs:=[I 2,I x.cls]) fun b5 w6 k6 => ?_
    have z6:=k6.size
    refine apl (enc:=encTy) (base:=w5.heap.size) (l0:=[]) (l1:=[⟨2,x.cls⟩]) (Ow.nil ..) (.inr ⟨b5,0,rfl,k6.box.at⟩) (by omega) fun a7 c7 w7 O7 A7 _ => ?_
    rw [←e] at O7
    refine go ⟨a7,c7,by rw [e],O7,Below.trans k6.bl (A7.below (by omega) fun g hg=>by cases hg)⟩
  · have h0:¬0≤x.cls:=of_decide_eq_false h
    have e:selfM x=[]:=if_neg h0
    refine go ⟨none,0,by rw [e],by rw [e];exact Ow.nil ..,Bl.refl _⟩
  rintro _ w6 ⟨a5,c5,rfl,O5,B56⟩
  have x6:=Bl.box B56 x5
  have z6:=B56.size
  refine dh (fun i=>i=b4) [0,1,2,4,5,3,6,7,8] fun w7 k7 => ?_
  have x7:=k7.box x6
  have B37:=(B35.trans B56).trans k7.bl
  have O6:=O5.bl k7.bl
  have z7:=k7.bl.size
  refine ld (x7.cell rfl) ?_ (hm:=rfl)
  refine ld (x7.cell rfl) ?_ (hm:=rfl)
  refine apl (l0:=selfM x) (l1:=x.params) O6 (src_of (f1.bl B37)) (by omega) (fun a7 c7 w8 O7 A7 F7 => ?_) (hm:=apS fun g hg q=>by have:=(O6.lt hg).1;omega)
  have z8:=A7.size
  have D7:Below w3.heap.size w3 w8:=Below.trans B37 (A7.below (by omega) fun g hg=>by have:=(O6.lt hg).1;omega)
  have L7:Sl eTy (· < w3.heap.size) w8 a2 x.locals:=(Sl.lt (by decide) f2).kp (Below.kp D7)
  refine apl (l0:=selfM x++x.params) (l1:=x.locals) O7 (src_of L7) (by omega) (fun a8 c8 w9 O8 A8 F8 => ?_) (hm:=apS fun g hg q=>by have:=(O7.lt hg).1;omega)
  refine rt2 ⟨a8,c8,rfl,O8.base (by have:=B3.size;omega),B3.trans (Below.trans D7 (A8.below (by omega) fun g hg=>by have:=(O7.lt hg).1;omega))⟩
theorem calO_len {m:Mod} (P:ModP m) (i:Ins):(calO m i).length≤10:=by
  unfold calO
  split
  · simp
  · split
    · exact Nat.le_trans (trg_len _) P.cl
    · simp
theorem codeE_len {l:List Ins} {p:Bool} (h:codeE l p=0):l.length≤120:=by
  unfold codeE at h
  split at h
  · cases h
  · omega
theorem ModP.tbl {m:Mod} (P:ModP m) {s:Nat} (h:(s:Int)<m.sels):∀ c∈m.classes,s<c.table.length:=fun c hc=>by
  obtain ⟨k,hk⟩:=List.mem_iff_getElem?.1 hc
  have:=(P.cls k c hk).tl
  omega
theorem calM_at {m:Mod} {k:Nat} {x:MM} (h:m.methods[k]? = some x):calM m k=srtI (x.code.flatMap (calO m)):=by unfold calM;rw [h];rfl
set_option maxHeartbeats 2000000 in
theorem k_calls (m:Mod) (a:MA) (k:Nat) (P:ModP m) (hk:k<m.methods.length) (w:World) (hM:MdR T w m a) :
    Ret Tryz.prog 75 #[.agg (modcells m a).toArray,I k] w fun v w'=>∃ a c,v = .slice a (calM m k).length c∧OwP 1 encInt w' w.heap.size 3 a c (calM m k)∧Bl w w':=by
  refine entr (vs:=[.agg (modcells m a).toArray,I k]) [0,1,2,4,5,7,13,14,15,16,20,21,28] tabok Tryz.func75 (by kernel_rfl) ?_
  refine bx (cs:=modcells m a) fun b1 w1 k1 => ?_
  have x1:=k1.box
  have z1:=k1.size
  have y1:=k1.blk
  obtain ⟨x,b,o,cs,hx,e2,_,hAt,a1,d1,a2,d2,a3,d3,rfl,f1,f2,f3,_⟩:=at_some (hM.bl k1.bl).mth hk
  have M:=P.mth k x hx
  have hcl:=codeE_len M.cd
  have hle:=fun {j:Nat} (hj:j≤x.code.length)=>flatMap_take_le (f:=calO m) (B:=10) (l:=x.code) (fun i _=>calO_len P i) hj
  refine ld (x1.cell rfl) ?_
  rw [e2]
  refine ix ?_
  refine ld (hAt 6 _ rfl) ?_
  refine lpk x.code.length 15 [5] [(2,.pointer (some ⟨b1,0,none⟩)),(13,.slice a3 x.code.length d3),(14,I x.code.length)] (fun j vals w'=>∃ a c,vals=[.slice a ((x.code.take j).flatMap (calO m)).length c]∧OwP 1 encInt w' w1.heap.size 3 a c ((x.code.take j).flatMap (calO m))∧Bl w1 w') ⟨none,0,rfl,Ow.nil ..,Bl.refl _⟩ ?_
  rintro j vals w2 hj ⟨a2',c2,rfl,O2,B2⟩ ih
  have hl:=hle hj
  have z2:=B2.size
  have x2:=Bl.box B2 x1
  by_cases hlt:j<x.code.length
  · refine brT ?_
    obtain ⟨i,bi,oi,ci,hi,ei,_,hAi,rfl⟩:=at_some (f3.bl B2) hlt
    have hv:=code_all M.cd i (List.mem_of_getElem? hi)
    rw [ei]
    refine ix ?_
    refine lda hAi ?_
    refine al fun b7 w3 h3 => ?_
    refine sta (cs':=encIns i) h3.box fun w4 k4 x4 => ?_
    have B24:=h3.wr k4
    have z4:=B24.size
    have O4:=O2.bl B24
    have S7:∀ {l'':Env},Eng.Sub [(2,.pointer (some ⟨b1,0,none⟩)),(13,.slice (some ⟨bi,oi,none⟩) x.code.length d3),(14,I x.code.length)] l''→Eng.Sub [(2,.pointer (some ⟨b1,0,none⟩)),(13,.slice a3 x.code.length d3),(14,I x.code.length)] l'':=fun h=>by rw [ei];exact h
    refine ld (x4.cell rfl) ?_
    by_cases h25:i.op=25
    · have e:calO m i=[i.a]:=if_pos h25
      refine brT ?_ (hp:=h25)
      refine ld (x4.cell rfl) ?_
      refine bs (cs:=encInt i.a) fun b6 w6 k6 => ?_
      have z6:=k6.size
      refine apl (l1:=[i.a]) (O4.bl k6.bl) (.inr ⟨b6,0,rfl,k6.box.at⟩) (by omega) fun a7 c7 w7 O7 A7 _ => ?_
      refine ih hlt ⟨a7,c7,by rw [flatMap_snoc hi,e],by rw [flatMap_snoc hi,e];exact O7,Below.trans ((B2.trans B24).trans k6.bl) (A7.below (by omega) fun g hg=>(O2.lt hg).1)⟩ (hsub:=S7 (by repeat (first | exact True.intro | (refine ⟨rfl,?_⟩))))
    · refine brF ?_ (hp:=h25)
      by_cases h26:i.op=26
      · have e:calO m i=trgM m i.a.toNat:=by unfold calO;rw [if_neg h25,if_pos h26]
        refine brT ?_ (hp:=h26)
        have h0:=val_call hv (.inr h26)
        obtain ⟨s,es⟩:=Int.eq_ofNat_of_zero_le h0
        have hop:=M.op i (List.mem_of_getElem? hi)
        have hs:(s:Int)<m.sels:=by
          unfold oprB at hop
          simp [h26] at hop
          omega
        rw [es,Int.toNat_natCast] at e
        have x2':=Bl.box B24 x2
        refine lda x2'.at ?_
        refine ld (x4.cell rfl) ?_
        rw [es]
        refine cl (k_targets m a s (P.tbl hs) w4 (hM.bl ((k1.bl.trans B2).trans B24))) ?_ (hm:=fun _ _ r=>by obtain ⟨_,_,_,_,hB⟩:=r;exact mdW_bl hB)
        rintro _ w6 ⟨a6,c6,rfl,O6,B46⟩
        have ht:=trg_len (m:=m) s
        have hc10:=P.cl
        have z6:=B46.size
        refine apl (l1:=trgM m s) (O4.bl B46) (src_of (owp_sl (S:=T) O6 (by omega) fun _ _=>trivial)) (by omega) fun a7 c7 w7 O7 A7 _ => ?_
        refine ih hlt ⟨a7,c7,by rw [flatMap_snoc hi,e],by rw [flatMap_snoc hi,e];exact O7,Below.trans ((B2.trans B24).trans B46) (A7.below (by omega) fun g hg=>(O2.lt hg).1)⟩ (hsub:=S7 (by repeat (first | exact True.intro | (refine ⟨rfl,?_⟩))))
      · have e:calO m i=[]:=by unfold calO;rw [if_neg h25,if_neg h26]
        refine brF ?_ (hp:=h26)
        refine ih hlt ⟨a2',c2,by rw [flatMap_snoc hi,e,List.append_nil],by rw [flatMap_snoc hi,e,List.append_nil];exact O4,B2.trans B24⟩ (hsub:=S7 (by repeat (first | exact True.intro | (refine ⟨rfl,?_⟩))))
  refine brF ?_
  obtain rfl:j=x.code.length:=by omega
  rw [List.take_length] at O2 hl ⊢
  refine cl (c_SortI (x.code.flatMap (calO m)) w1.heap.size a2' c2 w2 O2 (by omega)) ?_ (hm:=by intros;trivial)
  rintro _ w3 ⟨O3,A3⟩
  rw [show (x.code.flatMap (calO m)).length=(sortI (x.code.flatMap (calO m))).length from (sortI_len _).symm]
  refine cl (c_CompactI (sortI (x.code.flatMap (calO m))) w1.heap.size a2' c2 w3 O3 (by rw [sortI_len];omega)) ?_ (hm:=by intros;trivial)
  rintro _ w4 ⟨rfl,O4,A4⟩
  have et:Lib.compact (sortI (x.code.flatMap (calO m)))=calM m k:=by rw [calM_at hx];exact compactI_srt _
  rw [et] at O4 ⊢
  refine rt1 ⟨a2',c2,rfl,O4.base (by omega),?_⟩
  have B02:=k1.bl.trans B2
  exact Below.trans (Below.trans B02 (A3.below B02.size fun g hg=>by have:=(O2.lt hg).1;omega)) (A4.below (by have:=A3.size;have:=B02.size;omega) fun g hg=>by have:=(O2.lt hg).1;omega)
set_option maxHeartbeats 2000000 in
theorem r5_calls (m:Mod) (a:MA) (k:Nat) (P:ModP m) (hk:k<m.methods.length) (w:World) (hM:MdR T w m a) :
    Ret Tryz.prog 76 #[.agg (modcells m a).toArray,I k] w fun v w'=>∃ a c,v = .slice a (calM m k).length c∧Sl eInt (fun b=>w.heap.size≤b∧b<w'.heap.size) w' a (calM m k)∧Bl w w':=by
  refine entr (vs:=[.agg (modcells m a).toArray,I k]) [0,1,2,4,5,6,7,17,25,39] tabok Tryz.func76 (by kernel_rfl) ?_
  refine bx (cs:=modcells m a) fun b1 w1 k1 => ?_
  have x1:=k1.box
  have z1:=k1.size
  have y1:=k1.blk
  obtain ⟨x,b,o,cs,hx,e2,_,hAt,a1,d1,a2,d2,a3,d3,rfl,f1,f2,f3,_⟩:=at_some (hM.bl k1.bl).mth hk
  have M:=P.mth k x hx
  have hcl:=codeE_len M.cd
  have hle:=fun {j:Nat} (hj:j≤x.code.length)=>flatMap_take_le (f:=calO m) (B:=10) (l:=x.code) (fun i _=>calO_len P i) hj
  refine ld (x1.cell rfl) ?_
  rw [e2]
  refine ix ?_
  refine ld (hAt 6 _ rfl) ?_
  refine lpk x.code.length 7 [5] [(2,.pointer (some ⟨b1,0,none⟩)),(6,.slice a3 x.code.length d3)] (fun j vals w'=>∃ a c,vals=[.slice a ((x.code.take j).flatMap (calO m)).length c]∧OwP 1 encInt w' w1.heap.size 3 a c ((x.code.take j).flatMap (calO m))∧Bl w1 w') ⟨none,0,rfl,Ow.nil ..,Bl.refl _⟩ ?_
  rintro j vals w2 hj ⟨a2',c2,rfl,O2,B2⟩ ih
  have hl:=hle hj
  have z2:=B2.size
  have x2:=Bl.box B2 x1
  by_cases hlt:j<x.code.length
  · refine brT ?_
    obtain ⟨i,bi,oi,ci,hi,ei,hSi,hAi,rfl⟩:=at_some ((Sl.lt (by decide) f3).bl B2) hlt
    have hv:=code_all M.cd i (List.mem_of_getElem? hi)
    have S7:∀ {l'':Env},Eng.Sub [(2,.pointer (some ⟨b1,0,none⟩)),(6,.slice (some ⟨bi,oi,none⟩) x.code.length d3)] l''→Eng.Sub [(2,.pointer (some ⟨b1,0,none⟩)),(6,.slice a3 x.code.length d3)] l'':=fun h=>by rw [ei];exact h
    rw [ei]
    refine ix ?_
    refine ld (hAi 0 _ rfl) ?_
    by_cases h25:i.op=25
    · have e:calO m i=[i.a]:=if_pos h25
      refine brT ?_ (hp:=h25)
      refine ix ?_
      refine ld (hAi 1 _ rfl) ?_
      refine bs (cs:=encInt i.a) fun b6 w6 k6 => ?_
      have z6:=k6.size
      refine apl (l1:=[i.a]) (O2.bl k6.bl) (.inr ⟨b6,0,rfl,k6.box.at⟩) (by omega) fun a7 c7 w7 O7 A7 _ => ?_
      have D7:Below w2.heap.size w2 w6:=k6.bl
      have K7:Below w1.heap.size w1 w7:=Below.trans (B2.trans k6.bl) (A7.below (by omega) fun g hg=>(O2.lt hg).1)
      have hA7:At w7 bi (oi+j*eIns.sz) (encIns i):=by
        obtain ⟨i',bi',oi',ci',hi',ei',_,hAi',rfl⟩:=at_some (f3.bl K7) hlt
        rw [ei] at ei'
        simp only [Option.some.injEq,Addr.mk.injEq,and_true] at ei'
        obtain ⟨rfl,rfl⟩:=ei'
        rw [hi] at hi'
        obtain rfl:=Option.some.inj hi'
        exact hAi'
      refine ix ?_
      refine ld (hA7 0 _ rfl) ?_
      refine brF ?_
      refine ih hlt ⟨a7,c7,by rw [flatMap_snoc hi,e],by rw [flatMap_snoc hi,e];exact O7,K7⟩ (hsub:=S7 (by repeat (first | exact True.intro | (refine ⟨rfl,?_⟩))))
    · refine brF ?_ (hp:=h25)
      refine ix ?_
      refine ld (hAi 0 _ rfl) ?_
      by_cases h26:i.op=26
      · have e:calO m i=trgM m i.a.toNat:=by unfold calO;rw [if_neg h25,if_pos h26]
        refine brT ?_ (hp:=h26)
        have h0:=val_call hv (.inr h26)
        obtain ⟨s,es⟩:=Int.eq_ofNat_of_zero_le h0
        have hop:=M.op i (List.mem_of_getElem? hi)
        have hs:(s:Int)<m.sels:=by
          unfold oprB at hop
          simp [h26] at hop
          omega
        rw [es,Int.toNat_natCast] at e
        refine dh (· < w1.heap.size) (List.range 10) fun w4 k4 => ?_
        have z4:=k4.bl.size
        refine lda (Bl.box k4.bl x2).at ?_ (hm:=by show b1<w1.heap.size;omega)
        refine ix ?_
        refine ld ((hAi.bl k4.bl) 1 _ rfl) ?_ (hm:=hSi)
        rw [es]
        refine cl (r5_targets m a s (P.tbl hs) w4 (hM.bl ((k1.bl.trans B2).trans k4.bl))) ?_ (hm:=fun _ _ r=>by obtain ⟨_,_,_,_,hB⟩:=r;exact mdW_bl hB)
        rintro _ w6 ⟨a6,c6,rfl,O6,B46⟩
        have B26:=k4.bl.trans B46
        have ht:=trg_len (m:=m) s
        have hc10:=P.cl
        have z6:=B46.size
        refine apl (l1:=trgM m s) (O2.bl B26) (src_of O6) (by omega) (fun a7 c7 w7 O7 A7 _ => ?_) (hm:=apS fun g hg q=>by have:=(O2.lt hg).1;omega)
        refine ih hlt ⟨a7,c7,by rw [flatMap_snoc hi,e],by rw [flatMap_snoc hi,e];exact O7,Below.trans (B2.trans B26) (A7.below (by omega) fun g hg=>(O2.lt hg).1)⟩ (hsub:=S7 (by repeat (first | exact True.intro | (refine ⟨rfl,?_⟩))))
      · have e:calO m i=[]:=by unfold calO;rw [if_neg h25,if_neg h26]
        refine brF ?_ (hp:=h26)
        refine ih hlt ⟨a2',c2,by rw [flatMap_snoc hi,e,List.append_nil],by rw [flatMap_snoc hi,e,List.append_nil];exact O2,B2⟩ (hsub:=S7 (by repeat (first | exact True.intro | (refine ⟨rfl,?_⟩))))
  refine brF ?_
  obtain rfl:j=x.code.length:=by omega
  rw [List.take_length] at O2 hl ⊢
  refine cl (r5_Sort (x.code.flatMap (calO m)) a2' c2 w2 (owp_sl O2 (by omega) fun _ _=>trivial)) ?_ (hm:=fun _ _ r=>by obtain ⟨_,_,_,_,hB⟩:=r;exact mdW_bl hB)
  rintro _ w3 ⟨a3',c3',rfl,S3,B23⟩
  rw [←calM_at hx] at S3 ⊢
  exact rt1 ⟨a3',c3',rfl,S3.sub fun i hi=>⟨by have:=(k1.bl.trans B2).size;omega,hi.2⟩,(k1.bl.trans B2).trans B23⟩
end Go.Proofs.YtkmdfjpafkcleaaGreatDoor
namespace Go.Proofs.YtkmdfjpafkcleaaGreatDoor
open Eng Go.RowKit
def chV (D:List Int) (l:List Int):Int:=l.foldl (fun x c=>max x (D.getD c.toNat 0+1)) 0
def chL (m:Mod):Nat→List Int
  | 0=>[]
  | k+1=>chL m k++[chV (chL m k) (calM m k)]
def chaN (m:Mod) (k:Nat):Int:=chV (chL m k) (calM m k)
theorem chL_len (m:Mod):∀ (k:Nat),(chL m k).length=k
  | 0=>rfl
  | k+1=>by show (chL m k++[_]).length=_;rw [List.length_append,chL_len m k];rfl
theorem chL_at {m:Mod} {i:Nat}:∀ {n:Nat},i<n→(chL m n)[i]? = some (chaN m i)
  | 0,h=>by omega
  | n+1,h=>by
    show (chL m n++[_])[i]? = _
    by_cases e:i=n
    · subst e
      rw [List.getElem?_append_right (by rw [chL_len];exact Nat.le_refl _),chL_len,Nat.sub_self];rfl
    · rw [List.getElem?_append_left (by rw [chL_len];omega)]
      exact chL_at (by omega)
theorem fold_le {D:List Int} {B:Int}:∀ {l:List Int} {x:Int},x≤B→(∀ c∈l,D.getD c.toNat 0+1≤B)→l.foldl (fun x c=>max x (D.getD c.toNat 0+1)) x≤B
  | [],_,h,_=>h
  | c::l,x,h,k=>by
    rw [List.foldl_cons]
    exact fold_le (Int.max_le.2 ⟨h,k c (List.mem_cons_self ..)⟩) fun d hd=>k d (List.mem_cons_of_mem _ hd)
theorem le_fold {D:List Int}:∀ {l:List Int} {x:Int},x≤l.foldl (fun x c=>max x (D.getD c.toNat 0+1)) x∧∀ c∈l,D.getD c.toNat 0+1≤l.foldl (fun x c=>max x (D.getD c.toNat 0+1)) x
  | [],x=>⟨Int.le_refl _,fun c h=>by cases h⟩
  | c::l,x=>by
    rw [List.foldl_cons]
    obtain ⟨h1,h2⟩:=le_fold (D:=D) (l:=l) (x:=max x (D.getD c.toNat 0+1))
    have h3:=Int.le_max_left x (D.getD c.toNat 0+1)
    have h4:=Int.le_max_right x (D.getD c.toNat 0+1)
    refine ⟨by omega,fun d hd => ?_⟩
    rcases List.mem_cons.1 hd with rfl | hd
    · omega
    · exact h2 d hd
theorem chD {m:Mod} {i:Nat} {c:Int} (h0:0≤c) (h:c<i):(chL m i).getD c.toNat 0=chaN m c.toNat:=by
  rw [List.getD_eq_getElem?_getD,chL_at (by omega)];rfl
theorem chaN_le {m:Mod} (P:ModP m):∀ (n:Nat) {i:Nat},i<n→i<m.methods.length→0≤chaN m i∧chaN m i≤i
  | 0,_,h,_=>by omega
  | n+1,i,h,hi=>by
    obtain ⟨x,hx⟩:=some_of_lt hi
    refine ⟨(le_fold (D:=chL m i) (l:=calM m i) (x:=0)).1,fold_le (by omega) fun c hc => ?_⟩
    obtain ⟨c0,c1⟩:=calM_lt P hx hc
    rw [chD c0 c1]
    have:=(chaN_le P n (i:=c.toNat) (by omega) (by omega)).2
    omega
def chR (m:Mod) (k:Nat) (v:Int) (r:Nat):List Int:=chL m k++v::List.replicate r 0
theorem chR_len (m:Mod) (k:Nat) (v:Int) (r:Nat):(chR m k v r).length=k+1+r:=by unfold chR;simp [chL_len];omega
theorem chR_lt {m:Mod} {k c:Nat} {v:Int} {r:Nat} (h:c<k):((chR m k v r).map I)[c]? = some (I (chaN m c)):=by
  unfold chR
  rw [List.getElem?_map,List.getElem?_append_left (by rw [chL_len];exact h),chL_at h];rfl
theorem chR_at {m:Mod} {k:Nat} {v:Int} {r:Nat}:((chR m k v r).map I)[k]? = some (I v):=by
  unfold chR
  rw [List.getElem?_map,List.getElem?_append_right (by rw [chL_len];exact Nat.le_refl _),chL_len,Nat.sub_self];rfl
theorem chR_set {m:Mod} {k:Nat} {v u:Int} {r:Nat}:((chR m k v r).map I).set k (I u)=(chR m k u r).map I:=by
  rw [←List.map_set]
  unfold chR
  rw [List.set_append_right _ _ (by rw [chL_len];exact Nat.le_refl _),chL_len,Nat.sub_self];rfl
theorem chR_next {m:Mod} {k r:Nat}:chR m k (chaN m k) (r+1)=chR m (k+1) 0 r:=by
  unfold chR
  show chL m k++chaN m k::(0::List.replicate r 0)=(chL m k++[chaN m k])++0::List.replicate r 0
  rw [List.append_assoc];rfl
theorem rep_I (n:Nat):rep n [I 0]=(List.replicate n (0:Int)).map I:=by
  induction n with
  | zero=>rfl
  | succ n ih=>rw [show rep (n+1) [I 0]=rep n [I 0]++[I 0] from rfl,ih,List.replicate_succ',List.map_append];rfl
theorem foldl_snoc' {D l:List Int} {j:Nat} {c:Int} (h:l[j]? = some c):chV D (l.take (j+1))=max (chV D (l.take j)) (D.getD c.toNat 0+1):=by
  unfold chV
  rw [take_succ_some h,List.foldl_append];rfl
open Classical in
noncomputable def chnV (m:Mod) (k:Int):Int:=if askE m m.methods.length [k]=0 then chaN m k.toNat else 0
structure Chg (bs:Nat→Prop) (w w':World):Prop where
  os:w'.os=w.os
  tape:w'.tape=w.tape
  output:w'.output=w.output
  size:w.heap.size≤w'.heap.size
  block:∀ k,k<w.heap.size→¬bs k→w'.heap[k]? = w.heap[k]?
theorem Chg.refl (bs:Nat→Prop) (w:World):Chg bs w w:=⟨rfl,rfl,rfl,Nat.le_refl _,fun _ _ _=>rfl⟩
theorem Chg.trans {bs:Nat→Prop} {w w1 w2:World} (h:Chg bs w w1) (k:Chg bs w1 w2):Chg bs w w2 :=
  ⟨k.os.trans h.os,k.tape.trans h.tape,k.output.trans h.output,Nat.le_trans h.size k.size,fun i hi hn=>(k.block i (Nat.lt_of_lt_of_le hi h.size) hn).trans (h.block i hi hn)⟩
theorem Bl.chg {w w':World} (h:Bl w w') (bs:Nat→Prop):Chg bs w w':=⟨h.os,h.tape,h.output,h.size,fun k hk _=>h.block k hk⟩
theorem Eng.Wr.chg {w w':World} {b:Nat} (h:Wr w b w') {bs:Nat→Prop} (hb:bs b):Chg bs w w' :=
  ⟨h.os,h.tape,h.output,by rw [h.size];exact Nat.le_refl _,fun k _ hn=>h.block k fun e=>hn (e▸hb)⟩
theorem Eng.Ap.chg {w w':World} {a:Option Addr} (h:Ap w a w') {bs:Nat→Prop} (hb:∀ g,a=some ⟨g,0,none⟩→g<w.heap.size→bs g):Chg bs w w' :=
  ⟨h.os,h.tape,h.output,h.size,fun k hk hn=>h.block k hk fun e=>hn (hb k e hk)⟩
theorem Chg.below {bs:Nat→Prop} {w w':World} (h:Chg bs w w') {B:Nat} (hB:B≤w.heap.size) (hb:∀ b,bs b→B≤b):Below B w w' :=
  ⟨h.os,h.tape,h.output,h.size,fun k hk=>h.block k (by omega) fun q=>by have:=hb k q;omega⟩
theorem Chg.box {bs:Nat→Prop} {w w':World} (h:Chg bs w w') {b:Nat} {t:TypeId} {cs:List Value} (hb:Box w b t cs) (hn:¬bs b):Box w' b t cs:=by unfold Box;rw [h.block b hb.lt hn];exact hb
theorem Chg.kp {bs:Nat→Prop} {w w':World} (h:Chg bs w w'):Kp (fun b=>¬bs b) w w':=fun b o v s x=>by rw [World.cell?_of_block (w:=w) (h.block b (cell_lt x) s)];exact x
theorem Chg.sub {bs bs':Nat→Prop} {w w':World} (h:Chg bs w w') (k:∀ b,bs b→bs' b):Chg bs' w w':=⟨h.os,h.tape,h.output,h.size,fun i hi hn=>h.block i hi fun q=>hn (k i q)⟩
theorem calM_len {m:Mod} (P:ModP m) {k:Nat} (hk:k<m.methods.length):(calM m k).length≤1200:=by
  obtain ⟨x,hx⟩:=some_of_lt hk
  have h1:=codeE_len (P.mth k x hx).cd
  have h2:=flatMap_le (f:=calO m) (B:=10) (l:=x.code) fun i _=>calO_len P i
  rw [calM_at hx]
  have h3:=srtI_len (x.code.flatMap (calO m))
  omega
set_option maxHeartbeats 2000000 in
theorem k_Chain (m:Mod) (a:MA) (k:Int) (w:World) (hM:MdR T w m a):Ret Tryz.prog 38 #[.agg (modcells m a).toArray,I k] w fun v w'=>v = .tuple #[I (chnV m k),I (askE m m.methods.length [k])]∧Bl w w':=by
  have q1:=hM.mth.big
  refine entr (vs:=[.agg (modcells m a).toArray,I k]) [0,1,2,4,5,6,7,8,10,19,25,26,27,31,32,33,34] tabok Tryz.func38 (by kernel_rfl) ?_
  refine bx (cs:=modcells m a) fun b1 w1 k1 => ?_
  refine lda k1.box.at ?_
  refine ld (k1.box.cell rfl) ?_
  refine bs (cs:=[I k]) fun b2 w2 k2 => ?_
  have B2:=k1.bl.trans k2.bl
  refine cl (k_asked m a m.methods.length [k] _ 1 w2 (hM.bl B2) (one_int k2)) ?_
  rintro _ w3 ⟨rfl,B23⟩
  have B3:=B2.trans B23
  have x3:=Bl.box (k2.bl.trans B23) k1.box
  by_cases h1:askE m m.methods.length [k]=0
  rotate_left
  · have e:chnV m k=0:=if_neg h1
    rw [ask_n h1,e]
    refine brt ?_
    exact rt2 ⟨rfl,B3⟩
  have e:chnV m k=chaN m k.toNat:=if_pos h1
  rw [h1,e]
  refine brf ?_
  obtain ⟨P,c0,c1⟩:=ask_one h1
  obtain ⟨k,rfl⟩:=Int.eq_ofNat_of_zero_le c0
  rw [Int.toNat_natCast]
  have e1:IntKind.wrap .i64 ((k:Int)+1)=((k+1:Nat):Int):=by rw [wrap_fit (by omega) (by omega)];omega
  refine mk (m:=k+1) (n:=k+1) (fun b4 w4 k4 => ?_) (hx:=by exact congrArg (fun z=>some (Value.int .i64 z)) e1) (hy:=by exact congrArg (fun z=>some (Value.int .i64 z)) e1)
  have y4:=k4.blk
  have z4:=k4.size
  have B4:=B3.trans k4.bl
  have R4:Box w4 b4 3 ((chR m 0 0 k).map I):=by
    have:=k4.box
    rw [rep_I] at this;exact this
  refine lpk (k+1) 26 [] [(1,I k),(2,.pointer (some ⟨b1,0,none⟩)),(7,.slice (some ⟨b4,0,none⟩) (k+1) (k+1)),(25,I ((k+1:Nat):Int))] (fun i vals w'=>vals=[]∧Chg (· = b4) w4 w'∧(i≤k→Box w' b4 3 ((chR m i 0 (k-i)).map I))∧(i=k+1→w'.cell? ⟨b4,k,none⟩=some (I (chaN m k)))) ⟨rfl,Chg.refl _ _,fun _=>by rw [Nat.sub_zero];exact R4,fun h=>by omega⟩ ?_
  rintro i vals w5 hi ⟨rfl,C5,R5,F5⟩ ih
  have x5:=C5.box (Bl.box k4.bl x3) (by have:=x3.lt;omega)
  have B5:Bl w w5:=Below.trans B4 (C5.below B4.size fun b q=>by have:=B3.size;omega)
  by_cases hlt:i<k+1
  rotate_left
  · refine brF ?_
    obtain rfl:i=k+1:=by omega
    refine ix ?_
    rw [Nat.zero_add,Nat.mul_one]
    refine ld (F5 rfl) ?_
    exact rt2 ⟨rfl,B5⟩
  have hik:i≤k:=by omega
  have R:=R5 hik
  refine brT ?_
  refine lda x5.at ?_
  refine cl (k_calls m a i P (by omega) w5 (hM.bl B5)) ?_ (hm:=fun _ _ r=>by obtain ⟨_,_,_,_,hB⟩:=r;exact mdW_bl hB)
  rintro _ w6 ⟨a6,c6,rfl,O6,B56⟩
  have hcl:=calM_len P (k:=i) (by omega)
  have S6:Sl eInt (fun b=>¬b=b4) w6 a6 (calM m i):=owp_sl O6 (by omega) fun g hg=>by have:=(O6.lt hg).1;have:=R.lt;omega
  refine lpk (calM m i).length 33 [] [(1,I k),(2,.pointer (some ⟨b1,0,none⟩)),(7,.slice (some ⟨b4,0,none⟩) (k+1) (k+1)),(25,I ((k+1:Nat):Int)),(26,I i),(8,I i),(31,.slice a6 (calM m i).length c6),(32,I (calM m i).length)] (fun j vals w'=>vals=[]∧Chg (· = b4) w6 w'∧Box w' b4 3 ((chR m i (chV (chL m i) ((calM m i).take j)) (k-i)).map I)) ⟨rfl,Chg.refl _ _,Bl.box B56 R⟩ ?_
  rintro j vals w7 hj ⟨rfl,C7,R7⟩ ih2
  have C7':Chg (· = b4) w4 w7:=(C5.trans (B56.chg _)).trans C7
  by_cases hlj:j<(calM m i).length
  · refine brT ?_
    obtain ⟨c,bc,oc,cc,hc,rfl,hSc,hAc,rfl⟩:=at_some (S6.kp C7.kp) hlj
    obtain ⟨x,hx⟩:=some_of_lt (l:=m.methods) (k:=i) (by omega)
    obtain ⟨g0,g1⟩:=calM_lt P hx (List.mem_of_getElem? hc)
    obtain ⟨n,rfl⟩:=Int.eq_ofNat_of_zero_le g0
    have hn:=chaN_le P (n+1) (i:=n) (by omega) (by omega)
    refine ix ?_
    refine ld (hAc 0 _ rfl) ?_
    refine dt 1 fun w8 k8 => ?_
    have R8:=k8.box R7
    refine ix ?_
    rw [Nat.zero_add,Nat.mul_one]
    refine ld (R8.cell chR_at) ?_
    refine ix ?_
    rw [Nat.zero_add,Nat.mul_one]
    refine ld (R8.cell (chR_lt (c:=n) (k:=i) (by omega))) ?_
    refine mx ?_
    refine ix ?_
    rw [Nat.zero_add,Nat.mul_one]
    refine stx R8 (fun w9 k9 R9 => ?_) (ho:=by rw [List.length_map,chR_len];omega)
    rw [wrap_fit (by omega) (by omega),chR_set,show 1+chaN m n=(chL m i).getD (n:Int).toNat 0+1 by rw [chD g0 g1,Int.toNat_natCast];omega,←foldl_snoc' hc] at R9
    exact ih2 hlj ⟨rfl,(C7.trans (k8.bl.chg _)).trans (k9.chg rfl),R9⟩
  · refine brF ?_
    obtain rfl:j=(calM m i).length:=by omega
    rw [List.take_length] at R7
    refine ih hlt ⟨rfl,C7',fun h => ?_,fun h => ?_⟩
    · have:=R7
      rw [show chV (chL m i) (calM m i)=chaN m i from rfl,show k-i=(k-(i+1))+1 by omega,chR_next] at this
      exact this
    · obtain rfl:i=k:=by omega
      exact R7.cell chR_at
set_option maxHeartbeats 2000000 in
theorem r5_Chain (m:Mod) (a:MA) (k:Int) (w:World) (hM:MdR T w m a):Ret Tryz.prog 39 #[.agg (modcells m a).toArray,I k] w fun v w'=>v = .tuple #[I (chnV m k),I (askE m m.methods.length [k])]∧Bl w w':=by
  have q1:=hM.mth.big
  refine entr (vs:=[.agg (modcells m a).toArray,I k]) [0,1,2,4,5,6,7,8,9,10,18,25,34] tabok Tryz.func39 (by kernel_rfl) ?_
  refine bx (cs:=modcells m a) fun b1 w1 k1 => ?_
  refine lda k1.box.at ?_
  refine ld (k1.box.cell rfl) ?_
  refine cl (r5_within m a k m.methods.length w1 (hM.bl k1.bl)) ?_
  rintro _ w3 ⟨rfl,B13⟩
  have B3:=k1.bl.trans B13
  have x3:=Bl.box B13 k1.box
  by_cases h1:askE m m.methods.length [k]=0
  rotate_left
  · have e:chnV m k=0:=if_neg h1
    rw [ask_n h1,e]
    refine brt ?_
    exact rt2 ⟨rfl,B3⟩
  have e:chnV m k=chaN m k.toNat:=if_pos h1
  rw [h1,e]
  refine brf ?_
  obtain ⟨P,c0,c1⟩:=ask_one h1
  obtain ⟨k,rfl⟩:=Int.eq_ofNat_of_zero_le c0
  rw [Int.toNat_natCast]
  have e1:IntKind.wrap .i64 ((k:Int)+1)=((k+1:Nat):Int):=by rw [wrap_fit (by omega) (by omega)];omega
  refine mk (m:=k+1) (n:=k+1) (fun b4 w4 k4 => ?_) (hx:=by exact congrArg (fun z=>some (Value.int .i64 z)) e1) (hy:=by exact congrArg (fun z=>some (Value.int .i64 z)) e1)
  have y4:=k4.blk
  have z4:=k4.size
  have B4:=B3.trans k4.bl
  have R4:Box w4 b4 3 ((chR m 0 0 k).map I):=by
    have:=k4.box
    rw [rep_I] at this;exact this
  refine lpk (k+1) 8 [] [(1,I k),(2,.pointer (some ⟨b1,0,none⟩)),(7,.slice (some ⟨b4,0,none⟩) (k+1) (k+1))] (fun i vals w'=>vals=[]∧Chg (· = b4) w4 w'∧(i≤k→Box w' b4 3 ((chR m i 0 (k-i)).map I))∧(i=k+1→w'.cell? ⟨b4,k,none⟩=some (I (chaN m k)))) ⟨rfl,Chg.refl _ _,fun _=>by rw [Nat.sub_zero];exact R4,fun h=>by omega⟩ ?_
  rintro i vals w5 hi ⟨rfl,C5,R5,F5⟩ ih
  have x5:=C5.box (Bl.box k4.bl x3) (by have:=x3.lt;omega)
  have B5:Bl w w5:=Below.trans B4 (C5.below B4.size fun b q=>by have:=B3.size;omega)
  by_cases hlt:i<k+1
  rotate_left
  · refine brF ?_
    obtain rfl:i=k+1:=by omega
    refine ix ?_
    rw [Nat.zero_add,Nat.mul_one]
    refine ld (F5 rfl) ?_
    exact rt2 ⟨rfl,B5⟩
  have hik:i≤k:=by omega
  have R:=R5 hik
  refine brT ?_
  refine lda x5.at ?_
  refine cl (r5_calls m a i P (by omega) w5 (hM.bl B5)) ?_ (hm:=fun _ _ r=>by obtain ⟨_,_,_,_,hB⟩:=r;exact mdW_bl hB)
  rintro _ w6 ⟨a6,c6,rfl,O6,B56⟩
  have hcl:=calM_len P (k:=i) (by omega)
  have S6:Sl eInt (fun b=>¬b=b4) w6 a6 (calM m i):=O6.sub fun g hg=>by have:=hg.1;have:=R.lt;omega
  refine lpk (calM m i).length 10 [] [(1,I k),(2,.pointer (some ⟨b1,0,none⟩)),(7,.slice (some ⟨b4,0,none⟩) (k+1) (k+1)),(8,I i),(9,.slice a6 (calM m i).length c6)] (fun j vals w'=>vals=[]∧Chg (· = b4) w6 w'∧Box w' b4 3 ((chR m i (chV (chL m i) ((calM m i).take j)) (k-i)).map I)) ⟨rfl,Chg.refl _ _,Bl.box B56 R⟩ ?_
  rintro j vals w7 hj ⟨rfl,C7,R7⟩ ih2
  have C7':Chg (· = b4) w4 w7:=(C5.trans (B56.chg _)).trans C7
  by_cases hlj:j<(calM m i).length
  · refine brT ?_
    obtain ⟨c,bc,oc,cc,hc,rfl,hSc,hAc,rfl⟩:=at_some (S6.kp C7.kp) hlj
    obtain ⟨x,hx⟩:=some_of_lt (l:=m.methods) (k:=i) (by omega)
    obtain ⟨g0,g1⟩:=calM_lt P hx (List.mem_of_getElem? hc)
    obtain ⟨n,rfl⟩:=Int.eq_ofNat_of_zero_le g0
    have hn:=chaN_le P (n+1) (i:=n) (by omega) (by omega)
    refine dt 1 fun w8 k8 => ?_
    have R8:=k8.box R7
    refine ix ?_
    rw [Nat.zero_add,Nat.mul_one]
    refine ld (R8.cell chR_at) ?_
    refine ix ?_
    refine ld ((hAc.bl k8.bl) 0 _ rfl) ?_
    refine ix ?_
    rw [Nat.zero_add,Nat.mul_one]
    refine ld (R8.cell (chR_lt (c:=n) (k:=i) (by omega))) ?_
    refine mx ?_
    refine ix ?_
    rw [Nat.zero_add,Nat.mul_one]
    refine stx R8 (fun w9 k9 R9 => ?_) (ho:=by rw [List.length_map,chR_len];omega)
    rw [wrap_fit (by omega) (by omega),chR_set,show chaN m n+1=(chL m i).getD (n:Int).toNat 0+1 by rw [chD g0 g1,Int.toNat_natCast],←foldl_snoc' hc] at R9
    exact ih2 hlj ⟨rfl,(C7.trans (k8.bl.chg _)).trans (k9.chg rfl),R9⟩
  · refine brF ?_
    obtain rfl:j=(calM m i).length:=by omega
    rw [List.take_length] at R7
    refine ih hlt ⟨rfl,C7',fun h => ?_,fun h => ?_⟩
    · have:=R7
      rw [show chV (chL m i) (calM m i)=chaN m i from rfl,show k-i=(k-(i+1))+1 by omega,chR_next] at this
      exact this
    · obtain rfl:i=k:=by omega
      exact R7.cell chR_at
end Go.Proofs.YtkmdfjpafkcleaaGreatDoor
namespace Go.Proofs.YtkmdfjpafkcleaaGreatDoor
open Eng Go.RowKit
theorem tIB:MapTI Tryz.prog 128 4 (.bool false):=⟨⟨3,Tryz.underlying128,Tryz.underlying3⟩,Tryz.zeroValue4⟩
def AllT (M:MpI Bool):Prop:=∀ k v,getI M k=some v→v=true
theorem AllT.put {M:MpI Bool} (h:AllT M) (n:Int):AllT (putI M n true):=fun k v hk=>by
  rw [putI_get] at hk
  split at hk
  · exact (Option.some.inj hk).symm
  · exact h k v hk
theorem AllT.look {M:MpI Bool} (h:AllT M) (n:Int):((getI M n).map Value.bool).getD (.bool false) = .bool (decide (getI M n=some true)):=by
  cases hk:getI M n with
  | none=>rfl
  | some v=>rw [h n v hk];rfl
theorem MapIsI.kp {α:Type} {enc:α→Value} {w w':World} {b:Nat} {M:MpI α} (h:MapIsI enc w b M) (k:Chg (· = b) w w'):Kp T w w':=fun b' o v _ x=>by
  by_cases e:b'=b
  · subst e
    obtain ⟨es,clock,h1,_⟩:=h.is
    simp [World.cell?,h1] at x
  · exact k.kp b' o v e x
structure RcS (m:Mod) (a:MA) (br b0 b1 b2:Nat) (w:World) (M0 M1 M2:MpI Bool):Prop where
  box:Box w br 130 (modcells m a++[.map (some b0),.map (some b1),.map (some b2)])
  m0:MapIsI Value.bool w b0 M0
  m1:MapIsI Value.bool w b1 M1
  m2:MapIsI Value.bool w b2 M2
  n01:b0≠b1
  n02:b0≠b2
  n12:b1≠b2
  mod:MdR T w m a
  t0:AllT M0
  t1:AllT M1
  t2:AllT M2
def mapsB (b0 b1 b2:Nat):Nat→Prop:=fun b=>b=b0∨b=b1∨b=b2
section
variable {m:Mod} {a:MA} {br b0 b1 b2:Nat} {w w':World} {M0 M1 M2:MpI Bool}
theorem RcS.bl (h:RcS m a br b0 b1 b2 w M0 M1 M2) (k:Bl w w'):RcS m a br b0 b1 b2 w' M0 M1 M2 :=
  ⟨Bl.box k h.box,h.m0.bl k,h.m1.bl k,h.m2.bl k,h.n01,h.n02,h.n12,h.mod.bl k,h.t0,h.t1,h.t2⟩
theorem RcS.put0 (h:RcS m a br b0 b1 b2 w M0 M1 M2) {n:Int} (k:Wr w b0 w') (q:MapIsI Value.bool w' b0 (putI M0 n true)):RcS m a br b0 b1 b2 w' (putI M0 n true) M1 M2 :=
  ⟨(k.chg (bs:=(· = b0)) rfl).box h.box (h.m0.ne h.box).symm,q,h.m1.wr k h.n01.symm,h.m2.wr k h.n02.symm,h.n01,h.n02,h.n12,h.mod.kp (h.m0.kp (k.chg rfl)),h.t0.put n,h.t1,h.t2⟩
theorem RcS.put1 (h:RcS m a br b0 b1 b2 w M0 M1 M2) {n:Int} (k:Wr w b1 w') (q:MapIsI Value.bool w' b1 (putI M1 n true)):RcS m a br b0 b1 b2 w' M0 (putI M1 n true) M2 :=
  ⟨(k.chg (bs:=(· = b1)) rfl).box h.box (h.m1.ne h.box).symm,h.m0.wr k h.n01,q,h.m2.wr k h.n12.symm,h.n01,h.n02,h.n12,h.mod.kp (h.m1.kp (k.chg rfl)),h.t0,h.t1.put n,h.t2⟩
theorem RcS.put2 (h:RcS m a br b0 b1 b2 w M0 M1 M2) {n:Int} (k:Wr w b2 w') (q:MapIsI Value.bool w' b2 (putI M2 n true)):RcS m a br b0 b1 b2 w' M0 M1 (putI M2 n true) :=
  ⟨(k.chg (bs:=(· = b2)) rfl).box h.box (h.m2.ne h.box).symm,h.m0.wr k h.n02,h.m1.wr k h.n12,q,h.n01,h.n02,h.n12,h.mod.kp (h.m2.kp (k.chg rfl)),h.t0,h.t1,h.t2.put n⟩
theorem RcS.kp (h:RcS m a br b0 b1 b2 w M0 M1 M2) (k:Chg (mapsB b0 b1 b2) w w'):Kp T w w':=fun b o v _ x=>by
  have no:∀ {b':Nat} {M:MpI Bool},MapIsI Value.bool w b' M→b≠b':=fun q e=>by
    subst e
    obtain ⟨es,clock,h1,_⟩:=q.is
    simp [World.cell?,h1] at x
  exact k.kp b o v (fun q=>q.elim (no h.m0) fun q=>q.elim (no h.m1) (no h.m2)) x
def vis (M0 M1 M2:MpI Bool):Nd→Prop
  | .m n=>getI M0 n=some true
  | .c n=>getI M1 n=some true
  | .s n=>getI M2 n=some true
theorem vis_put0 (n:Int):∀ x,vis (putI M0 n true) M1 M2 x↔(vis M0 M1 M2 x∨x = .m n)
  | .m k=>by
    simp only [vis,putI_get,Nd.m.injEq]
    by_cases e:n=k
    · simp [e]
    · simp [e]
      exact fun q=>absurd q.symm e
  | .c k=>by simp [vis]
  | .s k=>by simp [vis]
theorem vis_put1 (n:Int):∀ x,vis M0 (putI M1 n true) M2 x↔(vis M0 M1 M2 x∨x = .c n)
  | .m k=>by simp [vis]
  | .c k=>by
    simp only [vis,putI_get,Nd.c.injEq]
    by_cases e:n=k
    · simp [e]
    · simp [e]
      exact fun q=>absurd q.symm e
  | .s k=>by simp [vis]
theorem vis_put2 (n:Int):∀ x,vis M0 M1 (putI M2 n true) x↔(vis M0 M1 M2 x∨x = .s n)
  | .m k=>by simp [vis]
  | .c k=>by simp [vis]
  | .s k=>by
    simp only [vis,putI_get,Nd.s.injEq]
    by_cases e:n=k
    · simp [e]
    · simp [e]
      exact fun q=>absurd q.symm e
end
theorem Dfs.from {m:Mod} {R V V0 V':Nd→Prop} (h:Dfs m R V V') (k:∀ x,V x↔V0 x):Dfs m R V0 V':=by
  have:V=V0:=funext fun x=>propext (k x)
  rw [←this];exact h
def left (N:Nat) (M:MpI Bool):Nat:=((List.range N).filter fun i:Nat => !decide (getI M (i:Int)=some true)).length
theorem left_mono {N:Nat} {M M':MpI Bool} (h:∀ n,getI M n=some true→getI M' n=some true):left N M'≤left N M:=by
  unfold left
  rw [←List.countP_eq_length_filter,←List.countP_eq_length_filter]
  refine List.countP_mono_left fun y _ hy => ?_
  simp at hy ⊢
  exact fun q=>hy (h _ q)
theorem left_put {N:Nat} {M:MpI Bool} {n:Int} (h0:0≤n) (h1:n<N) (h:¬getI M n=some true):left N (putI M n true)<left N M:=by
  unfold left
  obtain ⟨k,rfl⟩:=Int.eq_ofNat_of_zero_le h0
  have hk:k∈List.range N:=List.mem_range.2 (by omega)
  generalize List.range N=L at hk
  induction L with
  | nil=>cases hk
  | cons x L ih =>
    have mono:(List.filter (fun i:Nat => !decide (getI (putI M (k:Int) true) (i:Int)=some true)) L).length≤(List.filter (fun i:Nat => !decide (getI M (i:Int)=some true)) L).length:=by
      rw [←List.countP_eq_length_filter,←List.countP_eq_length_filter]
      refine List.countP_mono_left fun y _ hy => ?_
      simp at hy ⊢
      intro q
      rw [putI_get] at hy
      split at hy
      · exact hy rfl
      · exact hy q
    by_cases hx:x=k
    · subst hx
      rw [List.filter_cons_of_neg (by simp [putI_get]),List.filter_cons_of_pos (by simpa using h)]
      simp only [List.length_cons];omega
    · have:=ih ((List.mem_cons.1 hk).resolve_left fun q=>hx q.symm)
      have e:getI (putI M (k:Int) true) (x:Int)=getI M (x:Int):=by rw [putI_get,if_neg (by omega)]
      by_cases q:getI M (x:Int)=some true
      · rw [List.filter_cons_of_neg (by simp [e,q]),List.filter_cons_of_neg (by simp [q])];exact this
      · rw [List.filter_cons_of_pos (by simp [e,q]),List.filter_cons_of_pos (by simp [q])]
        simp only [List.length_cons];omega
def clsN (l:List Int):Nd→Prop:=fun x=>∃ c∈l,x = .c c
def StepC (m:Mod) (a:MA) (br b0 b1 b2:Nat) (w:World) (M0 M1 M2:MpI Bool) (R:Nd→Prop) (w':World):Prop :=
  ∃ M1',RcS m a br b0 b1 b2 w' M0 M1' M2∧Dfs m R (vis M0 M1 M2) (vis M0 M1' M2)∧Chg (mapsB b0 b1 b2) w w'
def ClassAt (m:Mod) (a:MA) (br b0 b1 b2:Nat) (M0 M2:MpI Bool) (F:Nat):Prop :=
  ∀ (M1:MpI Bool) (w:World) (n:Int),left m.classes.length M1<F→0≤n→n<m.classes.length→RcS m a br b0 b1 b2 w M0 M1 M2 →
    Ret Tryz.prog 137 #[.pointer (some ⟨br,0,none⟩),I n] w fun _ w'=>StepC m a br b0 b1 b2 w M0 M1 M2 (· = .c n) w'
theorem k_rtypes (m:Mod) (a:MA) (br b0 b1 b2:Nat) (M0 M2:MpI Bool) (F:Nat) (hc:ClassAt m a br b0 b1 b2 M0 M2 F) (M1:MpI Bool) (w:World) (hF:left m.classes.length M1<F) (hR:RcS m a br b0 b1 b2 w M0 M1 M2)
    (l:List Ty) (al:Option Addr) (ce:Nat) (hS:Sl eTy T w al l) (hl:∀ t∈l,∀ c∈tcl t,0≤c∧c<m.classes.length) :
    Ret Tryz.prog 136 #[.pointer (some ⟨br,0,none⟩),.slice al l.length ce] w fun _ w'=>StepC m a br b0 b1 b2 w M0 M1 M2 (clsN (l.flatMap tcl)) w':=by
  have q1:=hS.big
  refine entr (vs:=[.pointer (some ⟨br,0,none⟩),.slice al l.length ce]) [0,1,5,6,7,8,9,19] tabok Tryz.func136 (by kernel_rfl) ?_
  refine lpk l.length 8 [] [(0,.pointer (some ⟨br,0,none⟩)),(6,.slice al l.length ce),(7,I l.length)] (fun j vals w'=>vals=[]∧StepC m a br b0 b1 b2 w M0 M1 M2 (clsN ((l.take j).flatMap tcl)) w') ⟨rfl,M1,hR,Dfs.refl m (fun x hx=>by obtain ⟨c,hc,_⟩:=hx;simp at hc),Chg.refl _ _⟩ ?_
  rintro j vals w1 hj ⟨rfl,N1,R1,D1,C1⟩ ih
  by_cases hlt:j<l.length
  rotate_left
  · refine brF ?_
    obtain rfl:j=l.length:=by omega
    rw [List.take_length] at D1
    exact en (vs:=[]) ⟨N1,R1,D1,C1⟩
  refine brT ?_
  obtain ⟨t,b,o,cs,ht,rfl,_,hAt,rfl⟩:=at_some (hS.kp (hR.kp C1)) hlt
  have htc:=hl t (List.mem_of_getElem? ht)
  refine ix ?_
  refine lda hAt ?_
  refine al fun b5 w2 k2 => ?_
  refine sta (cs':=encTy t) k2.box fun w3 k3 x3 => ?_
  have B13:=k2.wr k3
  have R3:=R1.bl B13
  have C3:=C1.trans (B13.chg (mapsB b0 b1 b2))
  refine ld (x3.cell rfl) ?_
  by_cases h24:t.kind=2∨t.kind=4
  · have et:tcl t=[t.cls]:=if_pos h24
    obtain ⟨c0,c1⟩:=htc t.cls (by rw [et];exact List.mem_singleton.2 rfl)
    have go:∀ {w4:World},StepC m a br b0 b1 b2 w3 M0 N1 M2 (· = .c t.cls) w4→StepC m a br b0 b1 b2 w M0 M1 M2 (clsN ((l.take (j+1)).flatMap tcl)) w4:=fun ⟨N2,R4,D4,C4⟩ =>
      ⟨N2,R4,(D1.trans D4).congr fun x=>by
        rw [flatMap_snoc ht,et]
        unfold clsN
        simp only [List.mem_append,List.mem_singleton]
        constructor
        · rintro (⟨c,hc,e⟩ | e)
          · exact ⟨c,.inl hc,e⟩
          · exact ⟨_,.inr rfl,e⟩
        · rintro ⟨c,hc | rfl,e⟩
          · exact .inl ⟨c,hc,e⟩
          · exact .inr e,C3.trans C4⟩
    have hF3:left m.classes.length N1<F:=Nat.lt_of_le_of_lt (left_mono fun n q=>D1.mono (.c n) q) hF
    by_cases h2:t.kind=2
    · refine spn (I 0) ?_ (hb:=by simp [h2])
      refine brt ?_ (hp:=by simp [h2])
      refine ld (x3.cell rfl) ?_
      refine cl (hc N1 w3 t.cls hF3 c0 c1 R3) ?_
      rintro v w4 S4
      exact ih hlt ⟨rfl,go S4⟩
    · have h4:t.kind=4:=h24.resolve_left h2
      refine spt (I 0) ?_ (hb:=by simp [h2])
      refine ld (x3.cell rfl) ?_
      refine brt ?_ (hp:=by simp [h4])
      refine ld (x3.cell rfl) ?_
      refine cl (hc N1 w3 t.cls hF3 c0 c1 R3) ?_
      rintro v w4 S4
      exact ih hlt ⟨rfl,go S4⟩
  · have et:tcl t=[]:=if_neg h24
    have e2:(l.take (j+1)).flatMap tcl=(l.take j).flatMap tcl:=by rw [flatMap_snoc ht,et,List.append_nil]
    refine spt (I 0) ?_ (hb:=by simp;omega)
    refine ld (x3.cell rfl) ?_
    refine brf ?_ (hp:=by simp;omega)
    refine ih hlt ⟨rfl,N1,R3,?_,C3⟩
    rw [e2];exact D1
theorem sucC_at {m:Mod} {k:Nat} {x:MC} (h:m.classes[k]? = some x):sucC m k=(if 0≤x.super then [x.super] else [])++x.fields.flatMap tcl:=by
  unfold sucC
  rw [Int.toNat_natCast,h];rfl
theorem k_rclass (m:Mod) (a:MA) (P:ModP m) (br b0 b1 b2:Nat) (M0 M2:MpI Bool):∀ (F:Nat),ClassAt m a br b0 b1 b2 M0 M2 F
  | 0=>fun M1 w n hF _ _ _=>by omega
  | F+1=>fun M1 w n hF h0 hn hR=>by
    have hc:=k_rclass m a P br b0 b1 b2 M0 M2 F
    obtain ⟨k,rfl⟩:=Int.eq_ofNat_of_zero_le h0
    obtain ⟨x,hx⟩:=some_of_lt (l:=m.classes) (k:=k) (by omega)
    have C:=P.cls k x hx
    have q1:=hR.mod.cls.big
    refine entr (vs:=[.pointer (some ⟨br,0,none⟩),I k]) [0,1,4,10,26] tabok Tryz.func137 (by kernel_rfl) ?_
    refine ld (hR.box.cell rfl) ?_
    refine lki tIB hR.m1 ?_
    rw [hR.t1.look]
    by_cases hv:getI M1 (k:Int)=some true
    · refine brT ?_ (hp:=hv)
      exact rt (vs:=[]) ⟨M1,hR,Dfs.refl m fun y e=>by subst e;exact hv,Chg.refl _ _⟩
    refine brF ?_ (hp:=hv)
    refine ld (hR.box.cell rfl) ?_
    refine mui true tIB hR.m1 fun w1 k1 hM1 => ?_
    have R1:=hR.put1 k1 hM1
    have C1:Chg (mapsB b0 b1 b2) w w1:=k1.chg (.inr (.inl rfl))
    have hF1:left m.classes.length (putI M1 (k:Int) true)<F:=by
      have:=left_put (N:=m.classes.length) h0 hn hv
      omega
    refine ld (R1.box.cell rfl) ?_
    obtain ⟨x',b,o,cs,hx',e2,_,hAt,a3,c3,a4,c4,rfl,f1,f2,_⟩:=at_some R1.mod.cls (i:=k) (by omega)
    obtain rfl:x'=x:=by rw [hx] at hx';exact (Option.some.inj hx').symm
    rw [e2]
    refine ix ?_
    refine ld (hAt 1 _ rfl) ?_
    have hsuc:=sucC_at hx
    have fin:∀ {w4:World} {N1:MpI Bool},RcS m a br b0 b1 b2 w4 M0 N1 M2→Dfs m (· ∈ suc m (.c k)) (fun y=>vis M0 M1 M2 y∨y = .c k) (vis M0 N1 M2)→Chg (mapsB b0 b1 b2) w w4→StepC m a br b0 b1 b2 w M0 M1 M2 (· = .c k) w4:=fun r d c=>⟨_,r,d.node,c⟩
    have hfl:∀ t∈x'.fields,∀ c∈tcl t,0≤c∧c<m.classes.length:=fun t ht c hcc=>tcl_in (C.ft t ht) hcc
    by_cases hs:0≤x'.super
    · refine brT ?_ (hp:=hs)
      have hs2:=C.s2
      refine cl (hc _ w1 x'.super hF1 hs (by omega) R1) ?_
      rintro v2 w2 ⟨N2,R2,D2,C2⟩
      have K2:=R1.kp C2
      refine ld (R2.box.cell rfl) ?_
      rw [e2]
      refine ix ?_
      refine ld ((hAt.kp K2 trivial) 2 _ rfl) ?_
      refine cl (k_rtypes m a br b0 b1 b2 M0 M2 F hc N2 w2 (Nat.lt_of_le_of_lt (left_mono fun n q=>D2.mono (.c n) q) hF1) R2 x'.fields a3 c3 (f1.kp K2) hfl) ?_
      rintro v3 w3 ⟨N3,R3,D3,C3⟩
      refine en (vs:=[]) (fin R3 (((D2.trans D3).congr fun y => ?_).from (vis_put1 (k:Int))) ((C1.trans C2).trans C3))
      simp only [suc,hsuc,if_pos hs,clsN,List.mem_map,List.mem_append,List.mem_singleton]
      constructor
      · rintro (e | ⟨c,hc,e⟩)
        · exact ⟨_,.inl rfl,e.symm⟩
        · exact ⟨c,.inr hc,e.symm⟩
      · rintro ⟨c,rfl | hc,e⟩
        · exact .inl e.symm
        · exact .inr ⟨c,hc,e.symm⟩
    · refine brF ?_ (hp:=hs)
      refine ld (R1.box.cell rfl) ?_
      rw [e2]
      refine ix ?_
      refine ld (hAt 2 _ rfl) ?_
      refine cl (k_rtypes m a br b0 b1 b2 M0 M2 F hc _ w1 hF1 R1 x'.fields a3 c3 f1 hfl) ?_
      rintro v3 w3 ⟨N3,R3,D3,C3⟩
      refine en (vs:=[]) (fin R3 ((D3.congr fun y => ?_).from (vis_put1 (k:Int))) (C1.trans C3))
      simp only [suc,hsuc,if_neg hs,clsN,List.mem_map,List.nil_append]
      constructor
      · rintro ⟨c,hc,e⟩;exact ⟨c,hc,e.symm⟩
      · rintro ⟨c,hc,e⟩;exact ⟨c,hc,e.symm⟩
end Go.Proofs.YtkmdfjpafkcleaaGreatDoor
namespace Go.Proofs.YtkmdfjpafkcleaaGreatDoor
open Eng Go.RowKit
section
variable {m:Mod} {a:MA} {br b0 b1 b2:Nat} {w w':World} {M0 M1 M2:MpI Bool}
theorem s_class (P:ModP m) (hR:RcS m a br b0 b1 b2 w M0 M1 M2) {n:Int} (h0:0≤n) (hn:n<m.classes.length) :
    Ret Tryz.prog 137 #[.pointer (some ⟨br,0,none⟩),I n] w fun _ w'=>StepC m a br b0 b1 b2 w M0 M1 M2 (· = .c n) w' :=
  k_rclass m a P br b0 b1 b2 M0 M2 (left m.classes.length M1+1) M1 w n (Nat.lt_succ_self _) h0 hn hR
theorem s_types (P:ModP m) (hR:RcS m a br b0 b1 b2 w M0 M1 M2) {l:List Ty} {al:Option Addr} {ce:Nat} (hS:Sl eTy T w al l) (hl:∀ t∈l,∀ c∈tcl t,0≤c∧c<m.classes.length) :
    Ret Tryz.prog 136 #[.pointer (some ⟨br,0,none⟩),.slice al l.length ce] w fun _ w'=>StepC m a br b0 b1 b2 w M0 M1 M2 (clsN (l.flatMap tcl)) w' :=
  k_rtypes m a br b0 b1 b2 M0 M2 _ (k_rclass m a P br b0 b1 b2 M0 M2 (left m.classes.length M1+1)) M1 w (Nat.lt_succ_self _) hR l al ce hS hl
end
theorem Chg.kb {bs:Nat→Prop} {w w':World} (h:Chg bs w w'):Kb (fun b=>¬bs b) w w':=⟨fun i s hi=>h.block i hi s⟩
theorem RcS.nomap {m:Mod} {a:MA} {br b0 b1 b2:Nat} {w:World} {M0 M1 M2:MpI Bool} (h:RcS m a br b0 b1 b2 w M0 M1 M2) {b o:Nat} {v:Value} (x:w.cell? ⟨b,o,none⟩=some v):¬mapsB b0 b1 b2 b:=by
  have no:∀ {b':Nat} {M:MpI Bool},MapIsI Value.bool w b' M→b≠b':=fun q e=>by
    subst e
    obtain ⟨es,clock,h1,_⟩:=q.is
    simp [World.cell?,h1] at x
  exact fun q=>q.elim (no h.m0) fun q=>q.elim (no h.m1) (no h.m2)
def insN (i:Ins):List Nd:=(insC i).map .c++(insS i).map .s
def StepA (m:Mod) (a:MA) (br b0 b1 b2:Nat) (w:World) (M0 M1 M2:MpI Bool) (R:Nd→Prop) (w':World):Prop :=
  ∃ N0 N1 N2,RcS m a br b0 b1 b2 w' N0 N1 N2∧Dfs m R (vis M0 M1 M2) (vis N0 N1 N2)∧Chg (mapsB b0 b1 b2) w w'
def MethAt (m:Mod) (a:MA) (br b0 b1 b2:Nat) (F:Nat):Prop :=
  ∀ (M0 M1 M2:MpI Bool) (w:World) (n:Int),left m.methods.length M0<F→0≤n→n<m.methods.length→RcS m a br b0 b1 b2 w M0 M1 M2 →
    Ret Tryz.prog 77 #[.pointer (some ⟨br,0,none⟩),I n] w fun _ w'=>StepA m a br b0 b1 b2 w M0 M1 M2 (· = .m n) w'
theorem two_ty {w w':World} {b:Nat} {t:Ty} (h:New w b 51 [I t.kind,I t.cls] w'):Sl eTy T w' (some ⟨b,0,none⟩) [t] :=
  owp_sl (l:=[t]) (enc:=encTy) (sz:=2) (Ow.made (n:=1) h rfl (by omega)) (by simp) fun _ _=>trivial
set_option maxHeartbeats 4000000 in
theorem k_rmethod (m:Mod) (a:MA) (P:ModP m) (br b0 b1 b2:Nat) (F:Nat):MethAt m a br b0 b1 b2 F:=by
  induction F with
  | zero=>intro M0 M1 M2 w n hF;omega
  | succ F hme =>
    intro M0 M1 M2 w n hF h0 hn hR
    obtain ⟨k,rfl⟩:=Int.eq_ofNat_of_zero_le h0
    obtain ⟨x,hx⟩:=some_of_lt (l:=m.methods) (k:=k) (by omega)
    have M:=P.mth k x hx
    have q1:=hR.mod.mth.big
    have q2:=hR.mod.sta.big
    refine entr (vs:=[.pointer (some ⟨br,0,none⟩),I k]) [0,1,4,6,8,14,38,39,40,41,45,46,53,59,69,96,97,98,99] tabok Tryz.func77 (by kernel_rfl) ?_
    refine ld (hR.box.cell rfl) ?_
    refine lki tIB hR.m0 ?_
    rw [hR.t0.look]
    by_cases hv:getI M0 (k:Int)=some true
    · refine brT ?_ (hp:=hv)
      exact rt (vs:=[]) ⟨M0,M1,M2,hR,Dfs.refl m fun y e=>by subst e;exact hv,Chg.refl _ _⟩
    refine brF ?_ (hp:=hv)
    refine ld (hR.box.cell rfl) ?_
    refine mui true tIB hR.m0 fun w1 k1 hM1 => ?_
    have R1:=hR.put0 k1 hM1
    have C1:Chg (mapsB b0 b1 b2) w w1:=k1.chg (.inl rfl)
    have hF1:left m.methods.length (putI M0 (k:Int) true)<F:=by
      have:=left_put (N:=m.methods.length) h0 hn hv
      omega
    generalize hM0:putI M0 (k:Int) true=N0 at R1 hM1 hF1
    refine ld (R1.box.cell rfl) ?_
    obtain ⟨x',b,o,cs,hx',e2,_,hAt,a1,d1,a2,d2,a3,d3,rfl,f1,f2,f3,_⟩:=at_some R1.mod.mth (i:=k) (by omega)
    obtain rfl:x'=x:=by rw [hx] at hx';exact (Option.some.inj hx').symm
    have g1:=f1.big
    have g2:=f2.big
    have g3:=f3.big
    rw [e2]
    refine ix ?_
    refine lda hAt ?_
    refine al fun b4 w2 k2 => ?_
    refine sta (cs':=mmcells x' a1 d1 a2 d2 a3 d3) k2.box fun w3 k3 x3 => ?_
    have B13:=k2.wr k3
    have R3:=R1.bl B13
    have C3:=C1.trans (B13.chg (mapsB b0 b1 b2))
    have hcode:=codeE_len M.cd
    refine lda x3.at ?_
    refine cl (k_locals x' a1 d1 a2 d2 a3 d3 w3 (f1.bl B13) (f2.bl B13)) ?_ (hm:=fun _ _ r=>by obtain ⟨_,_,_,_,hB⟩:=r;exact mdW_bl hB)
    rintro _ w4 ⟨a4,c4,rfl,O4,B34⟩
    have R4:=R3.bl B34
    have C4:=C3.trans (B34.chg (mapsB b0 b1 b2))
    have hll:(locM x').length≤4194304:=by
      have h1:=M.ll
      have h2:=selfM_len x'
      rw [locM_eq,List.length_append,List.length_append]
      split at h1 <;> omega
    have hty:∀ t∈locM x',∀ c∈tcl t,0≤c∧c<m.classes.length:=fun t ht c hc=>needC_in P hx (by
      unfold needC
      simp only [List.mem_append,List.mem_flatMap]
      exact .inl ⟨t,.inl ht,hc⟩)
    refine cl (s_types P R4 (ce:=c4) (owp_sl (S:=T) O4 hll fun _ _=>trivial) hty) ?_
    rintro v5 w5 ⟨M15,R5,D5,C5⟩
    have C05:=C4.trans C5
    have x5:=(x3.at.bl B34).kp (R4.kp C5) trivial
    refine lda (At.left (cs:=encTy x'.result) x5.tail.tail.tail.tail) ?_
    refine bs (cs:=encTy x'.result) fun b6 w6 k6 => ?_
    have R6:=R5.bl k6.bl
    have C06:=C05.trans (k6.bl.chg (mapsB b0 b1 b2))
    refine cl (s_types P R6 (l:=[x'.result]) (ce:=1) (two_ty k6) (fun t ht c hc=>by
      obtain rfl:=List.mem_singleton.1 ht
      exact tcl_in M.rt hc)) ?_
    rintro v7 w7 ⟨M17,R7,D7,C7⟩
    have C07:=C06.trans C7
    have x7:=(x5.bl k6.bl).kp (R6.kp C7) trivial
    have S7:Sl eIns T w7 a3 x'.code:=(((((f3.bl B13).bl B34).kp (R4.kp C5)).bl k6.bl)).kp (R6.kp C7)
    have D07:=D5.trans D7
    refine ld (x7 6 _ rfl) ?_
    obtain ⟨L0,hL0⟩:∃ L:List Nd,L=((locM x'++[x'.result]).flatMap tcl).map .c:=⟨_,rfl⟩
    have D07:Dfs m (· ∈ L0) (vis N0 M1 M2) (vis N0 M17 M2):=D07.congr fun y=>by
      rw [hL0]
      simp only [clsN,List.flatMap_append,List.map_append,List.mem_append,List.mem_map,eq_comm (b:=y)]
    refine lpk x'.code.length 40 [] [(0,.pointer (some ⟨br,0,none⟩)),(1,I k),(38,.slice a3 x'.code.length d3),(39,I x'.code.length)] (fun j vals w'=>vals=[]∧StepA m a br b0 b1 b2 w7 N0 M17 M2 (· ∈ (x'.code.take j).flatMap insN) w') ⟨rfl,N0,M17,M2,R7,Dfs.refl m fun y hy=>by simp at hy,Chg.refl _ _⟩ ?_
    rintro j vals w8 hj ⟨rfl,Q0,Q1,Q2,R8,D8,C8⟩ ih
    by_cases hlt:j<x'.code.length
    · refine brT ?_
      obtain ⟨i,bi,oi,ci,hi,rfl,_,hAi,rfl⟩:=at_some (S7.kp (R7.kp C8)) hlt
      have him:=List.mem_of_getElem? hi
      have hop:=M.op i him
      have hv:=code_all M.cd i him
      refine ix ?_
      refine lda hAi ?_
      refine al fun b9 w9 k9 => ?_
      refine sta (cs':=encIns i) k9.box fun w10 k10 x10 => ?_
      have B810:=k9.wr k10
      have R10:=R8.bl B810
      have C10:=C8.trans (B810.chg (mapsB b0 b1 b2))
      have hsn:=flatMap_snoc (f:=insN) hi
      refine ld (x10.cell rfl) ?_
      have goC:∀ {w4:World} {c:Int},insN i=[.c c]→StepC m a br b0 b1 b2 w10 Q0 Q1 Q2 (· = .c c) w4→StepA m a br b0 b1 b2 w7 N0 M17 M2 (· ∈ (x'.code.take (j+1)).flatMap insN) w4:=fun e ⟨N2,r,d,c⟩ =>
        ⟨Q0,N2,Q2,r,(D8.trans d).congr fun y=>by rw [hsn,e,List.mem_append,List.mem_singleton],C10.trans c⟩
      have h30:∀ {c:Int},c∈insC i→0≤c∧c<m.classes.length:=fun hc=>insC_in hop hv hc
      by_cases h14:i.op=14
      · have ec:insC i=[i.a]:=by unfold insC;rw [if_neg (by omega),if_pos (.inl h14)]
        have en:insN i=[.c i.a]:=by unfold insN insS;rw [ec,if_neg (by omega)];rfl
        obtain ⟨c0,c1⟩:=h30 (by rw [ec];exact List.mem_singleton.2 rfl)
        refine brT ?_ (hp:=h14)
        refine brT ?_ (hp:=h14)
        refine ld (x10.cell rfl) ?_
        refine cl (s_class P R10 c0 c1) ?_
        rintro v w11 S11
        exact ih hlt ⟨rfl,goC en S11⟩
      refine brF ?_ (hp:=h14)
      by_cases h24:i.op=24
      · have ec:insC i=[i.a]:=by unfold insC;rw [if_neg (by omega),if_pos (.inr h24)]
        have en:insN i=[.c i.a]:=by unfold insN insS;rw [ec,if_neg (by omega)];rfl
        obtain ⟨c0,c1⟩:=h30 (by rw [ec];exact List.mem_singleton.2 rfl)
        refine brT ?_ (hp:=h24)
        refine ld (x10.cell rfl) ?_
        refine cl (s_class P R10 c0 c1) ?_
        rintro v w11 S11
        exact ih hlt ⟨rfl,goC en S11⟩
      refine brF ?_ (hp:=h24)
      by_cases h16:i.op=16
      · have ec:insC i=[i.b]:=by unfold insC;rw [if_neg (by omega),if_neg (by omega),if_pos h16]
        have en:insN i=[.c i.b]:=by unfold insN insS;rw [ec,if_neg (by omega)];rfl
        obtain ⟨c0,c1⟩:=h30 (by rw [ec];exact List.mem_singleton.2 rfl)
        refine brT ?_ (hp:=h16)
        refine ld (x10.cell rfl) ?_
        refine cl (s_class P R10 c0 c1) ?_
        rintro v w11 S11
        exact ih hlt ⟨rfl,goC en S11⟩
      refine brF ?_ (hp:=h16)
      by_cases h12:i.op=12
      · have ec:insC i=tcl ⟨i.a,i.b⟩:=by unfold insC;rw [if_pos h12]
        have en:insN i=(tcl ⟨i.a,i.b⟩).map .c:=by unfold insN insS;rw [ec,if_neg (by omega)];simp
        refine brT ?_ (hp:=h12)
        refine ld (x10.cell rfl) ?_
        refine ld (x10.cell rfl) ?_
        refine bd (cs:=[I i.a,I i.b]) ?_
        refine bs (cs:=[I i.a,I i.b]) fun b11 w11 k11 => ?_
        have R11:=R10.bl k11.bl
        refine cl (s_types P R11 (l:=[⟨i.a,i.b⟩]) (ce:=1) (two_ty k11) (fun t ht c hc=>by
          obtain rfl:=List.mem_singleton.1 ht
          exact h30 (by rw [ec];exact hc))) ?_
        rintro v w12 ⟨N2,r,d,c⟩
        refine ih hlt ⟨rfl,Q0,N2,Q2,r,(D8.trans d).congr fun y => ?_,(C10.trans (k11.bl.chg _)).trans c⟩
        rw [hsn,en,List.mem_append]
        simp only [clsN,List.flatMap_cons,List.flatMap_nil,List.append_nil,List.mem_map,eq_comm (b:=y)]
      refine brF ?_ (hp:=h12)
      have ec:insC i=[]:=by unfold insC;rw [if_neg h12,if_neg (by omega),if_neg h16]
      have sta:(i.op=22∨i.op=23)→∃ (j':Nat) (t:Ty),i.a=j'∧m.statics[j']? = some t∧insN i=[.s i.a]:=fun h=>by
        have es:insS i=[i.a]:=if_pos h
        obtain ⟨s0,s1⟩:=insS_in hop hv (c:=i.a) (by rw [es];exact List.mem_singleton.2 rfl)
        obtain ⟨j',ej⟩:=Int.eq_ofNat_of_zero_le s0
        obtain ⟨t,ht⟩:=some_of_lt (l:=m.statics) (k:=j') (by omega)
        exact ⟨j',t,ej,ht,by unfold insN;rw [ec,es];rfl⟩
      have goS:∀ {w4 w5:World} {N1:MpI Bool} {j':Nat} {t:Ty},i.a=j'→m.statics[j']? = some t→insN i=[.s i.a]→Chg (mapsB b0 b1 b2) w10 w4→RcS m a br b0 b1 b2 w5 Q0 N1 (putI Q2 i.a true)→Dfs m (clsN ([t].flatMap tcl)) (vis Q0 Q1 (putI Q2 i.a true)) (vis Q0 N1 (putI Q2 i.a true))→Chg (mapsB b0 b1 b2) w4 w5 →
          StepA m a br b0 b1 b2 w7 N0 M17 M2 (· ∈ (x'.code.take (j+1)).flatMap insN) w5:=fun {w4 w5 N1 j' t} ej ht e ca r d c=>by
        refine ⟨Q0,N1,_,r,(D8.trans ((d.congr fun y => ?_).from (vis_put2 i.a)).node).congr fun y => ?_,(C10.trans ca).trans c⟩
        · simp only [suc,staC,ej,Int.toNat_natCast,ht,Option.map_some,Option.getD_some,clsN,List.flatMap_cons,List.flatMap_nil,List.append_nil,List.mem_map,eq_comm (b:=y)]
        · rw [hsn,e,List.mem_append,List.mem_singleton]
      by_cases h22:i.op=22
      · obtain ⟨j',t,ej,ht,en⟩:=sta (.inl h22)
        refine brT ?_ (hp:=h22)
        refine brT ?_ (hp:=h22)
        refine dt 1 fun w11 k11 => ?_
        refine ld ((k11.box R10.box).cell rfl) ?_
        refine ld ((k11.box x10).cell rfl) ?_
        refine mui true tIB (R10.bl k11.bl).m2 fun w12 k12 hM12 => ?_
        have R12:=(R10.bl k11.bl).put2 k12 hM12
        have x12:=(k12.chg (bs:=(· = b2)) rfl).box (k11.box x10) ((R10.bl k11.bl).m2.ne (k11.box x10)).symm
        refine dh (fun b=>¬mapsB b0 b1 b2 b) (List.range 12) fun w13 k13 => ?_
        have R13:=R12.bl k13.bl
        refine ld (R13.box.cell rfl) ?_ (hm:=R13.nomap (R13.box.cell (o:=0) rfl))
        refine ld ((k13.box x12).cell rfl) ?_ (hm:=R13.nomap ((k13.box x12).cell (o:=0) rfl))
        obtain ⟨t',bt,ot,ct,ht',et,_,hAt',rfl⟩:=at_some R13.mod.sta (i:=j') (List.getElem?_eq_some_iff.1 ht).1
        obtain rfl:t'=t:=by rw [ht] at ht';exact (Option.some.inj ht').symm
        rw [et]
        refine ix (hij:=ej) ?_ (hb:=(List.getElem?_eq_some_iff.1 ht).1)
        refine lda hAt' ?_ (hm:=R13.nomap (hAt' 0 _ rfl))
        refine bs (cs:=encTy t') fun b14 w14 k14 => ?_
        have R14:=R13.bl k14.bl
        refine cl (s_types P R14 (l:=[t']) (ce:=1) (two_ty k14) (fun t2 ht2 c hc=>by
          obtain rfl:=List.mem_singleton.1 ht2
          exact tcl_in (P.sta _ (List.mem_of_getElem? ht)) hc)) ?_ (hm:=fun _ _ r=>by obtain ⟨_,_,_,hC⟩:=r;exact hC.kb)
        rintro v w15 ⟨N2,r,d,c⟩
        exact ih hlt ⟨rfl,goS ej ht en (((k11.bl.chg _).trans (k12.chg (.inr (.inr rfl)))).trans ((k13.bl.chg _).trans (k14.bl.chg _))) r d c⟩
      refine brF ?_ (hp:=h22)
      by_cases h23:i.op=23
      · obtain ⟨j',t,ej,ht,en⟩:=sta (.inr h23)
        refine brT ?_ (hp:=h23)
        refine dt 1 fun w11 k11 => ?_
        refine ld ((k11.box R10.box).cell rfl) ?_
        refine ld ((k11.box x10).cell rfl) ?_
        refine mui true tIB (R10.bl k11.bl).m2 fun w12 k12 hM12 => ?_
        have R12:=(R10.bl k11.bl).put2 k12 hM12
        have x12:=(k12.chg (bs:=(· = b2)) rfl).box (k11.box x10) ((R10.bl k11.bl).m2.ne (k11.box x10)).symm
        refine dh (fun b=>¬mapsB b0 b1 b2 b) (List.range 12) fun w13 k13 => ?_
        have R13:=R12.bl k13.bl
        refine ld (R13.box.cell rfl) ?_ (hm:=R13.nomap (R13.box.cell (o:=0) rfl))
        refine ld ((k13.box x12).cell rfl) ?_ (hm:=R13.nomap ((k13.box x12).cell (o:=0) rfl))
        obtain ⟨t',bt,ot,ct,ht',et,_,hAt',rfl⟩:=at_some R13.mod.sta (i:=j') (List.getElem?_eq_some_iff.1 ht).1
        obtain rfl:t'=t:=by rw [ht] at ht';exact (Option.some.inj ht').symm
        rw [et]
        refine ix (hij:=ej) ?_ (hb:=(List.getElem?_eq_some_iff.1 ht).1)
        refine lda hAt' ?_ (hm:=R13.nomap (hAt' 0 _ rfl))
        refine bs (cs:=encTy t') fun b14 w14 k14 => ?_
        have R14:=R13.bl k14.bl
        refine cl (s_types P R14 (l:=[t']) (ce:=1) (two_ty k14) (fun t2 ht2 c hc=>by
          obtain rfl:=List.mem_singleton.1 ht2
          exact tcl_in (P.sta _ (List.mem_of_getElem? ht)) hc)) ?_ (hm:=fun _ _ r=>by obtain ⟨_,_,_,hC⟩:=r;exact hC.kb)
        rintro v w15 ⟨N2,r,d,c⟩
        exact ih hlt ⟨rfl,goS ej ht en (((k11.bl.chg _).trans (k12.chg (.inr (.inr rfl)))).trans ((k13.bl.chg _).trans (k14.bl.chg _))) r d c⟩
      refine brF ?_ (hp:=h23)
      have en:insN i=[]:=by unfold insN insS;rw [ec,if_neg (by omega)];rfl
      refine ih hlt ⟨rfl,Q0,Q1,Q2,R10,D8.congr fun y => ?_,C10⟩
      rw [hsn,en,List.append_nil]
    refine brF ?_
    obtain rfl:j=x'.code.length:=by omega
    rw [List.take_length] at D8
    clear ih
    refine lda (At.left (cs:=modcells m a) R8.box.at) ?_
    refine cl (k_calls m a k P (by omega) w8 R8.mod) ?_ (hm:=fun _ _ r=>by obtain ⟨_,_,_,_,hB⟩:=r;exact mdW_bl hB)
    rintro _ w9 ⟨a9,c9,rfl,O9,B89⟩
    have hcl:=calM_len P (k:=k) (by omega)
    have S9:Sl eInt T w9 a9 (calM m k):=owp_sl O9 (by omega) fun _ _=>trivial
    have R9:=R8.bl B89
    have C9:=C8.trans (B89.chg (mapsB b0 b1 b2))
    have hF9:left m.methods.length Q0<F:=Nat.lt_of_le_of_lt (left_mono fun n q=>D8.mono (.m n) (D07.mono (.m n) q)) hF1
    refine lpk (calM m k).length 98 [] [(0,.pointer (some ⟨br,0,none⟩)),(96,.slice a9 (calM m k).length c9),(97,I (calM m k).length)] (fun j vals w'=>vals=[]∧StepA m a br b0 b1 b2 w9 Q0 Q1 Q2 (fun y=>∃ c∈(calM m k).take j,y = .m c) w') ⟨rfl,Q0,Q1,Q2,R9,Dfs.refl m fun y hy=>by simp at hy,Chg.refl _ _⟩ ?_
    rintro j vals w10 hj ⟨rfl,T0,T1,T2,R10,D10,C10⟩ ih
    by_cases hlt:j<(calM m k).length
    · refine brT ?_
      obtain ⟨c,bc,oc,cc,hc,rfl,_,hAc,rfl⟩:=at_some (S9.kp (R9.kp C10)) hlt
      obtain ⟨g0,g1⟩:=calM_lt P hx (List.mem_of_getElem? hc)
      refine ix ?_
      refine ld (hAc 0 _ rfl) ?_
      refine cl (hme T0 T1 T2 w10 c (Nat.lt_of_le_of_lt (left_mono fun n q=>D10.mono (.m n) q) hF9) g0 (by omega) R10) ?_
      rintro v w11 ⟨U0,U1,U2,R11,D11,C11⟩
      refine ih hlt ⟨rfl,U0,U1,U2,R11,(D10.trans D11).congr fun y => ?_,C10.trans C11⟩
      rw [take_succ_some hc]
      constructor
      · rintro (⟨d,hd,e⟩ | e)
        · exact ⟨d,List.mem_append_left _ hd,e⟩
        · exact ⟨c,List.mem_append_right _ (List.mem_singleton.2 rfl),e⟩
      · rintro ⟨d,hd,e⟩
        rcases List.mem_append.1 hd with hd | hd
        · exact .inl ⟨d,hd,e⟩
        · obtain rfl:=List.mem_singleton.1 hd;exact .inr e
    · refine brF ?_
      obtain rfl:j=(calM m k).length:=by omega
      rw [List.take_length] at D10
      refine en (vs:=[]) ⟨T0,T1,T2,R10,Dfs.node ((((D07.trans D8).trans D10).congr fun y => ?_).from fun y => ?_),(C07.trans C9).trans C10⟩
      · rw [hL0]
        simp only [suc,mths_at hx,needC,needS,Int.toNat_natCast,List.map_append,List.mem_append,List.mem_map,List.mem_flatMap,insN]
        constructor
        · rintro ((⟨c,hc,rfl⟩ | ⟨i,hi,⟨c,hc,rfl⟩ | ⟨c,hc,rfl⟩⟩) | ⟨c,hc,rfl⟩)
          · exact .inl (.inl (.inl ⟨c,hc,rfl⟩))
          · exact .inl (.inl (.inr ⟨c,⟨i,hi,hc⟩,rfl⟩))
          · exact .inl (.inr ⟨c,⟨i,hi,hc⟩,rfl⟩)
          · exact .inr ⟨c,hc,rfl⟩
        · rintro (((⟨c,hc,rfl⟩ | ⟨c,⟨i,hi,hc⟩,rfl⟩) | ⟨c,⟨i,hi,hc⟩,rfl⟩) | ⟨c,hc,rfl⟩)
          · exact .inl (.inl ⟨c,hc,rfl⟩)
          · exact .inl (.inr ⟨i,hi,.inl ⟨c,hc,rfl⟩⟩)
          · exact .inl (.inr ⟨i,hi,.inr ⟨c,hc,rfl⟩⟩)
          · exact .inr ⟨c,hc,rfl⟩
      · rw [←hM0];exact vis_put0 (k:Int) y
end Go.Proofs.YtkmdfjpafkcleaaGreatDoor
