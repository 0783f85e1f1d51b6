import Derived.Test.YtkmdfjpafkcleaaGreatDoorM5
import Derived.Test.YtkmdfjpafkcleaaGreatDoorM2
import Derived.Test.YtkmdfjpafkcleaaGreatDoorM3
/- Walks: what roots reach, in the program: the keys of a map in order; Reach. -/
namespace Go.Proofs.YtkmdfjpafkcleaaGreatDoor
open Eng Go.RowKit
theorem range_runI {P:Program} {T et:TypeId} {z:Value} (ht:MapTI P T et z) {w:World} {b:Nat} {es:Array MapEntry} {clock:Nat} (hb:w.heap[b]? = some (.map es clock)) :
    (Instr.range T (.map (some b))).run P w = .ok (.pointer (some ⟨w.heap.size,0,none⟩)) (w.alloc (.mapIter (some b) clock #[] clock)):=by
  obtain ⟨kt,h1,_⟩:=ht.kt
  exact run_range_map w T kt et b es clock h1 hb
theorem Eng.rgi {C:Cx} {s:St} {w:World} {ops:Array Oper} {T et:TypeId} {z:Value} {x:Operand} {d:Nat} {ty:TypeId} {pos:String} {af:Array Edge} {g:Option (Nat×Bool)} {rest:List Oper} {k:List Item} {l:Env} {c:CEnv} {b:Nat} {es:Array MapEntry} {clock:Nat}
    (ht:MapTI C.P T et z) (hM:w.heap[b]? = some (.map es clock)) (h:∀ it w',it=w.heap.size→Bl w w'→w'.heap[it]? = some (.mapIter (some b) clock #[] clock)→Wk C (.reg none ops rest k ((d,.pointer (some ⟨it,0,none⟩))::l) c) w')
    (hs:adv C.tab C.n C.ks 400 s = .opn none ops ⟨some d,.range T x,ty,pos,af,g⟩ rest k l c []:=by rfl) (hx:evc l c [] x=some (.map (some b)):=by rfl) (hf:fresh d l c []=true:=by rfl):Wk C s w :=
  op_val (md:=none) (v := .pointer (some ⟨w.heap.size,0,none⟩)) (w':=w.alloc (.mapIter (some b) clock #[] clock)) rfl (show True from trivial) (fun _ a hA=>by
    simp only [execOp,evc_ok hA.k hA.kc.c (p:=[]) trivial hx]
    exact (run_bind_ok (range_runI ht hM)).trans rfl) (h _ _ rfl ((Below.refl _ _).alloc (Nat.le_refl _) _) (by show (w.heap.push _)[w.heap.size]? = _;simp)) hs rfl hf
theorem nodup_map_inj {α β:Type} {f:α→β}:∀ {l:List α},(l.map f).Nodup→∀ x∈l,∀ y∈l,f x=f y→x=y
  | [],_,_,h,_,_,_=>by cases h
  | z::l,hn,x,hx,y,hy,e=>by
    rw [List.map_cons,List.nodup_cons] at hn
    rcases List.mem_cons.1 hx with rfl | hx'
    · rcases List.mem_cons.1 hy with rfl | hy'
      · rfl
      · exact absurd (List.mem_map.2 ⟨y,hy',e.symm⟩) hn.1
    · rcases List.mem_cons.1 hy with rfl | hy'
      · exact absurd (List.mem_map.2 ⟨x,hx',e⟩) hn.1
      · exact nodup_map_inj hn.2 x hx' y hy' e
theorem nodup_map_of {α β:Type} {f:α→β}:∀ {l:List α},l.Nodup→(∀ x∈l,∀ y∈l,f x=f y→x=y)→(l.map f).Nodup
  | [],_,_=>List.nodup_nil
  | z::l,hn,hi=>by
    rw [List.nodup_cons] at hn
    rw [List.map_cons,List.nodup_cons]
    refine ⟨fun h => ?_,nodup_map_of hn.2 fun x hx y hy=>hi x (List.mem_cons_of_mem _ hx) y (List.mem_cons_of_mem _ hy)⟩
    obtain ⟨y,hy,e⟩:=List.mem_map.1 h
    exact hn.1 (hi y (List.mem_cons_of_mem _ hy) z (List.mem_cons_self ..) e▸hy)
theorem sortI_asc {l:List Int} (h:l.Nodup):AscI (sortI l):=by
  have h1:=sortI_le l
  have h2:(sortI l).Nodup:=(List.mergeSort_perm l _).nodup_iff.2 h
  unfold AscI
  exact (h1.and h2).imp fun ⟨a,b⟩=>by omega
set_option maxHeartbeats 1000000 in
theorem k_ascending (b:Nat) (M:MpI Bool) (w:World) (hM:MapIsI Value.bool w b M) (hl:M.length≤1000000) :
    Ret Tryz.prog 78 #[.map (some b)] w fun v w'=>∃ a c l,v = .slice a l.length c∧AscI l∧(∀ x,x∈l↔x∈keysI M)∧l.length≤M.length∧OwP 1 encInt w' w.heap.size 3 a c l∧Bl w w':=by
  obtain ⟨es,clock,hes,hkv,hst⟩:=hM.is
  have hsz:es.size=M.length:=by have:=congrArg List.length hkv;simpa using this
  have hent:∀ e∈es.toList,∃ n∈keysI M,e.key=I n:=fun e he=>by
    have:kv e∈M.map (kvi Value.bool):=hkv▸List.mem_map.2 ⟨e,he,rfl⟩
    obtain ⟨p,hp,h2⟩:=List.mem_map.1 this
    exact ⟨p.1,List.mem_map.2 ⟨p,hp,rfl⟩,(congrArg Prod.fst h2).symm⟩
  have hback:∀ n∈keysI M,∃ e∈es.toList,e.key=I n:=fun n hn=>by
    obtain ⟨p,hp,rfl⟩:=List.mem_map.1 hn
    have:kvi Value.bool p∈es.toList.map kv:=hkv▸List.mem_map.2 ⟨p,hp,rfl⟩
    obtain ⟨e,he,h2⟩:=List.mem_map.1 this
    exact ⟨e,he,congrArg Prod.fst h2⟩
  refine entr (vs:=[.map (some b)]) [0,2,3,4,6,8] tabok Tryz.func78 (by kernel_rfl) ?_
  refine rgi tIB hes (fun it w1 hit B1 i1 => ?_)
  refine lp (vals:=[.slice none 0 0]) [3] [(6,.pointer (some ⟨it,0,none⟩))]
    (fun q vals w'=>∃ (L:List MapEntry) (l:List Int) (a:Option Addr) (c:Nat),q=(leftOf es (L.map (·.born)).toArray).size∧vals=[.slice a l.length c]∧Bl w w'∧w1.heap.size≤w'.heap.size∧OwP 1 encInt w' w1.heap.size 3 a c l∧w'.heap[it]? = some (.mapIter (some b) clock (L.map (·.born)).toArray clock) ∧
      (∀ e∈L,e∈es.toList)∧L.Nodup∧l.map I=L.map (·.key)∧L.length+q≤es.size)
    ⟨rfl,trivial⟩ ⟨[],[],none,0,rfl,rfl,B1,Nat.le_refl _,Ow.nil ..,i1,fun e h=>(by cases h),List.nodup_nil,rfl,(by
      unfold leftOf
      rw [fsize]
      have:=List.length_filter_le (fun e:MapEntry => !(List.map (·.born) ([]:List MapEntry)).toArray.contains e.born) es.toList
      rw [Array.length_toList] at this
      simpa using this)⟩ ?_
  rintro q vals w2 ⟨L,l,a2,c2,rfl,rfl,B2,z2,O2,i2,hL,hLn,hlL,hLq⟩ ih
  have hlen:l.length=L.length:=by have:=congrArg List.length hlL;simpa using this
  have hes2:w2.heap[b]? = some (.map es clock):=(B2.block b hM.lt).trans hes
  have hbn:=hst.2.1
  refine nx hes2 i2 hst (fun h0 => ?_) (fun e w3 he hw3 i3 => ?_)
  · refine brf ?_
    have hall:∀ e∈es.toList,e∈L:=fun e he=>by
      have:leftOf es (L.map (·.born)).toArray=#[]:=Array.eq_empty_of_size_eq_zero h0
      unfold leftOf at this
      rw [Array.filter_eq_empty_iff] at this
      have:=this e (Array.mem_toList_iff.1 he)
      simp only [List.contains_toArray,Bool.not_eq_true',Bool.not_eq_false] at this
      have h3:e.born∈L.map (·.born):=by simpa using this
      obtain ⟨e',he',hb'⟩:=List.mem_map.1 h3
      have:=nodup_map_inj hbn e' (hL e' he') e he hb'
      exact this▸he'
    have hmem:∀ x,x∈l↔x∈keysI M:=fun x=>by
      constructor
      · intro hx
        have:I x∈L.map (·.key):=hlL▸List.mem_map.2 ⟨x,hx,rfl⟩
        obtain ⟨e,he,hk⟩:=List.mem_map.1 this
        obtain ⟨n,hn,hk2⟩:=hent e (hL e he)
        rw [hk2] at hk
        obtain rfl:=(Value.int.inj hk).2
        exact hn
      · intro hx
        obtain ⟨e,he,hk⟩:=hback x hx
        have:e.key∈l.map I:=hlL▸List.mem_map.2 ⟨e,hall e he,rfl⟩
        obtain ⟨y,hy,hk2⟩:=List.mem_map.1 this
        rw [hk] at hk2
        obtain rfl:=(Value.int.inj hk2).2
        exact hy
    have hnd:l.Nodup:=by
      have h4:(L.map (·.key)).Nodup:=nodup_map_of hLn fun x hx y hy e=>nodup_map_inj hst.2.2 x (hL x hx) y (hL y hy) e
      rw [←hlL] at h4
      exact List.Pairwise.of_map (f:=I) (fun a b hab e=>hab (congrArg _ e)) h4
    refine cl (c_SortI l w1.heap.size a2 c2 w2 O2 (by omega)) ?_ (hm:=by intros;trivial)
    rintro _ w3 ⟨O3,A3⟩
    rw [show l.length=(sortI l).length from (sortI_len _).symm]
    refine rt1 ⟨a2,c2,sortI l,rfl,sortI_asc hnd,fun x => ?_,by rw [sortI_len];omega,O3.base B1.size,Below.trans B2 (A3.below B2.size fun g hg=>by have:=(O2.lt hg).1;have:=B1.size;omega)⟩
    rw [←hmem x]
    exact (List.mergeSort_perm l _).mem_iff
  · have heM:e∈es.toList:=by unfold leftOf at he;simp at he ⊢;exact he.1
    have hnew:¬e∈L:=fun h=>by
      unfold leftOf at he
      simp at he
      exact he.2 e h rfl
    obtain ⟨n,hn,hk⟩:=hent e heM
    have hlt:=left_lt he
    have B3:Bl w w3:=Below.trans B2 (hw3.below (Nat.le_of_eq hit.symm))
    have hes3:w3.heap[b]? = some (.map es clock):=(B3.block b hM.lt).trans hes
    have z1:it<w1.heap.size:=by
      exact (Array.getElem?_eq_some_iff.1 i1).1
    have O3:=O2.wr hw3 fun g hg q=>by have:=(O2.lt hg).1;omega
    have z3:=hw3.size
    refine brt ?_
    refine ety hes3 i3 hst heM ?_
    rw [hk]
    refine bs (cs:=encInt n) fun b4 w4 k4 => ?_
    have z4:=k4.size
    refine apl (l1:=[n]) (O3.bl k4.bl) (.inr ⟨b4,0,rfl,k4.box.at⟩) (by omega) fun a5 c5 w5 O5 A5 _ => ?_
    have hs2:((L++[e]).map (·.born)).toArray=(L.map (·.born)).toArray.push e.born:=by rw [List.map_append,List.push_toArray];rfl
    refine again (ih (leftOf es ((L++[e]).map (·.born)).toArray).size _ _ _ ?_ ⟨rfl,trivial⟩ rfl ⟨L++[e],l++[n],a5,c5,rfl,rfl,?_,by have:=A5.size;omega,O5,?_,?_,?_,?_,?_⟩)
    · rw [hs2];exact hlt
    · exact Below.trans (Below.trans B3 (k4.bl.mono (by have:=B3.size;omega))) (A5.below (by have:=B3.size;omega) fun g hg=>by have:=(O3.lt hg).1;have:=B1.size;omega)
    · rw [hs2,A5.block it (by omega) (fun q=>by have:=(O3.lt q).1;omega),k4.bl.block it (by omega)];exact i3
    · intro e' he'
      rcases List.mem_append.1 he' with h | h
      · exact hL e' h
      · obtain rfl:=List.mem_singleton.1 h;exact heM
    · rw [List.nodup_append]
      exact ⟨hLn,by simp,fun x hx y hy q=>by obtain rfl:=List.mem_singleton.1 hy;subst q;exact hnew hx⟩
    · rw [List.map_append,List.map_append,hlL];simp [hk]
    · rw [hs2,List.length_append];simp only [List.length_singleton];omega
theorem getI_keys {M:MpI Bool} (h:AllT M) (n:Int):getI M n=some true↔n∈keysI M:=by
  have key:∀ (M:MpI Bool),(getI M n).isSome=true↔n∈keysI M:=fun M=>by
    induction M with
    | nil=>simp [getI,keysI]
    | cons p M ih =>
      obtain ⟨k,v⟩:=p
      simp only [getI,keysI,List.map_cons,List.mem_cons]
      by_cases e:k=n
      · simp [e]
      · rw [if_neg e,ih]
        constructor
        · exact .inr
        · rintro (q | q)
          · exact absurd q.symm e
          · exact q
  rw [←key M]
  constructor
  · intro q;rw [q];rfl
  · intro q
    obtain ⟨v,hv⟩:=Option.isSome_iff_exists.1 q
    rw [hv,h n v hv]
theorem nodup_len:∀ (N:Nat) {l:List Int},l.Nodup→(∀ x∈l,0≤x∧x<N)→l.length≤N
  | 0,l,_,h=>by
    cases l with
    | nil=>exact Nat.le_refl _
    | cons x l=>have:=h x (List.mem_cons_self ..);omega
  | N+1,l,hn,h=>by
    by_cases q:(N:Int)∈l
    · have h2:=nodup_len N (l:=l.erase (N:Int)) (hn.erase _) fun x hx=>by
        have h3:=h x (List.mem_of_mem_erase hx)
        have h4:x≠N:=fun e=>by rw [e] at hx;exact (hn.mem_erase_iff.1 hx).1 rfl
        omega
      rw [List.length_erase_of_mem q] at h2
      omega
    · have h2:=nodup_len N hn fun x hx=>by
        have h3:=h x hx
        have h4:x≠N:=fun e=>q (e▸hx)
        omega
      omega
theorem asc_len {N:Nat} {l:List Int} (h:AscI l) (k:∀ x∈l,0≤x∧x<N):l.length≤N:=nodup_len N (h.imp fun q e=>by omega) k
open Classical in
noncomputable def meR (m:Mod) (roots:List Int):List Int:=if askE m m.methods.length roots=0 then meL m roots else []
open Classical in
noncomputable def clR (m:Mod) (roots:List Int):List Int:=if askE m m.methods.length roots=0 then clL m roots else []
open Classical in
noncomputable def stR (m:Mod) (roots:List Int):List Int:=if askE m m.methods.length roots=0 then stL m roots else []
def RchQ (m:Mod) (roots:List Int) (w:World) (v:Value) (w':World):Prop :=
  ∃ a1 c1 a2 c2 a3 c3,v = .tuple #[.slice a1 (meR m roots).length c1,.slice a2 (clR m roots).length c2,.slice a3 (stR m roots).length c3,I (askE m m.methods.length roots)] ∧
    Sl eInt T w' a1 (meR m roots)∧Sl eInt T w' a2 (clR m roots)∧Sl eInt T w' a3 (stR m roots)∧Bl w w'
theorem roots_in {m:Mod} {roots:List Int} (h:askE m m.methods.length roots=0):∀ x,rootsN roots x→NdIn m x:=fun x ⟨k,hk,e⟩=>by subst e;exact (ask_yes h).2 k hk
set_option maxHeartbeats 2000000 in
theorem k_Reach (m:Mod) (a:MA) (roots:List Int) (ar:Option Addr) (cr:Nat) (w:World) (hM:MdR T w m a) (hS:Sl eInt T w ar roots) :
    Ret Tryz.prog 41 #[.agg (modcells m a).toArray,.slice ar roots.length cr] w (RchQ m roots w):=by
  have q1:=hM.mth.big
  have q2:=hS.big
  refine entr (vs:=[.agg (modcells m a).toArray,.slice ar roots.length cr]) [0,1,2,4,5,6,7,8,9,11,19,27,28,29,30] tabok Tryz.func41 (by kernel_rfl) ?_
  refine bx (cs:=modcells m a) fun b1 w1 k1 => ?_
  refine lda k1.box.at ?_
  refine ld (k1.box.cell rfl) ?_
  refine cl (k_asked m a m.methods.length roots ar cr w1 (hM.bl k1.bl) (hS.bl k1.bl)) ?_
  rintro _ w3 ⟨rfl,B13⟩
  have B3:=k1.bl.trans B13
  have x3:=Bl.box B13 k1.box
  by_cases h1:askE m m.methods.length roots=0
  rotate_left
  · have e1:meR m roots=[]:=if_neg h1
    have e2:clR m roots=[]:=if_neg h1
    have e3:stR m roots=[]:=if_neg h1
    rw [ask_n h1]
    refine brt ?_
    refine rt (vs:=[.slice none 0 0,.slice none 0 0,.slice none 0 0,I 1]) ⟨none,0,none,0,none,0,by rw [e1,e2,e3,ask_n h1];rfl,?_,?_,?_,B3⟩
    · rw [e1];exact Sl.nil ..
    · rw [e2];exact Sl.nil ..
    · rw [e3];exact Sl.nil ..
  have e1:meR m roots=meL m roots:=if_pos h1
  have e2:clR m roots=clL m roots:=if_pos h1
  have e3:stR m roots=stL m roots:=if_pos h1
  obtain ⟨hm,hi⟩:=ask_yes h1
  have P:=modP_of hm
  have hrin:=roots_in h1
  refine brf ?_ (hp:=by rw [h1];rfl)
  refine lda x3.at ?_
  refine mm fun b4 w4 k4 => ?_
  refine mm fun b5 w5 k5 => ?_
  refine mm fun b6 w6 k6 => ?_
  refine bd (cs:=modcells m a++[.map (some b4),.map (some b5),.map (some b6)]) ?_
  refine bx (cs:=modcells m a++[.map (some b4),.map (some b5),.map (some b6)]) fun b7 w7 k7 => ?_
  have z4:=k4.size
  have z5:=k5.size
  have z6:=k6.size
  have y4:=k4.blk
  have y5:=k5.blk
  have y6:=k6.blk
  have B37:=((k4.bl.trans k5.bl).trans k6.bl).trans k7.bl
  have B7:=B3.trans B37
  have R7:RcS m a b7 b4 b5 b6 w7 [] [] []:=⟨k7.box,(((k4.isI Value.bool).bl k5.bl).bl k6.bl).bl k7.bl,((k5.isI Value.bool).bl k6.bl).bl k7.bl,(k6.isI Value.bool).bl k7.bl,by omega,by omega,by omega,hM.bl B7,(fun _ _ h=>by cases h),(fun _ _ h=>by cases h),(fun _ _ h=>by cases h)⟩
  have S7:=hS.bl B7
  refine lpk roots.length 29 [] [(9,.pointer (some ⟨b7,0,none⟩)),(27,.slice ar roots.length cr),(28,I roots.length)] (fun j vals w'=>vals=[]∧StepA m a b7 b4 b5 b6 w7 [] [] [] (rootsN (roots.take j)) w') ⟨rfl,[],[],[],R7,Dfs.refl m (fun y hy=>by obtain ⟨c,hc,_⟩:=hy;simp at hc),Chg.refl _ _⟩ ?_
  rintro j vals w8 hj ⟨rfl,T0,T1,T2,R8,D8,C8⟩ ih
  by_cases hlt:j<roots.length
  · refine brT ?_
    obtain ⟨c,bc,oc,cc,hc,rfl,_,hAc,rfl⟩:=at_some (S7.kp (R7.kp C8)) hlt
    obtain ⟨g0,g1⟩:=hi c (List.mem_of_getElem? hc)
    refine ix ?_
    refine ld (hAc 0 _ rfl) ?_
    refine cl (k_rmethod m a P b7 b4 b5 b6 (left m.methods.length T0+1) T0 T1 T2 w8 c (Nat.lt_succ_self _) g0 g1 R8) ?_
    rintro v w9 ⟨U0,U1,U2,R9,D9,C9⟩
    refine ih hlt ⟨rfl,U0,U1,U2,R9,(D8.trans D9).congr fun y => ?_,C8.trans C9⟩
    unfold rootsN
    rw [take_succ_some hc]
    constructor
    · rintro (⟨d,hd,e⟩ | e)
      · exact ⟨d,List.mem_append_left _ hd,e⟩
      · exact ⟨c,List.mem_append_right _ (List.mem_singleton.2 rfl),e⟩
    · rintro ⟨d,hd,e⟩
      rcases List.mem_append.1 hd with hd | hd
      · exact .inl ⟨d,hd,e⟩
      · obtain rfl:=List.mem_singleton.1 hd;exact .inr e
  · refine brF ?_
    clear ih
    obtain rfl:j=roots.length:=by omega
    rw [List.take_length] at D8
    have hall:∀ x,vis T0 T1 T2 x↔Rch m (rootsN roots) x:=fun x=>(D8.from (V0:=fun _=>False) fun y=>by cases y <;> simp [vis,getI]).all x
    have B78:Bl w3 w8:=Below.trans B37 (C8.below B37.size fun b hb=>by
      rcases hb with rfl | rfl | rfl <;> omega)
    have B8:=B3.trans B78
    have n0:T0.length≤m.methods.length:=by
      have:=nodup_len m.methods.length (keysI_nodup R8.m0) fun x hx=>(((hall (.m x)).1 ((getI_keys R8.t0 x).2 hx)).isIn P hrin)
      simpa [keysI] using this
    have n1:T1.length≤m.classes.length:=by
      have:=nodup_len m.classes.length (keysI_nodup R8.m1) fun x hx=>(((hall (.c x)).1 ((getI_keys R8.t1 x).2 hx)).isIn P hrin)
      simpa [keysI] using this
    have n2:T2.length≤m.statics.length:=by
      have:=nodup_len m.statics.length (keysI_nodup R8.m2) fun x hx=>(((hall (.s x)).1 ((getI_keys R8.t2 x).2 hx)).isIn P hrin)
      simpa [keysI] using this
    have hc10:=P.cl
    have hs10:=P.sl
    have hm16:=P.ml
    refine dh T [0,1,2,3,5,6,7,8,10,11,12,13,4,9,14,15,16,17,18] fun w9 k9 => ?_
    have R9:=R8.bl k9.bl
    refine ld (R9.box.cell rfl) ?_ (hm:=trivial)
    refine ld (R9.box.cell rfl) ?_ (hm:=trivial)
    refine ld (R9.box.cell rfl) ?_ (hm:=trivial)
    refine cl (k_ascending b4 T0 w9 R9.m0 (by omega)) ?_ (hm:=fun _ _ r=>by obtain ⟨_,_,_,_,_,_,_,_,hB⟩:=r;exact mdW_bl hB)
    rintro _ w10 ⟨a10,c10,l0,rfl,hl0,hm0,hn0,O10,B910⟩
    refine cl (k_ascending b5 T1 w10 (R9.m1.bl B910) (by omega)) ?_ (hm:=fun _ _ r=>by obtain ⟨_,_,_,_,_,_,_,_,hB⟩:=r;exact mdW_bl hB)
    rintro _ w11 ⟨a11,c11,l1,rfl,hl1,hm1,hn1,O11,B1011⟩
    refine cl (k_ascending b6 T2 w11 ((R9.m2.bl B910).bl B1011) (by omega)) ?_ (hm:=fun _ _ r=>by obtain ⟨_,_,_,_,_,_,_,_,hB⟩:=r;exact mdW_bl hB)
    rintro _ w12 ⟨a12,c12,l2,rfl,hl2,hm2,hn2,O12,B1112⟩
    have f0:l0=meR m roots:=by
      rw [e1]
      exact sel_of hl0 (fun x=>by rw [hm0,←getI_keys R8.t0];exact hall (.m x)) fun x q=>q.isIn P hrin
    have f1:l1=clR m roots:=by
      rw [e2]
      exact sel_of hl1 (fun x=>by rw [hm1,←getI_keys R8.t1];exact hall (.c x)) fun x q=>q.isIn P hrin
    have f2:l2=stR m roots:=by
      rw [e3]
      exact sel_of hl2 (fun x=>by rw [hm2,←getI_keys R8.t2];exact hall (.s x)) fun x q=>q.isIn P hrin
    refine rt (vs:=[.slice a10 l0.length c10,.slice a11 l1.length c11,.slice a12 l2.length c12,I 0]) ⟨a10,c10,a11,c11,a12,c12,by rw [←f0,←f1,←f2,h1];rfl,?_,?_,?_,(((B8.trans k9.bl).trans B910).trans B1011).trans B1112⟩
    · rw [←f0];exact (owp_sl O10 (by omega) fun _ _=>trivial).bl (B1011.trans B1112)
    · rw [←f1];exact (owp_sl O11 (by omega) fun _ _=>trivial).bl B1112
    · rw [←f2];exact owp_sl O12 (by omega) fun _ _=>trivial
end Go.Proofs.YtkmdfjpafkcleaaGreatDoor
namespace Go.Proofs.YtkmdfjpafkcleaaGreatDoor
open Eng Go.RowKit
theorem r5_named (l:List Int) (t:Ty) (base:Nat) (al:Option Addr) (ce:Nat) (w:World) (hO:OwP 1 encInt w base 3 al ce l) (hl:l.length≤1000000) (hb:base≤w.heap.size) :
    Ret Tryz.prog 81 #[.slice al l.length ce,.agg (encTy t).toArray] w fun v w'=>∃ a c,v = .slice a (l++tcl t).length c∧OwP 1 encInt w' base 3 a c (l++tcl t)∧(∀ g,a=some ⟨g,0,none⟩→al=some ⟨g,0,none⟩∨w.heap.size≤g)∧Chg (fun g=>al=some ⟨g,0,none⟩) w w':=by
  refine entr (vs:=[.slice al l.length ce,.agg (encTy t).toArray]) [0,1,3,4,12] tabok Tryz.func81 (by kernel_rfl) ?_
  refine bx (cs:=encTy t) fun b1 w1 k1 => ?_
  have z1:=k1.size
  have O1:=hO.bl k1.bl
  refine ld (k1.box.cell rfl) ?_
  by_cases h2:t.kind=2
  · have et:tcl t=[t.cls]:=if_pos (.inl h2)
    refine spn (I 0) ?_ (hb:=by simp [h2])
    refine brt ?_ (hp:=by simp [h2])
    refine ld (k1.box.cell rfl) ?_
    refine bs (cs:=encInt t.cls) fun b2 w2 k2 => ?_
    have z2:=k2.size
    refine apl (l1:=[t.cls]) (O1.bl k2.bl) (.inr ⟨b2,0,rfl,k2.box.at⟩) (by omega) fun a3 c3 w3 O3 A3 F3 => ?_
    exact rt1 ⟨a3,c3,by rw [et],by rw [et];exact O3,fun g hg=>(F3 g hg).imp id fun q=>by omega,((k1.bl.trans k2.bl).chg _).trans (A3.chg fun g hg _=>hg)⟩
  · refine spt (I 0) ?_ (hb:=by simp [h2])
    refine ld (k1.box.cell rfl) ?_
    by_cases h4:t.kind=4
    · have et:tcl t=[t.cls]:=if_pos (.inr h4)
      refine brt ?_ (hp:=by simp [h4])
      refine ld (k1.box.cell rfl) ?_
      refine bs (cs:=encInt t.cls) fun b2 w2 k2 => ?_
      have z2:=k2.size
      refine apl (l1:=[t.cls]) (O1.bl k2.bl) (.inr ⟨b2,0,rfl,k2.box.at⟩) (by omega) fun a3 c3 w3 O3 A3 F3 => ?_
      exact rt1 ⟨a3,c3,by rw [et],by rw [et];exact O3,fun g hg=>(F3 g hg).imp id fun q=>by omega,((k1.bl.trans k2.bl).chg _).trans (A3.chg fun g hg _=>hg)⟩
    · have et:tcl t=[]:=if_neg (by omega)
      refine brf ?_ (hp:=by simp [h2,h4])
      exact rt1 ⟨al,ce,by rw [et,List.append_nil],by rw [et,List.append_nil];exact O1,fun g hg => .inl hg,k1.bl.chg _⟩
theorem r5_namedF (l:List Int) (t:Ty) (al:Option Addr) (w:World) (hS:Sl eInt T w al l) (hl:l.length≤1000000) :
    Ret Tryz.prog 81 #[.slice al l.length l.length,.agg (encTy t).toArray] w fun v w'=>∃ a c,v = .slice a (l++tcl t).length c∧(l++tcl t).length≤c∧(a=none→c=0)∧Sl eInt T w' a (l++tcl t)∧Bl w w':=by
  refine entr (vs:=[.slice al l.length l.length,.agg (encTy t).toArray]) [0,1,3,4,12] tabok Tryz.func81 (by kernel_rfl) ?_
  refine bx (cs:=encTy t) fun b1 w1 k1 => ?_
  have z1:=k1.size
  have S1:=hS.bl k1.bl
  have hnone:al=none→l.length=0:=fun e=>by
    cases l with
    | nil=>rfl
    | cons x l =>
      obtain ⟨b,o,cs,e2,_⟩:=hS.el 0 x rfl
      rw [e] at e2;cases e2
  refine ld (k1.box.cell rfl) ?_
  by_cases h2:t.kind=2
  · have et:tcl t=[t.cls]:=if_pos (.inl h2)
    refine spn (I 0) ?_ (hb:=by simp [h2])
    refine brt ?_ (hp:=by simp [h2])
    refine ld (k1.box.cell rfl) ?_
    refine bs (cs:=encInt t.cls) fun b2 w2 k2 => ?_
    refine apg (m:=1) (xs:=l.flatMap encInt) (src_of (S1.bl k2.bl)) (.inr ⟨b2,0,rfl,k2.box.at⟩) (fun e=>hnone e) (by omega) (by omega) (fun a3 c3 w3 O3 B3 => ?_) (hlx:=by rw [int_len];omega) (h1:=rfl)
    have e5:l.flatMap encInt++encInt t.cls=(l++[t.cls]).flatMap encInt:=by simp
    have e6:l.length+1=(l++[t.cls]).length:=by simp
    rw [e5,e6] at O3
    rw [e6]
    exact rt1 ⟨a3,c3,by rw [et],by rw [et];exact O3.capn.1,O3.capn.2,by rw [et];exact owp_sl O3 (by simp;omega) fun _ _=>trivial,(k1.bl.trans k2.bl).trans B3⟩
  · refine spt (I 0) ?_ (hb:=by simp [h2])
    refine ld (k1.box.cell rfl) ?_
    by_cases h4:t.kind=4
    · have et:tcl t=[t.cls]:=if_pos (.inr h4)
      refine brt ?_ (hp:=by simp [h4])
      refine ld (k1.box.cell rfl) ?_
      refine bs (cs:=encInt t.cls) fun b2 w2 k2 => ?_
      refine apg (m:=1) (xs:=l.flatMap encInt) (src_of (S1.bl k2.bl)) (.inr ⟨b2,0,rfl,k2.box.at⟩) (fun e=>hnone e) (by omega) (by omega) (fun a3 c3 w3 O3 B3 => ?_) (hlx:=by rw [int_len];omega) (h1:=rfl)
      have e5:l.flatMap encInt++encInt t.cls=(l++[t.cls]).flatMap encInt:=by simp
      have e6:l.length+1=(l++[t.cls]).length:=by simp
      rw [e5,e6] at O3
      rw [e6]
      exact rt1 ⟨a3,c3,by rw [et],by rw [et];exact O3.capn.1,O3.capn.2,by rw [et];exact owp_sl O3 (by simp;omega) fun _ _=>trivial,(k1.bl.trans k2.bl).trans B3⟩
    · have et:tcl t=[]:=if_neg (by omega)
      refine brf ?_ (hp:=by simp [h2,h4])
      exact rt1 ⟨al,l.length,by rw [et,List.append_nil],by rw [et,List.append_nil];exact Nat.le_refl _,hnone,by rw [et,List.append_nil];exact S1,k1.bl⟩
def Sep2 (a b:Option Addr):Prop:=∀ g,a=some ⟨g,0,none⟩→b=some ⟨g,0,none⟩→False
theorem insC_len (i:Ins):(insC i).length≤1:=by
  unfold insC tcl
  split
  · split <;> simp
  · split
    · simp
    · split <;> simp
theorem insS_len (i:Ins):(insS i).length≤1:=by unfold insS;split <;> simp
theorem tcl_len (t:Ty):(tcl t).length≤1:=by unfold tcl;split <;> simp
set_option maxHeartbeats 4000000 in
theorem r5_needs (m:Mod) (a:MA) (P:ModP m) (k:Nat) (x:MM) (hx:m.methods[k]? = some x) (w:World) (hM:MdR T w m a) :
    Ret Tryz.prog 80 #[.agg (modcells m a).toArray,I k] w fun v w'=>∃ a1 c1 a2 c2,v = .tuple #[.slice a1 (needC x).length c1,.slice a2 (needS x).length c2] ∧
      Sl eInt (fun b=>w.heap.size≤b∧b<w'.heap.size) w' a1 (needC x)∧Sl eInt (fun b=>w.heap.size≤b∧b<w'.heap.size) w' a2 (needS x)∧Bl w w':=by
  have q1:=hM.mth.big
  have hk:=(List.getElem?_eq_some_iff.1 hx).1
  have M:=P.mth k x hx
  have hcl:=codeE_len M.cd
  have hll:(locM x).length≤11:=by
    have h1:=M.ll
    have h2:=selfM_len x
    rw [locM_eq,List.length_append,List.length_append]
    split at h1 <;> omega
  refine entr (vs:=[.agg (modcells m a).toArray,I k]) [0,1,2,4,5,6,7,8,10,11,12,31,49,56,57,72,83,93] tabok Tryz.func80 (by kernel_rfl) ?_
  refine bx (cs:=modcells m a) fun b1 w1 k1 => ?_
  obtain ⟨x',b,o,cs,hx',e2,_,hAt,a1,d1,a2',d2,a3,d3,rfl,f1,f2,f3,_⟩:=at_some (hM.bl k1.bl).mth hk
  obtain rfl:x'=x:=by rw [hx] at hx';exact (Option.some.inj hx').symm
  have f3:=Sl.lt (by decide) f3
  refine lda k1.box.at ?_
  refine cl (r5_Locals m a k w1 (hM.bl k1.bl)) ?_ (hm:=fun _ _ r=>by obtain ⟨_,_,_,_,hB⟩:=r;exact mdW_bl hB)
  rintro _ w2 ⟨a2,c2,rfl,O2,B12⟩
  have ha:askE m m.methods.length [(k:Int)]=0:=if_pos ⟨chkE_yes P,fun i hi=>by simp only [List.mem_singleton] at hi;subst hi;exact ⟨by omega,by omega⟩⟩
  have el:locL m k=locM x':=by rw [←mths_at hx];exact if_pos ha
  rw [el] at O2 ⊢
  have B2:=k1.bl.trans B12
  have x2:=Bl.box B12 k1.box
  have z1:=k1.size
  have z2:=B12.size
  refine ld (x2.cell rfl) ?_
  rw [e2]
  refine ix ?_
  refine lda (At.left (cs:=encTy x'.result) (hAt.bl B12).tail.tail.tail.tail) ?_
  refine bs (cs:=encTy x'.result) fun b3 w3 k3 => ?_
  have z3:=k3.size
  refine apl (l1:=[x'.result]) (O2.bl k3.bl) (.inr ⟨b3,0,rfl,k3.box.at⟩) (by omega) fun a4 c4 w4 O4 A4 F4 => ?_
  have z4:=A4.size
  have B14:Bl w1 w4:=Below.trans (B12.trans k3.bl) (A4.below (by omega) fun g hg=>(O2.lt hg).1)
  have B4:=k1.bl.trans B14
  have x4:=Bl.box B14 k1.box
  obtain ⟨L,hL⟩:∃ L,L=locM x'++[x'.result]:=⟨_,rfl⟩
  rw [←hL] at O4 ⊢
  have hLl:L.length≤12:=by rw [hL,List.length_append];simp only [List.length_singleton];omega
  have S4:Sl eTy T w4 a4 L:=owp_sl O4 (by omega) fun _ _=>trivial
  refine lpk L.length 10 [6] [(1,I k),(2,.pointer (some ⟨b1,0,none⟩)),(7,.slice none 0 0),(8,.slice a4 L.length c4)] (fun j vals w'=>∃ a c,vals=[.slice a ((L.take j).flatMap tcl).length c]∧OwP 1 encInt w' w4.heap.size 3 a c ((L.take j).flatMap tcl)∧Bl w4 w') ⟨none,0,rfl,Ow.nil ..,Bl.refl _⟩ ?_
  rintro j vals w5 hj ⟨a5,c5,rfl,O5,B45⟩ ih
  have h5:=flatMap_take_le (f:=tcl) (B:=1) (l:=L) (fun t _=>tcl_len t) hj
  have z5:=B45.size
  by_cases hlt:j<L.length
  · refine brT ?_
    obtain ⟨t,bt,ot,ct,ht,rfl,_,hAt5,rfl⟩:=at_some (S4.bl B45) hlt
    refine ix ?_
    refine lda hAt5 ?_
    refine cl (r5_named _ t w4.heap.size a5 c5 w5 O5 (by omega) z5) ?_ (hm:=by intros;trivial)
    rintro _ w6 ⟨a6,c6,rfl,O6,F6,C6⟩
    rw [←flatMap_snoc ht] at O6 ⊢
    refine ih hlt ⟨a6,c6,rfl,O6,Below.trans B45 (C6.below z5 fun g hg=>(O5.lt hg).1)⟩
  refine brF ?_
  obtain rfl:j=L.length:=by omega
  rw [List.take_length] at O5 h5 ⊢
  clear ih
  have B5:=B4.trans B45
  have x5:=Bl.box B45 x4
  have B15:=B14.trans B45
  refine ld (x5.cell rfl) ?_
  rw [e2]
  refine ix ?_
  refine ld ((hAt.bl B15) 6 _ rfl) ?_
  obtain ⟨K,hK⟩:∃ K,K=L.flatMap tcl:=⟨_,rfl⟩
  rw [←hK] at O5 h5 ⊢
  have S5:=f3.bl B15
  refine lpk (vals:=[.slice a5 K.length c5,.slice none 0 0]) x'.code.length 12 [6,7] [(11,.slice a3 x'.code.length d3)] (fun j vals w'=>∃ a6 c6 a7 c7,vals=[.slice a6 (K++(x'.code.take j).flatMap insC).length c6,.slice a7 ((x'.code.take j).flatMap insS).length c7]∧OwP 1 encInt w' w4.heap.size 3 a6 c6 (K++(x'.code.take j).flatMap insC)∧OwP 1 encInt w' w4.heap.size 3 a7 c7 ((x'.code.take j).flatMap insS)∧Sep2 a6 a7∧Below w4.heap.size w5 w')
    ⟨a5,c5,none,0,by simp,by simpa using O5,Ow.nil ..,(fun _ _ h=>by cases h),Below.refl _ _⟩ ?_
  rintro j vals w6 hj ⟨a6,c6,a7,c7,rfl,O6,O7,hsep,B56⟩ ih
  have h6:=flatMap_take_le (f:=insC) (B:=1) (l:=x'.code) (fun t _=>insC_len t) hj
  have h7:=flatMap_take_le (f:=insS) (B:=1) (l:=x'.code) (fun t _=>insS_len t) hj
  have z6:=B56.size
  have hK6:(K++(x'.code.take j).flatMap insC).length≤140:=by rw [List.length_append];omega
  by_cases hlt:j<x'.code.length
  rotate_left
  · refine brF ?_
    obtain rfl:j=x'.code.length:=by omega
    rw [List.take_length] at *
    have en:needC x'=K++x'.code.flatMap insC:=by rw [hK,hL];rfl
    have es:needS x'=x'.code.flatMap insS:=rfl
    rw [en,es]
    refine rt2 ⟨a6,c6,a7,c7,rfl,owp_sl O6 (by omega) fun g hg=>⟨by have:=(O6.lt hg).1;omega,(O6.lt hg).2⟩,owp_sl O7 (by omega) fun g hg=>⟨by have:=(O7.lt hg).1;omega,(O7.lt hg).2⟩,Below.trans B5 (B56.mono (by omega))⟩
  refine brT ?_
  have S6:Sl eIns (· < w1.heap.size) w6 a3 x'.code:=S5.kp ((Below.kp B56).sub fun i hi=>by omega)
  obtain ⟨i,bi,oi,ci,hi,rfl,hSi,hAi,rfl⟩:=at_some S6 hlt
  have hsC:=flatMap_snoc (f:=insC) hi
  have hsS:=flatMap_snoc (f:=insS) hi
  have goC:∀ {w8:World} {a8:Option Addr} {c8:Nat} {l8:List Int},insC i=l8→insS i=[]→OwP 1 encInt w8 w4.heap.size 3 a8 c8 (K++(x'.code.take j).flatMap insC++l8)→(∀ g,a8=some ⟨g,0,none⟩→a6=some ⟨g,0,none⟩∨w6.heap.size≤g)→Chg (fun g=>a6=some ⟨g,0,none⟩) w6 w8 →
      ∃ a6' c6' a7' c7',[Value.slice a8 (K++(x'.code.take j).flatMap insC++l8).length c8,.slice a7 ((x'.code.take j).flatMap insS).length c7]=[.slice a6' (K++(x'.code.take (j+1)).flatMap insC).length c6',.slice a7' ((x'.code.take (j+1)).flatMap insS).length c7']∧OwP 1 encInt w8 w4.heap.size 3 a6' c6' (K++(x'.code.take (j+1)).flatMap insC)∧OwP 1 encInt w8 w4.heap.size 3 a7' c7' ((x'.code.take (j+1)).flatMap insS)∧Sep2 a6' a7'∧Below w4.heap.size w5 w8:=fun {w8 a8 c8 l8} e1 e2 O F C=>by
    have e3:K++(x'.code.take (j+1)).flatMap insC=K++(x'.code.take j).flatMap insC++l8:=by rw [hsC,e1,List.append_assoc]
    have e4:(x'.code.take (j+1)).flatMap insS=(x'.code.take j).flatMap insS:=by rw [hsS,e2,List.append_nil]
    refine ⟨a8,c8,a7,c7,by rw [e3,e4],by rw [e3];exact O,by rw [e4];exact O7.same fun g hg=>C.block g (O7.lt hg).2 fun q=>hsep g q hg,fun g hg hg' => ?_,Below.trans B56 (C.below (by omega) fun g hg=>(O6.lt hg).1)⟩
    rcases F g hg with q | q
    · exact hsep g q hg'
    · have:=(O7.lt hg').2;omega
  refine ix ?_
  refine ld (hAi 0 _ rfl) ?_
  by_cases h12:i.op=12
  · have ec:insC i=tcl ⟨i.a,i.b⟩:=by unfold insC;rw [if_pos h12]
    have es:insS i=[]:=by unfold insS;rw [if_neg (by omega)]
    refine brT ?_ (hp:=h12)
    refine dh (· < w1.heap.size) (List.range 14) fun w7 k7 => ?_
    have z7:=k7.bl.size
    have hA7:=hAi.bl k7.bl
    refine ix ?_
    refine ld (hA7 1 _ rfl) ?_ (hm:=hSi)
    refine ix ?_
    refine ld (hA7 2 _ rfl) ?_ (hm:=hSi)
    refine bd (cs:=[I i.a,I i.b]) ?_
    refine cl (r5_named _ ⟨i.a,i.b⟩ w4.heap.size a6 c6 w7 (O6.bl k7.bl) (by omega) (by omega)) ?_ (hm:=fun _ _ r=>by obtain ⟨_,_,_,_,_,hC⟩:=r;exact ⟨fun i hi hlt=>hC.block i hlt fun q=>by have:=(O6.lt q).1;omega⟩)
    rintro _ w8 ⟨a8,c8,rfl,O8,F8,C8⟩
    exact ih hlt (goC ec es O8 (fun g hg=>(F8 g hg).imp id fun q=>by omega) ((k7.bl.chg _).trans C8))
  refine brF ?_ (hp:=h12)
  by_cases h14:i.op=14
  · have ec:insC i=[i.a]:=by unfold insC;rw [if_neg h12,if_pos (.inl h14)]
    have es:insS i=[]:=by unfold insS;rw [if_neg (by omega)]
    refine brT ?_ (hp:=h14)
    refine brT ?_ (hp:=h14)
    refine ix ?_
    refine ld (hAi 1 _ rfl) ?_
    refine bs (cs:=encInt i.a) fun b7 w7 k7 => ?_
    have z7:=k7.size
    refine apl (l1:=[i.a]) (O6.bl k7.bl) (.inr ⟨b7,0,rfl,k7.box.at⟩) (by omega) fun a8 c8 w8 O8 A8 F8 => ?_
    exact ih hlt (goC ec es O8 (fun g hg=>(F8 g hg).imp id fun q=>by omega) ((k7.bl.chg _).trans (A8.chg fun g hg _=>hg)))
  refine brF ?_ (hp:=h14)
  by_cases h24:i.op=24
  · have ec:insC i=[i.a]:=by unfold insC;rw [if_neg h12,if_pos (.inr h24)]
    have es:insS i=[]:=by unfold insS;rw [if_neg (by omega)]
    refine brT ?_ (hp:=h24)
    refine ix ?_
    refine ld (hAi 1 _ rfl) ?_
    refine bs (cs:=encInt i.a) fun b7 w7 k7 => ?_
    have z7:=k7.size
    refine apl (l1:=[i.a]) (O6.bl k7.bl) (.inr ⟨b7,0,rfl,k7.box.at⟩) (by omega) fun a8 c8 w8 O8 A8 F8 => ?_
    exact ih hlt (goC ec es O8 (fun g hg=>(F8 g hg).imp id fun q=>by omega) ((k7.bl.chg _).trans (A8.chg fun g hg _=>hg)))
  refine brF ?_ (hp:=h24)
  by_cases h16:i.op=16
  · have ec:insC i=[i.b]:=by unfold insC;rw [if_neg h12,if_neg (by omega),if_pos h16]
    have es:insS i=[]:=by unfold insS;rw [if_neg (by omega)]
    refine brT ?_ (hp:=h16)
    refine ix ?_
    refine ld (hAi 2 _ rfl) ?_
    refine bs (cs:=encInt i.b) fun b7 w7 k7 => ?_
    have z7:=k7.size
    refine apl (l1:=[i.b]) (O6.bl k7.bl) (.inr ⟨b7,0,rfl,k7.box.at⟩) (by omega) fun a8 c8 w8 O8 A8 F8 => ?_
    exact ih hlt (goC ec es O8 (fun g hg=>(F8 g hg).imp id fun q=>by omega) ((k7.bl.chg _).trans (A8.chg fun g hg _=>hg)))
  refine brF ?_ (hp:=h16)
  have ec:insC i=[]:=by unfold insC;rw [if_neg h12,if_neg (by omega),if_neg h16]
  have goS:(i.op=22∨i.op=23)→∀ {w8:World} {a8:Option Addr} {c8:Nat},OwP 1 encInt w8 w4.heap.size 3 a8 c8 ((x'.code.take j).flatMap insS++[i.a])→(∀ g,a8=some ⟨g,0,none⟩→a7=some ⟨g,0,none⟩∨w6.heap.size≤g)→Chg (fun g=>a7=some ⟨g,0,none⟩) w6 w8 →
      ∃ a6' c6' a7' c7',[Value.slice a6 (K++(x'.code.take j).flatMap insC).length c6,.slice a8 ((x'.code.take j).flatMap insS++[i.a]).length c8]=[.slice a6' (K++(x'.code.take (j+1)).flatMap insC).length c6',.slice a7' ((x'.code.take (j+1)).flatMap insS).length c7']∧OwP 1 encInt w8 w4.heap.size 3 a6' c6' (K++(x'.code.take (j+1)).flatMap insC)∧OwP 1 encInt w8 w4.heap.size 3 a7' c7' ((x'.code.take (j+1)).flatMap insS)∧Sep2 a6' a7'∧Below w4.heap.size w5 w8:=fun hop {w8 a8 c8} O F C=>by
    have e3:K++(x'.code.take (j+1)).flatMap insC=K++(x'.code.take j).flatMap insC:=by rw [hsC,ec,List.append_nil]
    have e4:(x'.code.take (j+1)).flatMap insS=(x'.code.take j).flatMap insS++[i.a]:=by rw [hsS];unfold insS;rw [if_pos hop]
    refine ⟨a6,c6,a8,c8,by rw [e3,e4],by rw [e3];exact O6.same fun g hg=>C.block g (O6.lt hg).2 fun q=>hsep g hg q,by rw [e4];exact O,fun g hg hg' => ?_,Below.trans B56 (C.below (by omega) fun g hg=>(O7.lt hg).1)⟩
    rcases F g hg' with q | q
    · exact hsep g hg q
    · have:=(O6.lt hg).2;omega
  by_cases h22:i.op=22
  · refine brT ?_ (hp:=h22)
    refine brT ?_ (hp:=h22)
    refine ix ?_
    refine ld (hAi 1 _ rfl) ?_
    refine bs (cs:=encInt i.a) fun b7 w7 k7 => ?_
    have z7:=k7.size
    refine apl (l1:=[i.a]) (O7.bl k7.bl) (.inr ⟨b7,0,rfl,k7.box.at⟩) (by omega) fun a8 c8 w8 O8 A8 F8 => ?_
    exact ih hlt (goS (.inl h22) O8 (fun g hg=>(F8 g hg).imp id fun q=>by omega) ((k7.bl.chg _).trans (A8.chg fun g hg _=>hg)))
  refine brF ?_ (hp:=h22)
  by_cases h23:i.op=23
  · refine brT ?_ (hp:=h23)
    refine ix ?_
    refine ld (hAi 1 _ rfl) ?_
    refine bs (cs:=encInt i.a) fun b7 w7 k7 => ?_
    have z7:=k7.size
    refine apl (l1:=[i.a]) (O7.bl k7.bl) (.inr ⟨b7,0,rfl,k7.box.at⟩) (by omega) fun a8 c8 w8 O8 A8 F8 => ?_
    exact ih hlt (goS (.inr h23) O8 (fun g hg=>(F8 g hg).imp id fun q=>by omega) ((k7.bl.chg _).trans (A8.chg fun g hg _=>hg)))
  refine brF ?_ (hp:=h23)
  have es:insS i=[]:=by unfold insS;rw [if_neg (by omega)]
  have e3:K++(x'.code.take (j+1)).flatMap insC=K++(x'.code.take j).flatMap insC:=by rw [hsC,ec,List.append_nil]
  have e4:(x'.code.take (j+1)).flatMap insS=(x'.code.take j).flatMap insS:=by rw [hsS,es,List.append_nil]
  exact ih hlt ⟨a6,c6,a7,c7,by rw [e3,e4],by rw [e3];exact O6,by rw [e4];exact O7,hsep,B56⟩
end Go.Proofs.YtkmdfjpafkcleaaGreatDoor
namespace Go.Proofs.YtkmdfjpafkcleaaGreatDoor
open Eng Go.RowKit
theorem nodup_sub_len:∀ {a b:List Int},a.Nodup→(∀ x∈a,x∈b)→a.length≤b.length
  | [],_,_,_=>Nat.zero_le _
  | x::a,b,hn,h=>by
    rw [List.nodup_cons] at hn
    have hx:=h x (List.mem_cons_self ..)
    have h2:=nodup_sub_len (a:=a) (b:=b.erase x) hn.2 fun y hy=>by
      have h3:=h y (List.mem_cons_of_mem _ hy)
      have h4:y≠x:=fun e=>hn.1 (e▸hy)
      exact (List.mem_erase_of_ne h4).2 h3
    rw [List.length_erase_of_mem hx] at h2
    have:=List.length_pos_of_mem hx
    simp only [List.length_cons];omega
theorem asc_nodup {l:List Int} (h:AscI l):l.Nodup:=h.imp fun q e=>by omega
theorem asc_grow {a b:List Int} (ha:AscI a) (hb:AscI b) (h:∀ x∈a,x∈b) (hne:¬a=b):a.length<b.length:=by
  have:∃ x∈b,¬x∈a:=by
    refine Classical.byContradiction fun q=>hne (asc_eq ha hb fun x=>⟨h x,fun hx => ?_⟩)
    exact Classical.byContradiction fun r=>q ⟨x,hx,r⟩
  obtain ⟨x,hx,hxa⟩:=this
  have:=nodup_sub_len (a:=x::a) (b:=b) (List.nodup_cons.2 ⟨hxa,asc_nodup ha⟩) fun y hy=>by
    rcases List.mem_cons.1 hy with rfl | hy
    · exact hx
    · exact h y hy
  simp only [List.length_cons] at this;omega
def rnd (m:Mod) (l:List Int):List Int:=srtI (l++l.flatMap (sucC m))
def rnds (m:Mod) (l:List Int):Nat→List Int
  | 0=>l
  | n+1=>rnd m (rnds m l n)
theorem mem_rnd {m:Mod} {l:List Int} {x:Int}:x∈rnd m l↔x∈l∨∃ c∈l,x∈sucC m c:=by
  unfold rnd
  rw [mem_srtI,List.mem_append,List.mem_flatMap]
theorem rnds_asc {m:Mod} {l:List Int} (h:AscI l):∀ n,AscI (rnds m l n)
  | 0=>h
  | n+1=>srtI_asc _
theorem rnds_mono {m:Mod} {l:List Int}:∀ (n:Nat) {x:Int},x∈l→x∈rnds m l n
  | 0,_,h=>h
  | n+1,_,h=>mem_rnd.2 (.inl (rnds_mono n h))
theorem rnds_in {m:Mod} (P:ModP m) {l:List Int} (h:∀ x∈l,0≤x∧x<m.classes.length):∀ (n:Nat),∀ x∈rnds m l n,0≤x∧x<m.classes.length
  | 0=>h
  | n+1=>fun x hx=>by
    rcases mem_rnd.1 hx with q | ⟨c,hc,q⟩
    · exact rnds_in P h n x q
    · obtain ⟨c0,c1⟩:=rnds_in P h n c hc
      obtain ⟨k,rfl⟩:=Int.eq_ofNat_of_zero_le c0
      obtain ⟨z,hz⟩:=some_of_lt (l:=m.classes) (k:=k) (by omega)
      exact sucC_in P hz q
theorem rnds_stay {m:Mod} {l:List Int} {r:Nat} (h:rnds m l (r+1)=rnds m l r):∀ (n:Nat),rnds m l (r+n)=rnds m l r
  | 0=>rfl
  | n+1=>by
    show rnd m (rnds m l (r+n))=_
    rw [rnds_stay h n];exact h
theorem rnds_len {m:Mod} {l:List Int} (ha:AscI l):∀ (n:Nat),(∀ r,r<n→¬rnds m l (r+1)=rnds m l r)→l.length+n≤(rnds m l n).length
  | 0,_=>Nat.le_refl _
  | n+1,h=>by
    have h1:=rnds_len ha n fun r hr=>h r (by omega)
    have h2:=asc_grow (rnds_asc (m:=m) ha n) (rnds_asc (m:=m) ha (n+1)) (fun x hx=>mem_rnd.2 (.inl hx)) fun e=>h n (by omega) e.symm
    omega
theorem rnds_closed {m:Mod} (P:ModP m) {l:List Int} (ha:AscI l) (h:∀ x∈l,0≤x∧x<m.classes.length) {c x:Int} (hc:c∈rnds m l m.classes.length) (hx:x∈sucC m c):x∈rnds m l m.classes.length:=by
  have key:∃ r,r≤m.classes.length∧rnds m l (r+1)=rnds m l r:=by
    refine Classical.byContradiction fun q => ?_
    have h1:=rnds_len (m:=m) ha (m.classes.length+1) fun r hr e=>q ⟨r,by omega,e⟩
    have h2:=nodup_len m.classes.length (asc_nodup (rnds_asc (m:=m) ha (m.classes.length+1))) (rnds_in P h _)
    omega
  obtain ⟨r,hr,e⟩:=key
  have e1:=rnds_stay e (m.classes.length-r)
  rw [show r+(m.classes.length-r)=m.classes.length by omega] at e1
  rw [e1] at hc ⊢
  rw [←e]
  exact mem_rnd.2 (.inr ⟨c,hc,hx⟩)
structure Way (m:Mod) (roots L cl st:List Int):Prop where
  la:AscI L
  lr:∀ x∈roots,x∈L
  lf:∀ x∈L,Rch m (rootsN roots) (.m x)
  lc:∀ x∈L,∀ c∈calM m x.toNat,c∈L
  es:st=L.flatMap fun k=>needS (mths m k)
  ec:cl=(L.flatMap fun k=>needC (mths m k))++st.flatMap (staC m)
theorem Way.meth {m:Mod} (P:ModP m) {roots L cl st:List Int} (h:Way m roots L cl st) (hr:∀ x,rootsN roots x→NdIn m x) :
    L=meL m roots∧rnds m (srtI cl) m.classes.length=clL m roots∧srtI st=stL m roots:=by
  have hin:∀ x,Rch m (rootsN roots) x→NdIn m x:=fun x q=>q.isIn P hr
  have hcl:∀ x∈srtI cl,Rch m (rootsN roots) (.c x):=fun x hx=>by
    rw [mem_srtI,h.ec,List.mem_append,List.mem_flatMap,List.mem_flatMap] at hx
    rcases hx with ⟨k,hk,hc⟩ | ⟨i,hi,hc⟩
    · exact .step (h.lf k hk) (by simp only [suc,List.mem_append,List.mem_map];exact .inl (.inl ⟨x,hc,rfl⟩))
    · rw [h.es,List.mem_flatMap] at hi
      obtain ⟨k,hk,hs⟩:=hi
      exact .step (.step (h.lf k hk) (y := .s i) (by simp only [suc,List.mem_append,List.mem_map];exact .inl (.inr ⟨i,hs,rfl⟩))) (by simp only [suc,List.mem_map];exact ⟨x,hc,rfl⟩)
  have hci:∀ x∈srtI cl,0≤x∧x<m.classes.length:=fun x hx=>hin _ (hcl x hx)
  have hfw:∀ n,∀ x∈rnds m (srtI cl) n,Rch m (rootsN roots) (.c x):=fun n=>by
    induction n with
    | zero=>exact hcl
    | succ n ih =>
      intro x hx
      rcases mem_rnd.1 hx with q | ⟨c,hc,q⟩
      · exact ih x q
      · exact .step (ih c hc) (by simp only [suc,List.mem_map];exact ⟨x,q,rfl⟩)
  have hbk:∀ y,Rch m (rootsN roots) y→match y with
      | .m x=>x∈L
      | .c x=>x∈rnds m (srtI cl) m.classes.length
      | .s x=>x∈st:=fun y q=>by
    induction q with
    | root q=>obtain ⟨k,hk,rfl⟩:=q;exact h.lr k hk
    | @step a b _ hy ih =>
      cases a with
      | m k =>
        simp only [suc,List.mem_append,List.mem_map] at hy
        rcases hy with (⟨c,hc,rfl⟩ | ⟨c,hc,rfl⟩) | ⟨c,hc,rfl⟩
        · refine rnds_mono _ (mem_srtI.2 ?_)
          rw [h.ec]
          exact List.mem_append_left _ (List.mem_flatMap.2 ⟨k,ih,hc⟩)
        · show c∈st
          rw [h.es]
          exact List.mem_flatMap.2 ⟨k,ih,hc⟩
        · exact h.lc k ih c hc
      | c k =>
        obtain ⟨c,hc,rfl⟩:=List.mem_map.1 hy
        exact rnds_closed P (srtI_asc _) hci ih hc
      | s k =>
        obtain ⟨c,hc,rfl⟩:=List.mem_map.1 hy
        refine rnds_mono _ (mem_srtI.2 ?_)
        rw [h.ec]
        exact List.mem_append_right _ (List.mem_flatMap.2 ⟨k,ih,hc⟩)
  refine ⟨sel_of h.la (fun x=>⟨h.lf x,hbk _⟩) fun x q=>hin _ q,sel_of (rnds_asc (srtI_asc _) _) (fun x=>⟨hfw _ x,hbk _⟩) fun x q=>hin _ q,sel_of (srtI_asc _) (fun x => ?_) fun x q=>hin _ q⟩
  rw [mem_srtI]
  refine ⟨fun hx => ?_,hbk _⟩
  rw [h.es,List.mem_flatMap] at hx
  obtain ⟨k,hk,hs⟩:=hx
  exact .step (h.lf k hk) (by simp only [suc,List.mem_append,List.mem_map];exact .inl (.inr ⟨x,hs,rfl⟩))
end Go.Proofs.YtkmdfjpafkcleaaGreatDoor
namespace Go.Proofs.YtkmdfjpafkcleaaGreatDoor
open Eng Go.RowKit
theorem ask_nil (m:Mod) (n:Int):askE m n []=mchkE m:=by
  unfold askE
  rcases chkE_cases m with h | h
  · rw [h,if_pos ⟨rfl,fun i hi=>by cases hi⟩]
  · rw [h,if_neg fun q=>by cases q.1]
theorem ask_snoc (m:Mod) (n x:Int) (l:List Int):askE m n (l++[x])=if askE m n l=0 then askE m n [x] else 1:=by
  by_cases h:askE m n l=0
  · rw [if_pos h]
    obtain ⟨h1,h2⟩:=ask_yes h
    unfold askE
    by_cases q:0≤x∧x<n
    · rw [if_pos ⟨h1,fun i hi=>by
        rcases List.mem_append.1 hi with hi | hi
        · exact h2 i hi
        · obtain rfl:=List.mem_singleton.1 hi;exact q⟩,if_pos ⟨h1,fun i hi=>by obtain rfl:=List.mem_singleton.1 hi;exact q⟩]
    · rw [if_neg fun r=>q (r.2 x (by simp)),if_neg fun r=>q (r.2 x (by simp))]
  · rw [if_neg h]
    unfold askE at h ⊢
    refine if_neg fun q=>h ?_
    rw [if_pos ⟨q.1,fun i hi=>q.2 i (List.mem_append_left _ hi)⟩]
theorem ask_part {m:Mod} {n:Int} {l:List Int} {k:Nat} (h:¬askE m n (l.take k)=0):askE m n l=1:=by
  refine ask_n fun q=>h ?_
  obtain ⟨h1,h2⟩:=ask_yes q
  exact if_pos ⟨h1,fun i hi=>h2 i (List.mem_of_mem_take hi)⟩
theorem slm_a (a:Option Addr) (n:Nat):(if n=0 then a else a.map (·.add (0*1)))=a:=by
  split
  · rfl
  · cases a <;> simp [Addr.add]
theorem needC_len {m:Mod} (P:ModP m) {k:Nat} {x:MM} (h:m.methods[k]? = some x):(needC x).length≤140:=by
  have M:=P.mth k x h
  have h1:=M.ll
  have h2:=selfM_len x
  have h3:=codeE_len M.cd
  have h4:=flatMap_le (f:=tcl) (B:=1) (l:=locM x++[x.result]) fun t _=>tcl_len t
  have h5:=flatMap_le (f:=insC) (B:=1) (l:=x.code) fun t _=>insC_len t
  have h6:(locM x++[x.result]).length≤12:=by
    rw [locM_eq]
    simp only [List.length_append,List.length_singleton]
    split at h1 <;> omega
  unfold needC
  rw [List.length_append];omega
theorem needS_len {m:Mod} (P:ModP m) {k:Nat} {x:MM} (h:m.methods[k]? = some x):(needS x).length≤140:=by
  have h3:=codeE_len (P.mth k x h).cd
  have h5:=flatMap_le (f:=insS) (B:=1) (l:=x.code) fun t _=>insS_len t
  unfold needS;omega
theorem sucC_len {m:Mod} (P:ModP m) (c:Int):(sucC m c).length≤8:=by
  unfold sucC
  cases h:m.classes[c.toNat]? with
  | none=>simp
  | some x =>
    have h1:=(P.cls _ x h).fl
    have h2:=flatMap_le (f:=tcl) (B:=1) (l:=x.fields) fun t _=>tcl_len t
    simp only [Option.map_some,Option.getD_some,List.length_append]
    split <;> simp only [List.length_singleton,List.length_nil] <;> omega
def CapL (w:World) (a:Option Addr) (c:Nat) (l:List Int):Prop:=Sl eInt T w a l∧l.length≤c∧(a=none→c=0)
theorem CapL.bl {w w':World} {a:Option Addr} {c:Nat} {l:List Int} (h:CapL w a c l) (k:Bl w w'):CapL w' a c l:=⟨h.1.bl k,h.2⟩
theorem CapL.own {w:World} {base:Nat} {a:Option Addr} {c:Nat} {l:List Int} (h:OwP 1 encInt w base 3 a c l) (hl:l.length≤4194304):CapL w a c l:=⟨owp_sl h hl fun _ _=>trivial,h.capn.1,h.capn.2⟩
set_option maxHeartbeats 8000000 in
theorem r5_Reach (m:Mod) (a:MA) (roots:List Int) (ar:Option Addr) (cr:Nat) (w:World) (hM:MdR T w m a) (hS:Sl eInt T w ar roots) :
    Ret Tryz.prog 42 #[.agg (modcells m a).toArray,.slice ar roots.length cr] w (RchQ m roots w):=by
  have q1:=hM.mth.big
  have q2:=hS.big
  have q3:=hM.cls.big
  refine entr (vs:=[.agg (modcells m a).toArray,.slice ar roots.length cr]) [0,1,2,4,5,6,7,8,9,10,11,12,13,14,15,16,17,18,19,20,21,22,32,45,54,59,69,90,109,116,129,144] tabok Tryz.func42 (by kernel_rfl) ?_
  refine bx (cs:=modcells m a) fun b1 w1 k1 => ?_
  have y1:=k1.blk
  have z1:=k1.size
  refine lda k1.box.at ?_
  refine cl (r5_Check m a w1 (hM.bl k1.bl)) ?_
  rintro _ w2 ⟨rfl,B12⟩
  have B2:=k1.bl.trans B12
  have x2:=Bl.box B12 k1.box
  rw [←ask_nil m m.methods.length]
  refine lpk roots.length 9 [8] [(1,.slice ar roots.length cr),(2,.pointer (some ⟨b1,0,none⟩))] (fun i vals w'=>vals=[I (askE m m.methods.length (roots.take i))]∧Bl w2 w') ⟨rfl,Bl.refl _⟩ ?_
  rintro i vals w3 hi ⟨rfl,B23⟩ ih
  have B3:=B2.trans B23
  have x3:=Bl.box B23 x2
  by_cases hc:i<roots.length∧askE m m.methods.length (roots.take i)=0
  · obtain ⟨hlt,h0⟩:=hc
    refine brt ?_ (hp:=by first | (simp [hlt,h0];done) | (simp;omega))
    obtain ⟨x,b,o,cs,hx,e2,_,hAt,rfl⟩:=at_some (hS.bl B3) hlt
    refine dh T (List.range 10) fun w4 k4 => ?_
    have x4:=k4.box x3
    refine lda x4.at ?_ (hm:=trivial)
    rw [e2]
    refine ix ?_
    refine ld ((hAt.bl k4.bl) 0 _ rfl) ?_ (hm:=trivial)
    refine ld (x4.cell rfl) ?_ (hm:=trivial)
    refine cl (r5_within m a x m.methods.length w4 (hM.bl (B3.trans k4.bl))) ?_
    rintro _ w5 ⟨rfl,B45⟩
    refine ih hlt ⟨?_,(B23.trans k4.bl).trans B45⟩ (hsub:=by rw [e2];repeat (first | exact True.intro | (refine ⟨rfl,?_⟩)))
    rw [take_succ_some hx,ask_snoc,if_pos h0]
  have hE:askE m m.methods.length (roots.take i)=askE m m.methods.length roots:=by
    by_cases h0:askE m m.methods.length (roots.take i)=0
    · have:i=roots.length:=by
        rcases Nat.lt_or_ge i roots.length with q | q
        · exact absurd ⟨q,h0⟩ hc
        · omega
      rw [this,List.take_length]
    · rw [ask_part h0,ask_n h0]
  refine brf ?_ (hp:=by first | (simp;done) | (simp;omega) | (simp;exact fun q=>fun r=>hc ⟨by omega,r⟩))
  rw [hE]
  clear ih
  by_cases h1:askE m m.methods.length roots=0
  rotate_left
  · have e1:meR m roots=[]:=if_neg h1
    have e2:clR m roots=[]:=if_neg h1
    have e3:stR m roots=[]:=if_neg h1
    rw [ask_n h1]
    refine brt ?_
    refine rt (vs:=[.slice none 0 0,.slice none 0 0,.slice none 0 0,I 1]) ⟨none,0,none,0,none,0,by rw [e1,e2,e3,ask_n h1];rfl,?_,?_,?_,B3⟩
    · rw [e1];exact Sl.nil ..
    · rw [e2];exact Sl.nil ..
    · rw [e3];exact Sl.nil ..
  have e1:meR m roots=meL m roots:=if_pos h1
  have e2:clR m roots=clL m roots:=if_pos h1
  have e3:stR m roots=stL m roots:=if_pos h1
  obtain ⟨hm,hri⟩:=ask_yes h1
  have P:=modP_of hm
  have hrin:=roots_in h1
  have hc10:=P.cl
  have hs10:=P.sl
  have hm16:=P.ml
  rw [h1]
  refine brf ?_
  refine cl (r5_SortO roots ar cr w3 (hS.bl B3)) ?_ (hm:=fun _ _ r=>by obtain ⟨_,_,_,_,hB⟩:=r;exact mdW_bl hB)
  rintro _ w4 ⟨a4,c4,rfl,O4,B34⟩
  have x4:=Bl.box B34 x3
  refine ld (x4.cell rfl) ?_
  have hRm:∀ x∈srtI roots,Rch m (rootsN roots) (.m x):=fun x hx => .root ⟨x,mem_srtI.1 hx,rfl⟩
  have inR:∀ {x:Int},Rch m (rootsN roots) (.m x)→0≤x∧x<m.methods.length:=fun q=>q.isIn P hrin
  refine lp (vals:=[.slice a4 (srtI roots).length c4,.int .i64 (IntKind.wrap .i64 ((m.methods.length:Int)-1))]) [10,11] [(2,.pointer (some ⟨b1,0,none⟩))] (fun n vals w'=>n≤m.methods.length∧∃ (L:List Int) (a:Option Addr) (c:Nat),vals=[.slice a L.length c,I ((n:Int)-1)]∧OwP 1 encInt w' w3.heap.size 3 a c L∧AscI L∧(∀ x∈roots,x∈L)∧(∀ x∈L,Rch m (rootsN roots) (.m x))∧(∀ x∈L,(n:Int)≤x→∀ c∈calM m x.toNat,c∈L)∧Bl w3 w')
    ⟨rfl,trivial⟩ (m:=m.methods.length) ⟨Nat.le_refl _,srtI roots,a4,c4,by rw [wrap_fit (by omega) (by omega)],O4,srtI_asc _,fun x hx=>mem_srtI.2 hx,hRm,fun x hx hn=>by have:=(inR (hRm x hx)).2;omega,B34⟩ ?_
  rintro n vals w5 ⟨hn,L,a5,c5,rfl,O5,hLa,hLr,hLf,hLc,B35⟩ ih
  have hL16:L.length≤16:=Nat.le_trans (asc_len hLa fun x hx=>inR (hLf x hx)) hm16
  have x5:=Bl.box B35 x3
  have B5:=B3.trans B35
  have z5:=B35.size
  rcases Nat.eq_zero_or_pos n with h0n | h0n
  rotate_left
  · obtain ⟨n,rfl⟩:∃ n',n=n'+1:=⟨n-1,by omega⟩
    rw [show (((n+1:Nat):Int)-1)=(n:Int) by omega]
    refine brT ?_
    refine cl (r5_Has L a5 c5 n w5 (owp_sl O5 (by omega) fun _ _=>trivial)) ?_
    rintro _ w6 ⟨rfl,B56⟩
    have z6:=B56.size
    obtain ⟨x,hx⟩:=some_of_lt (l:=m.methods) (k:=n) (by omega)
    by_cases hmem:(n:Int)∈L
    · refine brT ?_ (hp:=hmem)
      refine lda (Bl.box B56 x5).at ?_
      refine cl (r5_calls m a n P (by omega) w6 (hM.bl (B5.trans B56))) ?_ (hm:=fun _ _ r=>by obtain ⟨_,_,_,_,hB⟩:=r;exact mdW_bl hB)
      rintro _ w7 ⟨a7,c7,rfl,S7,B67⟩
      have hcl:=calM_len P (k:=n) (by omega)
      have z7:=B67.size
      have B57:=B56.trans B67
      refine apl (l1:=calM m n) (O5.bl B57) (src_of S7) (by omega) fun a8 c8 w8 O8 A8 _ => ?_
      have B38:Bl w3 w8:=Below.trans (B35.trans B57) (A8.below (by omega) fun g hg=>(O5.lt hg).1)
      have z8:=B38.size
      refine cl (r5_SortO (L++calM m n) a8 c8 w8 (owp_sl O8 (by rw [List.length_append];omega) fun _ _=>trivial)) ?_ (hm:=fun _ _ r=>by obtain ⟨_,_,_,_,hB⟩:=r;exact mdW_bl hB)
      rintro _ w9 ⟨a9,c9,rfl,O9,B89⟩
      refine again (ih n _ _ _ (by omega) ⟨rfl,trivial⟩ rfl ⟨by omega,srtI (L++calM m n),a9,c9,?_,O9.base z8,srtI_asc _,fun x hx=>mem_srtI.2 (List.mem_append_left _ (hLr x hx)),fun y hy => ?_,fun y hy hny c hc => ?_,B38.trans B89⟩)
      · rw [wrap_fit (by omega) (by omega)]
      · rcases List.mem_append.1 (mem_srtI.1 hy) with q | q
        · exact hLf y q
        · exact .step (hLf _ hmem) (by simp only [suc,Int.toNat_natCast,List.mem_append,List.mem_map];exact .inr ⟨y,q,rfl⟩)
      · refine mem_srtI.2 (List.mem_append.2 ?_)
        rcases List.mem_append.1 (mem_srtI.1 hy) with q | q
        · by_cases e:y=n
          · subst e;rw [Int.toNat_natCast] at hc;exact .inr hc
          · exact .inl (hLc y q (by omega) c hc)
        · have:=(calM_lt P hx q).2;omega
    · refine brF ?_ (hp:=hmem)
      refine again (ih n _ _ _ (by omega) ⟨rfl,trivial⟩ rfl ⟨by omega,L,a5,c5,?_,O5.bl B56,hLa,hLr,hLf,fun y hy hny c hc => ?_,B35.trans B56⟩)
      · rw [wrap_fit (by omega) (by omega)]
      · exact hLc y hy (by have:y≠n:=fun e=>hmem (e▸hy);omega) c hc
  subst h0n
  refine brF ?_
  clear ih
  have SL5:Sl eInt T w5 a5 L:=owp_sl O5 (by omega) fun _ _=>trivial
  have hLn:∀ x∈L,∃ (k:Nat) (z:MM),x=k∧m.methods[k]? = some z∧mths m x=z:=fun x hx=>by
    obtain ⟨g0,g1⟩:=inR (hLf x hx)
    obtain ⟨k,rfl⟩:=Int.eq_ofNat_of_zero_le g0
    obtain ⟨z,hz⟩:=some_of_lt (l:=m.methods) (k:=k) (by omega)
    exact ⟨k,z,rfl,hz,mths_at hz⟩
  have hlC:∀ {j:Nat},j≤L.length→((L.take j).flatMap fun k=>needC (mths m k)).length≤2240:=fun hj=>by
    have:=flatMap_take_le (f:=fun k=>needC (mths m k)) (B:=140) (l:=L) (fun x hx=>by obtain ⟨k,z,_,hz,e⟩:=hLn x hx;rw [e];exact needC_len P hz) hj
    omega
  have hlS:∀ {j:Nat},j≤L.length→((L.take j).flatMap fun k=>needS (mths m k)).length≤2240:=fun hj=>by
    have:=flatMap_take_le (f:=fun k=>needS (mths m k)) (B:=140) (l:=L) (fun x hx=>by obtain ⟨k,z,_,hz,e⟩:=hLn x hx;rw [e];exact needS_len P hz) hj
    omega
  refine lpk (vals:=[.slice none 0 0,.slice none 0 0]) L.length 14 [12,13] [(2,.pointer (some ⟨b1,0,none⟩)),(10,.slice a5 L.length c5)] (fun j vals w'=>∃ a6 c6 a7 c7,vals=[.slice a6 ((L.take j).flatMap fun k=>needC (mths m k)).length c6,.slice a7 ((L.take j).flatMap fun k=>needS (mths m k)).length c7]∧OwP 1 encInt w' w5.heap.size 3 a6 c6 ((L.take j).flatMap fun k=>needC (mths m k))∧OwP 1 encInt w' w5.heap.size 3 a7 c7 ((L.take j).flatMap fun k=>needS (mths m k))∧Sep2 a6 a7∧Bl w5 w')
    ⟨none,0,none,0,rfl,Ow.nil ..,Ow.nil ..,(fun _ h _=>by cases h),Bl.refl _⟩ ?_
  rintro j vals w6 hj ⟨a6,c6,a7,c7,rfl,O6,O7,hsep,B56⟩ ih
  have hl6:=hlC hj
  have hl7:=hlS hj
  have z6:=B56.size
  have x6:=Bl.box B56 x5
  have B6:=B5.trans B56
  by_cases hlt:j<L.length
  · refine brT ?_
    obtain ⟨y,by',oy,cy,hy,rfl,_,hAy,rfl⟩:=at_some (SL5.bl B56) hlt
    obtain ⟨k,z,rfl,hz,ez⟩:=hLn y (List.mem_of_getElem? hy)
    refine dh T (List.range 11) fun w7 k7 => ?_
    refine lda (k7.box x6).at ?_ (hm:=trivial)
    refine ix ?_
    refine ld ((hAy.bl k7.bl) 0 _ rfl) ?_ (hm:=trivial)
    refine cl (r5_needs m a P k z hz w7 (hM.bl (B6.trans k7.bl))) ?_ (hm:=fun _ _ r=>by obtain ⟨_,_,_,_,_,_,_,hB⟩:=r;exact mdW_bl hB)
    rintro _ w8 ⟨a8,c8,a9,c9,rfl,S8,S9,B78⟩
    have B68:=k7.bl.trans B78
    have z8:=B68.size
    have n8:=needC_len P hz
    have n9:=needS_len P hz
    have g7:=k7.bl.size
    refine apl (l1:=needC z) (O6.bl B68) (src_of S8) (by omega) fun a10 c10 w9 O10 A10 F10 => ?_
    have z9:=A10.size
    have S9':Sl eInt (fun b=>w7.heap.size≤b∧b<w8.heap.size) w9 a9 (needS z):=S9.kp (A10.kp.sub fun i hi q=>by have:=(O6.lt q).2;omega)
    have O7':OwP 1 encInt w9 w5.heap.size 3 a7 c7 ((L.take j).flatMap fun k=>needS (mths m k)):=(O7.bl B68).same fun g hg=>A10.block g (by have:=(O7.lt hg).2;omega) fun q=>hsep g q hg
    refine apl (l1:=needS z) O7' (src_of S9') (by omega) fun a11 c11 w10 O11 A11 F11 => ?_
    have s10:Sep2 a10 a7:=fun g hg hg'=>by
      rcases F10 g hg with q | q
      · exact hsep g q hg'
      · have:=(O7.lt hg').2;omega
    have O10':OwP 1 encInt w10 w5.heap.size 3 a10 c10 _:=O10.same fun g hg=>A11.block g (O10.lt hg).2 fun q=>s10 g hg q
    have eC:(L.take (j+1)).flatMap (fun k=>needC (mths m k))=(L.take j).flatMap (fun k=>needC (mths m k))++needC z:=by rw [flatMap_snoc hy,ez]
    have eS:(L.take (j+1)).flatMap (fun k=>needS (mths m k))=(L.take j).flatMap (fun k=>needS (mths m k))++needS z:=by rw [flatMap_snoc hy,ez]
    refine ih hlt ⟨a10,c10,a11,c11,by rw [eC,eS],by rw [eC];exact O10',by rw [eS];exact O11,fun g hg hg' => ?_,Below.trans (Below.trans (B56.trans B68) (A10.below (by omega) fun g hg=>(O6.lt hg).1)) (A11.below (by omega) fun g hg=>(O7.lt hg).1)⟩
    rcases F11 g hg' with q | q
    · exact s10 g hg q
    · have:=(O10.lt hg).2;omega
  refine brF ?_
  clear ih
  obtain rfl:j=L.length:=by omega
  rw [List.take_length] at O6 O7 hl6 hl7 ⊢
  obtain ⟨C0,hC0⟩:∃ C0,C0=L.flatMap fun k=>needC (mths m k):=⟨_,rfl⟩
  obtain ⟨S0,hS0⟩:∃ S0,S0=L.flatMap fun k=>needS (mths m k):=⟨_,rfl⟩
  rw [←hC0] at O6 hl6 ⊢
  rw [←hS0] at O7 hl7 ⊢
  have hSn:∀ x∈S0,∃ (k:Nat) (t:Ty),x=k∧m.statics[k]? = some t∧staC m x=tcl t:=fun x hx=>by
    rw [hS0] at hx
    obtain ⟨y,hy,hx⟩:=List.mem_flatMap.1 hx
    obtain ⟨k,z,rfl,hz,ez⟩:=hLn y hy
    rw [ez] at hx
    obtain ⟨g0,g1⟩:=needS_in P hz hx
    obtain ⟨n,rfl⟩:=Int.eq_ofNat_of_zero_le g0
    obtain ⟨t,ht⟩:=some_of_lt (l:=m.statics) (k:=n) (by omega)
    exact ⟨n,t,rfl,ht,by unfold staC;rw [Int.toNat_natCast,ht];rfl⟩
  have hlD:∀ {j:Nat},j≤S0.length→(C0++(S0.take j).flatMap (staC m)).length≤4480:=fun hj=>by
    have:=flatMap_take_le (f:=staC m) (B:=1) (l:=S0) (fun x hx=>by obtain ⟨k,t,_,_,e⟩:=hSn x hx;rw [e];exact tcl_len t) hj
    rw [List.length_append];omega
  have MS:Sl eTy (· < w.heap.size) w a.a2 m.statics:=Sl.lt (by decide) hM.sta
  refine lpk (vals:=[.slice a6 C0.length c6]) S0.length 17 [12] [(2,.pointer (some ⟨b1,0,none⟩)),(10,.slice a5 L.length c5),(13,.slice a7 S0.length c7)] (fun j vals w'=>∃ a8 c8,vals=[.slice a8 (C0++(S0.take j).flatMap (staC m)).length c8]∧OwP 1 encInt w' w5.heap.size 3 a8 c8 (C0++(S0.take j).flatMap (staC m))∧OwP 1 encInt w' w5.heap.size 3 a7 c7 S0∧Sep2 a8 a7∧Bl w5 w')
    ⟨a6,c6,by simp,by simpa using O6,O7,hsep,B56⟩ ?_
  clear x6 B6 B56 z6
  rintro j vals w6 hj ⟨a8,c8,rfl,O8,O7,hsep,B56⟩ ih
  have hl8:=hlD hj
  have z6:=B56.size
  have x6:=Bl.box B56 x5
  have B6:=B5.trans B56
  by_cases hlt:j<S0.length
  · refine brT ?_
    have S7:Sl eInt (fun g=>¬a8=some ⟨g,0,none⟩) w6 a7 S0:=owp_sl O7 (by omega) fun g hg q=>hsep g q hg
    obtain ⟨y,by',oy,cy,hy,rfl,hSy,hAy,rfl⟩:=at_some S7 hlt
    obtain ⟨k,t,rfl,ht,et⟩:=hSn y (List.mem_of_getElem? hy)
    obtain ⟨t',bt,ot,ct,ht',e9,hbt,hAt,rfl⟩:=at_some (MS.bl B6) (i:=k) (List.getElem?_eq_some_iff.1 ht).1
    obtain rfl:t'=t:=by rw [ht] at ht';exact (Option.some.inj ht').symm
    have hkl:=(List.getElem?_eq_some_iff.1 ht).1
    have w0:w.heap.size≤w5.heap.size:=B5.size
    refine dh (fun g=>¬a8=some ⟨g,0,none⟩) (List.range 11) fun w7 k7 => ?_
    have g7:=k7.bl.size
    refine ld ((k7.box x6).cell rfl) ?_ (hm:=fun q=>by have:=(O8.lt q).1;have:=x2.lt;have:=B3.size;have:=x5.lt;have:=B23.size;have:=B35.size;omega)
    refine ix ?_
    refine ld ((hAy.bl k7.bl) 0 _ rfl) ?_ (hm:=hSy)
    rw [e9]
    refine ix ?_
    refine lda (hAt.bl k7.bl) ?_ (hm:=fun q=>by have:=(O8.lt q).1;omega)
    refine cl (r5_named _ t' w5.heap.size a8 c8 w7 (O8.bl k7.bl) (by omega) (by omega)) ?_ (hm:=fun _ _ r=>by obtain ⟨_,_,_,_,_,hC⟩:=r;exact hC.kb)
    rintro _ w8 ⟨a9,c9,rfl,O9,F9,C9⟩
    have e4:C0++(S0.take (j+1)).flatMap (staC m)=C0++(S0.take j).flatMap (staC m)++tcl t':=by rw [flatMap_snoc hy,et,List.append_assoc]
    refine ih hlt ⟨a9,c9,by rw [e4],by rw [e4];exact O9,(O7.bl k7.bl).same fun g hg=>C9.block g (by have:=(O7.lt hg).2;omega) fun q=>hsep g q hg,fun g hg hg' => ?_,Below.trans (B56.trans k7.bl) (C9.below (by omega) fun g hg=>(O8.lt hg).1)⟩
    rcases F9 g hg with q | q
    · exact hsep g q hg'
    · have:=(O7.lt hg').2;omega
  refine brF ?_
  clear ih
  obtain rfl:j=S0.length:=by omega
  rw [List.take_length] at O8 hl8 ⊢
  obtain ⟨K,hK⟩:∃ K,K=C0++S0.flatMap (staC m):=⟨_,rfl⟩
  rw [←hK] at O8 hl8 ⊢
  have hway:Way m roots L K S0:=⟨hLa,hLr,hLf,fun x hx c hc=>hLc x hx (by have:=(inR (hLf x hx)).1;omega) c hc,hS0,by rw [hK,hC0]⟩
  obtain ⟨f1,f2,f3⟩:=hway.meth P hrin
  have hKin:∀ x∈srtI K,0≤x∧x<m.classes.length:=fun x hx=>by
    have:x∈clL m roots:=by rw [←f2];exact rnds_mono _ hx
    exact (mem_sel.1 this).1
  have hK10:(srtI K).length≤10:=Nat.le_trans (asc_len (srtI_asc _) hKin) hc10
  refine cl (r5_SortO K a8 c8 w6 (owp_sl O8 (by omega) fun _ _=>trivial)) ?_ (hm:=fun _ _ r=>by obtain ⟨_,_,_,_,hB⟩:=r;exact mdW_bl hB)
  rintro _ w7 ⟨a9,c9,rfl,O9,B67⟩
  have S7:Sl eInt T w7 a7 S0:=(owp_sl O7 (by omega) fun _ _=>trivial).bl B67
  have L7:=SL5.bl (B56.trans B67)
  have x7:=Bl.box B67 x6
  have B7:=B6.trans B67
  refine lpk (vals:=[.slice a9 (srtI K).length c9]) m.classes.length 18 [12] [(2,.pointer (some ⟨b1,0,none⟩)),(10,.slice a5 L.length c5),(13,.slice a7 S0.length c7)] (fun r vals w'=>∃ a c,vals=[.slice a (rnds m (srtI K) r).length c]∧CapL w' a c (rnds m (srtI K) r)∧Bl w7 w') ⟨a9,c9,rfl,CapL.own O9 (show (srtI K).length≤4194304 by omega),Bl.refl _⟩ ?_
  rintro r vals w8 hr ⟨a10,c10,rfl,C10,B78⟩ ih
  have x8:=Bl.box B78 x7
  have B8:=B7.trans B78
  refine ld (x8.cell rfl) ?_
  by_cases hlt:r<m.classes.length
  rotate_left
  · refine brF ?_
    obtain rfl:r=m.classes.length:=by omega
    refine cl (r5_Sort S0 a7 c7 w8 (S7.bl B78)) ?_ (hm:=fun _ _ r=>by obtain ⟨_,_,_,_,hB⟩:=r;exact mdW_bl hB)
    rintro _ w9 ⟨a11,c11,rfl,S11,B89⟩
    refine rt (vs:=[.slice a5 L.length c5,.slice a10 (rnds m (srtI K) m.classes.length).length c10,.slice a11 (srtI S0).length c11,I 0]) ⟨a5,c5,a10,c10,a11,c11,by rw [e1,e2,e3,f1,f2,f3,h1];rfl,?_,?_,?_,B8.trans B89⟩
    · rw [e1,←f1];exact L7.bl (B78.trans B89)
    · rw [e2,←f2];exact C10.1.bl B89
    · rw [e3,←f3];exact S11.sub fun _ _=>trivial
  refine brT ?_
  have hRin:=rnds_in P hKin r
  have hRa:=rnds_asc (m:=m) (srtI_asc K) r
  obtain ⟨R,hRR⟩:∃ R,R=rnds m (srtI K) r:=⟨_,rfl⟩
  have eNext:rnds m (srtI K) (r+1)=srtI (R++R.flatMap (sucC m)):=by rw [hRR];rfl
  rw [←hRR] at C10 hRin hRa ⊢
  have hR10:R.length≤10:=Nat.le_trans (asc_len hRa hRin) hc10
  have hlB:∀ {j:Nat},j≤R.length→(R++(R.take j).flatMap (sucC m)).length≤90:=fun hj=>by
    have:=flatMap_take_le (f:=sucC m) (B:=8) (l:=R) (fun x _=>sucC_len P x) hj
    rw [List.length_append];omega
  refine lpk (vals:=[.slice a10 R.length c10]) R.length 20 [19] [(2,.pointer (some ⟨b1,0,none⟩)),(10,.slice a5 L.length c5),(12,.slice a10 R.length c10),(13,.slice a7 S0.length c7),(18,I r)] (fun j vals w'=>∃ a c,vals=[.slice a (R++(R.take j).flatMap (sucC m)).length c]∧CapL w' a c (R++(R.take j).flatMap (sucC m))∧Bl w8 w') ⟨a10,c10,by simp,by simpa using C10,Bl.refl _⟩ ?_
  rintro j vals w9 hj ⟨a11,c11,rfl,C11,B89⟩ ih2
  have hl11:=hlB hj
  have x9:=Bl.box B89 x8
  have B9:=B8.trans B89
  by_cases hlj:j<R.length
  rotate_left
  · refine brF ?_
    obtain rfl:j=R.length:=by omega
    rw [List.take_length] at C11 hl11 ⊢
    refine cl (r5_SortO (R++R.flatMap (sucC m)) a11 c11 w9 C11.1) ?_ (hm:=fun _ _ r=>by obtain ⟨_,_,_,_,hB⟩:=r;exact mdW_bl hB)
    rintro _ w10 ⟨a12,c12,rfl,O12,B910⟩
    have:=srtI_len (R++R.flatMap (sucC m))
    exact ih hlt ⟨a12,c12,by rw [eNext],by rw [eNext];exact CapL.own O12 (by omega),(B78.trans B89).trans B910⟩
  refine brT ?_
  obtain ⟨y,by',oy,cy,hy,e5,_,hAy,rfl⟩:=at_some (C10.1.bl B89) hlj
  obtain ⟨g0,g1⟩:=hRin y (List.mem_of_getElem? hy)
  obtain ⟨k,rfl⟩:=Int.eq_ofNat_of_zero_le g0
  obtain ⟨x,b,o,cs,hx,e6,_,hAt,a13,d13,a14,d14,rfl,F13,_⟩:=at_some (hM.bl B9).cls (i:=k) (by omega)
  have C:=P.cls k x hx
  have esuc:=sucC_at hx
  refine dh (· < w9.heap.size) (List.range 10) fun w10 k10 => ?_
  have g10:w10.heap.size=w9.heap.size:=by rw [k10.heap]
  refine ld ((k10.box x9).cell rfl) ?_ (hm:=x9.lt)
  rw [e5]
  refine ix ?_
  refine ld ((hAy.bl k10.bl) 0 _ rfl) ?_ (hm:=cell_lt (hAy 0 _ rfl))
  rw [e6]
  refine ix ?_
  refine lda (hAt.bl k10.bl) ?_ (hm:=cell_lt (hAt 0 _ rfl))
  refine al fun b12 w11 k11 => ?_
  have y11:=k11.blk
  refine sta (cs':=mccells x a13 d13 a14 d14) k11.box (fun w12 k12 x12 => ?_) (hm:=by intro w' k;exact Kb.mk fun i hi _=>k.block i (by omega))
  have B912:=k10.bl.trans (k11.wr k12)
  have B12':=B9.trans B912
  have x12b:=Bl.box B912 x9
  obtain ⟨B0,hB0⟩:∃ B0,B0=R++(R.take j).flatMap (sucC m):=⟨_,rfl⟩
  have eStep:R++(R.take (j+1)).flatMap (sucC m)=B0++((if 0≤x.super then [x.super] else [])++x.fields.flatMap tcl):=by rw [flatMap_snoc hy,esuc,hB0,List.append_assoc]
  rw [←hB0] at C11 hl11 ⊢
  have C12:=C11.bl B912
  obtain ⟨sp,hsp⟩:∃ sp,sp=(if 0≤x.super then [x.super] else []):=⟨_,rfl⟩
  rw [←hsp] at eStep
  refine ld (x12.cell rfl) ?_
  refine jn [19] [(2,.pointer (some ⟨b1,0,none⟩)),(10,.slice a5 L.length c5),(12,.slice (some ⟨by',oy,none⟩) R.length c10),(13,.slice a7 S0.length c7),(18,I r),(20,I j),(21,.pointer (some ⟨b12,0,none⟩))] (fun vals w'=>∃ a c,vals=[.slice a (B0++sp).length c]∧CapL w' a c (B0++sp)∧Bl w12 w') (fun h go => ?_) (fun h go => ?_) ?_
  · have h0:0≤x.super:=of_decide_eq_true h
    have es:sp=[x.super]:=by rw [hsp];exact if_pos h0
    refine dh T (List.range 11) fun w13 k13 => ?_
    refine slm 0 B0.length B0.length ?_ (h5:=C12.2.1)
    refine ld ((k13.box x12).cell rfl) ?_ (hm:=trivial)
    refine bs (cs:=encInt x.super) fun b14 w14 k14 => ?_
    have T8:Eng.Src w14 (if B0.length=0 then a11 else a11.map (·.add (0*1))) (B0.length-0) (B0.flatMap encInt):=by rw [slm_a];exact src_of ((C12.1.bl k13.bl).bl k14.bl)
    refine apg (m:=1) (cap:=B0.length-0) T8 (.inr ⟨b14,0,rfl,k14.box.at⟩) (fun e=>by
      rw [slm_a] at e
      have:=C12.2.1
      have:=C12.2.2 e
      omega) (by omega) (by omega) (fun a15 c15 w15 O15 B15 => ?_) (hlx:=by rw [int_len];omega) (h1:=rfl)
    have e7:B0.flatMap encInt++encInt x.super=(B0++sp).flatMap encInt:=by rw [es];simp
    have e8:B0.length-0+1=(B0++sp).length:=by rw [es];simp
    rw [e7,e8] at O15
    rw [e8]
    exact go ⟨a15,c15,rfl,CapL.own O15 (by omega),(k13.bl.trans k14.bl).trans B15⟩
  · have h0:¬0≤x.super:=of_decide_eq_false h
    have es:sp=[]:=by rw [hsp];exact if_neg h0
    exact go ⟨a11,c11,by rw [es,List.append_nil],by rw [es,List.append_nil];exact C12,Bl.refl _⟩
  rintro _ w13 ⟨a13',c13,rfl,C13,B1213⟩
  have x13:=Bl.box B1213 x12
  have F13':=(F13.bl B912).bl B1213
  have hsl:sp.length≤1:=by rw [hsp];split <;> simp
  obtain ⟨B1,hB1⟩:∃ B1,B1=B0++sp:=⟨_,rfl⟩
  have hB1l:B1.length≤91:=by rw [hB1,List.length_append];omega
  rw [←List.append_assoc,←hB1] at eStep
  rw [←hB1] at C13 ⊢
  have hfl:=C.fl
  refine lpk (vals:=[.slice a13' B1.length c13]) x.fields.length 22 [19] [(2,.pointer (some ⟨b1,0,none⟩)),(10,.slice a5 L.length c5),(12,.slice (some ⟨by',oy,none⟩) R.length c10),(13,.slice a7 S0.length c7),(18,I r),(20,I j),(21,.pointer (some ⟨b12,0,none⟩))] (fun f vals w'=>∃ a c,vals=[.slice a (B1++(x.fields.take f).flatMap tcl).length c]∧CapL w' a c (B1++(x.fields.take f).flatMap tcl)∧Bl w13 w') ⟨a13',c13,by simp,by simpa using C13,Bl.refl _⟩ ?_
  rintro f vals w14 hf ⟨a15,c15,rfl,C15,B1314⟩ ih3
  have hl15:(B1++(x.fields.take f).flatMap tcl).length≤100:=by
    have:=flatMap_take_le (f:=tcl) (B:=1) (l:=x.fields) (fun t _=>tcl_len t) hf
    rw [List.length_append];omega
  have x14:=Bl.box B1314 x13
  refine ld (x14.cell rfl) ?_
  by_cases hlf:f<x.fields.length
  rotate_left
  · refine brF ?_
    obtain rfl:f=x.fields.length:=by omega
    rw [List.take_length,←eStep] at C15 ⊢
    exact ih2 hlj ⟨a15,c15,rfl,C15,(B89.trans B912).trans (B1213.trans B1314)⟩ (hsub:=by rw [e5];repeat (first | exact True.intro | (refine ⟨rfl,?_⟩)))
  refine brT ?_
  obtain ⟨t,bt,ot,ct,ht,e9,_,hAt',rfl⟩:=at_some (F13'.bl B1314) hlf
  obtain ⟨B2,hB2⟩:∃ B2,B2=B1++(x.fields.take f).flatMap tcl:=⟨_,rfl⟩
  have eF:B1++(x.fields.take (f+1)).flatMap tcl=B2++tcl t:=by rw [flatMap_snoc ht,hB2,List.append_assoc]
  rw [←hB2] at C15 hl15 ⊢
  refine dh T (List.range 13) fun w15 k15 => ?_
  refine slm 0 B2.length B2.length ?_ (h5:=C15.2.1)
  rw [slm_a]
  refine ld ((k15.box x14).cell rfl) ?_ (hm:=trivial)
  rw [e9]
  refine ix ?_
  refine lda (hAt'.bl k15.bl) ?_ (hm:=trivial)
  refine cl (r5_namedF B2 t a15 w15 (C15.1.bl k15.bl) (by omega)) ?_ (hm:=fun _ _ r=>by obtain ⟨_,_,_,_,_,_,hB⟩:=r;exact mdW_bl hB)
  rintro _ w16 ⟨a16,c16,rfl,g2,g3,S16,B1516⟩
  exact ih3 hlf ⟨a16,c16,by rw [eF],by rw [eF];exact ⟨S16,g2,g3⟩,(B1314.trans k15.bl).trans B1516⟩
end Go.Proofs.YtkmdfjpafkcleaaGreatDoor
namespace Go.Proofs.YtkmdfjpafkcleaaGreatDoor
open Eng Go.RowKit
def posI (l:List Int) (x:Int):Int:=if x∈l then (l.idxOf x:Nat) else -1
theorem posI_no {l:List Int} {x:Int} (h:¬x∈l):posI l x = -1:=if_neg h
theorem posI_at {l:List Int} {x:Int} {k:Nat} (hx:l[k]? = some x) (h:∀ i y,i<k→l[i]? = some y→¬y=x):posI l x=k:=by
  have hm:=List.mem_of_getElem? hx
  unfold posI
  rw [if_pos hm]
  have h1:l.idxOf x<l.length:=List.idxOf_lt_length_of_mem hm
  have h2:l[l.idxOf x]? = some x:=by rw [List.getElem?_eq_getElem h1,List.getElem_idxOf]
  have hk:=(List.getElem?_eq_some_iff.1 hx).1
  rcases Nat.lt_trichotomy (l.idxOf x) k with q | q | q
  · exact absurd rfl (h _ x q h2)
  · rw [q]
  · exfalso
    have:=List.not_of_lt_findIdx (p:=(· == x)) q
    rw [(List.getElem?_eq_some_iff.1 hx).2] at this
    simp at this
theorem c_IndexI (l:List Int) (al:Option Addr) (ce:Nat) (n:Int) (w:World) (hS:Sl eInt T w al l):Ret Tryz.prog 139 #[.slice al l.length ce,I n] w fun v w'=>v=I (posI l n)∧w'=w:=by
  have q1:=hS.big
  refine entr (vs:=[.slice al l.length ce,I n]) [0,1,4,5,7,8,9,16] tabok Tryz.func139 (by kernel_rfl) ?_
  refine lpk l.length 8 [] [(0,.slice al l.length ce),(1,I n),(7,I l.length)] (fun k vals w'=>vals=[]∧w'=w∧∀ i y,i<k→l[i]? = some y→¬y=n) ⟨rfl,rfl,fun i y h=>by omega⟩ ?_
  rintro k vals _ hk ⟨rfl,rfl,hno⟩ ih
  by_cases hlt:k<l.length
  · refine brT ?_
    obtain ⟨x,b,o,cs,hx,rfl,_,hAt,rfl⟩:=at_some hS hlt
    refine ix ?_
    refine ld (hAt 0 _ rfl) ?_
    by_cases h:x=n
    · refine brT ?_ (hp:=h.symm)
      rw [←h,posI_at hx fun i y hi hy=>h▸hno i y hi hy]
      exact rt1 ⟨rfl,rfl⟩
    · refine brF ?_ (hp:=by exact fun e=>h e.symm)
      refine ih hlt ⟨rfl,rfl,fun i y hi hy => ?_⟩
      by_cases e:i=k
      · subst e;rw [hx] at hy;obtain rfl:=Option.some.inj hy;exact h
      · exact hno i y (by omega) hy
  · refine brF ?_
    rw [posI_no fun h=>by
      obtain ⟨i,hi⟩:=List.mem_iff_getElem?.1 h
      exact hno i n (by have:=(List.getElem?_eq_some_iff.1 hi).1;omega) hi rfl]
    exact rt1 ⟨rfl,rfl⟩
def rty (cl:List Int) (t:Ty):Ty:=if t.kind=2∨t.kind=4 then ⟨t.kind,posI cl t.cls⟩ else t
def rin (me cl st:List Int) (i:Ins):Ins :=
  if i.op=12 then (if i.a=3 then i else ⟨i.op,i.a,posI cl i.b⟩)
  else if i.op=14∨i.op=24 then ⟨i.op,posI cl i.a,i.b⟩
  else if i.op=16 then ⟨i.op,i.a,posI cl i.b⟩
  else if i.op=22∨i.op=23 then ⟨i.op,posI st i.a,i.b⟩
  else if i.op=25 then ⟨i.op,posI me i.a,i.b⟩ else i
def rmm (me cl st:List Int) (x:MM):MM:=⟨x.name,posI cl x.cls,x.params.map (rty cl),x.locals.map (rty cl),rty cl x.result,x.code.map (rin me cl st)⟩
def entU (me:List Int) (acc:List MC) (sp n:Int) (s:Nat):Int:=if posI me n<0∧0≤sp then ((acc[sp.toNat]?).map fun c=>c.table.getD s (-1)).getD (-1) else posI me n
def tblU (me:List Int) (acc:List MC) (sp:Int) (tb:List Int) (j:Nat):List Int:=(List.range j).map fun s=>entU me acc sp (tb.getD s (-1)) s
def clss (m:Mod) (k:Int):MC:=(m.classes[k.toNat]?).getD ⟨⟨#[]⟩,-1,[],[]⟩
def stas (m:Mod) (k:Int):Ty:=(m.statics[k.toNat]?).getD ⟨0,0⟩
def rmc (m:Mod) (me cl:List Int) (acc:List MC) (k:Int):MC:=⟨(clss m k).name,posI cl (clss m k).super,(clss m k).fields.map (rty cl),tblU me acc (posI cl (clss m k).super) (clss m k).table (clss m k).table.length⟩
def rcl (m:Mod) (me cl:List Int):Nat→List MC
  | 0=>[]
  | n+1=>rcl m me cl n++[rmc m me cl (rcl m me cl n) (cl.getD n 0)]
def unlM (m:Mod) (me cl st:List Int):Mod:=⟨rcl m me cl cl.length,st.map fun i=>rty cl (stas m i),me.map fun k=>rmm me cl st (mths m k),m.sels⟩
theorem rcl_len (m:Mod) (me cl:List Int):∀ n,(rcl m me cl n).length=n
  | 0=>rfl
  | n+1=>by show (rcl m me cl n++[_]).length=_;rw [List.length_append,rcl_len m me cl n];rfl
theorem clss_at {m:Mod} {k:Nat} {x:MC} (h:m.classes[k]? = some x):clss m (k:Int)=x:=by unfold clss;rw [Int.toNat_natCast,h];rfl
theorem stas_at {m:Mod} {k:Nat} {x:Ty} (h:m.statics[k]? = some x):stas m (k:Int)=x:=by unfold stas;rw [Int.toNat_natCast,h];rfl
def RenF (w:World) (b:Nat) (l:List Int):Prop:=∃ a c,Box w b 47 [.slice a l.length c]∧Sl eInt T w a l
abbrev renV (b:Nat):Value := .func (.func 138) #[] #[.pointer (some ⟨b,0,none⟩)]
theorem RenF.bl {w w':World} {b:Nat} {l:List Int} (h:RenF w b l) (k:Bl w w'):RenF w' b l:=by
  obtain ⟨a,c,h1,h2⟩:=h
  exact ⟨a,c,Bl.box k h1,h2.bl k⟩
theorem k_renumber (l:List Int) (al:Option Addr) (ce:Nat) (w:World) (hS:Sl eInt T w al l):Ret Tryz.prog 82 #[.slice al l.length ce] w fun v w'=>∃ b,v=renV b∧RenF w' b l∧w.heap.size≤b∧Bl w w':=by
  refine entr (vs:=[.slice al l.length ce]) [0,1,2] tabok Tryz.func82 (by kernel_rfl) ?_
  refine bx (cs:=[.slice al l.length ce]) fun b1 w1 k1 => ?_
  exact rt1 ⟨b1,rfl,⟨al,ce,k1.box,hS.bl k1.bl⟩,by rw [k1.blk];exact Nat.le_refl _,k1.bl⟩
theorem k_renumber1 (l:List Int) (b:Nat) (n:Int) (w:World) (h:RenF w b l):Ret Tryz.prog 138 #[I n,.pointer (some ⟨b,0,none⟩)] w fun v w'=>v=I (posI l n)∧w'=w:=by
  obtain ⟨a,c,h1,h2⟩:=h
  refine entr (vs:=[I n,.pointer (some ⟨b,0,none⟩)]) [0,1,3] tabok Tryz.func138 (by kernel_rfl) ?_
  refine ld (h1.cell rfl) ?_
  refine cl (c_IndexI l a c n w h2) ?_
  rintro _ _ ⟨rfl,rfl⟩
  exact rt1 ⟨rfl,rfl⟩
end Go.Proofs.YtkmdfjpafkcleaaGreatDoor
namespace Go.Proofs.YtkmdfjpafkcleaaGreatDoor
open Eng Go.RowKit
theorem k_kindU (cl':List Int) (t:Ty) (bf bc:Nat) (w:World) (hf:w.cell? ⟨bf,0,none⟩=some (renV bc)) (hr:RenF w bc cl') :
    Ret Tryz.prog 83 #[.agg (encTy t).toArray,.pointer (some ⟨bf,0,none⟩)] w fun v w'=>v = .agg (encTy (rty cl' t)).toArray∧Bl w w':=by
  refine entr (vs:=[.agg (encTy t).toArray,.pointer (some ⟨bf,0,none⟩)]) [0,1,2,3,11] tabok Tryz.func83 (by kernel_rfl) ?_
  refine bx (cs:=encTy t) fun b2 w1 k1 => ?_
  refine al fun b3 w2 k2 => ?_
  have y1:=k1.blk
  have z1:=k1.size
  have y2:=k2.blk
  have z2:=k2.size
  have x2:=Bl.box k2.bl k1.box
  have B2:=k1.bl.trans k2.bl
  refine ld (x2.cell rfl) ?_
  have fin0:¬(t.kind=2∨t.kind=4)→rty cl' t=t:=fun h=>if_neg h
  by_cases h24:t.kind=2∨t.kind=4
  · have e:rty cl' t=⟨t.kind,posI cl' t.cls⟩:=if_pos h24
    have hfb:bf<w.heap.size:=cell_lt hf
    by_cases h2:t.kind=2
    · refine spn (I 0) ?_ (hb:=by simp [h2])
      refine brt ?_ (hp:=by simp [h2])
      refine ld ((B2.kp T) _ _ _ trivial hf) ?_
      refine ld (x2.cell rfl) ?_
      refine cl (k_renumber1 cl' bc t.cls w2 (hr.bl B2)) ?_
      rintro _ _ ⟨rfl,rfl⟩
      refine stx x2 (fun w3 k3 x3 => ?_) (ho:=by show 1<2;decide)
      have x33:=(k3.chg (bs:=(· = b2)) rfl).box k2.box (by omega)
      refine lda x3.at ?_
      refine sta (cs':=encTy (rty cl' t)) x33 (fun w4 k4 x4 => ?_) (vs:=encTy (rty cl' t)) (hy:=by rw [e];rfl)
      exact rtc (cs:=encTy (rty cl' t)) x4.at ⟨rfl,Below.trans (Below.trans B2 (k3.below (by omega))) (k4.below (by omega))⟩
    · have h4:=h24.resolve_left h2
      refine spt (I 0) ?_ (hb:=by simp [h2])
      refine ld (x2.cell rfl) ?_
      refine brt ?_ (hp:=by simp [h4])
      refine ld ((B2.kp T) _ _ _ trivial hf) ?_
      refine ld (x2.cell rfl) ?_
      refine cl (k_renumber1 cl' bc t.cls w2 (hr.bl B2)) ?_
      rintro _ _ ⟨rfl,rfl⟩
      refine stx x2 (fun w3 k3 x3 => ?_) (ho:=by show 1<2;decide)
      have x33:=(k3.chg (bs:=(· = b2)) rfl).box k2.box (by omega)
      refine lda x3.at ?_
      refine sta (cs':=encTy (rty cl' t)) x33 (fun w4 k4 x4 => ?_) (vs:=encTy (rty cl' t)) (hy:=by rw [e];rfl)
      exact rtc (cs:=encTy (rty cl' t)) x4.at ⟨rfl,Below.trans (Below.trans B2 (k3.below (by omega))) (k4.below (by omega))⟩
  · refine spt (I 0) ?_ (hb:=by simp;omega)
    refine ld (x2.cell rfl) ?_
    refine brf ?_ (hp:=by simp;omega)
    refine lda x2.at ?_
    refine sta (cs':=encTy t) k2.box fun w4 k4 x4 => ?_
    refine rtc (cs:=encTy t) x4.at ⟨by rw [fin0 h24],Below.trans B2 (k4.below (by omega))⟩
abbrev kndV (b:Nat):Value := .func (.func 83) #[] #[.pointer (some ⟨b,0,none⟩)]
theorem k_kindsU (cl':List Int) (l:List Ty) (al:Option Addr) (ce:Nat) (bk bf bc:Nat) (w:World) (hk:w.cell? ⟨bk,0,none⟩=some (kndV bf)) (hf:w.cell? ⟨bf,0,none⟩=some (renV bc)) (hr:RenF w bc cl') (hS:Sl eTy T w al l) :
    Ret Tryz.prog 84 #[.slice al l.length ce,.pointer (some ⟨bk,0,none⟩)] w fun v w'=>∃ a c,v = .slice a (l.map (rty cl')).length c∧OwP 2 encTy w' w.heap.size 51 a c (l.map (rty cl'))∧Bl w w':=by
  have q1:=hS.big
  refine entr (vs:=[.slice al l.length ce,.pointer (some ⟨bk,0,none⟩)]) [0,1,3,4,6,7,8,9,10] tabok Tryz.func84 (by kernel_rfl) ?_
  refine lpk l.length 9 [4] [(1,.pointer (some ⟨bk,0,none⟩)),(7,.slice al l.length ce),(8,I l.length)] (fun j vals w'=>∃ a c,vals=[.slice a ((l.take j).map (rty cl')).length c]∧OwP 2 encTy w' w.heap.size 51 a c ((l.take j).map (rty cl'))∧Bl w w') ⟨none,0,rfl,Ow.nil ..,Bl.refl _⟩ ?_
  rintro j vals w1 hj ⟨a1,c1,rfl,O1,B1⟩ ih
  have hl:(l.take j).length≤l.length:=by rw [List.length_take];omega
  have z1:=B1.size
  by_cases hlt:j<l.length
  · refine brT ?_
    obtain ⟨t,b,o,cs,ht,rfl,_,hAt,rfl⟩:=at_some (hS.bl B1) hlt
    refine ix ?_
    refine lda hAt ?_
    refine al fun b6 w2 k2 => ?_
    refine sta (cs':=encTy t) k2.box fun w3 k3 x3 => ?_
    have B13:=k2.wr k3
    have B3:=B1.trans B13
    refine ld ((B3.kp T) _ _ _ trivial hk) ?_
    refine lda x3.at ?_
    refine cl (k_kindU cl' t bf bc w3 ((B3.kp T) _ _ _ trivial hf) (hr.bl B3)) ?_
    rintro _ w4 ⟨rfl,B34⟩
    refine bs (cs:=encTy (rty cl' t)) fun b7 w5 k7 => ?_
    have B15:=(B13.trans B34).trans k7.bl
    have z5:=B15.size
    refine apl (l1:=[rty cl' t]) (O1.bl B15) (.inr ⟨b7,0,rfl,k7.box.at⟩) (by omega) fun a8 c8 w8 O8 A8 _ => ?_
    exact ih hlt ⟨a8,c8,by rw [map_snoc ht],by rw [map_snoc ht];exact O8,Below.trans (B1.trans B15) (A8.below (by omega) fun g hg=>(O1.lt hg).1)⟩
  · refine brF ?_
    obtain rfl:j=l.length:=by omega
    rw [List.take_length] at O1 ⊢
    exact rt1 ⟨a1,c1,rfl,O1,B1⟩
end Go.Proofs.YtkmdfjpafkcleaaGreatDoor
namespace Go.Proofs.YtkmdfjpafkcleaaGreatDoor
open Eng Go.RowKit
theorem pos_of {l:List Int} {x:Int} (h:x∈l):∃ p:Nat,posI l x=p∧l[p]? = some x:=by
  refine ⟨l.idxOf x,if_pos h,?_⟩
  have h1:l.idxOf x<l.length:=List.idxOf_lt_length_of_mem h
  rw [List.getElem?_eq_getElem h1,List.getElem_idxOf]
theorem pos_ge (l:List Int) (x:Int) : -1≤posI l x:=by
  unfold posI
  split <;> omega
theorem asc_lt {l:List Int} (ha:AscI l) {i j:Nat} {x y:Int} (hx:l[i]? = some x) (hy:l[j]? = some y) (h:x<y):i<j:=by
  rcases Nat.lt_or_ge i j with q | q
  · exact q
  · exfalso
    by_cases e:i=j
    · subst e;rw [hx] at hy;obtain rfl:=Option.some.inj hy;omega
    · obtain ⟨hi,rfl⟩:=List.getElem?_eq_some_iff.1 hx
      obtain ⟨hj,rfl⟩:=List.getElem?_eq_some_iff.1 hy
      have:=List.pairwise_iff_getElem.1 ha j i hj hi (by omega)
      omega
theorem asc_get {l:List Int} (ha:AscI l) {i j:Nat} {x y:Int} (hx:l[i]? = some x) (hy:l[j]? = some y) (h:i<j):x<y:=by
  obtain ⟨hi,rfl⟩:=List.getElem?_eq_some_iff.1 hx
  obtain ⟨hj,rfl⟩:=List.getElem?_eq_some_iff.1 hy
  exact List.pairwise_iff_getElem.1 ha i j hi hj h
theorem pos_at {l:List Int} (ha:AscI l) {j:Nat} {y:Int} (hy:l[j]? = some y):posI l y=j :=
  posI_at hy fun i z hi hz e=>by have:=asc_get ha hz hy hi;omega
theorem pos_lt {l:List Int} (ha:AscI l) {j:Nat} {x y:Int} (hx:x∈l) (hy:l[j]? = some y) (h:x<y):posI l x<j:=by
  obtain ⟨p,hp,hpx⟩:=pos_of hx
  have:=asc_lt ha hpx hy h
  omega
structure Kept (m:Mod) (me cl st:List Int):Prop where
  P:ModP m
  ma:AscI me
  ca:AscI cl
  sa:AscI st
  mi:∀ x∈me,0≤x∧x<m.methods.length
  ci:∀ x∈cl,0≤x∧x<m.classes.length
  si:∀ x∈st,0≤x∧x<m.statics.length
  mc:∀ x∈me,∀ c∈needC (mths m x),c∈cl
  ms:∀ x∈me,∀ c∈needS (mths m x),c∈st
  mm:∀ x∈me,∀ c∈calM m x.toNat,c∈me
  cc:∀ x∈cl,∀ c∈sucC m x,c∈cl
  sc:∀ x∈st,∀ c∈staC m x,c∈cl
theorem kept_of {m:Mod} {roots:List Int} (h:askE m m.methods.length roots=0):Kept m (meL m roots) (clL m roots) (stL m roots):=by
  have P:=modP_of (ask_yes h).1
  have hin:∀ x,Rch m (rootsN roots) x→NdIn m x:=fun x q=>q.isIn P (roots_in h)
  refine ⟨P,sel_asc ..,sel_asc ..,sel_asc ..,fun x hx=>(mem_sel.1 hx).1,fun x hx=>(mem_sel.1 hx).1,fun x hx=>(mem_sel.1 hx).1,fun x hx c hc => ?_,fun x hx c hc => ?_,fun x hx c hc => ?_,fun x hx c hc => ?_,fun x hx c hc => ?_⟩
  · have:Rch m (rootsN roots) (.c c) := .step (mem_sel.1 hx).2 (by simp only [suc,List.mem_append,List.mem_map];exact .inl (.inl ⟨c,hc,rfl⟩))
    exact mem_sel.2 ⟨hin _ this,this⟩
  · have:Rch m (rootsN roots) (.s c) := .step (mem_sel.1 hx).2 (by simp only [suc,List.mem_append,List.mem_map];exact .inl (.inr ⟨c,hc,rfl⟩))
    exact mem_sel.2 ⟨hin _ this,this⟩
  · have:Rch m (rootsN roots) (.m c) := .step (mem_sel.1 hx).2 (by simp only [suc,List.mem_append,List.mem_map];exact .inr ⟨c,hc,rfl⟩)
    exact mem_sel.2 ⟨hin _ this,this⟩
  · have:Rch m (rootsN roots) (.c c) := .step (mem_sel.1 hx).2 (by simp only [suc,List.mem_map];exact ⟨c,hc,rfl⟩)
    exact mem_sel.2 ⟨hin _ this,this⟩
  · have:Rch m (rootsN roots) (.c c) := .step (mem_sel.1 hx).2 (by simp only [suc,List.mem_map];exact ⟨c,hc,rfl⟩)
    exact mem_sel.2 ⟨hin _ this,this⟩
section
variable {m:Mod} {me cl st:List Int}
theorem Kept.nome (h:Kept m me cl st) {n:Int} (hn:n<0):posI me n = -1:=posI_no fun q=>by have:=(h.mi n q).1;omega
theorem Kept.nocl (h:Kept m me cl st) {n:Int} (hn:n<0):posI cl n = -1:=posI_no fun q=>by have:=(h.ci n q).1;omega
theorem Kept.ml (h:Kept m me cl st):me.length≤16:=Nat.le_trans (asc_len h.ma h.mi) h.P.ml
theorem Kept.cl10 (h:Kept m me cl st):cl.length≤10:=Nat.le_trans (asc_len h.ca h.ci) h.P.cl
theorem Kept.sl (h:Kept m me cl st):st.length≤10:=Nat.le_trans (asc_len h.sa h.si) h.P.sl
theorem Kept.sup (h:Kept m me cl st) {j k:Nat} {x:MC} (hj:cl[j]? = some (k:Int)) (hx:m.classes[k]? = some x) (h0:0≤posI cl x.super):∃ (p q:Nat) (y:MC),posI cl x.super=p∧p<j∧x.super=q∧cl[p]? = some (q:Int)∧m.classes[q]? = some y∧q<k:=by
  have hm:x.super∈cl:=Classical.byContradiction fun q=>by rw [posI_no q] at h0;omega
  obtain ⟨p,hp,hpx⟩:=pos_of hm
  obtain ⟨c0,c1⟩:=h.ci _ hm
  have:=(h.P.cls k x hx).s2
  obtain ⟨q,hq⟩:=Int.eq_ofNat_of_zero_le c0
  rw [hq] at hpx c1 this hp ⊢
  obtain ⟨y,hy⟩:=some_of_lt (l:=m.classes) (k:=q) (by omega)
  exact ⟨p,q,y,hp,asc_lt h.ca hpx hj (by omega),rfl,hpx,hy,by omega⟩
theorem rcl_at {m:Mod} {me cl:List Int}:∀ {n p:Nat} {c:Int},p<n→cl[p]? = some c→(rcl m me cl n)[p]? = some (rmc m me cl (rcl m me cl p) c)
  | 0,p,c,h,_=>by omega
  | n+1,p,c,h,hc=>by
    show (rcl m me cl n++[_])[p]? = _
    by_cases e:p=n
    · subst e
      rw [List.getElem?_append_right (by rw [rcl_len];exact Nat.le_refl _),rcl_len,Nat.sub_self,List.getD_eq_getElem?_getD,hc];rfl
    · rw [List.getElem?_append_left (by rw [rcl_len];omega)]
      exact rcl_at (by omega) hc
theorem rcl_snoc {m:Mod} {me cl:List Int} {j:Nat} {c:Int} (h:cl[j]? = some c):rcl m me cl (j+1)=rcl m me cl j++[rmc m me cl (rcl m me cl j) c]:=by
  show _++[_]=_
  rw [List.getD_eq_getElem?_getD,h];rfl
theorem tblU_len (me:List Int) (acc:List MC) (sp:Int) (tb:List Int) (j:Nat):(tblU me acc sp tb j).length=j:=by unfold tblU;rw [List.length_map,List.length_range]
theorem tblU_snoc (me:List Int) (acc:List MC) (sp:Int) (tb:List Int) {j:Nat} {n:Int} (h:tb[j]? = some n):tblU me acc sp tb (j+1)=tblU me acc sp tb j++[entU me acc sp n j]:=by
  unfold tblU
  rw [List.range_succ,List.map_append,List.map_cons,List.map_nil,List.getD_eq_getElem?_getD,h];rfl
theorem tblU_at (me:List Int) (acc:List MC) (sp:Int) (tb:List Int) {j s:Nat} (h:s<j):(tblU me acc sp tb j)[s]? = some (entU me acc sp (tb.getD s (-1)) s):=by
  unfold tblU
  rw [List.getElem?_map,List.getElem?_range h];rfl
end
end Go.Proofs.YtkmdfjpafkcleaaGreatDoor
namespace Go.Proofs.YtkmdfjpafkcleaaGreatDoor
open Eng Go.RowKit
open Classical in
noncomputable def unlR (m:Mod) (roots:List Int):Mod:=if askE m m.methods.length roots=0 then unlM m (meL m roots) (clL m roots) (stL m roots) else mod0
def UnlQ (m:Mod) (roots:List Int) (w:World) (v:Value) (w':World):Prop :=
  ∃ a,v = .tuple #[.agg (modcells (unlR m roots) a).toArray,I (askE m m.methods.length roots)]∧MdR (fun i=>w.heap.size≤i∧i<w'.heap.size) w' (unlR m roots) a∧Bl w w'
abbrev mdz (a1:Option Addr) (n1 c1:Nat) (a2:Option Addr) (n2 c2:Nat) (a3:Option Addr) (n3 c3:Nat) (z:Int):List Value:=[.slice a1 n1 c1,.slice a2 n2 c2,.slice a3 n3 c3,I z]
abbrev kdsV (b:Nat):Value := .func (.func 84) #[] #[.pointer (some ⟨b,0,none⟩)]
set_option maxHeartbeats 8000000 in
theorem k_Unload (m:Mod) (a:MA) (roots:List Int) (ar:Option Addr) (cr:Nat) (w:World) (hM:MdR T w m a) (hS:Sl eInt T w ar roots) :
    Ret Tryz.prog 44 #[.agg (modcells m a).toArray,.slice ar roots.length cr] w (UnlQ m roots w):=by
  have q1:=hM.mth.big
  have q2:=hS.big
  refine entr (vs:=[.agg (modcells m a).toArray,.slice ar roots.length cr]) [0,1,2,4,5,6,7,8,9,10,11,12,13,14,15,17,18,19,20,21,22,24,26,27,28,30,40,54,55,56,57,74,81,82,83,84,89,99,124,125,126,127,143,144,145,146,171,178,179,180,181,185,186,194,201,205,211,219] tabok Tryz.func44 (by kernel_rfl) ?_
  refine bx (cs:=modcells m a) fun b2 w1 k1 => ?_
  refine al fun b4 w2 k2 => ?_
  have y1:=k1.blk
  have z1:=k1.size
  have y2:=k2.blk
  have z2:=k2.size
  have B2:=k1.bl.trans k2.bl
  refine lda (Bl.box k2.bl k1.box).at ?_
  refine cl (k_Reach m a roots ar cr w2 (hM.bl B2) (hS.bl B2)) ?_ (hm:=fun _ _ r=>by obtain ⟨_,_,_,_,_,_,_,_,_,_,hB⟩:=r;exact mdW_bl hB)
  rintro _ w3 ⟨p1,d1,p2,d2,p3,d3,rfl,S1,S2,S3,B23⟩
  have B3:=B2.trans B23
  have x2:=Bl.box (k2.bl.trans B23) k1.box
  have x4:=Bl.box B23 k2.box
  have z3:=B23.size
  by_cases h1:askE m m.methods.length roots=0
  rotate_left
  · have eu:unlR m roots=mod0:=if_neg h1
    rw [ask_n h1]
    refine brt ?_
    refine bd (cs:=mdz none 0 0 none 0 0 none 0 0 0) ?_
    refine sta (cs':=mdz none 0 0 none 0 0 none 0 0 0) x4 fun w4 k4 x4' => ?_
    refine rtc2 (cs:=mdz none 0 0 none 0 0 none 0 0 0) x4'.at ⟨⟨none,0,none,0,none,0⟩,by rw [eu,ask_n h1];rfl,?_,Below.trans B3 (k4.below (by omega))⟩
    rw [eu]
    exact ⟨Sl.nil ..,Sl.nil ..,Sl.nil ..⟩
  have e1:meR m roots=meL m roots:=if_pos h1
  have e2:clR m roots=clL m roots:=if_pos h1
  have e3:stR m roots=stL m roots:=if_pos h1
  have eu:unlR m roots=unlM m (meL m roots) (clL m roots) (stL m roots):=if_pos h1
  have K:=kept_of h1
  rw [e1] at S1
  rw [e2] at S2
  rw [e3] at S3
  rw [h1,e1,e2,e3]
  obtain ⟨me,hme⟩:∃ me,me=meL m roots:=⟨_,rfl⟩
  obtain ⟨cl',hcl⟩:∃ c,c=clL m roots:=⟨_,rfl⟩
  obtain ⟨st',hst⟩:∃ s,s=stL m roots:=⟨_,rfl⟩
  rw [←hme,←hcl,←hst] at K
  rw [←hme] at S1 ⊢
  rw [←hcl] at S2 ⊢
  rw [←hst] at S3 ⊢
  have eu:unlR m roots=unlM m me cl' st':=by rw [eu,hme,hcl,hst]
  have P:=K.P
  have n1:=K.ml
  have n2:=K.cl10
  have n3:=K.sl
  refine brf ?_
  refine cl (k_renumber me p1 d1 w3 S1) ?_ (hm:=fun _ _ r=>by obtain ⟨_,_,_,_,hB⟩:=r;exact mdW_bl hB)
  rintro _ w4 ⟨bm,rfl,Rm,_,B34⟩
  refine cl (k_renumber cl' p2 d2 w4 (S2.bl B34)) ?_ (hm:=fun _ _ r=>by obtain ⟨_,_,_,_,hB⟩:=r;exact mdW_bl hB)
  rintro _ w5 ⟨bc,rfl,Rc,_,B45⟩
  refine cl (k_renumber st' p3 d3 w5 (S3.bl (B34.trans B45))) ?_ (hm:=fun _ _ r=>by obtain ⟨_,_,_,_,hB⟩:=r;exact mdW_bl hB)
  rintro _ w6 ⟨bs',rfl,Rs,_,B56⟩
  have B36:=(B34.trans B45).trans B56
  refine al fun b11 w7 k7 => ?_
  have y7:=k7.blk
  have z7:=k7.size
  refine st k7.box fun w8 k8 x8 => ?_
  have B68:=k7.wr k8
  have z8:=k8.size
  refine al fun b13 w9 k9 => ?_
  have y9:=k9.blk
  have z9:=k9.size
  refine st k9.box fun w10 k10 x10 => ?_
  have B810:=k9.wr k10
  have B310:=(B36.trans B68).trans B810
  have B10:=B3.trans B310
  have z10:=B310.size
  have f11:w10.cell? ⟨b11,0,none⟩=some (renV bc):=(Bl.box B810 x8).cell rfl
  have f13:w10.cell? ⟨b13,0,none⟩=some (kndV b11):=x10.cell rfl
  have Rm10:=Rm.bl (((B45.trans B56).trans B68).trans B810)
  have Rc10:=Rc.bl ((B56.trans B68).trans B810)
  have Rs10:=Rs.bl (B68.trans B810)
  have S1':=S1.bl B310
  have S2':=S2.bl B310
  have S3':=S3.bl B310
  have hM10:=hM.bl B10
  have x2':=Bl.box B310 x2
  have x4':=Bl.box B310 x4
  refine ld (x2'.cell rfl) ?_
  refine bd (cs:=mdz none 0 0 none 0 0 none 0 0 m.sels) ?_
  refine al fun b15 w11 k11 => ?_
  have y11:=k11.blk
  have z11:=k11.size
  refine sta (cs':=mdz none 0 0 none 0 0 none 0 0 m.sels) k11.box fun w12 k12 x12 => ?_
  have B1012:=k11.wr k12
  have z12:=k12.size
  have z1012:=B1012.size
  refine lpk (vals:=[]) cl'.length 56 [] [(2,.pointer (some ⟨b2,0,none⟩)),(4,.pointer (some ⟨b4,0,none⟩)),(6,.slice p1 me.length d1),(8,.slice p3 st'.length d3),(10,renV bm),(11,.pointer (some ⟨b11,0,none⟩)),(12,renV bs'),(13,.pointer (some ⟨b13,0,none⟩)),(14,kdsV b13),(15,.pointer (some ⟨b15,0,none⟩)),(54,.slice p2 cl'.length d2),(55,I cl'.length)]
    (fun j vals w'=>vals=[]∧Nc b15 w12 w'∧∃ a1 c1,Box w' b15 29 (mdz a1 (rcl m me cl' j).length c1 none 0 0 none 0 0 m.sels)∧OwC eMC (fun i=>w12.heap.size≤i) w' w12.heap.size 49 a1 c1 (rcl m me cl' j))
    ⟨rfl,.of_bl (Bl.refl _),none,0,x12,OwC.nil ..⟩ ?_
  rintro j vals w13 hj ⟨rfl,N13,a1,c1,x13,O13⟩ ih
  have B1013:Bl w10 w13:=Nc.below B1012 N13 (by omega) B1012.size
  have z13:=N13.size
  by_cases hjl:j<cl'.length
  · refine brT ?_
    obtain ⟨cn,bcn,ocn,ccn,hcn,e5,_,hAcn,rfl⟩:=at_some (S2'.bl B1013) hjl
    obtain ⟨g0,g1⟩:=K.ci cn (List.mem_of_getElem? hcn)
    obtain ⟨k,rfl⟩:=Int.eq_ofNat_of_zero_le g0
    rw [e5]
    refine ix ?_
    refine ld (hAcn 0 _ rfl) ?_
    obtain ⟨x,bx',ox,cx,hx,e6,_,hAx,a21,d21,a22,d22,rfl,F1,F2,hnm,hcap⟩:=at_some (hM10.bl B1013).cls (i:=k) (by omega)
    have C:=P.cls k x hx
    have q5:=F2.big
    refine ld ((Bl.box B1013 x2').cell rfl) ?_
    rw [e6]
    refine ix ?_
    refine lda hAx ?_
    refine al fun b18 w14 k14 => ?_
    have y14:=k14.blk
    have z14:=k14.size
    refine sta (cs':=mccells x a21 d21 a22 d22) k14.box fun w15 k15 x15 => ?_
    have z15:=k15.size
    have B1315:=k14.wr k15
    have B1015:=B1013.trans B1315
    have x1313:=x13.lt
    refine cut [19] [(2,.pointer (some ⟨b2,0,none⟩)),(4,.pointer (some ⟨b4,0,none⟩)),(6,.slice p1 me.length d1),(8,.slice p3 st'.length d3),(10,renV bm),(11,.pointer (some ⟨b11,0,none⟩)),(12,renV bs'),(13,.pointer (some ⟨b13,0,none⟩)),(14,kdsV b13),(15,.pointer (some ⟨b15,0,none⟩)),(54,.slice (some ⟨bcn,ocn,none⟩) cl'.length d2),(55,I cl'.length),(56,I j),(18,.pointer (some ⟨b18,0,none⟩))] (fun vals w'=>∃ b19 a5 c5,vals=[.pointer (some ⟨b19,0,none⟩)]∧w15.heap.size≤b19∧Bl w15 w'∧Box w' b19 49 (mccells ⟨x.name,-1,x.fields.map (rty cl'),[]⟩ a5 c5 none 0)∧OwP 2 encTy w' w15.heap.size 51 a5 c5 (x.fields.map (rty cl'))∧a5≠some ⟨b19,0,none⟩) (fun go => ?_) ?_
    · refine dhb (· < w15.heap.size) (.row [0,1,2,3,4] (.two 5 (.row [6,7,8] .done) 7 (.row [5,6,8] .done))) fun w16 k16 => ?_
      have z16:w16.heap.size=w15.heap.size:=by rw [k16.heap]
      have x16:=k16.box x15
      have l15:=x15.lt
      have B1516:=k16.bl
      refine ld (x16.cell rfl) ?_ (hm:=by show b18<_;omega)
      refine ld (x16.cell rfl) ?_ (hm:=by show b18<_;omega)
      refine bt ?_ ?_
      · have B1016:=B1015.trans B1516
        refine cl (k_kindsU cl' x.fields a21 d21 b13 b11 bc w16 ((B1016.kp T) _ _ _ trivial f13) ((B1016.kp T) _ _ _ trivial f11) (Rc10.bl B1016) (F1.bl (B1315.trans B1516))) ?_ (hm:=fun _ _ r=>by obtain ⟨_,_,_,_,hB⟩:=r;exact mdW_bl hB)
        rintro _ w17 ⟨a5,c5,rfl,O5,B1617⟩
        have z17:=B1617.size
        refine bd (cs:=mccells ⟨x.name,-1,x.fields.map (rty cl'),[]⟩ a5 c5 none 0) ?_
        refine al fun b19 w18 k18 => ?_
        have y18:=k18.blk
        have z18:=k18.size
        refine sta (cs':=mccells ⟨x.name,-1,x.fields.map (rty cl'),[]⟩ a5 c5 none 0) k18.box (fun w19 k19 x19 => ?_) (hm:=wrB (by show ¬b19<_;omega))
        have hne:a5≠some ⟨b19,0,none⟩:=fun e=>by have:=(O5.lt e).2;omega
        exact go ⟨b19,a5,c5,rfl,by omega,(B1516.trans B1617).trans (k18.wr k19),x19,((O5.bl k18.bl).wr k19 fun g hg e=>hne (e▸hg)).base (by omega),hne⟩
      · refine al fun b19 w17 k17 => ?_
        have y17:=k17.blk
        have z17:=k17.size
        have B1517:=B1516.trans k17.bl
        have B1017:=B1015.trans B1517
        refine cl (k_kindsU cl' x.fields a21 d21 b13 b11 bc w17 ((B1017.kp T) _ _ _ trivial f13) ((B1017.kp T) _ _ _ trivial f11) (Rc10.bl B1017) (F1.bl (B1315.trans B1517))) ?_ (hm:=fun _ _ r=>by obtain ⟨_,_,_,_,hB⟩:=r;exact mdW_bl hB)
        rintro _ w18 ⟨a5,c5,rfl,O5,B1718⟩
        have z18:=B1718.size
        refine bd (cs:=mccells ⟨x.name,-1,x.fields.map (rty cl'),[]⟩ a5 c5 none 0) ?_
        refine sta (cs':=mccells ⟨x.name,-1,x.fields.map (rty cl'),[]⟩ a5 c5 none 0) (Bl.box B1718 k17.box) (fun w19 k19 x19 => ?_) (hm:=wrB (by show ¬b19<_;omega))
        have hne:a5≠some ⟨b19,0,none⟩:=fun e=>by have:=(O5.lt e).1;omega
        exact go ⟨b19,a5,c5,rfl,by omega,Below.trans (B1517.trans B1718) (k19.below (by omega)),x19,(O5.wr k19 fun g hg e=>hne (e▸hg)).base (by omega),hne⟩
    rintro _ w17 ⟨b19,a5,c5,rfl,hb19,B1517,x19,O5,hne5⟩
    have z17:=B1517.size
    have l19:=x19.lt
    have x18:=Bl.box B1517 x15
    have l18:=x15.lt
    have B1017:=B1015.trans B1517
    refine ld (x18.cell rfl) ?_
    refine jn [] [(2,.pointer (some ⟨b2,0,none⟩)),(4,.pointer (some ⟨b4,0,none⟩)),(6,.slice p1 me.length d1),(8,.slice p3 st'.length d3),(10,renV bm),(11,.pointer (some ⟨b11,0,none⟩)),(12,renV bs'),(13,.pointer (some ⟨b13,0,none⟩)),(14,kdsV b13),(15,.pointer (some ⟨b15,0,none⟩)),(54,.slice (some ⟨bcn,ocn,none⟩) cl'.length d2),(55,I cl'.length),(56,I j),(18,.pointer (some ⟨b18,0,none⟩)),(19,.pointer (some ⟨b19,0,none⟩))] (fun vals w'=>vals=[]∧Nc b19 w17 w'∧Box w' b19 49 (mccells ⟨x.name,posI cl' x.super,x.fields.map (rty cl'),[]⟩ a5 c5 none 0)) (fun h go => ?_) (fun h go => ?_) ?_
    · have h0:0≤x.super:=of_decide_eq_true h
      refine ld ((B1017.kp T) _ _ _ trivial f11) ?_
      refine ld (x18.cell rfl) ?_
      refine cl (k_renumber1 cl' bc x.super w17 (Rc10.bl B1017)) ?_
      rintro _ w18 ⟨rfl,rfl⟩
      refine st x19 fun w18 k18 x18' => ?_
      exact go ⟨rfl,(Nc.of_bl (Bl.refl _)).wr k18 (.inl rfl),x18'⟩
    · have h0:¬0≤x.super:=of_decide_eq_false h
      exact go ⟨rfl,.of_bl (Bl.refl _),by rw [K.nocl (n:=x.super) (by omega)];exact x19⟩
    rintro _ w18 ⟨rfl,N18,x19'⟩
    have z18:=N18.size
    have x18':=N18.box x18 (by omega)
    refine ld (x18'.cell rfl) ?_
    obtain ⟨sp,hsp⟩:∃ sp,sp=posI cl' x.super:=⟨_,rfl⟩
    rw [←hsp] at x19'
    refine lpk (vals:=[]) x.table.length 83 [] [(2,.pointer (some ⟨b2,0,none⟩)),(4,.pointer (some ⟨b4,0,none⟩)),(6,.slice p1 me.length d1),(8,.slice p3 st'.length d3),(10,renV bm),(11,.pointer (some ⟨b11,0,none⟩)),(12,renV bs'),(13,.pointer (some ⟨b13,0,none⟩)),(14,kdsV b13),(15,.pointer (some ⟨b15,0,none⟩)),(54,.slice (some ⟨bcn,ocn,none⟩) cl'.length d2),(55,I cl'.length),(56,I j),(18,.pointer (some ⟨b18,0,none⟩)),(19,.pointer (some ⟨b19,0,none⟩)),(81,.slice a22 x.table.length d22),(82,I x.table.length)]
      (fun s vals w'=>vals=[]∧Nc b19 w18 w'∧∃ a6 c6,Box w' b19 49 (mccells ⟨x.name,sp,x.fields.map (rty cl'),tblU me (rcl m me cl' j) sp x.table s⟩ a5 c5 a6 c6)∧OwP 1 encInt w' w18.heap.size 3 a6 c6 (tblU me (rcl m me cl' j) sp x.table s)) ⟨rfl,.of_bl (Bl.refl _),none,0,x19',Ow.nil ..⟩ ?_
    rintro s vals w19 hs ⟨rfl,N19,a6,c6,x19'',O6⟩ ih2
    have z19:=N19.size
    have B1318:Bl w13 w18:=Nc.below (B1315.trans B1517) N18 (by omega) (by omega)
    have B1319:Bl w13 w19:=Nc.below B1318 N19 (by omega) B1318.size
    have B1019:=B1013.trans B1319
    have htl:=C.tl
    have x1519:=Bl.box B1319 x13
    by_cases hsl:s<x.table.length
    · refine brT ?_
      obtain ⟨n,bn,on,cn',hn,e9,_,hAn,rfl⟩:=at_some (F2.bl B1319) hsl
      rw [e9]
      refine ix ?_
      refine ld (hAn 0 _ rfl) ?_
      have E:=C.tb s n hn
      have hn1:=E.lo
      refine jn [22] [(2,.pointer (some ⟨b2,0,none⟩)),(4,.pointer (some ⟨b4,0,none⟩)),(6,.slice p1 me.length d1),(8,.slice p3 st'.length d3),(10,renV bm),(11,.pointer (some ⟨b11,0,none⟩)),(12,renV bs'),(13,.pointer (some ⟨b13,0,none⟩)),(14,kdsV b13),(15,.pointer (some ⟨b15,0,none⟩)),(54,.slice (some ⟨bcn,ocn,none⟩) cl'.length d2),(55,I cl'.length),(56,I j),(18,.pointer (some ⟨b18,0,none⟩)),(19,.pointer (some ⟨b19,0,none⟩)),(81,.slice (some ⟨bn,on,none⟩) x.table.length d22),(82,I x.table.length),(83,I s),(20,I s)] (fun vals w'=>vals=[I (posI me n)]∧w19=w') (fun h go => ?_) (fun h go => ?_) ?_
      · refine cl (k_renumber1 me bm n w19 (Rm10.bl B1019)) ?_
        rintro _ _ ⟨rfl,rfl⟩
        exact go ⟨rfl,rfl⟩
      · have h0:¬0≤n:=of_decide_eq_false h
        exact go ⟨by rw [K.nome (n:=n) (by omega)],rfl⟩
      rintro _ _ ⟨rfl,rfl⟩
      refine ldg (fun _=>x19''.cell rfl) ?_
      refine jn [22] [(2,.pointer (some ⟨b2,0,none⟩)),(4,.pointer (some ⟨b4,0,none⟩)),(6,.slice p1 me.length d1),(8,.slice p3 st'.length d3),(10,renV bm),(11,.pointer (some ⟨b11,0,none⟩)),(12,renV bs'),(13,.pointer (some ⟨b13,0,none⟩)),(14,kdsV b13),(15,.pointer (some ⟨b15,0,none⟩)),(54,.slice (some ⟨bcn,ocn,none⟩) cl'.length d2),(55,I cl'.length),(56,I j),(18,.pointer (some ⟨b18,0,none⟩)),(19,.pointer (some ⟨b19,0,none⟩)),(81,.slice (some ⟨bn,on,none⟩) x.table.length d22),(82,I x.table.length),(83,I s),(20,I s)] (fun vals w'=>vals=[I (entU me (rcl m me cl' j) sp n s)]∧w19=w') (fun h go => ?_) (fun h go => ?_) ?_
      · have hh:posI me n<0∧0≤sp:=by
          by_cases q:posI me n<0
          · simp [q] at h;exact ⟨q,h⟩
          · simp [q] at h
        obtain ⟨hneg,hs0⟩:=hh
        obtain ⟨p,q,y,hp,hpj,hq,hcp,hy,hqk⟩:=K.sup hcn hx (by rw [←hsp];exact hs0)
        rw [←hsp] at hp
        refine ld (x1519.cell rfl) ?_
        refine ld (x19''.cell rfl) ?_
        obtain ⟨c0,b0,o0,cs0,hc0,ea,hb0,hA0,a7,d7,a8,d8,rfl,_,F8,_⟩:=at_some (O13.sl3 (by rw [rcl_len];omega)) (i:=p) (by rw [rcl_len];exact hpj)
        have hc1:=rcl_at (m:=m) (me:=me) hpj hcp
        rw [hc1] at hc0
        obtain rfl:=Option.some.inj hc0
        have htb:(rmc m me cl' (rcl m me cl' p) q).table.length=y.table.length:=by
          show (tblU _ _ _ _ _).length=_
          rw [tblU_len,clss_at hy]
        have htq:=(P.cls q y hy).tl
        rw [ea]
        refine ix (j:=p) (hij:=hp) ?_ (hb:=by rw [rcl_len];exact hpj)
        refine ld ((hA0.bl B1319) 3 _ rfl) ?_
        obtain ⟨v0,b3',o3',cs3,hv0,e10,_,hA3,rfl⟩:=at_some (((F8.kp ((B1319.kp T).sub fun _ _=>trivial)))) (i:=s) (by rw [htb];omega)
        rw [e10]
        refine ix ?_ (hb:=by rw [htb];omega)
        refine ld (hA3 0 _ rfl) ?_
        refine go ⟨?_,rfl⟩
        have:entU me (rcl m me cl' j) sp n s=v0:=by
          unfold entU
          rw [if_pos ⟨hneg,hs0⟩,hp,Int.toNat_natCast,hc1]
          simp only [Option.map_some,Option.getD_some]
          rw [List.getD_eq_getElem?_getD,hv0];rfl
        rw [this]
      · have:entU me (rcl m me cl' j) sp n s=posI me n:=by
          unfold entU
          refine if_neg fun q => ?_
          simp [q.1] at h
          omega
        exact go ⟨by rw [this],rfl⟩
      rintro _ _ ⟨rfl,rfl⟩
      have hl6:(tblU me (rcl m me cl' j) sp x.table s).length≤4194304:=by rw [tblU_len];omega
      have l1819:=x19'.lt
      refine ld (x19''.cell rfl) ?_
      refine bs (cs:=encInt (entU me (rcl m me cl' j) sp n s)) fun b20 w20 k20 => ?_
      have z20:=k20.size
      refine apl (l1:=[entU me (rcl m me cl' j) sp n s]) (O6.bl k20.bl) (.inr ⟨b20,0,rfl,k20.box.at⟩) (by omega) fun a21' c21 w21 O21 A21 _ => ?_
      have x21:=A21.box (Bl.box k20.bl x19'') fun e=>by have:=(O6.lt e).1;omega
      refine st x21 fun w22 k22 x22 => ?_
      have esn:=tblU_snoc me (rcl m me cl' j) sp x.table hn
      have N21:Nc b19 w18 w21:=(N19.bl k20.bl).ap A21 fun g hg=>(O6.lt hg).1
      exact ih2 hsl ⟨rfl,N21.wr k22 (.inl rfl),a21',c21,by rw [esn];exact x22,by rw [esn];exact O21.wr k22 fun g hg e=>by have:=(O21.lt hg).1;omega⟩ (hsub:=by rw [e9];repeat (first | exact True.intro | (refine ⟨rfl,?_⟩)))
    · refine brF ?_
      obtain rfl:s=x.table.length:=by omega
      clear ih2
      obtain ⟨rc,hrc⟩:∃ rc,rc=rmc m me cl' (rcl m me cl' j) k:=⟨_,rfl⟩
      have er:rc=⟨x.name,sp,x.fields.map (rty cl'),tblU me (rcl m me cl' j) sp x.table x.table.length⟩:=by rw [hrc];unfold rmc;rw [clss_at hx,hsp]
      refine ld (x1519.cell rfl) ?_
      refine lda x19''.at ?_
      refine bs (cs:=mccells rc a5 c5 a6 c6) (fun b20 w20 k20 => ?_) (hcs:=by rw [er];rfl)
      have z20:=k20.size
      have B1320:=B1319.trans k20.bl
      obtain ⟨xs,e1',e3',hOx,e4⟩:=(O13.bl B1320).row
      have hl13:(rcl m me cl' j).length≤10:=by rw [rcl_len];omega
      have l1819:=x19'.lt
      have g0':=B1319.size
      refine ap hOx (.inr ⟨b20,0,rfl,k20.box.at⟩) (by omega) (fun a21' c21 w21 O21 A21 F21 => ?_)
      have hna:∀ g,a1=some ⟨g,0,none⟩→w12.heap.size≤g∧g<w13.heap.size:=fun g hg=>O13.lt hg
      have hrel:eMC.rel (fun i=>w12.heap.size≤i∧a1≠some ⟨i,0,none⟩∧i<w20.heap.size) w20 (mccells rc a5 c5 a6 c6) rc:=by
        have O5':OwP 2 encTy w20 w15.heap.size 51 a5 c5 (x.fields.map (rty cl')):=(O5.same fun g hg=>((N18.trans N19).blk g (O5.lt hg).2 fun e=>hne5 (e▸hg))).bl k20.bl
        have q6:=C.fl
        refine ⟨a5,c5,a6,c6,rfl,?_,?_,by rw [er];exact hnm,by rw [er];exact O5.capn.1⟩
        · rw [er]
          exact owp_sl O5' (by rw [List.length_map];omega) fun g hg=>by
            have q1:=O5'.lt hg
            exact ⟨by omega,fun e=>by have:=(hna _ e).2;omega,by omega⟩
        · rw [er]
          exact owp_sl (O6.bl k20.bl) (by show (tblU _ _ _ _ _).length≤_;rw [tblU_len];omega) fun g hg=>by
            have q1:=O6.lt hg
            exact ⟨by omega,fun e=>by have:=(hna _ e).2;omega,by omega⟩
      have O21':=OwC.push e1' e3' e4 O21 A21 F21 hrel
      have x21:=A21.box (Bl.box k20.bl x1519) fun e=>by have:=(hna _ e).1;omega
      refine st x21 fun w22 k22 x22 => ?_
      have e5':rcl m me cl' (j+1)=rcl m me cl' j++[rc]:=by rw [rcl_snoc hcn,hrc]
      have N21:Nc b15 w12 w21:=(N13.bl B1320).ap A21 fun g hg=>(hna g hg).1
      exact ih hjl ⟨rfl,N21.wr k22 (.inl rfl),a21',c21,by rw [e5',List.length_append];exact x22,by rw [e5'];exact O21'.wr k22 (by omega) fun i hi=>by omega⟩ (hsub:=by rw [e5];repeat (first | exact True.intro | (refine ⟨rfl,?_⟩)))
  refine brF ?_
  obtain rfl:j=cl'.length:=by omega
  clear ih
  obtain ⟨CL,hCL⟩:∃ CL,CL=rcl m me cl' cl'.length:=⟨_,rfl⟩
  have hCLl:CL.length=cl'.length:=by rw [hCL,rcl_len]
  rw [←hCL] at x13 O13
  have SC13:Sl eMC (fun i=>w12.heap.size≤i∧i<w13.heap.size) w13 a1 CL:=O13.sl2 (by omega)
  have MS:=Sl.lt (by decide) hM.sta
  have l13:=x13.lt
  refine lpk (vals:=[]) st'.length 126 [] [(2,.pointer (some ⟨b2,0,none⟩)),(4,.pointer (some ⟨b4,0,none⟩)),(6,.slice p1 me.length d1),(8,.slice p3 st'.length d3),(10,renV bm),(11,.pointer (some ⟨b11,0,none⟩)),(12,renV bs'),(13,.pointer (some ⟨b13,0,none⟩)),(14,kdsV b13),(15,.pointer (some ⟨b15,0,none⟩)),(124,.slice p3 st'.length d3),(125,I st'.length)]
    (fun j vals w'=>vals=[]∧Nc b15 w13 w'∧∃ a2 c2,Box w' b15 29 (mdz a1 CL.length c1 a2 ((st'.take j).map fun i=>rty cl' (stas m i)).length c2 none 0 0 m.sels)∧OwP 2 encTy w' w13.heap.size 51 a2 c2 ((st'.take j).map fun i=>rty cl' (stas m i)))
    ⟨rfl,.of_bl (Bl.refl _),none,0,x13,Ow.nil ..⟩ ?_
  rintro j vals w14 hj ⟨rfl,N14,a2,c2,x14,O14⟩ ih
  have B1014:Bl w10 w14:=Nc.below B1013 N14 (by omega) B1013.size
  have z14:=N14.size
  by_cases hjl:j<st'.length
  · refine brT ?_
    obtain ⟨sn,bsn,osn,csn,hsn,e5,_,hAsn,rfl⟩:=at_some (S3'.bl B1014) hjl
    obtain ⟨g0,g1⟩:=K.si sn (List.mem_of_getElem? hsn)
    obtain ⟨k,rfl⟩:=Int.eq_ofNat_of_zero_le g0
    rw [e5]
    refine ix ?_
    refine ld (hAsn 0 _ rfl) ?_
    obtain ⟨ty,bt,ot,ct,hty,e6,hbt,hAt,rfl⟩:=at_some (MS.bl (B10.trans B1014)) (i:=k) (by omega)
    have hna:∀ g,a2=some ⟨g,0,none⟩→w13.heap.size≤g∧g<w14.heap.size:=fun g hg=>O14.lt hg
    have hw10:=B10.size
    have l2:=x2'.lt
    have l13':=x10.lt
    refine dht 2 (fun i=>i<w13.heap.size) (List.range 11) fun w15 k15 => ?_
    have B1015:=B1014.trans k15.bl
    refine ld ((k15.box x14).cell rfl) ?_ (hm:=by show b15<_;omega)
    refine ld ((B1015.kp T) _ _ _ trivial f13) ?_ (hm:=by show b13<_;omega)
    refine ld ((Bl.box B1015 x2').cell rfl) ?_ (hm:=by show b2<_;omega)
    rw [e6]
    refine ix ?_ (hb:=(List.getElem?_eq_some_iff.1 hty).1)
    refine lda (hAt.bl k15.bl) ?_ (hm:=by show bt<_;omega)
    refine cl (k_kindU cl' ty b11 bc w15 ((B1015.kp T) _ _ _ trivial f11) (Rc10.bl B1015)) ?_
    rintro _ w16 ⟨rfl,B1516⟩
    refine bs (cs:=encTy (rty cl' ty)) fun b17 w17 k17 => ?_
    have B1417:=(k15.bl.trans B1516).trans k17.bl
    have z17:=B1417.size
    have hl:(st'.take j).length≤10:=by rw [List.length_take];omega
    refine apl (l1:=[rty cl' ty]) (O14.bl B1417) (.inr ⟨b17,0,rfl,k17.box.at⟩) (by omega) (fun a18 c18 w18 O18 A18 _ => ?_) (hm:=apS fun g hg q=>by have:=hna g hg;omega)
    have x18:=A18.box (Bl.box B1417 x14) fun e=>by have:=hna _ e;omega
    refine st x18 fun w19 k19 x19 => ?_
    have esn:(st'.take (j+1)).map (fun i=>rty cl' (stas m i))=(st'.take j).map (fun i=>rty cl' (stas m i))++[rty cl' ty]:=by rw [map_snoc hsn,stas_at hty]
    have N18:Nc b15 w13 w18:=(N14.bl B1417).ap A18 fun g hg=>(hna g hg).1
    exact ih hjl ⟨rfl,N18.wr k19 (.inl rfl),a18,c18,by rw [esn];exact x19,by rw [esn];exact O18.wr k19 fun g hg e=>by have:=(O18.lt hg).1;omega⟩ (hsub:=by rw [e5];repeat (first | exact True.intro | (refine ⟨rfl,?_⟩)))
  refine brF ?_
  obtain rfl:j=st'.length:=by omega
  rw [List.take_length] at x14 O14
  clear ih
  obtain ⟨SL,hSL⟩:∃ SL,SL=st'.map fun i=>rty cl' (stas m i):=⟨_,rfl⟩
  have hSLl:SL.length=st'.length:=by rw [hSL,List.length_map]
  rw [←hSL] at x14 O14
  have SC14:=SC13.kp (N14.nb.kp.sub fun i hi=>by omega)
  have SS14:Sl eTy (fun i=>w13.heap.size≤i∧i<w14.heap.size) w14 a2 SL:=owp_sl O14 (by omega) fun g hg=>O14.lt hg
  refine lpk (vals:=[]) me.length 145 [] [(2,.pointer (some ⟨b2,0,none⟩)),(4,.pointer (some ⟨b4,0,none⟩)),(6,.slice p1 me.length d1),(8,.slice p3 st'.length d3),(10,renV bm),(11,.pointer (some ⟨b11,0,none⟩)),(12,renV bs'),(13,.pointer (some ⟨b13,0,none⟩)),(14,kdsV b13),(15,.pointer (some ⟨b15,0,none⟩)),(143,.slice p1 me.length d1),(144,I me.length)]
    (fun j vals w'=>vals=[]∧Nc b15 w14 w'∧∃ a3 c3,Box w' b15 29 (mdz a1 CL.length c1 a2 SL.length c2 a3 ((me.take j).map fun k=>rmm me cl' st' (mths m k)).length c3 m.sels)∧OwC eMM (fun i=>w14.heap.size≤i) w' w14.heap.size 54 a3 c3 ((me.take j).map fun k=>rmm me cl' st' (mths m k)))
    ⟨rfl,.of_bl (Bl.refl _),none,0,x14,OwC.nil ..⟩ ?_
  rintro j vals w15 hj ⟨rfl,N15,a3,c3,x15,O15⟩ ih
  have B1015:Bl w10 w15:=Nc.below B1014 N15 (by omega) B1014.size
  have z15:=N15.size
  have l14:=x14.lt
  by_cases hjl:j<me.length
  · refine brT ?_
    obtain ⟨mn,bmn,omn,cmn,hmn,e5,_,hAmn,rfl⟩:=at_some (S1'.bl B1015) hjl
    obtain ⟨g0,g1⟩:=K.mi mn (List.mem_of_getElem? hmn)
    obtain ⟨k,rfl⟩:=Int.eq_ofNat_of_zero_le g0
    rw [e5]
    refine ix ?_
    refine ld (hAmn 0 _ rfl) ?_
    obtain ⟨x,bx',ox,cx,hx,e6,_,hAx,a21,d21,a22,d22,a23,d23,rfl,F1,F2,F3,hnm⟩:=at_some (hM10.bl B1015).mth (i:=k) (by omega)
    have M:=P.mth k x hx
    have q5:=F1.big
    have q6:=F2.big
    have q7:=codeE_len M.cd
    refine ld ((Bl.box B1015 x2').cell rfl) ?_
    rw [e6]
    refine ix ?_
    refine lda hAx ?_
    refine al fun b27 w16 k16 => ?_
    have y16:=k16.blk
    have z16:=k16.size
    refine sta (cs':=mmcells x a21 d21 a22 d22 a23 d23) k16.box fun w17 k17 x17 => ?_
    have z17:=k17.size
    have B1517:=k16.wr k17
    have B1017:=B1015.trans B1517
    have l15:=x15.lt
    have l17:=x17.lt
    have l13':=x10.lt
    have f10:=B1015.size
    refine cut [28] [(2,.pointer (some ⟨b2,0,none⟩)),(4,.pointer (some ⟨b4,0,none⟩)),(6,.slice (some ⟨bmn,omn,none⟩) me.length d1),(8,.slice p3 st'.length d3),(10,renV bm),(11,.pointer (some ⟨b11,0,none⟩)),(12,renV bs'),(13,.pointer (some ⟨b13,0,none⟩)),(14,kdsV b13),(15,.pointer (some ⟨b15,0,none⟩)),(143,.slice (some ⟨bmn,omn,none⟩) me.length d1),(144,I me.length),(145,I j),(27,.pointer (some ⟨b27,0,none⟩))] (fun vals w'=>∃ b28 a5 c5 a6 c6,vals=[.pointer (some ⟨b28,0,none⟩)]∧w17.heap.size≤b28∧Bl w17 w'∧Box w' b28 54 (mmcells ⟨x.name,-1,x.params.map (rty cl'),x.locals.map (rty cl'),rty cl' x.result,[]⟩ a5 c5 a6 c6 none 0) ∧
        OwP 2 encTy w' w17.heap.size 51 a5 c5 (x.params.map (rty cl'))∧a5≠some ⟨b28,0,none⟩∧OwP 2 encTy w' w17.heap.size 51 a6 c6 (x.locals.map (rty cl'))∧a6≠some ⟨b28,0,none⟩) (fun go => ?_) ?_
    · refine dhb (· < w17.heap.size) (.row [0,1,2,3,4,6,7,8,10,11,12] (.two 5 (.two 9 (.two 13 (.row [14,15,16] .done) 15 (.row [13,14,16] .done)) 15 (.row [9,13,14,16] .done)) 15 (.row [5,9,13,14,16] .done))) fun v0 q0 => ?_
      have s0:v0.heap.size=w17.heap.size:=by rw [q0.heap]
      have X0:=q0.box x17
      have D0:Bl w17 v0:=q0.bl
      refine ld (X0.cell rfl) ?_ (hm:=by show b27<_;omega)
      refine ld (X0.cell rfl) ?_ (hm:=by show b27<_;omega)
      refine ld (X0.cell rfl) ?_ (hm:=by show b27<_;omega)
      refine ld (((B1017.trans D0).kp T) _ _ _ trivial f13) ?_ (hm:=by show b13<_;omega)
      refine lda (At.left (cs:=encTy x.result) X0.at.tail.tail.tail.tail) ?_ (hm:=by show b27<_;omega)
      refine bt ?_ ?_
      · refine cl (k_kindsU cl' x.params a21 d21 b13 b11 bc v0 (((B1017.trans D0).kp T) _ _ _ trivial f13) (((B1017.trans D0).kp T) _ _ _ trivial f11) (Rc10.bl (B1017.trans D0)) (F1.bl (B1517.trans D0))) ?_ (hm:=fun _ _ r=>by obtain ⟨_,_,_,_,hB⟩:=r;exact mdW_bl hB)
        rintro _ v1 ⟨a5,c5,rfl,O5_1,E1⟩
        have D1:=D0.trans E1
        have s1:=E1.size
        have g5:=fun g (hg:a5=some ⟨g,0,none⟩)=>O5_1.lt hg
        refine bt ?_ ?_
        · refine cl (k_kindsU cl' x.locals a22 d22 b13 b11 bc v1 (((B1017.trans D1).kp T) _ _ _ trivial f13) (((B1017.trans D1).kp T) _ _ _ trivial f11) (Rc10.bl (B1017.trans D1)) (F2.bl (B1517.trans D1))) ?_ (hm:=fun _ _ r=>by obtain ⟨_,_,_,_,hB⟩:=r;exact mdW_bl hB)
          rintro _ v2 ⟨a6,c6,rfl,O6_2,E2⟩
          have D2:=D1.trans E2
          have s2:=E2.size
          have O5_2:=O5_1.bl E2
          have g6:=fun g (hg:a6=some ⟨g,0,none⟩)=>O6_2.lt hg
          refine bt ?_ ?_
          · refine cl (k_kindU cl' x.result b11 bc v2 (((B1017.trans D2).kp T) _ _ _ trivial f11) (Rc10.bl (B1017.trans D2))) ?_
            rintro _ v3 ⟨rfl,E3⟩
            have D3:=D2.trans E3
            have s3:=E3.size
            have O5_3:=O5_2.bl E3
            have O6_3:=O6_2.bl E3
            refine bd ?_
            refine al fun b28 v4 r4 => ?_
            have E4:=r4.bl
            have yb:=r4.blk
            have zb:=r4.size
            have xb_4:Box v4 b28 54 _:=r4.box
            have D4:=D3.trans E4
            have s4:=E4.size
            have O5_4:=O5_3.bl E4
            have O6_4:=O6_3.bl E4
            refine sta (cs':=(mmcells ⟨x.name,-1,x.params.map (rty cl'),x.locals.map (rty cl'),rty cl' x.result,[]⟩ a5 c5 a6 c6 none 0)) xb_4 (fun wz kz xz => ?_) (hm:=wrB (by show ¬b28<_;omega))
            have h5:a5≠some ⟨b28,0,none⟩:=fun e=>by have:=g5 _ e;omega
            have h6:a6≠some ⟨b28,0,none⟩:=fun e=>by have:=g6 _ e;omega
            exact go ⟨b28,a5,c5,a6,c6,rfl,by omega,Below.trans D4 (kz.below (by omega)),xz,(O5_4.wr kz fun g hg e=>h5 (e▸hg)).base (by omega),h5,(O6_4.wr kz fun g hg e=>h6 (e▸hg)).base (by omega),h6⟩
          · refine al fun b28 v3 r3 => ?_
            have E3:=r3.bl
            have yb:=r3.blk
            have zb:=r3.size
            have xb_3:Box v3 b28 54 _:=r3.box
            have D3:=D2.trans E3
            have s3:=E3.size
            have O5_3:=O5_2.bl E3
            have O6_3:=O6_2.bl E3
            refine cl (k_kindU cl' x.result b11 bc v3 (((B1017.trans D3).kp T) _ _ _ trivial f11) (Rc10.bl (B1017.trans D3))) ?_
            rintro _ v4 ⟨rfl,E4⟩
            have D4:=D3.trans E4
            have s4:=E4.size
            have O5_4:=O5_3.bl E4
            have O6_4:=O6_3.bl E4
            have xb_4:=Bl.box E4 xb_3
            refine bd ?_
            refine sta (cs':=(mmcells ⟨x.name,-1,x.params.map (rty cl'),x.locals.map (rty cl'),rty cl' x.result,[]⟩ a5 c5 a6 c6 none 0)) xb_4 (fun wz kz xz => ?_) (hm:=wrB (by show ¬b28<_;omega))
            have h5:a5≠some ⟨b28,0,none⟩:=fun e=>by have:=g5 _ e;omega
            have h6:a6≠some ⟨b28,0,none⟩:=fun e=>by have:=g6 _ e;omega
            exact go ⟨b28,a5,c5,a6,c6,rfl,by omega,Below.trans D4 (kz.below (by omega)),xz,(O5_4.wr kz fun g hg e=>h5 (e▸hg)).base (by omega),h5,(O6_4.wr kz fun g hg e=>h6 (e▸hg)).base (by omega),h6⟩
        · refine al fun b28 v2 r2 => ?_
          have E2:=r2.bl
          have yb:=r2.blk
          have zb:=r2.size
          have xb_2:Box v2 b28 54 _:=r2.box
          have D2:=D1.trans E2
          have s2:=E2.size
          have O5_2:=O5_1.bl E2
          refine cl (k_kindsU cl' x.locals a22 d22 b13 b11 bc v2 (((B1017.trans D2).kp T) _ _ _ trivial f13) (((B1017.trans D2).kp T) _ _ _ trivial f11) (Rc10.bl (B1017.trans D2)) (F2.bl (B1517.trans D2))) ?_ (hm:=fun _ _ r=>by obtain ⟨_,_,_,_,hB⟩:=r;exact mdW_bl hB)
          rintro _ v3 ⟨a6,c6,rfl,O6_3,E3⟩
          have D3:=D2.trans E3
          have s3:=E3.size
          have O5_3:=O5_2.bl E3
          have xb_3:=Bl.box E3 xb_2
          have g6:=fun g (hg:a6=some ⟨g,0,none⟩)=>O6_3.lt hg
          refine cl (k_kindU cl' x.result b11 bc v3 (((B1017.trans D3).kp T) _ _ _ trivial f11) (Rc10.bl (B1017.trans D3))) ?_
          rintro _ v4 ⟨rfl,E4⟩
          have D4:=D3.trans E4
          have s4:=E4.size
          have O5_4:=O5_3.bl E4
          have O6_4:=O6_3.bl E4
          have xb_4:=Bl.box E4 xb_3
          refine bd ?_
          refine sta (cs':=(mmcells ⟨x.name,-1,x.params.map (rty cl'),x.locals.map (rty cl'),rty cl' x.result,[]⟩ a5 c5 a6 c6 none 0)) xb_4 (fun wz kz xz => ?_) (hm:=wrB (by show ¬b28<_;omega))
          have h5:a5≠some ⟨b28,0,none⟩:=fun e=>by have:=g5 _ e;omega
          have h6:a6≠some ⟨b28,0,none⟩:=fun e=>by have:=g6 _ e;omega
          exact go ⟨b28,a5,c5,a6,c6,rfl,by omega,Below.trans D4 (kz.below (by omega)),xz,(O5_4.wr kz fun g hg e=>h5 (e▸hg)).base (by omega),h5,(O6_4.wr kz fun g hg e=>h6 (e▸hg)).base (by omega),h6⟩
      · refine al fun b28 v1 r1 => ?_
        have E1:=r1.bl
        have yb:=r1.blk
        have zb:=r1.size
        have xb_1:Box v1 b28 54 _:=r1.box
        have D1:=D0.trans E1
        have s1:=E1.size
        refine cl (k_kindsU cl' x.params a21 d21 b13 b11 bc v1 (((B1017.trans D1).kp T) _ _ _ trivial f13) (((B1017.trans D1).kp T) _ _ _ trivial f11) (Rc10.bl (B1017.trans D1)) (F1.bl (B1517.trans D1))) ?_ (hm:=fun _ _ r=>by obtain ⟨_,_,_,_,hB⟩:=r;exact mdW_bl hB)
        rintro _ v2 ⟨a5,c5,rfl,O5_2,E2⟩
        have D2:=D1.trans E2
        have s2:=E2.size
        have xb_2:=Bl.box E2 xb_1
        have g5:=fun g (hg:a5=some ⟨g,0,none⟩)=>O5_2.lt hg
        refine cl (k_kindsU cl' x.locals a22 d22 b13 b11 bc v2 (((B1017.trans D2).kp T) _ _ _ trivial f13) (((B1017.trans D2).kp T) _ _ _ trivial f11) (Rc10.bl (B1017.trans D2)) (F2.bl (B1517.trans D2))) ?_ (hm:=fun _ _ r=>by obtain ⟨_,_,_,_,hB⟩:=r;exact mdW_bl hB)
        rintro _ v3 ⟨a6,c6,rfl,O6_3,E3⟩
        have D3:=D2.trans E3
        have s3:=E3.size
        have O5_3:=O5_2.bl E3
        have xb_3:=Bl.box E3 xb_2
        have g6:=fun g (hg:a6=some ⟨g,0,none⟩)=>O6_3.lt hg
        refine cl (k_kindU cl' x.result b11 bc v3 (((B1017.trans D3).kp T) _ _ _ trivial f11) (Rc10.bl (B1017.trans D3))) ?_
        rintro _ v4 ⟨rfl,E4⟩
        have D4:=D3.trans E4
        have s4:=E4.size
        have O5_4:=O5_3.bl E4
        have O6_4:=O6_3.bl E4
        have xb_4:=Bl.box E4 xb_3
        refine bd ?_
        refine sta (cs':=(mmcells ⟨x.name,-1,x.params.map (rty cl'),x.locals.map (rty cl'),rty cl' x.result,[]⟩ a5 c5 a6 c6 none 0)) xb_4 (fun wz kz xz => ?_) (hm:=wrB (by show ¬b28<_;omega))
        have h5:a5≠some ⟨b28,0,none⟩:=fun e=>by have:=g5 _ e;omega
        have h6:a6≠some ⟨b28,0,none⟩:=fun e=>by have:=g6 _ e;omega
        exact go ⟨b28,a5,c5,a6,c6,rfl,by omega,Below.trans D4 (kz.below (by omega)),xz,(O5_4.wr kz fun g hg e=>h5 (e▸hg)).base (by omega),h5,(O6_4.wr kz fun g hg e=>h6 (e▸hg)).base (by omega),h6⟩
    rintro _ w18 ⟨b28,a5,c5,a6,c6,rfl,hb28,B1718,x28,O5,hne5,O6,hne6⟩
    have z18:=B1718.size
    have x27:=Bl.box B1718 x17
    have B1018:=B1017.trans B1718
    refine ld (x27.cell rfl) ?_
    refine jn [] [(2,.pointer (some ⟨b2,0,none⟩)),(4,.pointer (some ⟨b4,0,none⟩)),(6,.slice (some ⟨bmn,omn,none⟩) me.length d1),(8,.slice p3 st'.length d3),(10,renV bm),(11,.pointer (some ⟨b11,0,none⟩)),(12,renV bs'),(13,.pointer (some ⟨b13,0,none⟩)),(14,kdsV b13),(15,.pointer (some ⟨b15,0,none⟩)),(143,.slice (some ⟨bmn,omn,none⟩) me.length d1),(144,I me.length),(145,I j),(27,.pointer (some ⟨b27,0,none⟩)),(28,.pointer (some ⟨b28,0,none⟩))] (fun vals w'=>vals=[]∧Nc b28 w18 w'∧Box w' b28 54 (mmcells ⟨x.name,posI cl' x.cls,x.params.map (rty cl'),x.locals.map (rty cl'),rty cl' x.result,[]⟩ a5 c5 a6 c6 none 0)) (fun h go => ?_) (fun h go => ?_) ?_
    · refine ld ((B1018.kp T) _ _ _ trivial f11) ?_
      refine ld (x27.cell rfl) ?_
      refine cl (k_renumber1 cl' bc x.cls w18 (Rc10.bl B1018)) ?_
      rintro _ w19 ⟨rfl,rfl⟩
      refine st x28 fun w19 k19 x19' => ?_
      exact go ⟨rfl,(Nc.of_bl (Bl.refl _)).wr k19 (.inl rfl),x19'⟩
    · have h0:¬0≤x.cls:=of_decide_eq_false h
      exact go ⟨rfl,.of_bl (Bl.refl _),by rw [K.nocl (n:=x.cls) (by omega)];exact x28⟩
    rintro _ w19 ⟨rfl,N19,x28'⟩
    have z19:=N19.size
    have x27':=N19.box x27 (by omega)
    refine ld (x27'.cell rfl) ?_
    refine lpk (vals:=[]) x.code.length 180 [] [(2,.pointer (some ⟨b2,0,none⟩)),(4,.pointer (some ⟨b4,0,none⟩)),(6,.slice (some ⟨bmn,omn,none⟩) me.length d1),(8,.slice p3 st'.length d3),(10,renV bm),(11,.pointer (some ⟨b11,0,none⟩)),(12,renV bs'),(13,.pointer (some ⟨b13,0,none⟩)),(14,kdsV b13),(15,.pointer (some ⟨b15,0,none⟩)),(143,.slice (some ⟨bmn,omn,none⟩) me.length d1),(144,I me.length),(145,I j),(27,.pointer (some ⟨b27,0,none⟩)),(28,.pointer (some ⟨b28,0,none⟩)),(178,.slice a23 x.code.length d23),(179,I x.code.length)]
      (fun i vals w'=>vals=[]∧Nc b28 w19 w'∧∃ a7 c7,Box w' b28 54 [.string x.name,I (posI cl' x.cls),.slice a5 (x.params.map (rty cl')).length c5,.slice a6 (x.locals.map (rty cl')).length c6,I (rty cl' x.result).kind,I (rty cl' x.result).cls,.slice a7 ((x.code.take i).map (rin me cl' st')).length c7]∧OwP 3 encIns w' w19.heap.size 120 a7 c7 ((x.code.take i).map (rin me cl' st')))
      ⟨rfl,.of_bl (Bl.refl _),none,0,x28',Ow.nil ..⟩ ?_
    rintro i vals w20 hi ⟨rfl,N20,a7,c7,x20,O20⟩ ih2
    have z20:=N20.size
    have B1519:Bl w15 w19:=Nc.below (B1517.trans B1718) N19 (by omega) (by omega)
    have B1520:Bl w15 w20:=Nc.below B1519 N20 (by omega) B1519.size
    have B1020:=B1015.trans B1520
    have l28:=x28'.lt
    have g20:=B1520.size
    by_cases hil:i<x.code.length
    · refine brT ?_
      obtain ⟨ins,bi,oi,ci,hins,e9,_,hAi,rfl⟩:=at_some (F3.bl B1520) hil
      have hv:=code_all M.cd ins (List.mem_of_getElem? hins)
      rw [e9]
      refine ix ?_
      refine lda hAi ?_
      refine al fun b30 w21 k21 => ?_
      have y21:=k21.blk
      have z21:=k21.size
      refine sta (cs':=encIns ins) k21.box fun w22 k22 x22 => ?_
      have z22:=k22.size
      have B2022:=k21.wr k22
      have B1022:=B1020.trans B2022
      refine ld (x22.cell rfl) ?_
      refine jn [186] [(2,.pointer (some ⟨b2,0,none⟩)),(4,.pointer (some ⟨b4,0,none⟩)),(6,.slice (some ⟨bmn,omn,none⟩) me.length d1),(8,.slice p3 st'.length d3),(10,renV bm),(11,.pointer (some ⟨b11,0,none⟩)),(12,renV bs'),(13,.pointer (some ⟨b13,0,none⟩)),(14,kdsV b13),(15,.pointer (some ⟨b15,0,none⟩)),(143,.slice (some ⟨bmn,omn,none⟩) me.length d1),(144,I me.length),(145,I j),(27,.pointer (some ⟨b27,0,none⟩)),(28,.pointer (some ⟨b28,0,none⟩)),(178,.slice (some ⟨bi,oi,none⟩) x.code.length d23),(179,I x.code.length),(180,I i),(30,.pointer (some ⟨b30,0,none⟩)),(185,I ins.op)] (fun vals w'=>vals=[.bool (decide (ins.op=14∨ins.op=24))]∧w22=w') (fun h go => ?_) (fun h go => ?_) ?_
      · have h14:=of_decide_eq_true h
        refine go ⟨?_,rfl⟩
        rw [decide_eq_true h14,decide_eq_true (Or.inl h14)]
      · have h14:=of_decide_eq_false h
        refine go ⟨?_,rfl⟩
        by_cases h24:ins.op=24
        · rw [decide_eq_true h24,decide_eq_true (Or.inr h24)]
        · rw [decide_eq_false h24,decide_eq_false (by omega)]
      rintro _ _ ⟨rfl,rfl⟩
      refine cut [] [(2,.pointer (some ⟨b2,0,none⟩)),(4,.pointer (some ⟨b4,0,none⟩)),(6,.slice (some ⟨bmn,omn,none⟩) me.length d1),(8,.slice p3 st'.length d3),(10,renV bm),(11,.pointer (some ⟨b11,0,none⟩)),(12,renV bs'),(13,.pointer (some ⟨b13,0,none⟩)),(14,kdsV b13),(15,.pointer (some ⟨b15,0,none⟩)),(143,.slice (some ⟨bmn,omn,none⟩) me.length d1),(144,I me.length),(145,I j),(27,.pointer (some ⟨b27,0,none⟩)),(28,.pointer (some ⟨b28,0,none⟩)),(178,.slice (some ⟨bi,oi,none⟩) x.code.length d23),(179,I x.code.length),(180,I i),(30,.pointer (some ⟨b30,0,none⟩))] (fun vals w'=>vals=[]∧Box w' b30 120 (encIns (rin me cl' st' ins))∧Nc b30 w22 w') (fun go => ?_) ?_
      · have one:∀ {w4:World},Wr w22 b30 w4→Nc b30 w22 w4:=fun k=>(Nc.of_bl (Bl.refl _)).wr k (.inl rfl)
        have f11':=(B1022.kp T) _ _ _ trivial f11
        by_cases h14:ins.op=14∨ins.op=24
        · have er:rin me cl' st' ins=⟨ins.op,posI cl' ins.a,ins.b⟩:=by unfold rin;rw [if_neg (by omega),if_pos h14]
          refine brT ?_ (hp:=h14)
          refine ld f11' ?_
          refine ld (x22.cell rfl) ?_
          refine cl (k_renumber1 cl' bc ins.a w22 (Rc10.bl B1022)) ?_
          rintro _ w23 ⟨rfl,rfl⟩
          refine stx x22 (fun w24 k24 x24 => ?_) (ho:=by show 1<3;decide)
          exact go ⟨rfl,by rw [er];exact x24,one k24⟩
        refine brF ?_ (hp:=h14)
        by_cases h16:ins.op=16
        · have er:rin me cl' st' ins=⟨ins.op,ins.a,posI cl' ins.b⟩:=by unfold rin;rw [if_neg (by omega),if_neg (by omega),if_pos h16]
          refine brT ?_ (hp:=h16)
          refine ld f11' ?_
          refine ld (x22.cell rfl) ?_
          refine cl (k_renumber1 cl' bc ins.b w22 (Rc10.bl B1022)) ?_
          rintro _ w23 ⟨rfl,rfl⟩
          refine stx x22 (fun w24 k24 x24 => ?_) (ho:=by show 2<3;decide)
          exact go ⟨rfl,by rw [er];exact x24,one k24⟩
        refine brF ?_ (hp:=h16)
        by_cases h12:ins.op=12
        · refine brT ?_ (hp:=h12)
          refine ld (x22.cell rfl) ?_
          by_cases h3:ins.a=3
          · have er:rin me cl' st' ins=ins:=by unfold rin;rw [if_pos h12,if_pos h3]
            refine brF ?_ (hp:=by exact fun q=>q h3)
            exact go ⟨rfl,by rw [er];exact x22,.of_bl (Bl.refl _)⟩
          · have er:rin me cl' st' ins=⟨ins.op,ins.a,posI cl' ins.b⟩:=by unfold rin;rw [if_pos h12,if_neg h3]
            refine brT ?_ (hp:=h3)
            refine ld f11' ?_
            refine ld (x22.cell rfl) ?_
            refine cl (k_renumber1 cl' bc ins.b w22 (Rc10.bl B1022)) ?_
            rintro _ w23 ⟨rfl,rfl⟩
            refine stx x22 (fun w24 k24 x24 => ?_) (ho:=by show 2<3;decide)
            exact go ⟨rfl,by rw [er];exact x24,one k24⟩
        refine brF ?_ (hp:=h12)
        by_cases h22:ins.op=22
        · have er:rin me cl' st' ins=⟨ins.op,posI st' ins.a,ins.b⟩:=by unfold rin;rw [if_neg h12,if_neg (by omega),if_neg h16,if_pos (.inl h22)]
          refine brT ?_ (hp:=h22)
          refine brT ?_ (hp:=h22)
          refine ld (x22.cell rfl) ?_
          refine cl (k_renumber1 st' bs' ins.a w22 (Rs10.bl B1022)) ?_
          rintro _ w23 ⟨rfl,rfl⟩
          refine stx x22 (fun w24 k24 x24 => ?_) (ho:=by show 1<3;decide)
          exact go ⟨rfl,by rw [er];exact x24,one k24⟩
        refine brF ?_ (hp:=h22)
        by_cases h23:ins.op=23
        · have er:rin me cl' st' ins=⟨ins.op,posI st' ins.a,ins.b⟩:=by unfold rin;rw [if_neg h12,if_neg (by omega),if_neg h16,if_pos (.inr h23)]
          refine brT ?_ (hp:=h23)
          refine ld (x22.cell rfl) ?_
          refine cl (k_renumber1 st' bs' ins.a w22 (Rs10.bl B1022)) ?_
          rintro _ w23 ⟨rfl,rfl⟩
          refine stx x22 (fun w24 k24 x24 => ?_) (ho:=by show 1<3;decide)
          exact go ⟨rfl,by rw [er];exact x24,one k24⟩
        refine brF ?_ (hp:=h23)
        by_cases h25:ins.op=25
        · have er:rin me cl' st' ins=⟨ins.op,posI me ins.a,ins.b⟩:=by unfold rin;rw [if_neg h12,if_neg (by omega),if_neg h16,if_neg (by omega),if_pos h25]
          refine brT ?_ (hp:=h25)
          refine ld (x22.cell rfl) ?_
          refine cl (k_renumber1 me bm ins.a w22 (Rm10.bl B1022)) ?_
          rintro _ w23 ⟨rfl,rfl⟩
          refine stx x22 (fun w24 k24 x24 => ?_) (ho:=by show 1<3;decide)
          exact go ⟨rfl,by rw [er];exact x24,one k24⟩
        refine brF ?_ (hp:=h25)
        have er:rin me cl' st' ins=ins:=by unfold rin;rw [if_neg h12,if_neg (by omega),if_neg h16,if_neg (by omega),if_neg h25]
        exact go ⟨rfl,by rw [er];exact x22,.of_bl (Bl.refl _)⟩
      rintro _ w23 ⟨rfl,x23,N23⟩
      have z23:=N23.size
      have B2023:Bl w20 w23:=Nc.below B2022 N23 (by omega) B2022.size
      have x28b:=Bl.box B2023 x20
      have O23:=O20.bl B2023
      have hl:(x.code.take i).length≤120:=by rw [List.length_take];omega
      refine ld (x28b.cell rfl) ?_
      refine lda x23.at ?_
      refine bs (cs:=encIns (rin me cl' st' ins)) fun b31 w24 k24 => ?_
      have z24:=k24.size
      refine apl (l1:=[rin me cl' st' ins]) (O23.bl k24.bl) (.inr ⟨b31,0,rfl,k24.box.at⟩) (by omega) fun a8 c8 w25 O25 A25 _ => ?_
      have x25:=A25.box (Bl.box k24.bl x28b) fun e=>by have:=(O20.lt e).1;omega
      refine st x25 fun w26 k26 x26 => ?_
      have esn:(x.code.take (i+1)).map (rin me cl' st')=(x.code.take i).map (rin me cl' st')++[rin me cl' st' ins]:=map_snoc hins
      have N25:Nc b28 w19 w25:=((N20.bl B2023).bl k24.bl).ap A25 fun g hg=>(O20.lt hg).1
      exact ih2 hil ⟨rfl,N25.wr k26 (.inl rfl),a8,c8,by rw [esn];exact x26,by rw [esn];exact O25.wr k26 fun g hg e=>by have:=(O25.lt hg).1;omega⟩ (hsub:=by rw [e9];repeat (first | exact True.intro | (refine ⟨rfl,?_⟩)))
    refine brF ?_
    obtain rfl:i=x.code.length:=by omega
    rw [List.take_length] at x20 O20
    clear ih2
    obtain ⟨rc,hrc⟩:∃ rc,rc=rmm me cl' st' x:=⟨_,rfl⟩
    have x1520:=Bl.box B1520 x15
    refine ld (x1520.cell rfl) ?_
    refine lda x20.at ?_
    refine bs (cs:=mmcells rc a5 c5 a6 c6 a7 c7) (fun b31 w21 k21 => ?_) (hcs:=by rw [hrc];rfl)
    have z21:=k21.size
    have B1521:=B1520.trans k21.bl
    obtain ⟨xs,e1',e3',hOx,e4⟩:=(O15.bl B1521).row
    have hl15:((me.take j).map fun k=>rmm me cl' st' (mths m k)).length≤16:=by rw [List.length_map,List.length_take];omega
    refine ap hOx (.inr ⟨b31,0,rfl,k21.box.at⟩) (by omega) (fun a31 c31 w22 O22 A22 F22 => ?_)
    have hna:∀ g,a3=some ⟨g,0,none⟩→w14.heap.size≤g∧g<w15.heap.size:=fun g hg=>O15.lt hg
    have hrel:eMM.rel (fun i=>w14.heap.size≤i∧a3≠some ⟨i,0,none⟩∧i<w21.heap.size) w21 (mmcells rc a5 c5 a6 c6 a7 c7) rc:=by
      have O5':OwP 2 encTy w21 w17.heap.size 51 a5 c5 (x.params.map (rty cl')):=(O5.same fun g hg=>((N19.trans N20).blk g (O5.lt hg).2 fun e=>hne5 (e▸hg))).bl k21.bl
      have O6':OwP 2 encTy w21 w17.heap.size 51 a6 c6 (x.locals.map (rty cl')):=(O6.same fun g hg=>((N19.trans N20).blk g (O6.lt hg).2 fun e=>hne6 (e▸hg))).bl k21.bl
      rw [hrc]
      refine ⟨a5,c5,a6,c6,a7,c7,rfl,?_,?_,?_,hnm⟩
      · exact owp_sl O5' (by rw [List.length_map];omega) fun g hg=>by
          have q1:=O5'.lt hg
          exact ⟨by omega,fun e=>by have:=(hna _ e).2;omega,by omega⟩
      · exact owp_sl O6' (by rw [List.length_map];omega) fun g hg=>by
          have q1:=O6'.lt hg
          exact ⟨by omega,fun e=>by have:=(hna _ e).2;omega,by omega⟩
      · exact owp_sl (O20.bl k21.bl) (by rw [List.length_map];omega) fun g hg=>by
          have q1:=O20.lt hg
          exact ⟨by omega,fun e=>by have:=(hna _ e).2;omega,by omega⟩
    have O22':=OwC.push e1' e3' e4 O22 A22 F22 hrel
    have x22:=A22.box (Bl.box k21.bl x1520) fun e=>by have:=(hna _ e).1;omega
    refine st x22 fun w23 k23 x23 => ?_
    have esn:(me.take (j+1)).map (fun k=>rmm me cl' st' (mths m k))=(me.take j).map (fun k=>rmm me cl' st' (mths m k))++[rc]:=by rw [map_snoc hmn,mths_at hx,hrc]
    have N22:Nc b15 w14 w22:=(N15.bl B1521).ap A22 fun g hg=>(hna g hg).1
    exact ih hjl ⟨rfl,N22.wr k23 (.inl rfl),a31,c31,by rw [esn,List.length_append];exact x23,by rw [esn];exact O22'.wr k23 (by omega) fun i hi=>by omega⟩ (hsub:=by rw [e5];repeat (first | exact True.intro | (refine ⟨rfl,?_⟩)))
  refine brF ?_
  obtain rfl:j=me.length:=by omega
  rw [List.take_length] at x15 O15
  obtain ⟨ML,hML⟩:∃ ML,ML=me.map fun k=>rmm me cl' st' (mths m k):=⟨_,rfl⟩
  have hMLl:ML.length=me.length:=by rw [hML,List.length_map]
  rw [←hML] at x15 O15
  have SC15:=SC14.kp (N15.nb.kp.sub fun i hi=>by omega)
  have SS15:=SS14.kp (N15.nb.kp.sub fun i hi=>by omega)
  have SM15:Sl eMM (fun i=>w14.heap.size≤i∧i<w15.heap.size) w15 a3 ML:=O15.sl2 (by omega)
  have x4b:=Bl.box B1015 x4'
  have hw10:=B10.size
  have g10:=B1015.size
  have l4:=x4.lt
  refine lda x15.at ?_
  refine sta (cs':=mdz a1 CL.length c1 a2 SL.length c2 a3 ML.length c3 m.sels) x4b fun w16 k16 x16 => ?_
  have z16:=k16.size
  refine rtc2 (cs:=mdz a1 CL.length c1 a2 SL.length c2 a3 ML.length c3 m.sels) x16.at ⟨⟨a1,c1,a2,c2,a3,c3⟩,?_,?_,Below.trans (B10.trans B1015) (k16.below (by omega))⟩
  · rw [eu,h1]
    unfold unlM modcells
    rw [←hCL,←hSL,←hML]
  · rw [eu]
    unfold unlM
    rw [←hCL,←hSL,←hML]
    refine ⟨?_,?_,?_⟩
    · exact (SC15.kp (k16.kp fun i hi=>by omega)).sub fun i hi=>by omega
    · exact (SS15.kp (k16.kp fun i hi=>by omega)).sub fun i hi=>by omega
    · exact (SM15.kp (k16.kp fun i hi=>by omega)).sub fun i hi=>by omega
end Go.Proofs.YtkmdfjpafkcleaaGreatDoor
namespace Go.Proofs.YtkmdfjpafkcleaaGreatDoor
open Eng Go.RowKit
theorem val_kind {i:Ins} (hv:validI i false=true) (h:i.op=12):i.a=2∨i.a=3∨i.a=4:=by
  obtain ⟨op,a,b⟩:=i
  simp only at h ⊢
  subst h
  simp [validI,inR,rngs,mosts] at hv
  omega
end Go.Proofs.YtkmdfjpafkcleaaGreatDoor
namespace Go.Proofs.YtkmdfjpafkcleaaGreatDoor
open Eng Go.RowKit
theorem pos_len {l:List Int} {x:Int} (h:x∈l):0≤posI l x∧posI l x<l.length:=by
  obtain ⟨p,hp,hx⟩:=pos_of h
  have:=(List.getElem?_eq_some_iff.1 hx).1
  omega
section
variable {m:Mod} {me cl st:List Int}
theorem Kept.unl_c (_h:Kept m me cl st):(unlM m me cl st).classes.length=cl.length:=rcl_len ..
theorem Kept.unl_m (_h:Kept m me cl st):(unlM m me cl st).methods.length=me.length:=List.length_map ..
theorem Kept.unl_s (_h:Kept m me cl st):(unlM m me cl st).statics.length=st.length:=List.length_map ..
theorem Kept.cls_at (h:Kept m me cl st) {j:Nat} {c':MC} (hj:(unlM m me cl st).classes[j]? = some c'):∃ (k:Nat) (x:MC),cl[j]? = some (k:Int)∧m.classes[k]? = some x∧c'=⟨x.name,posI cl x.super,x.fields.map (rty cl),tblU me (rcl m me cl j) (posI cl x.super) x.table x.table.length⟩:=by
  have hlt:j<cl.length:=by have:=(List.getElem?_eq_some_iff.1 hj).1;rw [h.unl_c] at this;exact this
  obtain ⟨c,hc⟩:=some_of_lt hlt
  obtain ⟨g0,g1⟩:=h.ci c (List.mem_of_getElem? hc)
  obtain ⟨k,rfl⟩:=Int.eq_ofNat_of_zero_le g0
  obtain ⟨x,hx⟩:=some_of_lt (l:=m.classes) (k:=k) (by omega)
  have e:(unlM m me cl st).classes[j]? = some (rmc m me cl (rcl m me cl j) k):=rcl_at hlt hc
  rw [e] at hj
  refine ⟨k,x,hc,hx,?_⟩
  rw [←Option.some.inj hj]
  unfold rmc
  rw [clss_at hx]
theorem Kept.at_cls (_h:Kept m me cl st) {j k:Nat} {x:MC} (hc:cl[j]? = some (k:Int)) (hx:m.classes[k]? = some x):(unlM m me cl st).classes[j]? = some ⟨x.name,posI cl x.super,x.fields.map (rty cl),tblU me (rcl m me cl j) (posI cl x.super) x.table x.table.length⟩:=by
  have hlt:=(List.getElem?_eq_some_iff.1 hc).1
  have e:(unlM m me cl st).classes[j]? = some (rmc m me cl (rcl m me cl j) k):=rcl_at hlt hc
  rw [e]
  unfold rmc
  rw [clss_at hx]
theorem Kept.mth_at (h:Kept m me cl st) {j:Nat} {y:MM} (hj:(unlM m me cl st).methods[j]? = some y):∃ (k:Nat) (x:MM),me[j]? = some (k:Int)∧m.methods[k]? = some x∧y=rmm me cl st x:=by
  have hlt:j<me.length:=by have:=(List.getElem?_eq_some_iff.1 hj).1;rw [h.unl_m] at this;exact this
  obtain ⟨c,hc⟩:=some_of_lt hlt
  obtain ⟨g0,g1⟩:=h.mi c (List.mem_of_getElem? hc)
  obtain ⟨k,rfl⟩:=Int.eq_ofNat_of_zero_le g0
  obtain ⟨x,hx⟩:=some_of_lt (l:=m.methods) (k:=k) (by omega)
  refine ⟨k,x,hc,hx,?_⟩
  have e:(unlM m me cl st).methods[j]? = some (rmm me cl st (mths m k)):=by
    show (me.map _)[j]? = _
    rw [List.getElem?_map,hc];rfl
  rw [e,mths_at hx] at hj
  exact (Option.some.inj hj).symm
theorem Kept.at_mth (_h:Kept m me cl st) {j k:Nat} {x:MM} (hc:me[j]? = some (k:Int)) (hx:m.methods[k]? = some x):(unlM m me cl st).methods[j]? = some (rmm me cl st x):=by
  show (me.map _)[j]? = _
  rw [List.getElem?_map,hc,←mths_at hx];rfl
theorem Kept.desc (h:Kept m me cl st):Desc (unlM m me cl st) cl.length:=by
  refine ⟨by rw [h.unl_c];exact Nat.le_refl _,fun i x hi hx => ?_⟩
  obtain ⟨k,y,hk,hy,rfl⟩:=h.cls_at hx
  refine ⟨pos_ge _ _,?_⟩
  show posI cl y.super<i
  by_cases h0:0≤posI cl y.super
  · obtain ⟨p,_,_,hp,hpi,_⟩:=h.sup hk hy h0
    omega
  · omega
theorem Kept.supM' (h:Kept m me cl st) {j k:Nat} {x:MC} (hj:cl[j]? = some (k:Int)) (hx:m.classes[k]? = some x):supM (unlM m me cl st) (j:Int)=posI cl x.super:=supM_at (h.at_cls hj hx)
theorem Kept.up (h:Kept m me cl st):∀ (n:Nat) {j k:Nat} {c:Int},k<n→cl[j]? = some (k:Int)→c∈upM m k→posI cl c∈upM (unlM m me cl st) j
  | 0,_,_,_,h,_,_=>by omega
  | n+1,j,k,c,hn,hj,hc=>by
    have hlt:=(List.getElem?_eq_some_iff.1 hj).1
    obtain ⟨g0,g1⟩:=h.ci _ (List.mem_of_getElem? hj)
    obtain ⟨x,hx⟩:=some_of_lt (l:=m.classes) (k:=k) (by omega)
    have D:=h.P.desc
    rw [upM_step D g0 g1] at hc
    rcases List.mem_cons.1 hc with rfl | hc
    · rw [pos_at h.ca hj];exact upM_self (by omega)
    · rw [supM_at hx] at hc
      have hs0:0≤x.super:=by
        rcases Int.lt_or_le x.super 0 with q | q
        · rw [upM_neg q] at hc;cases hc
        · exact q
      have hsm:x.super∈cl:=h.cc _ (List.mem_of_getElem? hj) _ (by rw [sucC_at hx,if_pos hs0];exact List.mem_append_left _ (List.mem_singleton.2 rfl))
      obtain ⟨p,q,y,hp,hpj,hq,hcp,hy,hqk⟩:=h.sup hj hx (pos_len hsm).1
      rw [hq] at hc
      have ih:=h.up n (by omega) hcp hc
      rw [upM_step h.desc (by omega) (by omega),h.supM' hj hx,hp]
      exact List.mem_cons_of_mem _ ih
structure Src' (m:Mod) (me cl st:List Int) (j s:Nat) (v:Int):Prop where
  lo : -1≤v
  own:0≤v→∃ (t p q:Nat) (y:MM) (z:MC),me[v.toNat]? = some (t:Int)∧v<me.length∧m.methods[t]? = some y∧y.cls=q∧cl[p]? = some (q:Int)∧(p:Int)∈upM (unlM m me cl st) j∧m.classes[q]? = some z∧z.table[s]? = some (t:Int)
theorem Kept.tab (h:Kept m me cl st):∀ (j':Nat) {j k s:Nat} {x:MC},j<j'→cl[j]? = some (k:Int)→m.classes[k]? = some x→s<x.table.length→Src' m me cl st j s (entU me (rcl m me cl j) (posI cl x.super) (x.table.getD s (-1)) s)
  | 0,_,_,_,_,h,_,_,_=>by omega
  | n+1,j,k,s,x,hn,hj,hx,hs=>by
    obtain ⟨e,he⟩:=some_of_lt hs
    have ed:x.table.getD s (-1)=e:=by rw [List.getD_eq_getElem?_getD,he];rfl
    rw [ed]
    have C:=h.P.cls k x hx
    have E:=C.tb s e he
    have hlt:=(List.getElem?_eq_some_iff.1 hj).1
    obtain ⟨g0,g1⟩:=h.ci _ (List.mem_of_getElem? hj)
    unfold entU
    by_cases hc:posI me e<0∧0≤posI cl x.super
    · rw [if_pos hc]
      obtain ⟨p,q,y,hp,hpj,hq,hcp,hy,hqk⟩:=h.sup hj hx hc.2
      have e1:=rcl_at (m:=m) (me:=me) hpj hcp
      rw [hp,Int.toNat_natCast,e1]
      have hys:s<y.table.length:=by
        have:=(h.P.cls q y hy).tl
        have:=C.tl
        omega
      have e2:(rmc m me cl (rcl m me cl p) q).table.getD s (-1)=entU me (rcl m me cl p) (posI cl y.super) (y.table.getD s (-1)) s:=by
        unfold rmc
        rw [clss_at hy,List.getD_eq_getElem?_getD]
        show (tblU _ _ _ _ _)[s]?.getD _=_
        rw [tblU_at me (rcl m me cl p) (posI cl y.super) y.table hys];rfl
      simp only [Option.map_some,Option.getD_some]
      rw [e2]
      have ih:=h.tab n (by omega) hcp hy hys
      refine ⟨ih.lo,fun h0 => ?_⟩
      obtain ⟨t,p2,q2,y2,z2,a1,a2,a3,a4,a5,a6,a7⟩:=ih.own h0
      refine ⟨t,p2,q2,y2,z2,a1,a2,a3,a4,a5,?_,a7⟩
      rw [upM_step h.desc (by omega) (by omega),h.supM' hj hx,hp]
      exact List.mem_cons_of_mem _ a6
    · rw [if_neg hc]
      refine ⟨pos_ge _ _,fun h0 => ?_⟩
      have hem:e∈me:=Classical.byContradiction fun q=>by rw [posI_no q] at h0;omega
      obtain ⟨v,hv,hvx⟩:=pos_of hem
      obtain ⟨m0,m1⟩:=h.mi e hem
      obtain ⟨t,rfl⟩:=Int.eq_ofNat_of_zero_le m0
      obtain ⟨y,z,hy,hup,hz,hzt⟩:=E.own (by omega)
      rw [Int.toNat_natCast] at hy
      have hcls:=upM_mem_le h.P.desc g1 hup
      have hcm:y.cls∈cl:=h.mc _ hem _ (by
        rw [mths_at hy]
        unfold needC locM
        simp only [List.mem_append,List.mem_flatMap]
        refine .inl ⟨⟨2,y.cls⟩,.inl (.inl (.inl ?_)),by simp [tcl]⟩
        rw [if_pos hcls.1];exact List.mem_singleton.2 rfl)
      obtain ⟨p,hp,hpx⟩:=pos_of hcm
      obtain ⟨q,hq⟩:=Int.eq_ofNat_of_zero_le hcls.1
      have hU:=h.up (k+1) (by omega) hj hup
      rw [hp] at hU
      rw [hq,Int.toNat_natCast] at hz
      rw [hq] at hpx
      refine ⟨t,p,q,y,z,by rw [hv,Int.toNat_natCast];exact hvx,by rw [hv];have:=(List.getElem?_eq_some_iff.1 hvx).1;omega,hy,hq,hpx,hU,hz,hzt⟩
end
end Go.Proofs.YtkmdfjpafkcleaaGreatDoor
namespace Go.Proofs.YtkmdfjpafkcleaaGreatDoor
open Eng Go.RowKit
section
variable {m:Mod} {me cl st:List Int}
theorem Kept.ent (h:Kept m me cl st) {p q s t:Nat} {z:MC} (hp:cl[p]? = some (q:Int)) (hz:m.classes[q]? = some z) (hs:z.table[s]? = some (t:Int)) (ht:(t:Int)∈me) :
    ∃ c',(unlM m me cl st).classes[p]? = some c'∧c'.table[s]? = some (posI me t):=by
  have hsl:=(List.getElem?_eq_some_iff.1 hs).1
  refine ⟨_,h.at_cls hp hz,?_⟩
  show (tblU _ _ _ _ _)[s]? = _
  rw [tblU_at _ _ _ _ hsl,show z.table.getD s (-1)=(t:Int) by rw [List.getD_eq_getElem?_getD,hs];rfl]
  unfold entU
  rw [if_neg fun r=>by have:=(pos_len ht).1;omega]
theorem ityp_rty (h:Kept m me cl st) {t:Ty} {least:Int} (ht:ityp m t least=true) (hc:∀ c∈tcl t,c∈cl):ityp (unlM m me cl st) (rty cl t) least=true:=by
  unfold ityp at ht ⊢
  unfold rty
  by_cases q:t.kind=2∨t.kind=4
  · rw [if_pos q,if_pos q]
    have hm:=hc t.cls (by unfold tcl;rw [if_pos q];exact List.mem_singleton.2 rfl)
    have:=pos_len hm
    rw [h.unl_c]
    simp only [Bool.and_eq_true,decide_eq_true_eq]
    exact this
  · rw [if_neg q]
    rw [if_neg q] at ht ⊢
    exact ht
theorem Kept.cls' (h:Kept m me cl st) {j:Nat} {c':MC} (hj:(unlM m me cl st).classes[j]? = some c'):ClsP (unlM m me cl st) j c':=by
  have hD:=h.desc.2 j c' (by have:=(List.getElem?_eq_some_iff.1 hj).1;rw [h.unl_c] at this;exact this) hj
  obtain ⟨k,x,hk,hx,rfl⟩:=h.cls_at hj
  have C:=h.P.cls k x hx
  have hkm:=List.mem_of_getElem? hk
  have hsl:=(List.getElem?_eq_some_iff.1 hk).1
  refine ⟨hD.1,hD.2,by show (x.fields.map _).length≤7;rw [List.length_map];exact C.fl,fun t ht => ?_,by show ((tblU _ _ _ _ _).length:Int)=m.sels;rw [tblU_len];exact C.tl,fun s n hn => ?_,fun h0 y hy => ?_⟩
  · obtain ⟨t0,ht0,rfl⟩:=List.mem_map.1 ht
    exact ityp_rty h (C.ft t0 ht0) fun c hc=>h.cc _ hkm c (by rw [sucC_at hx];exact List.mem_append_right _ (List.mem_flatMap.2 ⟨t0,ht0,hc⟩))
  · have hsx:s<x.table.length:=by
      have:=(List.getElem?_eq_some_iff.1 hn).1
      rwa [show (⟨x.name,posI cl x.super,x.fields.map (rty cl),tblU me (rcl m me cl j) (posI cl x.super) x.table x.table.length⟩:MC).table.length=x.table.length from tblU_len ..] at this
    have hn':entU me (rcl m me cl j) (posI cl x.super) (x.table.getD s (-1)) s=n:=by
      have e:(tblU me (rcl m me cl j) (posI cl x.super) x.table x.table.length)[s]? = some n:=hn
      rw [tblU_at _ _ _ _ hsx] at e
      exact Option.some.inj e
    have S:=h.tab (j+1) (by omega) hk hx hsx
    rw [hn'] at S
    refine ⟨S.lo,?_,fun h0 => ?_,fun h0 hs0 y q hy hq => ?_⟩
    · rw [h.unl_m]
      by_cases h0:0≤n
      · obtain ⟨_,_,_,_,_,_,a2,_⟩:=S.own h0
        exact a2
      · omega
    · obtain ⟨t,p,q,y,z,a1,a2,a3,a4,a5,a6,a7,a8⟩:=S.own h0
      obtain ⟨c',b1,b2⟩:=h.ent a5 a7 a8 (List.mem_of_getElem? a1)
      have e1:posI cl y.cls=p:=by rw [a4];exact pos_at h.ca a5
      have e2:posI me t=n:=by rw [pos_at h.ma a1];omega
      refine ⟨rmm me cl st y,c',h.at_mth a1 a3,by show posI cl y.cls∈_;rw [e1];exact a6,by show (unlM m me cl st).classes[(posI cl y.cls).toNat]? = _;rw [e1,Int.toNat_natCast];exact b1,by rw [b2,e2]⟩
    · have hs0':0≤posI cl x.super:=hs0
      obtain ⟨p,q0,y0,hp,hpj,hq0,hcp,hy0,_⟩:=h.sup hk hx hs0'
      have hy':(unlM m me cl st).classes[p]? = some y:=by
        have:(unlM m me cl st).classes[(posI cl x.super).toNat]? = some y:=hy
        rwa [hp,Int.toNat_natCast] at this
      unfold entU at hn'
      by_cases hc:posI me (x.table.getD s (-1))<0∧0≤posI cl x.super
      · rw [if_pos hc,hp,Int.toNat_natCast] at hn'
        have e1:=rcl_at (m:=m) (me:=me) hpj hcp
        have e2:=rcl_at (m:=m) (me:=me) (n:=cl.length) (show p<cl.length by omega) hcp
        have e3:(unlM m me cl st).classes[p]? = some (rmc m me cl (rcl m me cl p) q0):=e2
        rw [hy'] at e3
        obtain rfl:=Option.some.inj e3
        rw [e1] at hn'
        simp only [Option.map_some,Option.getD_some] at hn'
        rw [List.getD_eq_getElem?_getD,hq] at hn'
        simp only [Option.getD_some] at hn'
        omega
      · rw [if_neg hc] at hn'
        exact absurd ⟨by omega,hs0'⟩ hc
  · have h0':0≤posI cl x.super:=h0
    obtain ⟨p,q0,y0,hp,hpj,hq0,hcp,hy0,_⟩:=h.sup hk hx h0'
    have hy':(unlM m me cl st).classes[p]? = some y:=by
      have:(unlM m me cl st).classes[(posI cl x.super).toNat]? = some y:=hy
      rwa [hp,Int.toNat_natCast] at this
    rw [h.at_cls hcp hy0] at hy'
    obtain rfl:=Option.some.inj hy'
    have U:=C.up (by omega) y0 (by rw [hq0,Int.toNat_natCast];exact hy0)
    show (y0.fields.map (rty cl)).length≤(x.fields.map (rty cl)).length∧(x.fields.map (rty cl)).take (y0.fields.map (rty cl)).length=y0.fields.map (rty cl)
    rw [List.length_map,List.length_map,←List.map_take,U.2]
    exact ⟨U.1,rfl⟩
theorem Kept.self (h:Kept m me cl st) {k:Nat} {x:MM} (hk:(k:Int)∈me) (hx:m.methods[k]? = some x):0≤posI cl x.cls↔0≤x.cls:=by
  constructor
  · intro q
    refine Classical.byContradiction fun r => ?_
    rw [h.nocl (n:=x.cls) (by omega)] at q
    omega
  · intro q
    refine (pos_len (h.mc _ hk _ ?_)).1
    rw [mths_at hx]
    unfold needC locM
    simp only [List.mem_append,List.mem_flatMap]
    refine .inl ⟨⟨2,x.cls⟩,.inl (.inl (.inl ?_)),by simp [tcl]⟩
    rw [if_pos q];exact List.mem_singleton.2 rfl
theorem Kept.tyc (h:Kept m me cl st) {k:Nat} {x:MM} (hk:(k:Int)∈me) (hx:m.methods[k]? = some x) {t:Ty} (ht:t∈x.params∨t∈x.locals∨t=x.result):∀ c∈tcl t,c∈cl:=fun c hc=>by
  refine h.mc _ hk _ ?_
  rw [mths_at hx]
  unfold needC locM
  simp only [List.mem_append,List.mem_flatMap,List.mem_singleton]
  refine .inl ⟨t,?_,hc⟩
  rcases ht with q | q | q
  · exact .inl (.inl (.inr q))
  · exact .inl (.inr q)
  · exact .inr q
theorem Kept.inc (h:Kept m me cl st) {k:Nat} {x:MM} (hk:(k:Int)∈me) (hx:m.methods[k]? = some x) {i:Ins} (hi:i∈x.code):∀ c∈insC i,c∈cl:=fun c hc=>by
  refine h.mc _ hk _ ?_
  rw [mths_at hx]
  unfold needC
  exact List.mem_append_right _ (List.mem_flatMap.2 ⟨i,hi,hc⟩)
theorem Kept.ins (h:Kept m me cl st) {k:Nat} {x:MM} (hk:(k:Int)∈me) (hx:m.methods[k]? = some x) {i:Ins} (hi:i∈x.code):∀ c∈insS i,c∈st:=fun c hc=>by
  refine h.ms _ hk _ ?_
  rw [mths_at hx]
  exact List.mem_flatMap.2 ⟨i,hi,hc⟩
theorem Kept.inm (h:Kept m me cl st) {k:Nat} {x:MM} (hk:(k:Int)∈me) (hx:m.methods[k]? = some x) {i:Ins} (hi:i∈x.code):∀ c∈calO m i,c∈me:=fun c hc =>
  h.mm _ hk _ (by rw [Int.toNat_natCast];exact (calM_mem hx).2 ⟨i,hi,hc⟩)
theorem Kept.trg (h:Kept m me cl st) {s:Nat} {v:Int} (hv:v∈trgM (unlM m me cl st) s):∃ t:Nat,(t:Int)∈me∧v=posI me t∧(t:Int)∈trgM m s:=by
  obtain ⟨h0,c,hc,e⟩:=mem_trg.1 hv
  obtain ⟨j,hj⟩:=List.mem_iff_getElem?.1 hc
  obtain ⟨k,x,hk,hx,rfl⟩:=h.cls_at hj
  have hs:s<x.table.length:=by
    rcases Nat.lt_or_ge s x.table.length with q | q
    · exact q
    · rw [List.getD_eq_getElem?_getD,List.getElem?_eq_none (by show (tblU _ _ _ _ _).length≤s;rw [tblU_len];exact q)] at e
      simp at e;omega
  have S:=h.tab (j+1) (by omega) hk hx hs
  have e2:entU me (rcl m me cl j) (posI cl x.super) (x.table.getD s (-1)) s=v:=by
    rw [List.getD_eq_getElem?_getD] at e
    have e3:(tblU me (rcl m me cl j) (posI cl x.super) x.table x.table.length)[s]?.getD (-1)=v:=e
    rw [tblU_at _ _ _ _ hs] at e3
    exact e3
  rw [e2] at S
  obtain ⟨t,p,q,y,z,a1,a2,a3,a4,a5,a6,a7,a8⟩:=S.own h0
  refine ⟨t,List.mem_of_getElem? a1,by rw [pos_at h.ma a1];omega,mem_trg.2 ⟨by omega,z,List.mem_of_getElem? a7,by rw [List.getD_eq_getElem?_getD,a8];rfl⟩⟩
theorem Kept.trg' (h:Kept m me cl st) {s:Nat} (hs:(s:Int)<m.sels) {t:Nat} (ht:(t:Int)∈trgM m s) (hm:(t:Int)∈me):posI me t∈trgM (unlM m me cl st) s:=by
  obtain ⟨h0,c,hc,e⟩:=mem_trg.1 ht
  obtain ⟨k,hk⟩:=List.mem_iff_getElem?.1 hc
  have C:=h.P.cls k c hk
  have hsl:s<c.table.length:=by have:=C.tl;omega
  obtain ⟨n,hn⟩:=some_of_lt hsl
  have en:n=t:=by rw [List.getD_eq_getElem?_getD,hn] at e;exact e
  subst en
  obtain ⟨y,z,hy,hup,hz,hzt⟩:=(C.tb s _ hn).own h0
  rw [Int.toNat_natCast] at hy
  have hkl:=(List.getElem?_eq_some_iff.1 hk).1
  have hcls:=upM_mem_le h.P.desc (a:=(k:Int)) (by omega) hup
  have hcm:y.cls∈cl:=by
    have:=(h.self hm hy).2 hcls.1
    exact Classical.byContradiction fun q=>by rw [posI_no q] at this;omega
  obtain ⟨p,hp,hpx⟩:=pos_of hcm
  obtain ⟨q,hq⟩:=Int.eq_ofNat_of_zero_le hcls.1
  rw [hq] at hpx hz
  rw [Int.toNat_natCast] at hz
  obtain ⟨c',b1,b2⟩:=h.ent hpx hz hzt hm
  exact mem_trg.2 ⟨(pos_len hm).1,c',List.mem_of_getElem? b1,by rw [List.getD_eq_getElem?_getD,b2];rfl⟩
end
end Go.Proofs.YtkmdfjpafkcleaaGreatDoor
namespace Go.Proofs.YtkmdfjpafkcleaaGreatDoor
open Eng Go.RowKit
theorem rin_op (me cl st:List Int) (i:Ins):(rin me cl st i).op=i.op:=by
  unfold rin
  split
  · split <;> rfl
  · split
    · rfl
    · split
      · rfl
      · split
        · rfl
        · split <;> rfl
section
variable {m:Mod} {me cl st:List Int}
theorem small_in {n:Int} {r:Nat} {M:Int} (hr:mosts.getD r 0=M) (h0:0≤n) (h1:n≤M) (q1:r≠1) (q3:r≠3) (q14:r≠14):inR n r false=true:=by
  unfold inR
  rw [if_neg q1,if_neg q3,if_neg q14,if_neg (by simp),hr]
  simp [h0,h1]
theorem validI_iff {i:Ins} {p:Bool}:validI i p=true↔(0≤i.op∧i.op<36)∧inR i.a (rngs.getD i.op.toNat (0,0)).1 p=true∧inR i.b (rngs.getD i.op.toNat (0,0)).2 p=true∧(¬i.op=12∨¬i.a=3∨i.b=0):=by
  unfold validI
  simp only [Bool.and_eq_true,Bool.or_eq_true,decide_eq_true_eq]
  constructor
  · rintro ⟨⟨⟨h,a⟩,b⟩,(c | c) | c⟩
    · exact ⟨h,a,b,.inl c⟩
    · exact ⟨h,a,b,.inr (.inl c)⟩
    · exact ⟨h,a,b,.inr (.inr c)⟩
  · rintro ⟨h,a,b,c | c | c⟩
    · exact ⟨⟨⟨h,a⟩,b⟩,.inl (.inl c)⟩
    · exact ⟨⟨⟨h,a⟩,b⟩,.inl (.inr c)⟩
    · exact ⟨⟨⟨h,a⟩,b⟩,.inr c⟩
theorem Kept.val (h:Kept m me cl st) {k:Nat} {x:MM} (hk:(k:Int)∈me) (hx:m.methods[k]? = some x) {i:Ins} (hi:i∈x.code):validI (rin me cl st i) false=true:=by
  have M:=h.P.mth k x hx
  have hv:=code_all M.cd i hi
  have n1:=h.ml
  have n2:=h.cl10
  have n3:=h.sl
  have hC:=h.inc hk hx hi
  have hS:=h.ins hk hx hi
  have hM:=h.inm hk hx hi
  obtain ⟨v1,v2,v3,v4⟩:=validI_iff.1 hv
  by_cases h12:i.op=12
  · unfold rin
    rw [if_pos h12]
    by_cases h3:i.a=3
    · rw [if_pos h3];exact hv
    · rw [if_neg h3]
      have hka:=val_kind hv h12
      have hb:=pos_len (hC i.b (by unfold insC tcl;rw [if_pos h12];simp only;rw [if_pos (by omega)];exact List.mem_singleton.2 rfl))
      refine validI_iff.2 ⟨v1,v2,?_,.inr (.inl h3)⟩
      rw [h12]
      exact small_in (n:=posI cl i.b) (r:=4) (M:=9) rfl hb.1 (by omega) (by decide) (by decide) (by decide)
  by_cases h14:i.op=14∨i.op=24
  · have ha:=pos_len (hC i.a (by unfold insC;rw [if_neg h12,if_pos h14];exact List.mem_singleton.2 rfl))
    unfold rin
    rw [if_neg h12,if_pos h14]
    refine validI_iff.2 ⟨v1,?_,v3,.inl h12⟩
    rcases h14 with q | q <;> (simp only [q];exact small_in (r:=4) (M:=9) rfl ha.1 (by omega) (by decide) (by decide) (by decide))
  by_cases h16:i.op=16
  · have hb:=pos_len (hC i.b (by unfold insC;rw [if_neg h12,if_neg h14,if_pos h16];exact List.mem_singleton.2 rfl))
    unfold rin
    rw [if_neg h12,if_neg h14,if_pos h16]
    refine validI_iff.2 ⟨v1,v2,?_,.inl h12⟩
    rw [h16]
    exact small_in (n:=posI cl i.b) (r:=4) (M:=9) rfl hb.1 (by omega) (by decide) (by decide) (by decide)
  by_cases h22:i.op=22∨i.op=23
  · have ha:=pos_len (hS i.a (by unfold insS;rw [if_pos h22];exact List.mem_singleton.2 rfl))
    unfold rin
    rw [if_neg h12,if_neg h14,if_neg h16,if_pos h22]
    refine validI_iff.2 ⟨v1,?_,v3,.inl h12⟩
    rcases h22 with q | q <;> (simp only [q];exact small_in (r:=7) (M:=9) rfl ha.1 (by omega) (by decide) (by decide) (by decide))
  by_cases h25:i.op=25
  · have ha:=pos_len (hM i.a (by unfold calO;rw [if_pos h25];exact List.mem_singleton.2 rfl))
    unfold rin
    rw [if_neg h12,if_neg h14,if_neg h16,if_neg h22,if_pos h25]
    refine validI_iff.2 ⟨v1,?_,v3,.inl h12⟩
    simp only [h25]
    exact small_in (r:=8) (M:=15) rfl ha.1 (by omega) (by decide) (by decide) (by decide)
  unfold rin
  rw [if_neg h12,if_neg h14,if_neg h16,if_neg h22,if_neg h25]
  exact hv
theorem Kept.cod (h:Kept m me cl st) {k:Nat} {x:MM} (hk:(k:Int)∈me) (hx:m.methods[k]? = some x):codeE (x.code.map (rin me cl st)) false=0:=by
  have M:=h.P.mth k x hx
  have hl:=codeE_len M.cd
  have hc:=M.cd
  unfold codeE at hc ⊢
  rw [if_neg (by omega),if_pos (List.all_eq_true.2 (code_all M.cd))] at hc
  rw [if_neg (by rw [List.length_map];omega),if_pos (List.all_eq_true.2 fun i hi=>by
    obtain ⟨i0,hi0,rfl⟩:=List.mem_map.1 hi
    exact h.val hk hx hi0)]
  have:(x.code.map (rin me cl st)).map (·.op)=x.code.map (·.op):=by
    rw [List.map_map]
    exact List.map_congr_left fun i _=>rin_op me cl st i
  rw [this];exact hc
theorem Kept.opr (h:Kept m me cl st) {j k:Nat} {x:MM} (hj:me[j]? = some (k:Int)) (hx:m.methods[k]? = some x) {i:Ins} (hi:i∈x.code):oprB (unlM m me cl st) j (rin me cl st i)=true:=by
  have hk:=List.mem_of_getElem? hj
  have M:=h.P.mth k x hx
  have hv:=code_all M.cd i hi
  have hop:=M.op i hi
  have hC:=h.inc hk hx hi
  have hS:=h.ins hk hx hi
  have hM:=h.inm hk hx hi
  unfold oprB
  rw [rin_op,h.unl_c,h.unl_s]
  by_cases h12:i.op=12
  · rw [if_pos h12]
    unfold rin
    rw [if_pos h12]
    by_cases h3:i.a=3
    · rw [if_pos h3];simp [h3]
    · rw [if_neg h3]
      have hka:=val_kind hv h12
      have hb:=pos_len (hC i.b (by unfold insC tcl;rw [if_pos h12];simp only;rw [if_pos (by omega)];exact List.mem_singleton.2 rfl))
      simp [hb.2]
  rw [if_neg h12]
  by_cases h14:i.op=14∨i.op=24
  · have ha:=pos_len (hC i.a (by unfold insC;rw [if_neg h12,if_pos h14];exact List.mem_singleton.2 rfl))
    rw [if_pos h14]
    unfold rin
    rw [if_neg h12,if_pos h14]
    simp [ha.2]
  rw [if_neg h14]
  by_cases h16:i.op=16
  · have hb:=pos_len (hC i.b (by unfold insC;rw [if_neg h12,if_neg h14,if_pos h16];exact List.mem_singleton.2 rfl))
    rw [if_pos h16]
    unfold rin
    rw [if_neg h12,if_neg h14,if_pos h16]
    simp [hb.2]
  rw [if_neg h16]
  by_cases h22:i.op=22∨i.op=23
  · have ha:=pos_len (hS i.a (by unfold insS;rw [if_pos h22];exact List.mem_singleton.2 rfl))
    rw [if_pos h22]
    unfold rin
    rw [if_neg h12,if_neg h14,if_neg h16,if_pos h22]
    simp [ha.2]
  rw [if_neg h22]
  unfold oprB at hop
  rw [if_neg h12,if_neg h14,if_neg h16,if_neg h22] at hop
  by_cases h25:i.op=25
  · rw [if_pos h25] at hop ⊢
    have hmem:=hM i.a (by unfold calO;rw [if_pos h25];exact List.mem_singleton.2 rfl)
    simp only [Bool.and_eq_true,decide_eq_true_eq] at hop
    obtain ⟨m0,m1⟩:=h.mi _ hmem
    obtain ⟨t,ht⟩:=Int.eq_ofNat_of_zero_le m0
    obtain ⟨y,hy⟩:=some_of_lt (l:=m.methods) (k:=t) (by omega)
    obtain ⟨p,hp,hpx⟩:=pos_of hmem
    unfold rin
    rw [if_neg h12,if_neg h14,if_neg h16,if_neg h22,if_pos h25]
    simp only [Bool.and_eq_true,decide_eq_true_eq]
    refine ⟨pos_lt h.ma hmem hj hop.1,?_⟩
    have hmc:mcl m i.a=y.cls:=by unfold mcl;rw [ht,Int.toNat_natCast,hy];rfl
    rw [hp]
    rw [ht] at hpx
    have:mcl (unlM m me cl st) (p:Int)=posI cl y.cls:=by unfold mcl;rw [Int.toNat_natCast,h.at_mth hpx hy];rfl
    rw [this,h.nocl (n:=y.cls) (by rw [hmc] at hop;omega)]
  rw [if_neg h25] at hop ⊢
  by_cases h26:i.op=26
  · rw [if_pos h26] at hop ⊢
    have er:rin me cl st i=i:=by unfold rin;rw [if_neg h12,if_neg h14,if_neg h16,if_neg h22,if_neg h25]
    rw [er]
    simp only [Bool.and_eq_true,decide_eq_true_eq,List.all_eq_true] at hop ⊢
    refine ⟨hop.1,fun v hv' => ?_⟩
    obtain ⟨t,ht,rfl,htr⟩:=h.trg hv'
    exact pos_lt h.ma ht hj (hop.2 _ htr)
  · rw [if_neg h26]
theorem Kept.mth' (h:Kept m me cl st) {j:Nat} {y:MM} (hj:(unlM m me cl st).methods[j]? = some y):MthP (unlM m me cl st) j y:=by
  obtain ⟨k,x,hk,hx,rfl⟩:=h.mth_at hj
  have M:=h.P.mth k x hx
  have hkm:=List.mem_of_getElem? hk
  have hself:=h.self hkm hx
  refine ⟨pos_ge _ _,?_,?_,?_,fun t ht => ?_,fun t ht => ?_,?_,h.cod hkm hx,fun i hi => ?_⟩
  · rw [h.unl_c]
    show posI cl x.cls<cl.length
    by_cases q:x.cls∈cl
    · exact (pos_len q).2
    · rw [posI_no q];omega
  · show (x.params.map _).length≤4
    rw [List.length_map];exact M.pl
  · show ((x.params.map (rty cl)).length:Int)+(x.locals.map (rty cl)).length+(if 0≤posI cl x.cls then 1 else 0)≤10
    rw [List.length_map,List.length_map]
    have:=M.ll
    by_cases q:0≤x.cls
    · rw [if_pos q] at this;rw [if_pos (hself.2 q)];exact this
    · rw [if_neg q] at this;rw [if_neg fun r=>q (hself.1 r)];exact this
  · obtain ⟨t0,ht0,rfl⟩:=List.mem_map.1 ht
    exact ityp_rty h (M.pt t0 ht0) (h.tyc hkm hx (.inl ht0))
  · obtain ⟨t0,ht0,rfl⟩:=List.mem_map.1 ht
    exact ityp_rty h (M.lt t0 ht0) (h.tyc hkm hx (.inr (.inl ht0)))
  · exact ityp_rty h M.rt (h.tyc hkm hx (.inr (.inr rfl)))
  · obtain ⟨i0,hi0,rfl⟩:=List.mem_map.1 hi
    exact h.opr hk hx hi0
theorem Kept.valid (h:Kept m me cl st):ModP (unlM m me cl st):=by
  refine ⟨by rw [h.unl_c];exact h.cl10,by rw [h.unl_s];exact h.sl,by rw [h.unl_m];exact h.ml,h.P.z0,h.P.z1,fun k x hx=>h.cls' hx,fun t ht => ?_,fun k x hx=>h.mth' hx,fun s hs t ht u hu x y hx hy => ?_⟩
  · obtain ⟨i,hi,rfl⟩:=List.mem_map.1 ht
    obtain ⟨g0,g1⟩:=h.si i hi
    obtain ⟨k,rfl⟩:=Int.eq_ofNat_of_zero_le g0
    obtain ⟨t0,ht0⟩:=some_of_lt (l:=m.statics) (k:=k) (by omega)
    rw [stas_at ht0]
    exact ityp_rty h (h.P.sta t0 (List.mem_of_getElem? ht0)) fun c hc=>h.sc _ hi c (by unfold staC;rw [Int.toNat_natCast,ht0];exact hc)
  · obtain ⟨t',ht',rfl,htr⟩:=h.trg ht
    obtain ⟨u',hu',rfl,hur⟩:=h.trg hu
    have one:∀ {n:Nat} {z:MM},(n:Int)∈me→(unlM m me cl st).methods[(posI me n).toNat]? = some z→∃ z0,m.methods[n]? = some z0∧z=rmm me cl st z0:=fun {n z} hn hz=>by
      obtain ⟨p,hp,hpx⟩:=pos_of hn
      obtain ⟨m0,m1⟩:=h.mi _ hn
      obtain ⟨z0,hz0⟩:=some_of_lt (l:=m.methods) (k:=n) (by omega)
      rw [hp,Int.toNat_natCast,h.at_mth hpx hz0] at hz
      exact ⟨z0,hz0,(Option.some.inj hz).symm⟩
    obtain ⟨x0,hx0,rfl⟩:=one ht' hx
    obtain ⟨y0,hy0,rfl⟩:=one hu' hy
    have:=h.P.alk s hs _ htr _ hur x0 y0 (by rw [Int.toNat_natCast];exact hx0) (by rw [Int.toNat_natCast];exact hy0)
    unfold rmm
    exact ⟨by rw [this.1],by rw [this.2]⟩
end
end Go.Proofs.YtkmdfjpafkcleaaGreatDoor
namespace Go.Proofs.YtkmdfjpafkcleaaGreatDoor
open Eng Go.RowKit
section
variable {m:Mod} {me cl st:List Int}
theorem rin_a26 {me cl st:List Int} {i:Ins} (h:i.op=26):rin me cl st i=i:=by
  unfold rin
  rw [if_neg (by omega),if_neg (by omega),if_neg (by omega),if_neg (by omega),if_neg (by omega)]
theorem rin_a25 {me cl st:List Int} {i:Ins} (h:i.op=25):(rin me cl st i).a=posI me i.a:=by
  unfold rin
  rw [if_neg (by omega),if_neg (by omega),if_neg (by omega),if_neg (by omega),if_pos h]
theorem locM_rmm (h:Kept m me cl st) {k:Nat} {x:MM} (hk:(k:Int)∈me) (hx:m.methods[k]? = some x):locM (rmm me cl st x)=(locM x).map (rty cl):=by
  have hs:=h.self hk hx
  unfold locM
  show (if 0≤posI cl x.cls then [(⟨2,posI cl x.cls⟩:Ty)] else [])++x.params.map (rty cl)++x.locals.map (rty cl)=_
  rw [List.map_append,List.map_append]
  congr 2
  by_cases q:0≤x.cls
  · rw [if_pos q,if_pos (hs.2 q)];rfl
  · rw [if_neg q,if_neg fun r=>q (hs.1 r)];rfl
theorem calO_rin (h:Kept m me cl st) {k:Nat} {x:MM} (hk:(k:Int)∈me) (hx:m.methods[k]? = some x) {i:Ins} (hi:i∈x.code) {v:Int} :
    v∈calO (unlM m me cl st) (rin me cl st i)↔∃ c∈calO m i,v=posI me c:=by
  have hm:=h.inm hk hx hi
  have M:=h.P.mth k x hx
  have hv:=code_all M.cd i hi
  have hop:=M.op i hi
  unfold calO at hm ⊢
  rw [rin_op]
  by_cases h25:i.op=25
  · rw [if_pos h25,if_pos h25,rin_a25 h25]
    simp only [List.mem_singleton,exists_eq_left]
  rw [if_neg h25] at hm ⊢
  rw [if_neg h25]
  by_cases h26:i.op=26
  · rw [if_pos h26] at hm ⊢
    rw [if_pos h26,rin_a26 h26]
    have h0:=val_call hv (.inr h26)
    unfold oprB at hop
    simp [h26] at hop
    constructor
    · intro q
      obtain ⟨t,_,e,ht⟩:=h.trg q
      exact ⟨t,ht,e⟩
    · rintro ⟨c,hc,rfl⟩
      obtain ⟨t,rfl⟩:=Int.eq_ofNat_of_zero_le (mem_trg.1 hc).1
      exact h.trg' (by omega) hc (hm _ hc)
  · rw [if_neg h26]
    rw [if_neg h26]
    simp
theorem pos_asc {l:List Int} (ha:AscI l):∀ {a:List Int},AscI a→(∀ x∈a,x∈l)→AscI (a.map (posI l)):=fun {a} h k=>by
  unfold AscI
  rw [List.pairwise_map]
  refine List.Pairwise.imp_of_mem ?_ h
  intro x y hx hy hlt
  obtain ⟨p,hp,hpx⟩:=pos_of (k y hy)
  have:=pos_lt ha (k x hx) hpx hlt
  omega
theorem calM_unl (h:Kept m me cl st) {j k:Nat} {x:MM} (hj:me[j]? = some (k:Int)) (hx:m.methods[k]? = some x):calM (unlM m me cl st) j=(calM m k).map (posI me):=by
  have hk:=List.mem_of_getElem? hj
  refine asc_eq (srtI_asc _) (pos_asc h.ma (srtI_asc _) fun c hc=>h.mm _ hk c (by rw [Int.toNat_natCast];exact hc)) fun v => ?_
  rw [calM_mem (h.at_mth hj hx),List.mem_map]
  constructor
  · rintro ⟨i',hi',q⟩
    obtain ⟨i,hi,rfl⟩:=List.mem_map.1 hi'
    obtain ⟨c,hc,rfl⟩:=(calO_rin h hk hx hi).1 q
    exact ⟨c,(calM_mem hx).2 ⟨i,hi,hc⟩,rfl⟩
  · rintro ⟨c,hc,rfl⟩
    obtain ⟨i,hi,hc⟩:=(calM_mem hx).1 hc
    exact ⟨rin me cl st i,List.mem_map_of_mem hi,(calO_rin h hk hx hi).2 ⟨c,hc,rfl⟩⟩
end
end Go.Proofs.YtkmdfjpafkcleaaGreatDoor
namespace Go.Proofs.YtkmdfjpafkcleaaGreatDoor
open Eng Go.RowKit
theorem unlR_yes {m:Mod} {roots:List Int} (h:askE m m.methods.length roots=0):unlR m roots=unlM m (meL m roots) (clL m roots) (stL m roots):=if_pos h
end Go.Proofs.YtkmdfjpafkcleaaGreatDoor
namespace Go.Proofs.YtkmdfjpafkcleaaGreatDoor
open Eng Go.RowKit
open Classical in
noncomputable def callL (m:Mod) (k:Int):List Int:=if askE m m.methods.length [k]=0 then calM m k.toNat else []
theorem k_CallsF (m:Mod) (a:MA) (k:Int) (w:World) (hM:MdR T w m a):Ret Tryz.prog 36 #[.agg (modcells m a).toArray,I k] w fun v w'=>∃ a c,v = .tuple #[.slice a (callL m k).length c,I (askE m m.methods.length [k])]∧Sl eInt T w' a (callL m k)∧Bl w w':=by
  have q1:=hM.mth.big
  refine entr (vs:=[.agg (modcells m a).toArray,I k]) [0,1,2,4,5,6,15] tabok Tryz.func36 (by kernel_rfl) ?_
  refine bx (cs:=modcells m a) fun b1 w1 k1 => ?_
  refine lda k1.box.at ?_
  refine ld (k1.box.cell rfl) ?_
  refine bs (cs:=[I k]) fun b2 w2 k2 => ?_
  have B2:=k1.bl.trans k2.bl
  refine cl (k_asked m a m.methods.length [k] _ 1 w2 (hM.bl B2) (one_int k2)) ?_
  rintro _ w3 ⟨rfl,B23⟩
  have B3:=B2.trans B23
  have x3:=Bl.box (k2.bl.trans B23) k1.box
  by_cases h1:askE m m.methods.length [k]=0
  rotate_left
  · have e:callL m k=[]:=if_neg h1
    rw [ask_n h1,e]
    refine brt ?_
    exact rt2 ⟨none,0,rfl,Sl.nil ..,B3⟩
  have e:callL m k=calM m k.toNat:=if_pos h1
  rw [h1,e]
  refine brf ?_
  obtain ⟨P,c0,c1⟩:=ask_one h1
  obtain ⟨k,rfl⟩:=Int.eq_ofNat_of_zero_le c0
  rw [Int.toNat_natCast]
  refine lda x3.at ?_
  refine cl (k_calls m a k P (by omega) w3 (hM.bl B3)) ?_ (hm:=fun _ _ r=>by obtain ⟨_,_,_,_,hB⟩:=r;exact mdW_bl hB)
  rintro _ w4 ⟨a4,c4,rfl,O4,B34⟩
  have hl:=calM_len P (k:=k) (by omega)
  exact rt2 ⟨a4,c4,rfl,owp_sl O4 (by omega) fun _ _=>trivial,B3.trans B34⟩
theorem r5_CallsF (m:Mod) (a:MA) (k:Int) (w:World) (hM:MdR T w m a):Ret Tryz.prog 37 #[.agg (modcells m a).toArray,I k] w fun v w'=>∃ a c,v = .tuple #[.slice a (callL m k).length c,I (askE m m.methods.length [k])]∧Sl eInt T w' a (callL m k)∧Bl w w':=by
  have q1:=hM.mth.big
  refine entr (vs:=[.agg (modcells m a).toArray,I k]) [0,1,2,4,5,6,14] tabok Tryz.func37 (by kernel_rfl) ?_
  refine bx (cs:=modcells m a) fun b1 w1 k1 => ?_
  refine lda k1.box.at ?_
  refine ld (k1.box.cell rfl) ?_
  refine cl (r5_within m a k m.methods.length w1 (hM.bl k1.bl)) ?_
  rintro _ w3 ⟨rfl,B13⟩
  have B3:=k1.bl.trans B13
  have x3:=Bl.box B13 k1.box
  by_cases h1:askE m m.methods.length [k]=0
  rotate_left
  · have e:callL m k=[]:=if_neg h1
    rw [ask_n h1,e]
    refine brt ?_
    exact rt2 ⟨none,0,rfl,Sl.nil ..,B3⟩
  have e:callL m k=calM m k.toNat:=if_pos h1
  rw [h1,e]
  refine brf ?_
  obtain ⟨P,c0,c1⟩:=ask_one h1
  obtain ⟨k,rfl⟩:=Int.eq_ofNat_of_zero_le c0
  rw [Int.toNat_natCast]
  refine lda x3.at ?_
  refine cl (r5_calls m a k P (by omega) w3 (hM.bl B3)) ?_ (hm:=fun _ _ r=>by obtain ⟨_,_,_,_,hB⟩:=r;exact mdW_bl hB)
  rintro _ w4 ⟨a4,c4,rfl,S4,B34⟩
  exact rt2 ⟨a4,c4,rfl,S4.sub fun _ _=>trivial,B3.trans B34⟩
end Go.Proofs.YtkmdfjpafkcleaaGreatDoor
namespace Go.Proofs.YtkmdfjpafkcleaaGreatDoor
open Eng Go.RowKit
theorem fold_map {D D':List Int} {f:Int→Int}:∀ {l:List Int} {x:Int},(∀ c∈l,D'.getD (f c).toNat 0=D.getD c.toNat 0)→(l.map f).foldl (fun x c=>max x (D'.getD c.toNat 0+1)) x=l.foldl (fun x c=>max x (D.getD c.toNat 0+1)) x
  | [],_,_=>rfl
  | c::l,x,h=>by
    rw [List.map_cons,List.foldl_cons,List.foldl_cons,h c (List.mem_cons_self ..)]
    exact fold_map fun d hd=>h d (List.mem_cons_of_mem _ hd)
section
variable {m:Mod} {me cl st:List Int}
theorem Kept.cha (h:Kept m me cl st):∀ (n:Nat) {j k:Nat},j<n→me[j]? = some (k:Int)→chaN (unlM m me cl st) j=chaN m k
  | 0,_,_,hj,_=>by omega
  | n+1,j,k,hj,hk=>by
    have hmem:=List.mem_of_getElem? hk
    have:=h.mi _ hmem
    obtain ⟨x,hx⟩:=some_of_lt (l:=m.methods) (k:=k) (by omega)
    unfold chaN chV
    rw [calM_unl h hk hx]
    refine fold_map fun c hc => ?_
    have hcm:=h.mm _ hmem c (by rw [Int.toNat_natCast];exact hc)
    obtain ⟨c0,c1⟩:=calM_lt h.P hx hc
    obtain ⟨i,rfl⟩:=Int.eq_ofNat_of_zero_le c0
    obtain ⟨p,hp,hpx⟩:=pos_of hcm
    have hpj:=asc_lt h.ma hpx hk c1
    rw [hp,chD (m:=unlM m me cl st) (i:=j) (by omega) (by omega),chD (m:=m) (i:=k) (by omega) c1,Int.toNat_natCast,Int.toNat_natCast]
    exact h.cha n (by omega) hpx
theorem Kept.ask (h:Kept m me cl st) {j:Nat} (hj:j<me.length):askE (unlM m me cl st) (unlM m me cl st).methods.length [(j:Int)]=0:=by
  unfold askE
  refine if_pos ⟨chkE_yes h.valid,fun i hi => ?_⟩
  obtain rfl:=List.mem_singleton.1 hi
  rw [h.unl_m];omega
end
end Go.Proofs.YtkmdfjpafkcleaaGreatDoor
namespace Go.Proofs.YtkmdfjpafkcleaaGreatDoor
open Eng Go.RowKit
end Go.Proofs.YtkmdfjpafkcleaaGreatDoor
namespace Go.Proofs.YtkmdfjpafkcleaaGreatDoor
open Eng Go.RowKit
end Go.Proofs.YtkmdfjpafkcleaaGreatDoor
namespace Go.Proofs.YtkmdfjpafkcleaaGreatDoor
open Eng Go.RowKit
set_option maxHeartbeats 4000000 in
theorem l_LinkNeeds (m:Mod) (a:MA) (roots:List Int) (ar:Option Addr) (cr:Nat) (w:World) (hM:MdR T w m a) (hS:Sl eInt T w ar roots) (hG:Gl w) :
    Ret Tryz.prog 11 #[.agg (modcells m a).toArray,.slice ar roots.length cr] w fun v w'=>v = .bool true∧Bl w w':=by
  have q1:=hS.big
  refine entr (vs:=[.agg (modcells m a).toArray,.slice ar roots.length cr]) [0,1,2,4,5,6,7,10,11,12,13,14,16,17,18,20,21,22,24,31,49,53,78,152,156,177] tabok Tryz.func11 (by kernel_rfl) ?_
  refine bx (cs:=modcells m a) fun b1 w1 k1 => ?_
  have y1:=k1.blk
  have z1:=k1.size
  refine lda k1.box.at ?_
  refine cl (l_heavyM m a w1 (hM.bl k1.bl)) ?_ (hm:=fun _ _ r=>by obtain ⟨_,_,hB⟩:=r;exact mdW_bl hB)
  rintro _ w2 ⟨hv,rfl,B12⟩
  have B2:=k1.bl.trans B12
  have x2:=Bl.box B12 k1.box
  refine br (fun h => ?_) (fun h => ?_)
  · refine cl (l_sane w2 (hG.bl B2)) ?_
    rintro _ w3 ⟨rfl,h3⟩
    exact rt1 ⟨rfl,B2.trans h3⟩
  have hsum:roots.length≤200:=by
    cases hv with
    | true=>simp at h
    | false=>simp at h;omega
  clear h
  refine lda x2.at ?_
  refine cl (k_Unload m a roots ar cr w2 (hM.bl B2) (hS.bl B2)) ?_
  rintro _ w3 ⟨a5,rfl,M5,B23⟩
  refine al fun b5 w4 k4 => ?_
  have y4:=k4.blk
  have z4:=k4.size
  refine sta (cs':=modcells (unlR m roots) a5) k4.box fun w5 k5 x5 => ?_
  have B35:=k4.wr k5
  have B5:=(B2.trans B23).trans B35
  have x15:=Bl.box (B23.trans B35) x2
  refine lda x15.at ?_
  refine cl (r5_Reach m a roots ar cr w5 (hM.bl B5) (hS.bl B5)) ?_
  rintro _ w6 ⟨p1,d1,p2,d2,p3,d3,rfl,S1,S2,S3,B56⟩
  have B6:=B5.trans B56
  have x16:=Bl.box B56 x15
  have x56:=Bl.box B56 x5
  have M6:MdR T w6 (unlR m roots) a5:=((M5.sub fun _ _=>trivial).bl B35).bl B56
  refine brf ?_ (hp:=by simp)
  have hme:(meR m roots).length≤4194304:=S1.big
  refine lpk (meR m roots).length 11 [] [(2,.pointer (some ⟨b1,0,none⟩)),(5,.pointer (some ⟨b5,0,none⟩)),(7,.slice p1 (meR m roots).length d1)] (fun k vals w'=>vals=[]∧Bl w6 w') ⟨rfl,Bl.refl _⟩ ?_
  rintro k vals w7 hk ⟨rfl,B67⟩ ih
  have B7:=B6.trans B67
  by_cases hlt:k<(meR m roots).length
  · refine brT ?_
    have h0:askE m m.methods.length roots=0:=Classical.byContradiction fun q=>by
      have:meR m roots=[]:=if_neg q
      rw [this] at hlt;exact absurd hlt (by simp)
    have e1:meR m roots=meL m roots:=if_pos h0
    have K:=kept_of h0
    have hu:unlR m roots=unlM m (meL m roots) (clL m roots) (stL m roots):=unlR_yes h0
    rw [e1] at hlt S1 hk
    have P:=K.P
    have ml:=P.ml
    have nl:=K.ml
    obtain ⟨kk',bk,ok,ck,hkk',ek,_,hAk,rfl⟩:=at_some (S1.bl B67) hlt
    obtain ⟨g0,g1⟩:=K.mi _ (List.mem_of_getElem? hkk')
    obtain ⟨kk,rfl⟩:=Int.eq_ofNat_of_zero_le g0
    obtain ⟨x,hx⟩:=some_of_lt (l:=m.methods) (k:=kk) (by omega)
    have hy:(unlR m roots).methods[k]? = some (rmm (meL m roots) (clL m roots) (stL m roots) x):=by rw [hu];exact K.at_mth hkk' hx
    have hul:(unlR m roots).methods.length=(meL m roots).length:=by rw [hu];exact K.unl_m
    have hself:=K.self (List.mem_of_getElem? hkk') hx
    have x17:=Bl.box B67 x16
    have x57:=Bl.box B67 x56
    have M7:=M6.bl B67
    obtain ⟨u,hue⟩:∃ u,u=unlR m roots:=⟨_,rfl⟩
    rw [←hue] at hy hul x57 M7
    rw [e1]
    obtain ⟨y0,bu,ou,cu,hy0,eu,su,hAu,a10,c10,a11,c11,a12,c12,rfl,f1,f2,f3,_⟩:=at_some M7.mth (i:=k) (by omega)
    obtain rfl:y0=rmm (meL m roots) (clL m roots) (stL m roots) x:=by rw [hy] at hy0;exact (Option.some.inj hy0).symm
    obtain ⟨x0,bm,om,cm,hx0,em,sm,hAm,a20,c20,a21,c21,a22,c22,rfl,g3,g4,g5,_⟩:=at_some ((hM.bl B7).mth) (i:=kk) (by omega)
    obtain rfl:x0=x:=by rw [hx] at hx0;exact (Option.some.inj hx0).symm
    refine dh T (List.range 23) fun w8 k8 => ?_
    have B8:=k8.bl
    refine ld ((Bl.box B8 x57).cell rfl) ?_ (hm:=trivial)
    refine spt (I 0) ?_ (hb:=decide_eq_false (by omega))
    refine ld ((Bl.box B8 x57).cell rfl) ?_ (hm:=trivial)
    rw [eu]
    refine spt (I 0) ?_
    refine ix (j:=k) ?_ (hb:=by omega)
    refine spt (I 0) ?_
    refine ld (hAu.bl B8 0 _ rfl) ?_ (hm:=trivial)
    refine spt (I 0) ?_
    refine ld ((Bl.box B8 x17).cell rfl) ?_ (hm:=trivial)
    rw [ek]
    refine spt (I 0) ?_
    refine ix (j:=k) ?_ (hb:=by omega)
    refine spt (I 0) ?_
    refine ld (hAk.bl B8 0 _ rfl) ?_ (hm:=trivial)
    rw [em]
    refine spt (I 0) ?_
    refine ix (j:=kk) ?_ (hb:=by omega)
    refine spt (I 0) ?_
    refine ld (hAm.bl B8 0 _ rfl) ?_ (hm:=trivial)
    refine brf ?_ (hp:=by simp;rfl)
    have S7:=S1.bl B67
    have x18:=Bl.box B8 x17
    have x58:=Bl.box B8 x57
    have au:askE u u.methods.length [(k:Int)]=0:=by rw [hue,hu];exact K.ask hlt
    have am:askE m m.methods.length [(kk:Int)]=0:=if_pos ⟨chkE_yes P,fun i hi=>by obtain rfl:=List.mem_singleton.1 hi;exact ⟨g0,g1⟩⟩
    have cu:callL u k=(callL m kk).map (posI (meL m roots)):=by
      rw [show callL u (k:Int)=calM u k from if_pos au,show callL m (kk:Int)=calM m kk from if_pos am,hue,hu]
      exact calM_unl K hkk' hx
    have vu:chnV u k=chnV m kk:=by
      rw [show chnV u (k:Int)=chaN u k from if_pos au,show chnV m (kk:Int)=chaN m kk from if_pos am,hue,hu]
      exact K.cha (k+1) (by omega) hkk'
    have lu:(locL u k).length=(locL m kk).length:=by
      rw [show locL u (k:Int)=locM (mths u k) from if_pos au,show locL m (kk:Int)=locM (mths m kk) from if_pos am,mths_at hy,mths_at hx,locM_rmm K (List.mem_of_getElem? hkk') hx,List.length_map]
    have M8:=M7.bl B8
    have BB8:=B7.trans B8
    refine lda x58.at ?_
    refine cl (k_CallsF u a5 k w8 M8) ?_
    rintro _ w9 ⟨a30,c30,rfl,S30,B89⟩
    have B79:=B8.trans B89
    refine dh T (List.range 11) fun w10 k10 => ?_
    have B710:=B79.trans k10.bl
    refine lda (Bl.box B710 x17).at ?_ (hm:=trivial)
    refine ix (j:=k) ?_ (hb:=by omega)
    refine ld (hAk.bl B710 0 _ rfl) ?_ (hm:=trivial)
    refine cl (r5_CallsF m a kk w10 (hM.bl (B7.trans B710))) ?_ (hm:=fun _ _ r=>by obtain ⟨_,_,_,_,hB⟩:=r;exact mdW_bl hB)
    rintro _ w11 ⟨a31,c31,rfl,S31,B1011⟩
    have B711:=B710.trans B1011
    refine lda (Bl.box B711 x57).at ?_
    refine cl (k_Chain u a5 k w11 (M7.bl B711)) ?_
    rintro _ w12 ⟨rfl,B1112⟩
    have B712:=B711.trans B1112
    refine dh T (List.range 11) fun w13 k13 => ?_
    have B713:=B712.trans k13.bl
    refine lda (Bl.box B713 x17).at ?_ (hm:=trivial)
    refine ix (j:=k) ?_ (hb:=by omega)
    refine ld (hAk.bl B713 0 _ rfl) ?_ (hm:=trivial)
    refine cl (r5_Chain m a kk w13 (hM.bl (B7.trans B713))) ?_
    rintro _ w14 ⟨rfl,B1314⟩
    have B714:=B713.trans B1314
    refine lda (Bl.box B714 x57).at ?_
    refine cl (k_LocalsF u a5 k w14 (M7.bl B714)) ?_
    rintro _ w15 ⟨a32,c32,rfl,S32,B1415⟩
    have B715:=B714.trans B1415
    refine dh T (List.range 11) fun w16 k16 => ?_
    have B716:=B715.trans k16.bl
    refine lda (Bl.box B716 x17).at ?_ (hm:=trivial)
    refine ix (j:=k) ?_ (hb:=by omega)
    refine ld (hAk.bl B716 0 _ rfl) ?_ (hm:=trivial)
    refine cl (r5_Locals m a kk w16 (hM.bl (B7.trans B716))) ?_ (hm:=fun _ _ r=>by obtain ⟨_,_,_,_,hB⟩:=r;exact mdW_bl hB)
    rintro _ w17 ⟨a33,c33,rfl,S33,B1617⟩
    have B717:=B716.trans B1617
    rw [au,am,lu,vu,cu,List.length_map]
    refine brf ?_
    have B1117:=((((B1112.trans k13.bl).trans B1314).trans B1415).trans k16.bl).trans B1617
    have T30:Sl eInt T w17 a30 ((callL m kk).map (posI (meL m roots))):=by rw [←cu];exact S30.bl ((k10.bl.trans B1011).trans B1117)
    have T31:=S31.bl B1117
    have hbig:=T31.big
    have hck:∀ c∈callL m (kk:Int),c∈meL m roots:=fun c hc=>by
      rw [show callL m (kk:Int)=calM m kk from if_pos am] at hc
      exact K.mm _ (List.mem_of_getElem? hkk') c (by rw [Int.toNat_natCast];exact hc)
    refine lpk (callL m kk).length 24 [] [(2,.pointer (some ⟨b1,0,none⟩)),(5,.pointer (some ⟨b5,0,none⟩)),(7,.slice (some ⟨bk,ok,none⟩) (meL m roots).length d1),(11,I k),(12,.slice a30 (callL m kk).length c30),(14,.slice a31 (callL m kk).length c31)] (fun _ vals w'=>vals=[]∧Bl w17 w') ⟨rfl,Bl.refl _⟩ ?_
    rintro i vals w18 hi ⟨rfl,B1718⟩ ih2
    have B718:=B717.trans B1718
    by_cases hli:i<(callL m kk).length
    · refine brT ?_
      obtain ⟨c,bc,oc,cc,hc,ec,_,hAc,rfl⟩:=at_some (T31.bl B1718) hli
      obtain ⟨c',bd,od,cd,hc',ed,_,hAd,rfl⟩:=at_some (T30.bl B1718) (i:=i) (by rw [List.length_map];exact hli)
      obtain rfl:c'=posI (meL m roots) c:=by rw [List.getElem?_map,hc] at hc';exact (Option.some.inj hc').symm
      have hcm:=hck c (List.mem_of_getElem? hc)
      obtain ⟨r0,r1⟩:=K.mi _ hcm
      obtain ⟨cn,rfl⟩:=Int.eq_ofNat_of_zero_le r0
      obtain ⟨p,hp,hpx⟩:=pos_of hcm
      obtain ⟨z,hz⟩:=some_of_lt (l:=m.methods) (k:=cn) (by omega)
      have hv':u.methods[p]? = some (rmm (meL m roots) (clL m roots) (stL m roots) z):=by rw [hue,hu];exact K.at_mth hpx hz
      have hpl:=(List.getElem?_eq_some_iff.1 hv').1
      obtain ⟨y1',bu',ou',cu',hy1,eu',su',hAu',a40,c40,a41,c41,a42,c42,rfl,_,_,_,_⟩:=at_some (M7.bl B718).mth (i:=p) hpl
      obtain rfl:y1'=rmm (meL m roots) (clL m roots) (stL m roots) z:=by rw [hv'] at hy1;exact (Option.some.inj hy1).symm
      obtain ⟨z0,bm',om',cm',hz0,em',sm',hAm',a50,c50,a51,c51,a52,c52,rfl,_,_,_,_⟩:=at_some ((hM.bl (B7.trans B718)).mth) (i:=cn) (by omega)
      obtain rfl:z0=z:=by rw [hz] at hz0;exact (Option.some.inj hz0).symm
      refine dh T (List.range 19) fun w19 k19 => ?_
      have B19:=k19.bl
      refine ld ((Bl.box (B718.trans B19) x57).cell rfl) ?_ (hm:=trivial)
      rw [ed]
      refine ix (j:=i) ?_ (hb:=by omega)
      refine ld (hAd.bl B19 0 _ rfl) ?_ (hm:=trivial)
      rw [eu']
      refine ix (j:=p) ?_ (hij:=by rw [hp]) (hb:=by omega)
      refine ld (hAu'.bl B19 0 _ rfl) ?_ (hm:=trivial)
      refine ld ((Bl.box (B718.trans B19) x17).cell rfl) ?_ (hm:=trivial)
      rw [ec]
      refine ix (j:=i) ?_ (hb:=by omega)
      refine ld (hAc.bl B19 0 _ rfl) ?_ (hm:=trivial)
      rw [em']
      refine ix (j:=cn) ?_ (hb:=by omega)
      refine ld (hAm'.bl B19 0 _ rfl) ?_ (hm:=trivial)
      refine brf ?_ (hp:=by simp;rfl)
      exact ih2 hli ⟨rfl,B1718.trans B19⟩ (hsub:=by rw [ec,ed];repeat (first | exact True.intro | (refine ⟨rfl,?_⟩)))
    · refine brF ?_
      exact ih (by rw [e1];exact hlt) ⟨rfl,(B67.trans B718)⟩ (hsub:=by rw [ek,e1];repeat (first | exact True.intro | (refine ⟨rfl,?_⟩)))
  · refine brF ?_
    refine cl (l_sane w7 (hG.bl B7)) ?_
    rintro _ w8 ⟨rfl,B78⟩
    exact rt1 ⟨rfl,B7.trans B78⟩
end Go.Proofs.YtkmdfjpafkcleaaGreatDoor
