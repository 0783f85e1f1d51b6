import Derived.Test.YtkmdfjpafkcleaaGreatDoorM6
import Derived.Test.YtkmdfjpafkcleaaGreatDoorM5
/- Unloading a module at all its methods, where all else is reached, is the module itself; so unloading twice is unloading once. No program stands here. -/
namespace Go.Proofs.YtkmdfjpafkcleaaGreatDoor
open Eng Go.RowKit
theorem rty_id {m:Mod} {t:Ty} {least:Int} (h:ityp m t least=true):rty (rngI m.classes.length) t=t:=by
  unfold rty
  by_cases q:t.kind=2∨t.kind=4
  · unfold ityp at h
    rw [if_pos q] at h ⊢
    simp only [Bool.and_eq_true,decide_eq_true_eq] at h
    rw [rng_pos h.1 h.2]
  · rw [if_neg q]
theorem rtys_id {m:Mod} {l:List Ty} {least:Int} (h:∀ t∈l,ityp m t least=true):l.map (rty (rngI m.classes.length))=l :=
  (List.map_congr_left fun t ht=>rty_id (h t ht)).trans (List.map_id' l)
theorem map_rng {α:Type} (l:List α) (f:Int→α) (h:∀ (k:Nat) (x:α),l[k]? = some x→f k=x):(rngI l.length).map f=l:=by
  refine List.ext_getElem? fun k => ?_
  rw [List.getElem?_map]
  by_cases q:k<l.length
  · obtain ⟨x,hx⟩:=some_of_lt q
    rw [rng_at q,hx,Option.map_some,h k x hx]
  · rw [List.getElem?_eq_none (by rw [rng_len];omega),List.getElem?_eq_none (by omega)];rfl
theorem rin_id {m:Mod} (P:ModP m) {k:Nat} {x:MM} (hx:m.methods[k]? = some x) {i:Ins} (hi:i∈x.code):rin (rngI m.methods.length) (rngI m.classes.length) (rngI m.statics.length) i=i:=by
  have M:=P.mth k x hx
  have hv:=code_all M.cd i hi
  have hop:=M.op i hi
  have hC:=fun c (hc:c∈insC i)=>insC_in hop hv hc
  have hS:=fun c (hc:c∈insS i)=>insS_in hop hv hc
  have hM:=fun c (hc:c∈calO m i)=>calO_lt P hx hi hc
  have hk:=(List.getElem?_eq_some_iff.1 hx).1
  unfold rin
  by_cases h12:i.op=12
  · rw [if_pos h12]
    by_cases h3:i.a=3
    · rw [if_pos h3]
    · rw [if_neg h3]
      have hka:=val_kind hv h12
      have:=hC i.b (by unfold insC tcl;rw [if_pos h12];simp only;rw [if_pos (by omega)];exact List.mem_singleton.2 rfl)
      rw [rng_pos this.1 this.2]
  rw [if_neg h12]
  by_cases h14:i.op=14∨i.op=24
  · rw [if_pos h14]
    have:=hC i.a (by unfold insC;rw [if_neg h12,if_pos h14];exact List.mem_singleton.2 rfl)
    rw [rng_pos this.1 this.2]
  rw [if_neg h14]
  by_cases h16:i.op=16
  · rw [if_pos h16]
    have:=hC i.b (by unfold insC;rw [if_neg h12,if_neg h14,if_pos h16];exact List.mem_singleton.2 rfl)
    rw [rng_pos this.1 this.2]
  rw [if_neg h16]
  by_cases h22:i.op=22∨i.op=23
  · rw [if_pos h22]
    have:=hS i.a (by unfold insS;rw [if_pos h22];exact List.mem_singleton.2 rfl)
    rw [rng_pos this.1 this.2]
  rw [if_neg h22]
  by_cases h25:i.op=25
  · rw [if_pos h25]
    have:=hM i.a (by unfold calO;rw [if_pos h25];exact List.mem_singleton.2 rfl)
    rw [rng_pos this.1 (by omega)]
  rw [if_neg h25]
theorem rmm_id {m:Mod} (P:ModP m) {k:Nat} {x:MM} (hx:m.methods[k]? = some x):rmm (rngI m.methods.length) (rngI m.classes.length) (rngI m.statics.length) x=x:=by
  have M:=P.mth k x hx
  unfold rmm
  rw [rng_pos1 M.c1 M.c2,rtys_id M.pt,rtys_id M.lt,rty_id M.rt,(List.map_congr_left fun i hi=>rin_id P hx hi).trans (List.map_id' x.code)]
theorem rmc_id {m:Mod} (P:ModP m) {k:Nat} {x:MC} (hx:m.classes[k]? = some x):rmc m (rngI m.methods.length) (rngI m.classes.length) (m.classes.take k) k=x:=by
  have C:=P.cls k x hx
  have hk:=(List.getElem?_eq_some_iff.1 hx).1
  unfold rmc
  rw [clss_at hx,rng_pos1 C.s1 (by have:=C.s2;omega),rtys_id C.ft]
  have:tblU (rngI m.methods.length) (m.classes.take k) x.super x.table x.table.length=x.table:=by
    refine List.ext_getElem? fun s => ?_
    by_cases q:s<x.table.length
    · rw [tblU_at _ _ _ _ q]
      obtain ⟨n,hn⟩:=some_of_lt q
      have E:=C.tb s n hn
      rw [List.getD_eq_getElem?_getD,hn,Option.getD_some]
      unfold entU
      rw [rng_pos1 E.lo E.hi]
      by_cases r:n<0∧0≤x.super
      · rw [if_pos r]
        have s2:=C.s2
        have hl:=E.lo
        obtain ⟨p,hp⟩:=Int.eq_ofNat_of_zero_le r.2
        obtain ⟨y,hy⟩:=some_of_lt (l:=m.classes) (k:=p) (by omega)
        have hU:=E.up r.1 r.2 y
        rw [hp,Int.toNat_natCast] at hU ⊢
        rw [List.getElem?_take_of_lt (by omega),hy,Option.map_some,Option.getD_some,List.getD_eq_getElem?_getD]
        cases hs:y.table[s]? with
        | none=>simp only [Option.getD_none];congr 1;omega
        | some q =>
          have q0:=hU q hy hs
          have q1:=((P.cls p y hy).tb s q hs).lo
          simp only [Option.getD_some];congr 1;omega
      · rw [if_neg r]
    · rw [List.getElem?_eq_none (by rw [tblU_len];omega),List.getElem?_eq_none (by omega)]
  rw [this]
theorem rcl_id {m:Mod} (P:ModP m):∀ n,n≤m.classes.length→rcl m (rngI m.methods.length) (rngI m.classes.length) n=m.classes.take n
  | 0,_=>rfl
  | n+1,h=>by
    obtain ⟨x,hx⟩:=some_of_lt (l:=m.classes) (k:=n) (by omega)
    rw [rcl_snoc (rng_at (by omega)),rcl_id P n (by omega),rmc_id P hx,List.take_add_one,hx];rfl
theorem unl_id {m:Mod} (P:ModP m):unlM m (rngI m.methods.length) (rngI m.classes.length) (rngI m.statics.length)=m:=by
  unfold unlM
  rw [rng_len,rcl_id P _ (Nat.le_refl _),List.take_length,map_rng m.statics _ fun k x hx=>by rw [stas_at hx];exact rty_id (P.sta x (List.mem_of_getElem? hx)),
    map_rng m.methods _ fun k x hx=>by rw [mths_at hx];exact rmm_id P hx]
theorem unlR_yes {m:Mod} {roots:List Int} (h:askE m m.methods.length roots=0):unlR m roots=unlM m (meL m roots) (clL m roots) (stL m roots):=if_pos h
theorem all_of {m:Mod} {roots:List Int} (h:askE m m.methods.length roots=0) {x:Nd} (q:Rch m (rootsN roots) x) :
    Rch (unlR m roots) (rootsN (rngI (unlR m roots).methods.length)) (imN (meL m roots) (clL m roots) (stL m roots) x):=by
  have K:=kept_of h
  have hin:∀ x,Rch m (rootsN roots) x→inN (meL m roots) (clL m roots) (stL m roots) x:=fun x q=>by
    have:=q.isIn K.P (roots_in h)
    cases x with
    | m n=>exact mem_sel.2 ⟨this,q⟩
    | c n=>exact mem_sel.2 ⟨this,q⟩
    | s n=>exact mem_sel.2 ⟨this,q⟩
  rw [unlR_yes h]
  induction q with
  | @root x q =>
    have hi:=hin x (.root q)
    obtain ⟨k,hk,rfl⟩:=q
    refine .root ⟨_,?_,rfl⟩
    have:=pos_len (show k∈meL m roots from hi)
    exact rng_mem.2 ⟨this.1,by rw [K.unl_m];exact this.2⟩
  | step q hy ih=>exact .step ih (K.sucN (hin _ q) hy)
theorem unl_ask {m:Mod} {roots:List Int} (h:askE m m.methods.length roots=0):askE (unlR m roots) (unlR m roots).methods.length (rngI (unlR m roots).methods.length)=0:=by
  unfold askE
  refine if_pos ⟨chkE_yes (by rw [unlR_yes h];exact (kept_of h).valid),fun i hi=>rng_mem.1 hi⟩
theorem unl_two {m:Mod} {roots:List Int} (h:askE m m.methods.length roots=0):unlR (unlR m roots) (rngI (unlR m roots).methods.length)=unlR m roots:=by
  have K:=kept_of h
  have V:ModP (unlR m roots):=by rw [unlR_yes h];exact K.valid
  rw [unlR_yes (unl_ask h)]
  have em:meL (unlR m roots) (rngI (unlR m roots).methods.length)=rngI (unlR m roots).methods.length :=
    sel_rng fun x h0 h1 => .root ⟨x,rng_mem.2 ⟨h0,h1⟩,rfl⟩
  have ec:clL (unlR m roots) (rngI (unlR m roots).methods.length)=rngI (unlR m roots).classes.length:=by
    refine sel_rng fun x h0 h1 => ?_
    obtain ⟨j,rfl⟩:=Int.eq_ofNat_of_zero_le h0
    have hj:j<(clL m roots).length:=by have:=K.unl_c;rw [←unlR_yes h] at this;omega
    obtain ⟨c,hc⟩:=some_of_lt hj
    have:=all_of h (mem_sel.1 (List.mem_of_getElem? hc)).2
    have e:imN (meL m roots) (clL m roots) (stL m roots) (.c c) = .c (j:Int):=by show Nd.c (posI _ c)=_;rw [pos_at K.ca hc]
    rwa [e] at this
  have es:stL (unlR m roots) (rngI (unlR m roots).methods.length)=rngI (unlR m roots).statics.length:=by
    refine sel_rng fun x h0 h1 => ?_
    obtain ⟨j,rfl⟩:=Int.eq_ofNat_of_zero_le h0
    have hj:j<(stL m roots).length:=by have:=K.unl_s;rw [←unlR_yes h] at this;omega
    obtain ⟨c,hc⟩:=some_of_lt hj
    have:=all_of h (mem_sel.1 (List.mem_of_getElem? hc)).2
    have e:imN (meL m roots) (clL m roots) (stL m roots) (.s c) = .s (j:Int):=by show Nd.s (posI _ c)=_;rw [pos_at K.sa hc]
    rwa [e] at this
  rw [em,ec,es]
  exact unl_id V
end Go.Proofs.YtkmdfjpafkcleaaGreatDoor
namespace Go.Proofs.YtkmdfjpafkcleaaGreatDoor
open Eng Go.RowKit
end Go.Proofs.YtkmdfjpafkcleaaGreatDoor
namespace Go.Proofs.YtkmdfjpafkcleaaGreatDoor
open Eng Go.RowKit
end Go.Proofs.YtkmdfjpafkcleaaGreatDoor
namespace Go.Proofs.YtkmdfjpafkcleaaGreatDoor
open Eng Go.RowKit
theorem rng_snoc (n:Nat):rngI (n+1)=rngI n++[(n:Int)]:=by unfold rngI;rw [List.range_succ,List.map_append];rfl
set_option maxHeartbeats 4000000 in
theorem l_LinkUnloads (m:Mod) (a:MA) (roots:List Int) (ar:Option Addr) (cr:Nat) (w:World) (hM:MdR T w m a) (hS:Sl eInt T w ar roots) (hG:Gl w) :
    Ret Tryz.prog 10 #[.agg (modcells m a).toArray,.slice ar roots.length cr] w fun v w'=>v = .bool true∧Bl w w':=by
  have q1:=hS.big
  refine entr (vs:=[.agg (modcells m a).toArray,.slice ar roots.length cr]) [0,1,2,4,5,6,7,8,9,10,11,12,19,41,43,49] tabok Tryz.func10 (by kernel_rfl) ?_
  refine bx (cs:=modcells m a) fun b1 w1 k1 => ?_
  have y1:=k1.blk
  have z1:=k1.size
  refine lda k1.box.at ?_
  refine cl (l_heavyM m a w1 (hM.bl k1.bl)) ?_ (hm:=fun _ _ r=>by obtain ⟨_,_,hB⟩:=r;exact mdW_bl hB)
  rintro _ w2 ⟨hv,rfl,B12⟩
  have B2:=k1.bl.trans B12
  have x2:=Bl.box B12 k1.box
  refine br (fun h => ?_) (fun h => ?_)
  · refine cl (l_sane w2 (hG.bl B2)) ?_
    rintro _ w3 ⟨rfl,h3⟩
    exact rt1 ⟨rfl,B2.trans h3⟩
  have hsum:roots.length≤200:=by
    cases hv with
    | true=>simp at h
    | false=>simp at h;omega
  clear h
  refine lda x2.at ?_
  refine cl (k_Unload m a roots ar cr w2 (hM.bl B2) (hS.bl B2)) ?_
  rintro _ w3 ⟨a5,rfl,M5,B23⟩
  refine al fun b5 w4 k4 => ?_
  have y4:=k4.blk
  have z4:=k4.size
  refine sta (cs':=modcells (unlR m roots) a5) k4.box fun w5 k5 x5 => ?_
  have B35:=k4.wr k5
  have B5:=(B2.trans B23).trans B35
  refine lda (Bl.box (B23.trans B35) x2).at ?_
  refine cl (r5_Unload m a roots ar cr w5 (hM.bl B5) (hS.bl B5)) ?_
  rintro _ w6 ⟨a7,rfl,M7,B56⟩
  refine al fun b7 w7 k7 => ?_
  have y7:=k7.blk
  have z7:=k7.size
  refine sta (cs':=modcells (unlR m roots) a7) k7.box fun w8 k8 x8 => ?_
  have B68:=k7.wr k8
  have B58:=B56.trans B68
  have B8:=B5.trans B58
  have x58:=Bl.box B58 x5
  have M58:MdR T w8 (unlR m roots) a5:=((M5.sub fun _ _=>trivial).bl B35).bl B58
  refine lda x58.at ?_
  refine lda x8.at ?_
  refine cl (r_Same_eq (unlR m roots) a5 a7 w8 M58 ((M7.sub fun _ _=>trivial).bl B68)) ?_
  rintro _ w9 ⟨rfl,B89⟩
  have B9:=B8.trans B89
  have x9:=Bl.box B89 x58
  have M9:=M58.bl B89
  refine brf ?_ (hp:=by simp)
  by_cases h0:askE m m.methods.length roots=0
  rotate_left
  · rw [ask_n h0]
    refine brt ?_
    refine cl (l_sane w9 (hG.bl B9)) ?_
    rintro _ w10 ⟨rfl,h3⟩
    exact rt1 ⟨rfl,B9.trans h3⟩
  rw [h0]
  refine brf ?_
  have V:ModP (unlR m roots):=by rw [unlR_yes h0];exact (kept_of h0).valid
  obtain ⟨u,hu⟩:∃ u,u=unlR m roots:=⟨_,rfl⟩
  have ask2:=unl_ask h0
  have two:=unl_two h0
  rw [←hu] at V M9 x9 ask2 two
  have nl:=V.ml
  refine lpk u.methods.length 10 [9] [(5,.pointer (some ⟨b5,0,none⟩))] (fun k vals w'=>∃ a9 c9,vals=[.slice a9 (rngI k).length c9]∧OwP 1 encInt w' w9.heap.size 3 a9 c9 (rngI k)∧Bl w9 w') ⟨none,0,rfl,Ow.nil ..,Bl.refl _⟩ ?_
  rintro k vals w10 hk ⟨a9,c9,rfl,O9,B910⟩ ih
  have x10:=Bl.box B910 x9
  have hl:=rng_len k
  refine ld (x10.cell rfl) ?_
  by_cases hlt:k<u.methods.length
  · refine brT ?_
    refine bs (cs:=[I k]) fun b11 w11 k11 => ?_
    have O11:=O9.bl k11.bl
    have y11:=k11.blk
    refine apl (l0:=rngI k) (l1:=[(k:Int)]) O11 (.inr ⟨b11,0,rfl,k11.box.at⟩) (by have:=k11.size;have:=B910.size;omega) (fun a12 c12 w12 O12 A12 f12 => ?_)
    rw [←rng_snoc] at O12 ⊢
    exact ih hlt ⟨a12,c12,rfl,O12,Below.trans (B910.trans k11.bl) (A12.below (B910.trans k11.bl).size fun g hg=>by have:=(O11.lt hg).1;omega)⟩
  · refine brF ?_
    obtain rfl:k=u.methods.length:=by omega
    have B10:=B9.trans B910
    have M10:=M9.bl B910
    have S10:Sl eInt T w10 a9 (rngI u.methods.length):=owp_sl O9 (by omega) fun _ _=>trivial
    refine lda x10.at ?_
    refine cl (k_Unload u a5 (rngI u.methods.length) a9 c9 w10 M10 S10) ?_
    rintro _ w11 ⟨a11,rfl,M11,B1011⟩
    rw [ask2,two] at *
    refine al fun b11 w12 k12 => ?_
    have y12:=k12.blk
    have z12:=k12.size
    refine sta (cs':=modcells u a11) k12.box fun w13 k13 x13 => ?_
    have B1113:=k12.wr k13
    have B1013:=B1011.trans B1113
    have B13:=B10.trans B1013
    have x513:=Bl.box B1013 x10
    have M13:=M10.bl B1013
    refine lda x513.at ?_
    refine cl (k_Check u a5 w13 M13) ?_
    rintro _ w14 ⟨rfl,B1314⟩
    rw [chkE_yes V]
    refine spt (.bool true) ?_
    refine lda (Bl.box B1314 x513).at ?_
    refine spt (.bool true) ?_
    refine lda (Bl.box B1314 x13).at ?_
    refine spt (.bool true) ?_
    refine cl (r_Same_eq u a5 a11 w14 (M13.bl B1314) (((M11.sub fun _ _=>trivial).bl B1113).bl B1314)) ?_
    rintro _ w15 ⟨rfl,B1415⟩
    have B15:=(B13.trans B1314).trans B1415
    refine spt (.bool true) ?_
    refine cl (l_sane w15 (hG.bl B15)) ?_
    rintro _ w16 ⟨rfl,B1516⟩
    exact rt1 ⟨rfl,B15.trans B1516⟩
end Go.Proofs.YtkmdfjpafkcleaaGreatDoor
