import Derived.Test.YtkmdfjpafkcleaaGreatDoorM4
import Derived.Test.YtkmdfjpafkcleaaGreatDoorM3
import Derived.Test.YtkmdfjpafkcleaaGreatDoorM2
import Derived.ArgAppend
import Derived.Laws.StructEq
import Derived.Test.YtkmdfjpafkcleaaGreatDoorM1
/- The order of units does not matter to what link declares. No program stands here. -/
namespace Go.Proofs.YtkmdfjpafkcleaaGreatDoor
open Eng Go.RowKit
def putAll {α:Type} (m:Mp α) (l:List (ByteArray×α)):Mp α:=l.foldl (fun m p=>putM m p.1 p.2) m
theorem putAll_in {α:Type}:∀ {l:List (ByteArray×α)} {m:Mp α} {p:ByteArray} {v:α},getM (putAll m l) p=some v->(p,v)∈l∨getM m p=some v
 | [],_,_,_,h => .inr h
 | (k,x)::l,m,p,v,h=>by
  rcases putAll_in (l:=l) (m:=putM m k x) h with q | q
  ·exact .inl (List.mem_cons_of_mem _ q)
  ·rw [putM_get] at q
   split at q
   ·rename_i e;subst e;obtain rfl:=Option.some.inj q;exact .inl (List.mem_cons_self ..)
   ·exact .inr q
theorem putAll_has {α:Type}:∀ {l:List (ByteArray×α)} {m:Mp α} {p:ByteArray},hasM (putAll m l) p=true↔hasM m p=true∨∃ v,(p,v)∈l
 | [],m,p=>by
  constructor
  ·exact .inl
  ·rintro (h | ⟨v,h⟩)
   ·exact h
   ·cases h
 | (k,x)::l,m,p=>by
  rw [show putAll m ((k,x)::l)=putAll (putM m k x) l from rfl,putAll_has (l:=l)]
  constructor
  ·rintro (h | ⟨v,h⟩)
   ·unfold hasM at h
    rw [putM_get] at h
    split at h
    ·rename_i e;subst e;exact .inr ⟨x,List.mem_cons_self ..⟩
    ·exact .inl h
   ·exact .inr ⟨v,List.mem_cons_of_mem _ h⟩
  ·rintro (h | ⟨v,h⟩)
   ·exact .inl (hasM_put h)
   ·rcases List.mem_cons.1 h with e | h
    ·obtain ⟨rfl,rfl⟩:=Prod.mk.inj e;exact .inl hasM_self
    ·exact .inr ⟨v,h⟩
theorem hasM_iff {α:Type} {m:Mp α} {p:ByteArray}:hasM m p=true↔p∈keysM m:=by
 refine ⟨hasM_keys,fun h => ?_⟩
 obtain ⟨v,hv⟩:=mem_keys h
 unfold hasM;rw [hv];rfl
theorem put_nodup {α:Type} {k:ByteArray} {v:α}:∀ {m:Mp α},(keysM m).Nodup->(keysM (putM m k v)).Nodup
 | [],_=>by simp [putM,keysM]
 | (k0,v0)::m,h=>by
  simp only [keysM,List.map_cons,List.nodup_cons] at h
  unfold putM
  split
  ·rename_i e;subst e
   simp only [keysM,List.map_cons,List.nodup_cons];exact h
  ·rename_i e
   simp only [keysM,List.map_cons,List.nodup_cons]
   refine ⟨fun q => ?_,put_nodup h.2⟩
   have:=hasM_iff.2 q
   unfold hasM at this
   rw [putM_get,if_neg fun e2=>e e2.symm] at this
   exact h.1 (hasM_iff.1 this)
theorem putAll_nodup {α:Type}:∀ {l:List (ByteArray×α)} {m:Mp α},(keysM m).Nodup->(keysM (putAll m l)).Nodup
 | [],_,h=>h
 | _::l,_,h=>putAll_nodup (l:=l) (put_nodup h)
theorem in_get {α:Type}:∀ {m:Mp α} {q:ByteArray×α},(keysM m).Nodup->q∈m->getM m q.1=some q.2
 | [],_,_,h=>by cases h
 | (k0,v0)::m,q,h,hq=>by
  simp only [keysM,List.map_cons,List.nodup_cons] at h
  simp only [getM]
  rcases List.mem_cons.1 hq with rfl | hq
  ·rw [if_pos rfl]
  ·rw [if_neg fun e=>h.1 (List.mem_map.2 ⟨q,hq,e.symm⟩)]
   exact in_get h.2 hq
def idxF {α β:Type} (l:List α) (e:α->Nat->List β):List β:=l.zipIdx.flatMap fun q=>e q.1 q.2
theorem mem_idxF {α β:Type} {l:List α} {e:α->Nat->List β} {y:β}:y∈idxF l e↔∃ x k,l[k]? = some x/\y∈e x k:=by
 unfold idxF
 rw [List.mem_flatMap]
 constructor
 ·rintro ⟨⟨x,k⟩,h,hy⟩
  exact ⟨x,k,List.mem_zipIdx_iff_getElem?.1 h,hy⟩
 ·rintro ⟨x,k,h,hy⟩
  exact ⟨(x,k),List.mem_zipIdx_iff_getElem?.2 h,hy⟩
theorem foldI_proj {α β γ:Type} {f:β->α->Nat->β} {h:γ->α->Nat->γ} (g:β->γ) (H:∀ b x k,g (f b x k)=h (g b) x k) (l:List α) (b:β):g (foldI f l b)=foldI h l (g b):=by
 unfold foldI
 generalize l.zipIdx=z
 induction z generalizing b with
 | nil=>rfl
 | cons p z ih=>rw [List.foldl_cons,List.foldl_cons,ih,H]
theorem foldI_keep {α β γ:Type} {f:β->α->Nat->β} (g:β->γ) (H:∀ b x k,g (f b x k)=g b) (l:List α) (b:β):g (foldI f l b)=g b:=by
 unfold foldI
 generalize l.zipIdx=z
 induction z generalizing b with
 | nil=>rfl
 | cons p z ih=>rw [List.foldl_cons,ih,H]
theorem foldI_all {α β:Type} {f:Mp β->α->Nat->Mp β} {e:α->Nat->List (ByteArray×β)} (H:∀ m x k,f m x k=putAll m (e x k)) (l:List α) (m:Mp β):foldI f l m=putAll m (idxF l e):=by
 unfold foldI putAll idxF
 rw [List.foldl_flatMap]
 congr 1
 funext m p
 exact H m p.1 p.2
abbrev cpath (u:Unt) (c:Cls):ByteArray:=dots u.name (nm u c.name)
abbrev fpath (u:Unt) (c:Cls) (f:Fld):ByteArray:=dots (cpath u c) (nm u f.name)
abbrev gpath (u:Unt) (s:Fld):ByteArray:=dots u.name (nm u s.name)
abbrev apath (u:Unt) (m:Mth):ByteArray:=dots u.name (nm u m.name)
abbrev epath (u:Unt) (m:Mth):ByteArray:=dots (nm u m.cls) (nm u m.name)
def clsE (us:List Unt):List (ByteArray×(Nat×Nat)):=idxF us fun u n=>idxF u.classes fun c k=>[(cpath u c,(n,k))]
def fldE (us:List Unt):List (ByteArray×Bool):=idxF us fun u _=>idxF u.classes fun c _=>c.fields.map fun f=>(fpath u c f,true)
def staE (us:List Unt):List (ByteArray×(Nat×Nat)):=idxF us fun u n=>idxF u.statics fun s k=>[(gpath u s,(n,k))]
def calE (us:List Unt):List (ByteArray×(Nat×Nat)):=idxF us fun u n=>idxF u.methods fun m k=>if m.cls<0 then [(apath u m,(n,k))] else []
def sndE (us:List Unt):List (ByteArray×(Nat×Nat)):=idxF us fun u n=>idxF u.methods fun m k=>if m.cls<0 then [] else [(epath u m,(n,k))]
theorem dcls_cls (u:Unt) (n:Nat) (D:Dcl) (c:Cls) (k:Nat):(dCls u n D c k).classes=putM D.classes (cpath u c) (n,k):=by
 unfold dCls
 obtain ⟨f,hf⟩:=dfld_fold u (cpath u c) c.fields { D with classes:=putM D.classes (cpath u c) (n,k) }
 rw [hf]
theorem dfld_flds (u:Unt) (p:ByteArray):∀ (l:List Fld) (D:Dcl),(l.foldl (dFld u p) D).fields=putAll D.fields (l.map fun f=>(dots p (nm u f.name),true))
 | [],_=>rfl
 | f::l,D=>by rw [List.foldl_cons,dfld_flds u p l];rfl
theorem dcls_fld (u:Unt) (n:Nat) (D:Dcl) (c:Cls) (k:Nat):(dCls u n D c k).fields=putAll D.fields (c.fields.map fun f=>(fpath u c f,true)):=by
 unfold dCls
 rw [dfld_flds]
theorem dcls_rest (u:Unt) (n:Nat) (D:Dcl) (c:Cls) (k:Nat):(dCls u n D c k).statics=D.statics/\(dCls u n D c k).calls=D.calls/\(dCls u n D c k).sends=D.sends/\(dCls u n D c k).named=D.named:=by
 unfold dCls
 obtain ⟨f,hf⟩:=dfld_fold u (cpath u c) c.fields { D with classes:=putM D.classes (cpath u c) (n,k) }
 rw [hf];exact ⟨rfl,rfl,rfl,rfl⟩
theorem dmth_rest (u:Unt) (n:Nat) (D:Dcl) (m:Mth) (k:Nat):(dMth u n D m k).classes=D.classes/\(dMth u n D m k).statics=D.statics/\(dMth u n D m k).fields=D.fields:=by
 unfold dMth
 split <;> exact ⟨rfl,rfl,rfl⟩
theorem dmth_cal (u:Unt) (n:Nat) (D:Dcl) (m:Mth) (k:Nat):(dMth u n D m k).calls=putAll D.calls (if m.cls<0 then [(apath u m,(n,k))] else []):=by
 unfold dMth
 split <;> rfl
theorem dmth_snd (u:Unt) (n:Nat) (D:Dcl) (m:Mth) (k:Nat):(dMth u n D m k).sends=putAll D.sends (if m.cls<0 then [] else [(epath u m,(n,k))]):=by
 unfold dMth
 split <;> rfl
theorem decl_cls (us:List Unt):(decl us).classes=putAll [] (clsE us):=by
 unfold decl clsE
 refine (foldI_proj (h:=fun m u n=>putAll m (idxF u.classes fun c k=>[(cpath u c,(n,k))])) Dcl.classes (fun D u n => ?_) us dcl0).trans (foldI_all (fun _ _ _=>rfl) us [])
 unfold dUnt
 rw [foldI_keep Dcl.classes fun D m k=>(dmth_rest u n D m k).1,foldI_keep (f:=dSta u n) Dcl.classes fun _ _ _=>rfl]
 exact (foldI_proj (h:=fun m c k=>putAll m [(cpath u c,(n,k))]) Dcl.classes (fun D c k=>dcls_cls u n D c k) u.classes D).trans (foldI_all (fun _ _ _=>rfl) u.classes _)
theorem decl_fld (us:List Unt):(decl us).fields=putAll [] (fldE us):=by
 unfold decl fldE
 refine (foldI_proj (h:=fun m u n=>putAll m (idxF u.classes fun c _=>c.fields.map fun f=>(fpath u c f,true))) Dcl.fields (fun D u n => ?_) us dcl0).trans (foldI_all (fun _ _ _=>rfl) us [])
 unfold dUnt
 rw [foldI_keep Dcl.fields fun D m k=>(dmth_rest u n D m k).2.2,foldI_keep (f:=dSta u n) Dcl.fields fun _ _ _=>rfl]
 exact (foldI_proj (h:=fun m c _=>putAll m (c.fields.map fun f=>(fpath u c f,true))) Dcl.fields (fun D c k=>dcls_fld u n D c k) u.classes D).trans (foldI_all (fun _ _ _=>rfl) u.classes _)
theorem decl_sta (us:List Unt):(decl us).statics=putAll [] (staE us):=by
 unfold decl staE
 refine (foldI_proj (h:=fun m u n=>putAll m (idxF u.statics fun c k=>[(gpath u c,(n,k))])) Dcl.statics (fun D u n => ?_) us dcl0).trans (foldI_all (fun _ _ _=>rfl) us [])
 unfold dUnt
 rw [foldI_keep Dcl.statics fun D m k=>(dmth_rest u n D m k).2.1]
 refine (foldI_proj (h:=fun m c k=>putAll m [(gpath u c,(n,k))]) Dcl.statics (fun D c k=>rfl) u.statics _).trans ?_
 rw [foldI_keep Dcl.statics fun D c k=>(dcls_rest u n D c k).1]
 exact foldI_all (fun _ _ _=>rfl) u.statics _
theorem decl_cal (us:List Unt):(decl us).calls=putAll [] (calE us):=by
 unfold decl calE
 refine (foldI_proj (h:=fun m u n=>putAll m (idxF u.methods fun c k=>if c.cls<0 then [(apath u c,(n,k))] else [])) Dcl.calls (fun D u n => ?_) us dcl0).trans (foldI_all (fun _ _ _=>rfl) us [])
 unfold dUnt
 refine (foldI_proj (h:=fun m c k=>putAll m (if c.cls<0 then [(apath u c,(n,k))] else [])) Dcl.calls (fun D c k=>dmth_cal u n D c k) u.methods _).trans ?_
 rw [foldI_keep (f:=dSta u n) Dcl.calls fun _ _ _=>rfl,foldI_keep Dcl.calls fun D c k=>(dcls_rest u n D c k).2.1]
 exact foldI_all (fun _ _ _=>rfl) u.methods _
theorem decl_snd (us:List Unt):(decl us).sends=putAll [] (sndE us):=by
 unfold decl sndE
 refine (foldI_proj (h:=fun m u n=>putAll m (idxF u.methods fun c k=>if c.cls<0 then [] else [(epath u c,(n,k))])) Dcl.sends (fun D u n => ?_) us dcl0).trans (foldI_all (fun _ _ _=>rfl) us [])
 unfold dUnt
 refine (foldI_proj (h:=fun m c k=>putAll m (if c.cls<0 then [] else [(epath u c,(n,k))])) Dcl.sends (fun D c k=>dmth_snd u n D c k) u.methods _).trans ?_
 rw [foldI_keep (f:=dSta u n) Dcl.sends fun _ _ _=>rfl,foldI_keep Dcl.sends fun D c k=>(dcls_rest u n D c k).2.2.1]
 exact foldI_all (fun _ _ _=>rfl) u.methods _
def addAll (m:Mp (List ByteArray)) (l:List (ByteArray×ByteArray)):Mp (List ByteArray):=l.foldl (fun m p=>putM m p.1 ((getM m p.1).getD []++[p.2])) m
theorem addAll_get:∀ {l:List (ByteArray×ByteArray)} {m:Mp (List ByteArray)} {z:ByteArray},(getM (addAll m l) z).getD []=(getM m z).getD []++(l.filter fun p=>decide (p.1=z)).map (·.2)
 | [],m,z=>by simp [addAll]
 | (k,x)::l,m,z=>by
  rw [show addAll m ((k,x)::l)=addAll (putM m k ((getM m k).getD []++[x])) l from rfl,addAll_get (l:=l),putM_get]
  by_cases e:k=z
  ·subst e
   rw [if_pos rfl,List.filter_cons_of_pos (by simp)];simp
  ·rw [if_neg e,List.filter_cons_of_neg (by simpa using e)]
theorem addAll_has:∀ {l:List (ByteArray×ByteArray)} {m:Mp (List ByteArray)} {z:ByteArray},hasM (addAll m l) z=true↔hasM m z=true∨∃ v,(z,v)∈l
 | [],m,z=>by
  constructor
  ·exact .inl
  ·rintro (h | ⟨v,h⟩)
   ·exact h
   ·cases h
 | (k,x)::l,m,z=>by
  rw [show addAll m ((k,x)::l)=addAll (putM m k ((getM m k).getD []++[x])) l from rfl,addAll_has (l:=l)]
  constructor
  ·rintro (h | ⟨v,h⟩)
   ·unfold hasM at h
    rw [putM_get] at h
    split at h
    ·rename_i e;subst e;exact .inr ⟨x,List.mem_cons_self ..⟩
    ·exact .inl h
   ·exact .inr ⟨v,List.mem_cons_of_mem _ h⟩
  ·rintro (h | ⟨v,h⟩)
   ·exact .inl (hasM_put h)
   ·rcases List.mem_cons.1 h with e | h
    ·obtain ⟨rfl,rfl⟩:=Prod.mk.inj e;exact .inl hasM_self
    ·exact .inr ⟨v,h⟩
theorem addAll_nodup:∀ {l:List (ByteArray×ByteArray)} {m:Mp (List ByteArray)},(keysM m).Nodup->(keysM (addAll m l)).Nodup
 | [],_,h=>h
 | _::l,_,h=>addAll_nodup (l:=l) (put_nodup h)
def nmdE (us:List Unt):List (ByteArray×ByteArray):=us.flatMap fun u=>u.methods.flatMap fun m=>if m.cls<0 then [] else [(nm u m.name,epath u m)]
theorem decl_nmd (us:List Unt):(decl us).named=addAll [] (nmdE us):=by
 unfold decl nmdE
 have fz:∀ {α β:Type} (f:β->α->β) (l:List α) (b:β),foldI (fun b x _=>f b x) l b=l.foldl f b:=fun f l b=>by
  unfold foldI
  have:l.zipIdx.map (·.1)=l:=List.zipIdx_map_fst 0 l
  conv=>rhs;rw [<-this,List.foldl_map]
 refine (foldI_proj (h:=fun m u _=>addAll m (u.methods.flatMap fun c=>if c.cls<0 then [] else [(nm u c.name,epath u c)])) Dcl.named (fun D u n => ?_) us dcl0).trans ?_
 ·unfold dUnt
  refine (foldI_proj (h:=fun m c _=>addAll m (if c.cls<0 then [] else [(nm u c.name,epath u c)])) Dcl.named (fun D c k => ?_) u.methods _).trans ?_
  ·unfold dMth
   split <;> rfl
  rw [foldI_keep (f:=dSta u n) Dcl.named fun _ _ _=>rfl,foldI_keep Dcl.named fun D c k=>(dcls_rest u n D c k).2.2.2,fz]
  unfold addAll
  rw [List.foldl_flatMap]
 rw [fz]
 show us.foldl _ []=_
 unfold addAll
 rw [List.foldl_flatMap]
end Go.Proofs.YtkmdfjpafkcleaaGreatDoor
namespace Go.Proofs.YtkmdfjpafkcleaaGreatDoor
open Eng Go.RowKit
def InC (us:List Unt) (x:Unt×Cls):Prop:=x.1∈us/\x.2∈x.1.classes
def InS (us:List Unt) (x:Unt×Fld):Prop:=x.1∈us/\x.2∈x.1.statics
def InA (us:List Unt) (x:Unt×Mth):Prop:=x.1∈us/\x.2∈x.1.methods/\x.2.cls<0
def InE (us:List Unt) (x:Unt×Mth):Prop:=x.1∈us/\x.2∈x.1.methods/\¬x.2.cls<0
def staAt (us:List Unt) (d:Nat×Nat):Option (Unt×Fld):=(us[d.1]?).bind fun u=>(u.statics[d.2]?).map fun f=>(u,f)
section
variable {γ:Type} {E:List (ByteArray×(Nat×Nat))} {at':Nat×Nat->Option γ} {key:γ->ByteArray} {In:γ->Prop}
theorem gen_iff (hs:∀ p d,(p,d)∈E->∃ x,at' d=some x/\p=key x/\In x) (hc:∀ x,In x->∃ d,(key x,d)∈E) (hu:∀ x y,In x->In y->key x=key y->x=y) {p:ByteArray} {x:γ} :
  (getM (putAll [] E) p).bind at'=some x↔In x/\p=key x:=by
 constructor
 ·intro h
  obtain ⟨d,hd,hx⟩:=Option.bind_eq_some_iff.1 h
  rcases putAll_in hd with q | q
  ·obtain ⟨y,h1,h2,h3⟩:=hs p d q
   rw [hx] at h1;obtain rfl:=Option.some.inj h1;exact ⟨h3,h2⟩
  ·cases q
 ·rintro ⟨h1,rfl⟩
  obtain ⟨d,hd⟩:=hc x h1
  have:=(putAll_has (m:=[])).2 (.inr ⟨d,hd⟩)
  unfold hasM at this
  obtain ⟨e,he⟩:=Option.isSome_iff_exists.1 this
  rw [he]
  rcases putAll_in he with q | q
  ·obtain ⟨y,g1,g2,g3⟩:=hs _ _ q
   rw [Option.bind_some,g1,hu x y h1 g3 g2]
  ·cases q
end
variable {us:List Unt}
theorem clsE_s (p:ByteArray) (d:Nat×Nat) (h:(p,d)∈clsE us):∃ x,clsAt us d=some x/\p=cpath x.1 x.2/\InC us x:=by
 obtain ⟨u,n,hu,h⟩:=mem_idxF.1 h
 obtain ⟨c,k,hc,h⟩:=mem_idxF.1 h
 obtain ⟨rfl,rfl⟩:=Prod.mk.inj (List.mem_singleton.1 h)
 exact ⟨(u,c),by unfold clsAt;simp [hu,hc],rfl,List.mem_of_getElem? hu,List.mem_of_getElem? hc⟩
theorem clsE_c (x:Unt×Cls) (h:InC us x):∃ d,(cpath x.1 x.2,d)∈clsE us:=by
 obtain ⟨n,hn⟩:=List.mem_iff_getElem?.1 h.1
 obtain ⟨k,hk⟩:=List.mem_iff_getElem?.1 h.2
 exact ⟨(n,k),mem_idxF.2 ⟨_,n,hn,mem_idxF.2 ⟨_,k,hk,List.mem_singleton.2 rfl⟩⟩⟩
theorem sndE_s (p:ByteArray) (d:Nat×Nat) (h:(p,d)∈sndE us):∃ x,mthAt us d=some x/\p=epath x.1 x.2/\InE us x:=by
 obtain ⟨u,n,hu,h⟩:=mem_idxF.1 h
 obtain ⟨c,k,hc,h⟩:=mem_idxF.1 h
 split at h
 ·cases h
 ·rename_i h0
  obtain ⟨rfl,rfl⟩:=Prod.mk.inj (List.mem_singleton.1 h)
  exact ⟨(u,c),by unfold mthAt;simp [hu,hc],rfl,List.mem_of_getElem? hu,List.mem_of_getElem? hc,h0⟩
theorem sndE_c (x:Unt×Mth) (h:InE us x):∃ d,(epath x.1 x.2,d)∈sndE us:=by
 obtain ⟨n,hn⟩:=List.mem_iff_getElem?.1 h.1
 obtain ⟨k,hk⟩:=List.mem_iff_getElem?.1 h.2.1
 exact ⟨(n,k),mem_idxF.2 ⟨_,n,hn,mem_idxF.2 ⟨_,k,hk,by rw [if_neg h.2.2];exact List.mem_singleton.2 rfl⟩⟩⟩
theorem mem_nmd {z p:ByteArray}:(z,p)∈nmdE us↔∃ x,InE us x/\z=nm x.1 x.2.name/\p=epath x.1 x.2:=by
 unfold nmdE
 simp only [List.mem_flatMap]
 constructor
 ·rintro ⟨u,hu,m,hm,h⟩
  split at h
  ·cases h
  ·rename_i h0
   obtain ⟨rfl,rfl⟩:=Prod.mk.inj (List.mem_singleton.1 h)
   exact ⟨(u,m),⟨hu,hm,h0⟩,rfl,rfl⟩
 ·rintro ⟨⟨u,m⟩,⟨hu,hm,h0⟩,rfl,rfl⟩
  exact ⟨u,hu,m,hm,by rw [if_neg h0];exact List.mem_singleton.2 rfl⟩
theorem has_nmd (z:ByteArray):hasM (decl us).named z=true↔∃ x,InE us x/\z=nm x.1 x.2.name:=by
 rw [decl_nmd,addAll_has]
 constructor
 ·rintro (h | ⟨v,h⟩)
  ·cases h
  ·obtain ⟨x,h1,h2,_⟩:=mem_nmd.1 h
   exact ⟨x,h1,h2⟩
 ·rintro ⟨x,h1,h2⟩
  exact .inr ⟨_,mem_nmd.2 ⟨x,h1,h2,rfl⟩⟩
theorem get_nmd (z:ByteArray):(getM (decl us).named z).getD []=((nmdE us).filter fun p=>decide (p.1=z)).map (·.2):=by
 rw [decl_nmd,addAll_get];rfl
theorem get_fld (p:ByteArray):(getM (decl us).fields p).getD false=true↔∃ u∈us,∃ c∈u.classes,∃ f∈c.fields,p=fpath u c f:=by
 have key:∀ p v,(p,v)∈fldE us->v=true/\∃ u∈us,∃ c∈u.classes,∃ f∈c.fields,p=fpath u c f:=fun p v h=>by
  obtain ⟨u,n,hu,h⟩:=mem_idxF.1 h
  obtain ⟨c,k,hc,h⟩:=mem_idxF.1 h
  obtain ⟨f,hf,h⟩:=List.mem_map.1 h
  obtain ⟨rfl,rfl⟩:=Prod.mk.inj h
  exact ⟨rfl,u,List.mem_of_getElem? hu,c,List.mem_of_getElem? hc,f,hf,rfl⟩
 rw [decl_fld]
 constructor
 ·intro h
  cases hg:getM (putAll [] (fldE us)) p with
  | none=>rw [hg] at h;cases h
  | some v =>
   rcases putAll_in hg with q | q
   ·exact (key p v q).2
   ·cases q
 ·rintro ⟨u,hu,c,hc,f,hf,rfl⟩
  obtain ⟨n,hn⟩:=List.mem_iff_getElem?.1 hu
  obtain ⟨k,hk⟩:=List.mem_iff_getElem?.1 hc
  have hm:(fpath u c f,true)∈fldE us:=mem_idxF.2 ⟨u,n,hn,mem_idxF.2 ⟨c,k,hk,List.mem_map.2 ⟨f,hf,rfl⟩⟩⟩
  have:hasM (putAll [] (fldE us)) (fpath u c f)=true:=(putAll_has (m:=[])).2 (.inr ⟨true,hm⟩)
  unfold hasM at this
  obtain ⟨v,hv⟩:=Option.isSome_iff_exists.1 this
  rcases putAll_in hv with q | q
  ·rw [hv,(key _ _ q).1];rfl
  ·cases q
theorem nodup_of_dup {l:List ByteArray} (h:dup l=false):l.Nodup:=by
 rw [<-Bool.not_eq_true,dup_nodup,Classical.not_not] at h
 rw [List.nodup_iff_pairwise_ne] at h ⊢
 rw [List.pairwise_map] at h
 exact h.imp fun hne e=>hne (by rw [e])
theorem plain_of_simple {s:ByteArray} (h:simple s=true):(46:UInt8) ∉ s.data.toList:=fun h46=>by
 unfold simple simpleL at h
 simp only [Bool.and_eq_true] at h
 have:=List.all_eq_true.1 h.2 _ h46
 revert this;decide
structure Good (us:List Unt):Prop where
 ck:∀ u∈us,CkU u
 du:(us.map fun u:Unt=>u.name).Nodup
theorem nm_plain {u:Unt} (hC:CkU u) {i:Int} (h:(⟨i,1,false⟩:Rf)∈refs u):(46:UInt8) ∉ (nm u i).data.toList:=path_one (name_in hC h).2.2
theorem c_plain {u:Unt} (hC:CkU u) {c:Cls} (hc:c∈u.classes):(46:UInt8) ∉ (nm u c.name).data.toList:=nm_plain hC (List.mem_append_left _ (List.mem_append_left _ (List.mem_flatMap.2 ⟨c,hc,by simp [cref]⟩)))
theorem s_plain {u:Unt} (hC:CkU u) {f:Fld} (hf:f∈u.statics):(46:UInt8) ∉ (nm u f.name).data.toList:=nm_plain hC (List.mem_append_left _ (List.mem_append_right _ (List.mem_flatMap.2 ⟨f,hf,by simp [fref]⟩)))
theorem m_plain {u:Unt} (hC:CkU u) {m:Mth} (hm:m∈u.methods):(46:UInt8) ∉ (nm u m.name).data.toList:=nm_plain hC (List.mem_append_right _ (List.mem_flatMap.2 ⟨m,hm,by simp [mref]⟩))
theorem heads_nodup {u:Unt} (hC:CkU u):(u.classes.map fun c=>nm u c.name).Nodup/\(u.statics.map fun f=>nm u f.name).Nodup/\((u.methods.filter fun m=>decide (m.cls = -1)).map fun m=>nm u m.name).Nodup/\(fulls u).Nodup:=by
 have hd:=hC.db
 simp only [doubled,Bool.or_eq_false_iff] at hd
 obtain ⟨⟨⟨_,_⟩,d3⟩,d4⟩:=hd
 have d3:=nodup_of_dup d3
 unfold heads at d3
 rw [List.nodup_append] at d3
 have d5:=d3.1
 rw [List.nodup_append] at d5
 exact ⟨d5.1,d5.2.1,d3.2.1,nodup_of_dup d4⟩
theorem Good.unit (h:Good us) {u v:Unt} (hu:u∈us) (hv:v∈us) (e:u.name=v.name):u=v:=nodup_inj h.du hu hv e
theorem cls_uni (h:Good us) (x y:Unt×Cls) (hx:InC us x) (hy:InC us y) (e:cpath x.1 x.2=cpath y.1 y.2):x=y:=by
 obtain ⟨u,c⟩:=x
 obtain ⟨v,d⟩:=y
 obtain ⟨e1,e2⟩:=dots_inj (c_plain (h.ck u hx.1) hx.2) (c_plain (h.ck v hy.1) hy.2) e
 obtain rfl:u=v:=h.unit hx.1 hy.1 e1
 exact congrArg (Prod.mk u) (nodup_inj (heads_nodup (h.ck u hx.1)).1 hx.2 hy.2 e2)
theorem sta_uni (h:Good us) (x y:Unt×Fld) (hx:InS us x) (hy:InS us y) (e:gpath x.1 x.2=gpath y.1 y.2):x=y:=by
 obtain ⟨u,c⟩:=x
 obtain ⟨v,d⟩:=y
 obtain ⟨e1,e2⟩:=dots_inj (s_plain (h.ck u hx.1) hx.2) (s_plain (h.ck v hy.1) hy.2) e
 obtain rfl:u=v:=h.unit hx.1 hy.1 e1
 exact congrArg (Prod.mk u) (nodup_inj (heads_nodup (h.ck u hx.1)).2.1 hx.2 hy.2 e2)
theorem mcls_neg {u:Unt} (hC:CkU u) {m:Mth} (hm:m∈u.methods):m.cls<0↔m.cls = -1:=by
 rcases (ixs_of hC).plc.mc m hm with h | h
 ·omega
 ·have:=h.1;omega
theorem cal_uni (h:Good us) (x y:Unt×Mth) (hx:InA us x) (hy:InA us y) (e:apath x.1 x.2=apath y.1 y.2):x=y:=by
 obtain ⟨u,c⟩:=x
 obtain ⟨v,d⟩:=y
 have hC:=h.ck u hx.1
 obtain ⟨e1,e2⟩:=dots_inj (m_plain hC hx.2.1) (m_plain (h.ck v hy.1) hy.2.1) e
 obtain rfl:u=v:=h.unit hx.1 hy.1 e1
 exact congrArg (Prod.mk u) (nodup_inj (heads_nodup hC).2.2.1 (List.mem_filter.2 ⟨hx.2.1,decide_eq_true ((mcls_neg hC hx.2.1).1 hx.2.2)⟩) (List.mem_filter.2 ⟨hy.2.1,decide_eq_true ((mcls_neg hC hy.2.1).1 hy.2.2)⟩) e2)
theorem pre_uni {a b s:List UInt8} (ha:(46:UInt8) ∉ a) (hb:(46:UInt8) ∉ b) (h1:(a++[46]) <+: s) (h2:(b++[46]) <+: s):a=b:=by
 obtain ⟨x,hx⟩:=h1
 obtain ⟨y,hy⟩:=h2
 have e:a++46::x=b++46::y:=by simpa using hx.trans hy.symm
 clear hx hy
 induction a generalizing b with
 | nil =>
  cases b with
  | nil=>rfl
  | cons c b =>
   simp only [List.nil_append,List.cons_append,List.cons.injEq] at e
   exact absurd (by rw [e.1];exact List.mem_cons_self ..) hb
 | cons d a ih =>
  cases b with
  | nil =>
   simp only [List.nil_append,List.cons_append,List.cons.injEq] at e
   exact absurd (by rw [<-e.1];exact List.mem_cons_self ..) ha
  | cons c b =>
   simp only [List.cons_append,List.cons.injEq] at e
   rw [e.1,ih (fun q=>ha (List.mem_cons_of_mem _ q)) (fun q=>hb (List.mem_cons_of_mem _ q)) e.2]
def PreE (us:List Unt):Prop:=∀ x,InE us x->preL x.1.name (nm x.1 x.2.cls)=true
theorem preE_of (h:definedL us (decl us)=true):PreE us:=fun x hx=>by
 unfold definedL at h
 have h1:=List.all_eq_true.1 h _ hx.1
 unfold defU at h1
 simp only [Bool.and_eq_true] at h1
 have h2:=List.all_eq_true.1 h1.2.2 _ hx.2.1
 unfold defM at h2
 simp only [Bool.and_eq_true,Bool.or_eq_true,decide_eq_true_eq] at h2
 exact (h2.1.resolve_left hx.2.2).2
theorem snd_uni (h:Good us) (hP:PreE us) (x y:Unt×Mth) (hx:InE us x) (hy:InE us y) (e:epath x.1 x.2=epath y.1 y.2):x=y:=by
 have p1:=hP x hx
 have p2:=hP y hy
 obtain ⟨u,c⟩:=x
 obtain ⟨v,d⟩:=y
 have hC:=h.ck u hx.1
 have hD:=h.ck v hy.1
 obtain ⟨e1,e2⟩:=dots_inj (m_plain hC hx.2.1) (m_plain hD hy.2.1) e
 have en:u.name=v.name:=by
  unfold preL at p1 p2
  simp only at p1 p2 e1
  rw [<-e1] at p2
  exact ba_ext (pre_uni (plain_of_simple hC.nm) (plain_of_simple hD.nm) (List.isPrefixOf_iff_prefix.1 p1) (List.isPrefixOf_iff_prefix.1 p2))
 obtain rfl:u=v:=h.unit hx.1 hy.1 en
 exact congrArg (Prod.mk u) (nodup_inj (heads_nodup hC).2.2.2 (List.mem_filter.2 ⟨hx.2.1,by simpa using fun q=>hx.2.2 ((mcls_neg hC hx.2.1).2 q)⟩) (List.mem_filter.2 ⟨hy.2.1,by simpa using fun q=>hy.2.2 ((mcls_neg hC hy.2.1).2 q)⟩) e)
theorem cls_iff (h:Good us) {p:ByteArray} {x:Unt×Cls}:clsOf us (decl us) p=some x↔InC us x/\p=cpath x.1 x.2:=by unfold clsOf;rw [decl_cls];exact gen_iff clsE_s clsE_c (cls_uni h)
end Go.Proofs.YtkmdfjpafkcleaaGreatDoor
namespace Go.Proofs.YtkmdfjpafkcleaaGreatDoor
open Eng Go.RowKit
variable {us us':List Unt}
section
variable (h:us.Perm us') (hG:Good us) (hP:PreE us)
include h hG
include hP
end
theorem keysS_nodup (us:List Unt):(keysM (decl us).statics).Nodup:=by rw [decl_sta];exact putAll_nodup List.nodup_nil
theorem keysN_nodup (us:List Unt):(keysM (decl us).named).Nodup:=by rw [decl_nmd];exact addAll_nodup List.nodup_nil
theorem unlike_iff (us:List Unt):unlikeL us (decl us)=false↔∀ z,∀ p∈(getM (decl us).named z).getD [],∀ q∈(getM (decl us).named z).getD [],sigD us (decl us) p=sigD us (decl us) q:=by
 unfold unlikeL
 rw [List.any_eq_false]
 constructor
 ·intro h z
  cases hg:getM (decl us).named z with
  | none=>intro p hp;cases hp
  | some l =>
   have h1:=h _ (getM_in hg)
   rw [Bool.not_eq_true,List.any_eq_false] at h1
   have key:∀ p∈l,sigD us (decl us) p=sigD us (decl us) (l.getD 0 nost):=fun p hp=>by
    have:=h1 p hp
    simpa using this
   exact fun p hp q hq=>(key p hp).trans (key q hq).symm
 ·intro h q hq
  rw [Bool.not_eq_true,List.any_eq_false]
  intro p hp
  have h1:=h q.1
  rw [in_get (keysN_nodup us) hq] at h1
  have hm:q.2.getD 0 nost∈q.2:=by
   cases hl:q.2 with
   | nil=>rw [hl] at hp;cases hp
   | cons x l=>exact List.mem_cons_self ..
  rw [h1 p hp _ hm];simp
theorem RunK.good (h:RunK us):Good us:=⟨h.ck,nodup_of_dup h.du⟩
end Go.Proofs.YtkmdfjpafkcleaaGreatDoor
namespace Go.Proofs.YtkmdfjpafkcleaaGreatDoor
open Eng Go.RowKit
theorem idxF_map {α β γ:Type} (f:β->γ) (l:List α) (e:α->Nat->List β):(idxF l e).map f=idxF l fun x k=>(e x k).map f:=by
 unfold idxF
 rw [List.map_flatMap]
theorem idxF_congr {α β:Type} {l:List α} {e e':α->Nat->List β} (h:∀ x k,l[k]? = some x->e x k=e' x k):idxF l e=idxF l e':=by
 unfold idxF
 refine flatMap_congr' fun q hq => ?_
 obtain ⟨x,k⟩:=q
 exact h x k (List.mem_zipIdx_iff_getElem?.1 hq)
theorem idxF_snoc {α β:Type} {l:List α} {e:α->Nat->List β} {k:Nat} {x:α} (h:l[k]? = some x):idxF (l.take (k+1)) e=idxF (l.take k) e++e x k:=by
 have hk:k<l.length:=(List.getElem?_eq_some_iff.1 h).1
 unfold idxF
 rw [take_succ_some h,List.zipIdx_append,List.flatMap_append]
 simp [List.length_take,Nat.min_eq_left (Nat.le_of_lt hk)]
theorem idxF_nil {α β:Type} {e:α->Nat->List β}:idxF [] e=[]:=rfl
def clsW (us:List Unt):List (Nat×Nat):=idxF us fun u n=>idxF u.classes fun _ k=>[(n,k)]
def staW (us:List Unt):List (Nat×Nat):=idxF us fun u n=>idxF u.statics fun _ k=>[(n,k)]
def mthW (us:List Unt):List (Nat×Nat):=idxF us fun u n=>idxF u.methods fun _ k=>[(n,k)]
def mpath (u:Unt) (m:Mth):ByteArray:=if m.cls<0 then apath u m else epath u m
def pthC (us:List Unt) (d:Nat×Nat):ByteArray:=match clsAt us d with
 | some (u,c)=>cpath u c
 | none=>nost
def pthS (us:List Unt) (d:Nat×Nat):ByteArray:=match staAt us d with
 | some (u,c)=>gpath u c
 | none=>nost
def pthM (us:List Unt) (d:Nat×Nat):ByteArray:=match mthAt us d with
 | some (u,c)=>mpath u c
 | none=>nost
theorem clsAt_mk {us:List Unt} {n k:Nat} {u:Unt} {c:Cls} (hu:us[n]? = some u) (hc:u.classes[k]? = some c):clsAt us (n,k)=some (u,c):=by unfold clsAt;simp [hu,hc]
theorem staAt_mk {us:List Unt} {n k:Nat} {u:Unt} {c:Fld} (hu:us[n]? = some u) (hc:u.statics[k]? = some c):staAt us (n,k)=some (u,c):=by unfold staAt;simp [hu,hc]
theorem mthAt_mk {us:List Unt} {n k:Nat} {u:Unt} {c:Mth} (hu:us[n]? = some u) (hc:u.methods[k]? = some c):mthAt us (n,k)=some (u,c):=by unfold mthAt;simp [hu,hc]
theorem clsAt_un {us:List Unt} {d:Nat×Nat} {u:Unt} {c:Cls} (h:clsAt us d=some (u,c)):us[d.1]? = some u/\u.classes[d.2]? = some c:=by
 unfold clsAt at h
 simp only [Option.bind_eq_some_iff,Option.map_eq_some_iff,Prod.mk.injEq] at h
 obtain ⟨u',hu,c',hc,rfl,rfl⟩:=h
 exact ⟨hu,hc⟩
theorem staAt_un {us:List Unt} {d:Nat×Nat} {u:Unt} {c:Fld} (h:staAt us d=some (u,c)):us[d.1]? = some u/\u.statics[d.2]? = some c:=by
 unfold staAt at h
 simp only [Option.bind_eq_some_iff,Option.map_eq_some_iff,Prod.mk.injEq] at h
 obtain ⟨u',hu,c',hc,rfl,rfl⟩:=h
 exact ⟨hu,hc⟩
theorem mthAt_un {us:List Unt} {d:Nat×Nat} {u:Unt} {c:Mth} (h:mthAt us d=some (u,c)):us[d.1]? = some u/\u.methods[d.2]? = some c:=by
 unfold mthAt at h
 simp only [Option.bind_eq_some_iff,Option.map_eq_some_iff,Prod.mk.injEq] at h
 obtain ⟨u',hu,c',hc,rfl,rfl⟩:=h
 exact ⟨hu,hc⟩
theorem mem_clsW {us:List Unt} {d:Nat×Nat}:d∈clsW us↔∃ x,clsAt us d=some x:=by
 unfold clsW
 rw [mem_idxF]
 constructor
 ·rintro ⟨u,n,hu,h⟩
  obtain ⟨c,k,hc,h⟩:=mem_idxF.1 h
  obtain rfl:=List.mem_singleton.1 h
  exact ⟨_,clsAt_mk hu hc⟩
 ·rintro ⟨⟨u,c⟩,h⟩
  obtain ⟨hu,hc⟩:=clsAt_un h
  exact ⟨u,d.1,hu,mem_idxF.2 ⟨c,d.2,hc,List.mem_singleton.2 rfl⟩⟩
theorem mem_staW {us:List Unt} {d:Nat×Nat}:d∈staW us↔∃ x,staAt us d=some x:=by
 unfold staW
 rw [mem_idxF]
 constructor
 ·rintro ⟨u,n,hu,h⟩
  obtain ⟨c,k,hc,h⟩:=mem_idxF.1 h
  obtain rfl:=List.mem_singleton.1 h
  exact ⟨_,staAt_mk hu hc⟩
 ·rintro ⟨⟨u,c⟩,h⟩
  obtain ⟨hu,hc⟩:=staAt_un h
  exact ⟨u,d.1,hu,mem_idxF.2 ⟨c,d.2,hc,List.mem_singleton.2 rfl⟩⟩
theorem mem_mthW {us:List Unt} {d:Nat×Nat}:d∈mthW us↔∃ x,mthAt us d=some x:=by
 unfold mthW
 rw [mem_idxF]
 constructor
 ·rintro ⟨u,n,hu,h⟩
  obtain ⟨c,k,hc,h⟩:=mem_idxF.1 h
  obtain rfl:=List.mem_singleton.1 h
  exact ⟨_,mthAt_mk hu hc⟩
 ·rintro ⟨⟨u,c⟩,h⟩
  obtain ⟨hu,hc⟩:=mthAt_un h
  exact ⟨u,d.1,hu,mem_idxF.2 ⟨c,d.2,hc,List.mem_singleton.2 rfl⟩⟩
theorem idxF_nodup {α β:Type} {e:α->Nat->List β}:∀ {l:List α},(∀ x k,l[k]? = some x->(e x k).Nodup)->(∀ x y j k z,j<k->l[j]? = some x->l[k]? = some y->z∈e x j->z ∉ e y k)->(idxF l e).Nodup:=by
 intro l h1 h2
 unfold idxF
 rw [List.nodup_iff_pairwise_ne,List.pairwise_flatMap]
 refine ⟨fun q hq=>by obtain ⟨x,k⟩:=q;exact h1 x k (List.mem_zipIdx_iff_getElem?.1 hq),?_⟩
 rw [List.pairwise_iff_getElem]
 intro i j hi hj hij
 rw [List.length_zipIdx] at hi hj
 simp only [List.getElem_zipIdx,Nat.zero_add]
 intro z hz z' hz' e
 subst e
 exact h2 _ _ i j z hij (List.getElem?_eq_getElem hi) (List.getElem?_eq_getElem hj) hz hz'
theorem placesW_nodup {α:Type} (us:List Unt) (g:Unt->List α):(idxF us fun u n=>idxF (g u) fun _ k=>[(n,k)]).Nodup:=by
 refine idxF_nodup (fun u n _=>idxF_nodup (fun _ _ _=>by simp) fun _ _ j k z hjk _ _ hz hz' => ?_) fun u v j k z hjk _ _ hz hz' => ?_
 ·obtain rfl:=List.mem_singleton.1 hz
  simp only [List.mem_singleton,Prod.mk.injEq] at hz'
  omega
 ·obtain ⟨_,_,_,h⟩:=mem_idxF.1 hz
  obtain rfl:=List.mem_singleton.1 h
  obtain ⟨_,_,_,h⟩:=mem_idxF.1 hz'
  simp only [List.mem_singleton,Prod.mk.injEq] at h
  omega
theorem clsW_nodup (us:List Unt):(clsW us).Nodup:=placesW_nodup us fun u=>u.classes
theorem staW_nodup (us:List Unt):(staW us).Nodup:=placesW_nodup us fun u=>u.statics
theorem mthW_nodup (us:List Unt):(mthW us).Nodup:=placesW_nodup us fun u=>u.methods
theorem clsE_eq (us:List Unt):clsE us=(clsW us).map fun d=>(pthC us d,d):=by
 unfold clsE clsW
 rw [idxF_map]
 refine idxF_congr fun u n hu => ?_
 rw [idxF_map]
 refine idxF_congr fun c k hc => ?_
 simp only [List.map_cons,List.map_nil,pthC,clsAt_mk hu hc]
theorem staE_eq (us:List Unt):staE us=(staW us).map fun d=>(pthS us d,d):=by
 unfold staE staW
 rw [idxF_map]
 refine idxF_congr fun u n hu => ?_
 rw [idxF_map]
 refine idxF_congr fun c k hc => ?_
 simp only [List.map_cons,List.map_nil,pthS,staAt_mk hu hc]
def sentB (us:List Unt) (d:Nat×Nat):Bool:=match mthAt us d with
 | some (_,m)=>decide (0<=m.cls)
 | none=>false
theorem filter_idxF {α β:Type} (p:β->Bool) (l:List α) (e:α->Nat->List β):(idxF l e).filter p=idxF l fun x k=>(e x k).filter p:=by
 unfold idxF
 rw [List.filter_flatMap]
theorem calE_eq (us:List Unt):calE us=((mthW us).filter fun d => !sentB us d).map fun d=>(pthM us d,d):=by
 unfold calE mthW
 rw [filter_idxF,idxF_map]
 refine idxF_congr fun u n hu => ?_
 rw [filter_idxF,idxF_map]
 refine idxF_congr fun c k hc => ?_
 by_cases h:c.cls<0
 ·rw [if_pos h,List.filter_cons_of_pos (by simp [sentB,mthAt_mk hu hc];omega)]
  simp only [List.filter_nil,List.map_cons,List.map_nil,pthM,mthAt_mk hu hc,mpath,if_pos h]
 ·rw [if_neg h,List.filter_cons_of_neg (by simp [sentB,mthAt_mk hu hc];omega)]
  rfl
theorem sndE_eq (us:List Unt):sndE us=((mthW us).filter fun d=>sentB us d).map fun d=>(pthM us d,d):=by
 unfold sndE mthW
 rw [filter_idxF,idxF_map]
 refine idxF_congr fun u n hu => ?_
 rw [filter_idxF,idxF_map]
 refine idxF_congr fun c k hc => ?_
 by_cases h:c.cls<0
 ·rw [if_pos h,List.filter_cons_of_neg (by simp [sentB,mthAt_mk hu hc];omega)]
  rfl
 ·rw [if_neg h,List.filter_cons_of_pos (by simp [sentB,mthAt_mk hu hc];omega)]
  simp only [List.filter_nil,List.map_cons,List.map_nil,pthM,mthAt_mk hu hc,mpath,if_neg h]
theorem putM_fresh {α:Type} {k:ByteArray} {v:α}:∀ {m:Mp α},k ∉ keysM m->putM m k v=m++[(k,v)]
 | [],_=>rfl
 | (k0,v0)::m,h=>by
  simp only [keysM,List.map_cons,List.mem_cons,not_or] at h
  simp only [putM,if_neg (Ne.symm h.1),List.cons_append]
  rw [putM_fresh (m:=m) h.2]
theorem putAll_fresh {α:Type}:∀ {E m:Mp α},(keysM (m++E)).Nodup->putAll m E=m++E
 | [],m,_=>by simp [putAll]
 | (k,v)::E,m,h=>by
  have hk:k ∉ keysM m:=fun q=>by
   simp only [keysM,List.map_append,List.map_cons,List.nodup_append,List.mem_cons] at h
   exact h.2.2 k q k (.inl rfl) rfl
  rw [show putAll m ((k,v)::E)=putAll (putM m k v) E from rfl,putM_fresh hk,putAll_fresh (by simpa using h),List.append_assoc];rfl
theorem getM_find {f:Nat×Nat->ByteArray} {p:ByteArray}:∀ (l:List (Nat×Nat)),getM (l.map fun d=>(f d,d)) p=l.find? fun d=>decide (f d=p)
 | []=>rfl
 | d::l=>by
  simp only [List.map_cons,getM]
  by_cases h:f d=p
  ·rw [if_pos h,List.find?_cons_of_pos (by simpa using h)]
  ·rw [if_neg h,List.find?_cons_of_neg (by simpa using h),getM_find l]
theorem nodup_at {α β:Type} {f:α->β} {l:List α} (h:(l.map f).Nodup) {i j:Nat} {x y:α} (hi:l[i]? = some x) (hj:l[j]? = some y) (e:f x=f y):i=j:=by
 have h1:(l.map f)[i]? = some (f x):=by rw [List.getElem?_map,hi];rfl
 have h2:(l.map f)[j]? = some (f x):=by rw [List.getElem?_map,hj,e];rfl
 obtain ⟨q1,e1⟩:=List.getElem?_eq_some_iff.1 h1
 obtain ⟨q2,e2⟩:=List.getElem?_eq_some_iff.1 h2
 exact (List.getElem?_inj q1 h).1 (h1.trans h2.symm)
theorem map_nodup {α β:Type} {f:α->β}:∀ {l:List α},l.Nodup->(∀ x∈l,∀ y∈l,f x=f y->x=y)->(l.map f).Nodup
 | [],_,_=>by simp
 | a::l,h,hi=>by
  rw [List.nodup_cons] at h
  rw [List.map_cons,List.nodup_cons]
  refine ⟨fun q => ?_,map_nodup h.2 fun x hx y hy=>hi x (List.mem_cons_of_mem _ hx) y (List.mem_cons_of_mem _ hy)⟩
  obtain ⟨y,hy,e⟩:=List.mem_map.1 q
  have:=hi y (List.mem_cons_of_mem _ hy) a (List.mem_cons_self ..) e
  subst this
  exact h.1 hy
variable {us:List Unt}
theorem pthC_at {d:Nat×Nat} {u:Unt} {c:Cls} (h:clsAt us d=some (u,c)):pthC us d=cpath u c:=by unfold pthC;rw [h]
theorem pthS_at {d:Nat×Nat} {u:Unt} {c:Fld} (h:staAt us d=some (u,c)):pthS us d=gpath u c:=by unfold pthS;rw [h]
theorem pthM_at {d:Nat×Nat} {u:Unt} {c:Mth} (h:mthAt us d=some (u,c)):pthM us d=mpath u c:=by unfold pthM;rw [h]
theorem sentB_at {d:Nat×Nat} {u:Unt} {c:Mth} (h:mthAt us d=some (u,c)):sentB us d=decide (0<=c.cls):=by unfold sentB;rw [h]
theorem Good.unitAt (h:Good us) {i j:Nat} {u:Unt} (hi:us[i]? = some u) (hj:us[j]? = some u):i=j:=nodup_at h.du hi hj rfl
theorem pthC_inj (h:Good us) {x y:Nat×Nat} (hx:x∈clsW us) (hy:y∈clsW us) (e:pthC us x=pthC us y):x=y:=by
 obtain ⟨⟨u,c⟩,a1⟩:=mem_clsW.1 hx
 obtain ⟨⟨v,d⟩,a2⟩:=mem_clsW.1 hy
 obtain ⟨h1,h2⟩:=clsAt_un a1
 obtain ⟨h3,h4⟩:=clsAt_un a2
 rw [pthC_at a1,pthC_at a2] at e
 have:=cls_uni h (u,c) (v,d) ⟨List.mem_of_getElem? h1,List.mem_of_getElem? h2⟩ ⟨List.mem_of_getElem? h3,List.mem_of_getElem? h4⟩ e
 obtain ⟨rfl,rfl⟩:=Prod.mk.inj this
 exact Prod.ext (h.unitAt h1 h3) (nodup_at (heads_nodup (h.ck u (List.mem_of_getElem? h1))).1 h2 h4 rfl)
theorem pthS_inj (h:Good us) {x y:Nat×Nat} (hx:x∈staW us) (hy:y∈staW us) (e:pthS us x=pthS us y):x=y:=by
 obtain ⟨⟨u,c⟩,a1⟩:=mem_staW.1 hx
 obtain ⟨⟨v,d⟩,a2⟩:=mem_staW.1 hy
 obtain ⟨h1,h2⟩:=staAt_un a1
 obtain ⟨h3,h4⟩:=staAt_un a2
 rw [pthS_at a1,pthS_at a2] at e
 have:=sta_uni h (u,c) (v,d) ⟨List.mem_of_getElem? h1,List.mem_of_getElem? h2⟩ ⟨List.mem_of_getElem? h3,List.mem_of_getElem? h4⟩ e
 obtain ⟨rfl,rfl⟩:=Prod.mk.inj this
 exact Prod.ext (h.unitAt h1 h3) (nodup_at (heads_nodup (h.ck u (List.mem_of_getElem? h1))).2.1 h2 h4 rfl)
theorem filter_at {α β:Type} {p:α->Bool} {f:α->β}:∀ {l:List α},((l.filter p).map f).Nodup->∀ {i j:Nat} {x y:α},l[i]? = some x->l[j]? = some y->p x=true->p y=true->f x=f y->i=j
 | [],_,i,_,_,_,hi,_,_,_,_=>by simp at hi
 | a::l,h,i,j,x,y,hi,hj,px,py,e=>by
  have hl:((l.filter p).map f).Nodup:=by
   by_cases pa:p a=true
   ·rw [List.filter_cons_of_pos pa,List.map_cons,List.nodup_cons] at h;exact h.2
   ·rw [List.filter_cons_of_neg pa] at h;exact h
  have out:∀ {k:Nat} {z:α},p a=true->l[k]? = some z->p z=true->f a≠f z:=fun pa hk pz q=>by
   rw [List.filter_cons_of_pos pa,List.map_cons,List.nodup_cons] at h
   exact h.1 (List.mem_map.2 ⟨_,List.mem_filter.2 ⟨List.mem_of_getElem? hk,pz⟩,q.symm⟩)
  cases i with
  | zero =>
   simp only [List.getElem?_cons_zero,Option.some.injEq] at hi
   subst hi
   cases j with
   | zero=>rfl
   | succ j=>rw [List.getElem?_cons_succ] at hj;exact absurd e (out px hj py)
  | succ i =>
   rw [List.getElem?_cons_succ] at hi
   cases j with
   | zero =>
    simp only [List.getElem?_cons_zero,Option.some.injEq] at hj
    subst hj
    exact absurd e.symm (out py hi px)
   | succ j =>
    rw [List.getElem?_cons_succ] at hj
    rw [filter_at hl hi hj px py e]
theorem mth_at {u:Unt} (hC:CkU u) {i j:Nat} {m m':Mth} (hi:u.methods[i]? = some m) (hj:u.methods[j]? = some m') (hs:(m.cls<0)↔(m'.cls<0)) (e:mpath u m=mpath u m'):i=j:=by
 have hm:=List.mem_of_getElem? hi
 have hm':=List.mem_of_getElem? hj
 unfold mpath at e
 by_cases h0:m.cls<0
 ·rw [if_pos h0,if_pos (hs.1 h0)] at e
  obtain ⟨_,e2⟩:=dots_inj (m_plain hC hm) (m_plain hC hm') e
  have hd:=(heads_nodup hC).2.2.1
  exact filter_at hd hi hj (decide_eq_true ((mcls_neg hC hm).1 h0)) (decide_eq_true ((mcls_neg hC hm').1 (hs.1 h0))) e2
 ·have h0':¬m'.cls<0:=fun q=>h0 (hs.2 q)
  rw [if_neg h0,if_neg h0'] at e
  have hd:=(heads_nodup hC).2.2.2
  unfold fulls at hd
  exact filter_at hd hi hj (by simpa using fun q=>h0 ((mcls_neg hC hm).2 q)) (by simpa using fun q=>h0' ((mcls_neg hC hm').2 q)) e
theorem pre_dot {n p:ByteArray} (h:preL n p=true):(46:UInt8)∈p.data.toList:=by
 unfold preL at h
 obtain ⟨x,hx⟩:=List.isPrefixOf_iff_prefix.1 h
 rw [<-hx];simp
theorem mpath_kind (h:Good us) (hP:PreE us) {u v:Unt} {m m':Mth} (hu:u∈us) (hv:v∈us) (hm:m∈u.methods) (hm':m'∈v.methods) (h0:m.cls<0) (h1:¬m'.cls<0):mpath u m≠mpath v m':=fun e=>by
 unfold mpath at e
 rw [if_pos h0,if_neg h1] at e
 obtain ⟨e1,_⟩:=dots_inj (m_plain (h.ck u hu) hm) (m_plain (h.ck v hv) hm') e
 have:=pre_dot (hP (v,m') ⟨hv,hm',h1⟩)
 rw [<-e1] at this
 exact plain_of_simple (h.ck u hu).nm this
theorem pthM_inj (h:Good us) (hP:PreE us) {x y:Nat×Nat} (hx:x∈mthW us) (hy:y∈mthW us) (e:pthM us x=pthM us y):x=y:=by
 obtain ⟨⟨u,c⟩,a1⟩:=mem_mthW.1 hx
 obtain ⟨⟨v,d⟩,a2⟩:=mem_mthW.1 hy
 obtain ⟨h1,h2⟩:=mthAt_un a1
 obtain ⟨h3,h4⟩:=mthAt_un a2
 have m1:=List.mem_of_getElem? h1
 have m2:=List.mem_of_getElem? h2
 have m3:=List.mem_of_getElem? h3
 have m4:=List.mem_of_getElem? h4
 rw [pthM_at a1,pthM_at a2] at e
 by_cases s1:c.cls<0
 ·by_cases s2:d.cls<0
  ·have e':=e
   unfold mpath at e'
   rw [if_pos s1,if_pos s2] at e'
   have:=cal_uni h (u,c) (v,d) ⟨m1,m2,s1⟩ ⟨m3,m4,s2⟩ e'
   obtain ⟨rfl,rfl⟩:=Prod.mk.inj this
   exact Prod.ext (h.unitAt h1 h3) (mth_at (h.ck u m1) h2 h4 (by simp) rfl)
  ·exact absurd e (mpath_kind h hP m1 m3 m2 m4 s1 s2)
 ·by_cases s2:d.cls<0
  ·exact absurd e.symm (mpath_kind h hP m3 m1 m4 m2 s2 s1)
  ·have e':=e
   unfold mpath at e'
   rw [if_neg s1,if_neg s2] at e'
   have:=snd_uni h hP (u,c) (v,d) ⟨m1,m2,s1⟩ ⟨m3,m4,s2⟩ e'
   obtain ⟨rfl,rfl⟩:=Prod.mk.inj this
   exact Prod.ext (h.unitAt h1 h3) (mth_at (h.ck u m1) h2 h4 (by simp) rfl)
theorem keysM_map {f:Nat×Nat->ByteArray} (l:List (Nat×Nat)):keysM (l.map fun d=>(f d,d))=l.map f:=by
 unfold keysM
 rw [List.map_map];rfl
theorem decl_clsW (h:Good us):(decl us).classes=(clsW us).map fun d=>(pthC us d,d):=by
 rw [decl_cls,clsE_eq]
 exact putAll_fresh (by rw [List.nil_append,keysM_map];exact map_nodup (clsW_nodup us) fun x hx y hy e=>pthC_inj h hx hy e)
theorem decl_staW (h:Good us):(decl us).statics=(staW us).map fun d=>(pthS us d,d):=by
 rw [decl_sta,staE_eq]
 exact putAll_fresh (by rw [List.nil_append,keysM_map];exact map_nodup (staW_nodup us) fun x hx y hy e=>pthS_inj h hx hy e)
theorem called_inj (h:Good us) {x y:Nat×Nat} (hx:x∈(mthW us).filter fun d => !sentB us d) (hy:y∈(mthW us).filter fun d => !sentB us d) (e:pthM us x=pthM us y):x=y:=by
 obtain ⟨hx,sx⟩:=List.mem_filter.1 hx
 obtain ⟨hy,sy⟩:=List.mem_filter.1 hy
 obtain ⟨⟨u,c⟩,a1⟩:=mem_mthW.1 hx
 obtain ⟨⟨v,d⟩,a2⟩:=mem_mthW.1 hy
 obtain ⟨h1,h2⟩:=mthAt_un a1
 obtain ⟨h3,h4⟩:=mthAt_un a2
 have m1:=List.mem_of_getElem? h1
 have m3:=List.mem_of_getElem? h3
 simp only [sentB_at a1,Bool.not_eq_true',decide_eq_false_iff_not] at sx
 simp only [sentB_at a2,Bool.not_eq_true',decide_eq_false_iff_not] at sy
 rw [pthM_at a1,pthM_at a2] at e
 unfold mpath at e
 rw [if_pos (by omega),if_pos (by omega)] at e
 have:=cal_uni h (u,c) (v,d) ⟨m1,List.mem_of_getElem? h2,by show c.cls<0;omega⟩ ⟨m3,List.mem_of_getElem? h4,by show d.cls<0;omega⟩ e
 obtain ⟨rfl,rfl⟩:=Prod.mk.inj this
 exact Prod.ext (h.unitAt h1 h3) (mth_at (h.ck u m1) h2 h4 (by simp) rfl)
theorem decl_calW (h:Good us):(decl us).calls=((mthW us).filter fun d => !sentB us d).map fun d=>(pthM us d,d):=by
 rw [decl_cal,calE_eq]
 exact putAll_fresh (by rw [List.nil_append,keysM_map];exact map_nodup ((mthW_nodup us).sublist List.filter_sublist) fun x hx y hy e=>called_inj h hx hy e)
theorem decl_sndW (h:Good us) (hP:PreE us):(decl us).sends=((mthW us).filter fun d=>sentB us d).map fun d=>(pthM us d,d):=by
 rw [decl_snd,sndE_eq]
 exact putAll_fresh (by rw [List.nil_append,keysM_map];exact map_nodup ((mthW_nodup us).sublist List.filter_sublist) fun x hx y hy e=>pthM_inj h hP (List.mem_filter.1 hx).1 (List.mem_filter.1 hy).1 e)
theorem get_clsW (h:Good us) (p:ByteArray):getM (decl us).classes p=(clsW us).find? fun d=>decide (pthC us d=p):=by rw [decl_clsW h,getM_find]
theorem get_staW (h:Good us) (p:ByteArray):getM (decl us).statics p=(staW us).find? fun d=>decide (pthS us d=p):=by rw [decl_staW h,getM_find]
theorem get_calW (h:Good us) (p:ByteArray):getM (decl us).calls p=((mthW us).filter fun d => !sentB us d).find? fun d=>decide (pthM us d=p):=by rw [decl_calW h,getM_find]
theorem nmd_W (z:ByteArray):(getM (decl us).named z).getD []=((mthW us).filter fun d=>sentB us d&&decide (((mthAt us d).map fun x=>nm x.1 x.2.name)=some z)).map (pthM us):=by
 rw [get_nmd]
 unfold nmdE mthW
 rw [filter_idxF,idxF_map]
 have fz:∀ {α β:Type} (l:List α) (e:α->List β),l.flatMap e=idxF l fun x _=>e x:=fun l e=>by
  unfold idxF
  have:l.zipIdx.map (·.1)=l:=List.zipIdx_map_fst 0 l
  conv=>lhs;rw [<-this,List.flatMap_map]
 rw [fz,filter_idxF,idxF_map]
 refine idxF_congr fun u n hu => ?_
 rw [fz,filter_idxF,filter_idxF,idxF_map,idxF_map]
 refine idxF_congr fun m k hm => ?_
 by_cases h:m.cls<0
 ·rw [if_pos h,List.filter_cons_of_neg (by simp [sentB,mthAt_mk hu hm];omega)]
  rfl
 ·rw [if_neg h]
  by_cases e:nm u m.name=z
  ·rw [List.filter_cons_of_pos (by simpa using e),List.filter_cons_of_pos (by simp [sentB,mthAt_mk hu hm,e];omega)]
   simp only [List.filter_nil,List.map_cons,List.map_nil,pthM,mthAt_mk hu hm,mpath,if_neg h]
  ·rw [List.filter_cons_of_neg (by simpa using e),List.filter_cons_of_neg (by simp [mthAt_mk hu hm,e])]
   rfl
end Go.Proofs.YtkmdfjpafkcleaaGreatDoor
namespace Go.Proofs.YtkmdfjpafkcleaaGreatDoor
open Eng Go.RowKit
theorem strict_eqL:∀ {a b:List (List UInt8)},a.Pairwise (· < ·)->b.Pairwise (· < ·)->(∀ x,x∈a↔x∈b)->a=b
 | [],[],_,_,_=>rfl
 | [],y::b,_,_,h=>absurd ((h y).2 (List.mem_cons_self ..)) (by simp)
 | x::a,[],_,_,h=>absurd ((h x).1 (List.mem_cons_self ..)) (by simp)
 | x::a,y::b,ha,hb,h=>by
  rw [List.pairwise_cons] at ha hb
  have exy:x=y:=by
   have h1:=(h x).1 (List.mem_cons_self ..)
   have h2:=(h y).2 (List.mem_cons_self ..)
   rcases List.mem_cons.1 h1 with e | h1
   ·exact e
   rcases List.mem_cons.1 h2 with e | h2
   ·exact e.symm
   exact absurd (List.lt_trans (ha.1 y h2) (hb.1 x h1)) (List.lt_irrefl x)
  subst exy
  rw [strict_eqL ha.2 hb.2 fun z => ?_]
  constructor
  ·intro hz
   rcases List.mem_cons.1 ((h z).1 (List.mem_cons_of_mem _ hz)) with e | q
   ·subst e;exact absurd (ha.1 z hz) (List.lt_irrefl z)
   ·exact q
  ·intro hz
   rcases List.mem_cons.1 ((h z).2 (List.mem_cons_of_mem _ hz)) with e | q
   ·subst e;exact absurd (hb.1 z hz) (List.lt_irrefl z)
   ·exact q
theorem ascB_eq {a b:List ByteArray} (ha:(a.map toL).Pairwise (· < ·)) (hb:(b.map toL).Pairwise (· < ·)) (h:∀ x,x∈a↔x∈b):a=b:=by
 have:a.map toL=b.map toL:=strict_eqL ha hb fun x=>by
  simp only [List.mem_map]
  exact ⟨fun ⟨s,hs,e⟩=>⟨s,(h s).1 hs,e⟩,fun ⟨s,hs,e⟩=>⟨s,(h s).2 hs,e⟩⟩
 exact (List.map_inj_right fun x y e=>ba_ext e).1 this
theorem lt_of_le_ne {x y:List UInt8} (h:x<=y) (hne:x≠y):x<y:=by
 rcases Classical.em (x<y) with q | q
 ·exact q
 ·exact absurd (List.le_antisymm h (List.not_lt.1 q)) hne
theorem sortL_asc {l:List ByteArray} (h:l.Nodup):((sortL l).map toL).Pairwise (· < ·):=by
 unfold sortL
 rw [List.map_map]
 have e:(toL ∘ ofL)=id:=funext fun x=>toL_ofL x
 rw [e,List.map_id]
 have hn:((l.map fun s=>s.data.toList).mergeSort fun x y=>decide (x<=y)).Nodup:=by
  rw [List.Perm.nodup_iff (List.mergeSort_perm _ _)]
  exact map_nodup h fun x _ y _ e=>ba_ext e
 exact (List.pairwise_and_iff.2 ⟨sorted_le _,hn⟩).imp fun q=>lt_of_le_ne q.1 q.2
theorem mem_sortL {l:List ByteArray} {p:ByteArray}:p∈sortL l↔p∈l:=(sortL_perm' l).mem_iff
section
variable {α:Type} {W:List α} {pth:α->ByteArray} {nd:α->List α} {needs:ByteArray->List ByteArray}
def rdyB [DecidableEq α] (nd:α->List α) (out:List α) (x:α):Bool := !decide (x∈out)&&(nd x).all fun y=>decide (y∈out)
def BestOf (W:List α) (pth:α->ByteArray) (rdy:α->Bool) (k:Nat) (best:Int):Prop :=
 (best = -1/\∀ i x,i<k->W[i]? = some x->rdy x=false) ∨
 ∃ (m:Nat) (x:α),best=m/\m<k/\W[m]? = some x/\rdy x=true/\∀ i y,i<k->W[i]? = some y->rdy y=true->¬toL (pth y)<toL (pth x)
theorem best_zero {rdy:α->Bool}:BestOf W pth rdy 0 (-1) := .inl ⟨rfl,fun i x h=>by omega⟩
theorem best_not {rdy:α->Bool} {k:Nat} {best:Int} {x:α} (h:BestOf W pth rdy k best) (hx:W[k]? = some x) (hr:rdy x=false):BestOf W pth rdy (k+1) best:=by
 rcases h with ⟨h1,h2⟩ | ⟨m,y,h1,h2,h3,h4,h5⟩
 ·refine .inl ⟨h1,fun i z hi hz => ?_⟩
  rcases Nat.lt_or_ge i k with q | q
  ·exact h2 i z q hz
  ·obtain rfl:i=k:=by omega
   rw [hx] at hz;obtain rfl:=Option.some.inj hz;exact hr
 ·refine .inr ⟨m,y,h1,by omega,h3,h4,fun i z hi hz hz2 => ?_⟩
  rcases Nat.lt_or_ge i k with q | q
  ·exact h5 i z q hz hz2
  ·obtain rfl:i=k:=by omega
   rw [hx] at hz;obtain rfl:=Option.some.inj hz;rw [hr] at hz2;cases hz2
theorem best_first {rdy:α->Bool} {k:Nat} {best:Int} {x:α} (h:BestOf W pth rdy k best) (hx:W[k]? = some x) (hr:rdy x=true) (hb:best<0):BestOf W pth rdy (k+1) k:=by
 rcases h with ⟨h1,h2⟩ | ⟨m,y,h1,h2,h3,h4,h5⟩
 ·refine .inr ⟨k,x,rfl,by omega,hx,hr,fun i z hi hz hz2 => ?_⟩
  rcases Nat.lt_or_ge i k with q | q
  ·rw [h2 i z q hz] at hz2;cases hz2
  ·obtain rfl:i=k:=by omega
   rw [hx] at hz;obtain rfl:=Option.some.inj hz;exact List.lt_irrefl _
 ·omega
theorem best_less {rdy:α->Bool} {k m:Nat} {best:Int} {x y:α} (h:BestOf W pth rdy k best) (hx:W[k]? = some x) (hr:rdy x=true) (hb:best=m) (hy:W[m]? = some y) (hl:toL (pth x)<toL (pth y)):BestOf W pth rdy (k+1) k:=by
 rcases h with ⟨h1,h2⟩ | ⟨m',y',h1,h2,h3,h4,h5⟩
 ·omega
 ·obtain rfl:m'=m:=by omega
  rw [h3] at hy;obtain rfl:=Option.some.inj hy
  refine .inr ⟨k,x,rfl,by omega,hx,hr,fun i z hi hz hz2 q => ?_⟩
  rcases Nat.lt_or_ge i k with p | p
  ·exact h5 i z p hz hz2 (List.lt_trans q hl)
  ·obtain rfl:i=k:=by omega
   rw [hx] at hz;obtain rfl:=Option.some.inj hz;exact List.lt_irrefl _ q
theorem best_more {rdy:α->Bool} {k m:Nat} {best:Int} {x y:α} (h:BestOf W pth rdy k best) (hx:W[k]? = some x) (hb:best=m) (hy:W[m]? = some y) (hl:¬toL (pth x)<toL (pth y)):BestOf W pth rdy (k+1) best:=by
 rcases h with ⟨h1,h2⟩ | ⟨m',y',h1,h2,h3,h4,h5⟩
 ·omega
 ·obtain rfl:m'=m:=by omega
  rw [h3] at hy;obtain rfl:=Option.some.inj hy
  refine .inr ⟨m',y',h1,by omega,h3,h4,fun i z hi hz hz2 => ?_⟩
  rcases Nat.lt_or_ge i k with p | p
  ·exact h5 i z p hz hz2
  ·obtain rfl:i=k:=by omega
   rw [hx] at hz;obtain rfl:=Option.some.inj hz;exact hl
structure PlSt (W:List α) (pth:α->ByteArray) (left:List ByteArray) (out:List α):Prop where
 asc:(left.map toL).Pairwise (· < ·)
 mem:∀ p,p∈left↔∃ x∈W,x ∉ out/\pth x=p
 sub:∀ x∈out,x∈W
 nd:out.Nodup
 len:left.length+out.length=W.length
structure PlOk (W:List α) (pth:α->ByteArray) (nd:α->List α) (needs:ByteArray->List ByteArray):Prop where
 inj:∀ x∈W,∀ y∈W,pth x=pth y->x=y
 nw:W.Nodup
 nee:∀ x∈W,needs (pth x)=(nd x).map pth
 ndW:∀ x∈W,∀ y∈nd x,y∈W
theorem pl_start (H:PlOk W pth nd needs) {names:List ByteArray} (hp:names.Perm (W.map pth)):PlSt W pth (sortL names) []/\orderL needs names=placeL needs (sortL names).length (sortL names) (([]:List α).map pth):=by
 have hn:names.Nodup:=hp.nodup_iff.2 (map_nodup H.nw H.inj)
 refine ⟨⟨sortL_asc hn,fun p => ?_,(fun _ h=>by cases h),List.nodup_nil,?_⟩,?_⟩
 ·rw [mem_sortL,hp.mem_iff,List.mem_map]
  exact ⟨fun ⟨x,hx,e⟩=>⟨x,hx,by simp,e⟩,fun ⟨x,hx,_,e⟩=>⟨x,hx,e⟩⟩
 ·rw [sortL_len,hp.length_eq,List.length_map];rfl
 ·unfold orderL
  rw [sortL_len];rfl
theorem pl_need [DecidableEq α] (H:PlOk W pth nd needs) {out:List α} (hs:∀ x∈out,x∈W) {x:α} (hx:x∈W):((needs (pth x)).all fun y=>hasB (out.map pth) y)=(nd x).all fun y=>decide (y∈out):=by
 rw [H.nee x hx,List.all_map,Bool.eq_iff_iff,List.all_eq_true,List.all_eq_true]
 refine forall_congr' fun y=>forall_congr' fun hy => ?_
 rw [decide_eq_true_eq]
 show hasB (out.map pth) (pth y)=true↔_
 rw [hasB_iff,List.mem_map]
 constructor
 ·rintro ⟨z,hz,e⟩
  rw [<-H.inj z (hs z hz) y (H.ndW x hx y hy) e];exact hz
 ·exact fun h=>⟨y,h,rfl⟩
theorem pl_none [DecidableEq α] (H:PlOk W pth nd needs) {left:List ByteArray} {out:List α} (P:PlSt W pth left out) (hl:out.length<W.length) (hb:BestOf W pth (rdyB nd out) W.length (-1)):placeL needs left.length left (out.map pth)=none:=by
 have hlen:=P.len
 obtain ⟨n,hn⟩:∃ n,left.length=n+1:=⟨left.length-1,by omega⟩
 rw [hn]
 simp only [placeL]
 have:(left.findIdx? fun x=>(needs x).all fun y=>hasB (out.map pth) y)=none:=by
  rw [List.findIdx?_eq_none_iff]
  intro p hp
  obtain ⟨x,hx,ho,rfl⟩:=(P.mem p).1 hp
  rw [pl_need H P.sub hx]
  rcases hb with ⟨_,h2⟩ | ⟨m,y,h1,_⟩
  ·obtain ⟨i,hi⟩:=List.mem_iff_getElem?.1 hx
   have:=h2 i x (List.getElem?_eq_some_iff.1 hi).1 hi
   unfold rdyB at this
   simpa [ho] using this
  ·omega
 rw [this]
theorem pl_some [DecidableEq α] (H:PlOk W pth nd needs) {left:List ByteArray} {out:List α} (P:PlSt W pth left out) {m:Nat} {x:α} (hx:W[m]? = some x) (hb:BestOf W pth (rdyB nd out) W.length m) :
  ∃ left',PlSt W pth left' (out++[x])/\placeL needs left.length left (out.map pth)=placeL needs left'.length left' ((out++[x]).map pth):=by
 rcases hb with ⟨h1,_⟩ | ⟨m',y,h1,h2,h3,h4,h5⟩
 ·omega
 obtain rfl:m=m':=by omega
 rw [hx] at h3;obtain rfl:=Option.some.inj h3
 have hxW:=List.mem_of_getElem? hx
 unfold rdyB at h4
 simp only [Bool.and_eq_true,Bool.not_eq_true',decide_eq_false_iff_not] at h4
 have hpl:pth x∈left:=(P.mem _).2 ⟨x,hxW,h4.1,rfl⟩
 obtain ⟨k,hk,hkx⟩:=List.mem_iff_getElem.1 hpl
 have hasc:=P.asc
 have hlt:∀ i j (hi:i<left.length) (hj:j<left.length),i<j->toL left[i]<toL left[j]:=fun i j hi hj hij=>by
  have:=List.pairwise_iff_getElem.1 hasc i j (by simpa using hi) (by simpa using hj) hij
  simpa using this
 have hf:(left.findIdx? fun x=>(needs x).all fun y=>hasB (out.map pth) y)=some k:=by
  rw [List.findIdx?_eq_some_iff_getElem]
  refine ⟨hk,by rw [hkx,pl_need H P.sub hxW];exact h4.2,fun j hj => ?_⟩
  have hjl:j<left.length:=by omega
  obtain ⟨z,hz,ho,e⟩:=(P.mem left[j]).1 (List.getElem_mem hjl)
  rw [<-e,pl_need H P.sub hz]
  intro q
  obtain ⟨i,hi⟩:=List.mem_iff_getElem?.1 hz
  refine h5 i z (List.getElem?_eq_some_iff.1 hi).1 hi (by unfold rdyB;simp [ho];simpa using q) ?_
  have:=hlt j k hjl hk hj
  rw [hkx,<-e] at this
  exact this
 have hlen:=P.len
 have hn:left.length=left.length-1+1:=by omega
 have he:left.eraseIdx k=left.take k++left.drop (k+1):=List.eraseIdx_eq_take_drop_succ left k
 have hall:left=left.take k++pth x::left.drop (k+1):=by
  conv=>lhs;rw [<-List.take_append_drop k left,List.drop_eq_getElem_cons hk,hkx]
 have hno:∀ p,p∈left.eraseIdx k↔p∈left/\p≠pth x:=fun p=>by
  rw [he]
  have hnd:(left.map toL).Nodup:=hasc.imp fun q e=>by rw [e] at q;exact List.lt_irrefl _ q
  have hnd:left.Nodup:=by
   rw [List.nodup_iff_pairwise_ne] at hnd ⊢
   rw [List.pairwise_map] at hnd
   exact hnd.imp fun q e=>q (by rw [e])
  rw [hall] at hnd
  have hnd:=(List.perm_middle.nodup_iff).1 hnd
  rw [List.nodup_cons] at hnd
  conv=>rhs;rw [hall]
  simp only [List.mem_append,List.mem_cons]
  constructor
  ·intro q
   refine ⟨q.imp_right .inr,?_⟩
   rintro rfl
   exact hnd.1 (List.mem_append.2 q)
  ·rintro ⟨q | q | q,e⟩
   ·exact .inl q
   ·exact absurd q e
   ·exact .inr q
 refine ⟨left.eraseIdx k,⟨?_,fun p => ?_,fun z hz => ?_,?_,?_⟩,?_⟩
 ·rw [he]
  refine List.Pairwise.sublist ?_ hasc
  refine List.Sublist.map _ ?_
  conv=>rhs;rw [hall]
  exact List.Sublist.append (List.Sublist.refl _) (List.sublist_cons_self ..)
 ·rw [hno,P.mem]
  constructor
  ·rintro ⟨⟨z,hz,ho,rfl⟩,hne⟩
   exact ⟨z,hz,by simp only [List.mem_append,List.mem_singleton,not_or];exact ⟨ho,fun e=>hne (by rw [e])⟩,rfl⟩
  ·rintro ⟨z,hz,ho,rfl⟩
   simp only [List.mem_append,List.mem_singleton,not_or] at ho
   exact ⟨⟨z,hz,ho.1,rfl⟩,fun e=>ho.2 (H.inj z hz x hxW e)⟩
 ·rcases List.mem_append.1 hz with q | q
  ·exact P.sub z q
  ·obtain rfl:=List.mem_singleton.1 q;exact hxW
 ·rw [List.nodup_append]
  refine ⟨P.nd,by simp,fun a ha b hb e => ?_⟩
  obtain rfl:=List.mem_singleton.1 hb
  subst e
  exact h4.1 ha
 ·rw [List.length_eraseIdx_of_lt hk,List.length_append,List.length_singleton];omega
 ·rw [List.length_eraseIdx_of_lt hk]
  conv=>lhs;rw [hn]
  simp only [placeL]
  rw [hf]
  simp only
  rw [List.getD_eq_getElem?_getD,List.getElem?_eq_getElem hk,Option.getD_some,hkx,List.map_append];rfl
theorem pl_end {left:List ByteArray} {out:List α} (P:PlSt W pth left out) (hl:¬out.length<W.length):placeL needs left.length left (out.map pth)=some (out.map pth):=by
 have:=P.len
 rw [show left.length=0 by omega]
 rfl
end
end Go.Proofs.YtkmdfjpafkcleaaGreatDoor
namespace Go.Proofs.YtkmdfjpafkcleaaGreatDoor
open Eng Go.RowKit
def tyP (u:Unt) (t:Ty):Prop:=(tcls t=true/\inP u t.cls)∨(tcls t=false/\t.cls = -1)
theorem tyP.neg {u:Unt} {t:Ty} (h:tyP u t):t.cls<0↔tcls t=false:=by
 rcases h with ⟨h1,h2⟩ | ⟨h1,h2⟩
 ·rw [h1];have:=h2.1;simp;omega
 ·rw [h1];simp;omega
theorem ty_of {u:Unt} (hC:CkU u) {t:Ty} (h:typed t∈refs u) (hb:bare t=true):tyP u t:=by
 unfold bare at hb
 simp only [Bool.or_eq_true,decide_eq_true_eq] at hb
 cases hk:tcls t with
 | true =>
  rcases ref_in hC h with ⟨q,q2⟩ | ⟨q1,q2,_⟩
  ·unfold typed at q2;rw [hk] at q2;cases q2
  ·exact .inl ⟨hk,q1,q2⟩
 | false=>exact .inr ⟨hk,hb.resolve_left (by rw [hk];decide)⟩
structure TyU (u:Unt):Prop where
 f:∀ c∈u.classes,∀ f∈c.fields,tyP u f.ty
 s:∀ f∈u.statics,tyP u f.ty
 p:∀ m∈u.methods,∀ t∈m.params,tyP u t
 l:∀ m∈u.methods,∀ t∈m.locals,tyP u t
 r:∀ m∈u.methods,tyP u m.result
theorem tyU_of {u:Unt} (hC:CkU u):TyU u:=by
 have hb:=hC.cl
 simp only [classless,Bool.and_eq_true,List.all_eq_true] at hb
 obtain ⟨⟨h1,h2⟩,h3⟩:=hb
 have mc:∀ c∈u.classes,∀ r∈cref c,r∈refs u:=fun c hc r hr=>List.mem_append_left _ (List.mem_append_left _ (List.mem_flatMap.2 ⟨c,hc,hr⟩))
 have ms:∀ f∈u.statics,∀ r∈fref f,r∈refs u:=fun c hc r hr=>List.mem_append_left _ (List.mem_append_right _ (List.mem_flatMap.2 ⟨c,hc,hr⟩))
 have mm:∀ m∈u.methods,∀ r∈mref m,r∈refs u:=fun c hc r hr=>List.mem_append_right _ (List.mem_flatMap.2 ⟨c,hc,hr⟩)
 have hm:∀ m∈u.methods,bare m.result=true/\(∀ t∈m.params,bare t=true)/\∀ t∈m.locals,bare t=true:=fun m h=>by
  have:=h3 m h
  simp only [bmth,Bool.and_eq_true,List.all_eq_true] at this
  exact ⟨this.1.1,this.1.2,this.2⟩
 refine ⟨fun c hc f hf=>ty_of hC (mc c hc _ ?_) ?_,fun f hf=>ty_of hC (ms f hf _ (by simp [fref])) (h2 f hf),fun m h t ht=>ty_of hC (mm m h _ ?_) ((hm m h).2.1 t ht),fun m h t ht=>ty_of hC (mm m h _ ?_) ((hm m h).2.2 t ht),fun m h=>ty_of hC (mm m h _ (by simp [mref])) (hm m h).1⟩
 ·simp only [cref,List.mem_append,List.mem_flatMap]
  exact .inr ⟨f,hf,by simp [fref]⟩
 ·have:=h1 c hc
  simp only [bcls,List.all_eq_true] at this
  exact this f hf
 ·simp only [mref,List.mem_append,List.mem_map]
  exact .inl (.inl (.inr ⟨t,ht,rfl⟩))
 ·simp only [mref,List.mem_append,List.mem_map]
  exact .inl (.inr ⟨t,ht,rfl⟩)
theorem isType_tcls {D:Dcl} {u:Unt} {t:Ty} (h:tyP u t):isTypeL D u t=if tcls t=true then hasM D.classes (nm u t.cls) else true:=by
 unfold isTypeL
 cases hk:tcls t with
 | true =>
  rw [if_pos rfl,decide_eq_false (by rw [h.neg,hk];decide)];rfl
 | false=>rw [if_neg (by decide),decide_eq_true (h.neg.2 hk)];rfl
variable {us:List Unt}
theorem get_cls_at (h:Good us) {p:ByteArray} {d:Nat×Nat} (hg:getM (decl us).classes p=some d):d∈clsW us/\pthC us d=p:=by
 rw [get_clsW h] at hg
 exact ⟨List.mem_of_find?_eq_some hg,by simpa using List.find?_some hg⟩
theorem get_cls_of (h:Good us) {d:Nat×Nat} (hd:d∈clsW us):getM (decl us).classes (pthC us d)=some d:=by
 rw [get_clsW h]
 cases hf:(clsW us).find? fun e=>decide (pthC us e=pthC us d) with
 | none =>
  have:=List.find?_eq_none.1 hf d hd
  simp at this
 | some e =>
  rw [pthC_inj h (List.mem_of_find?_eq_some hf) hd (by simpa using List.find?_some hf)]
theorem get_sta_of (h:Good us) {d:Nat×Nat} (hd:d∈staW us):getM (decl us).statics (pthS us d)=some d:=by
 rw [get_staW h]
 cases hf:(staW us).find? fun e=>decide (pthS us e=pthS us d) with
 | none =>
  have:=List.find?_eq_none.1 hf d hd
  simp at this
 | some e =>
  rw [pthS_inj h (List.mem_of_find?_eq_some hf) hd (by simpa using List.find?_some hf)]
theorem get_cal_at (h:Good us) {p:ByteArray} {d:Nat×Nat} (hg:getM (decl us).calls p=some d):d∈mthW us/\sentB us d=false/\pthM us d=p:=by
 rw [get_calW h] at hg
 have hm:=List.mem_filter.1 (List.mem_of_find?_eq_some hg)
 exact ⟨hm.1,by simpa using hm.2,by simpa using List.find?_some hg⟩
theorem get_cal_of (h:Good us) {d:Nat×Nat} (hd:d∈mthW us) (hs:sentB us d=false):getM (decl us).calls (pthM us d)=some d:=by
 rw [get_calW h]
 have hm:d∈(mthW us).filter fun d => !sentB us d:=List.mem_filter.2 ⟨hd,by simpa using hs⟩
 cases hf:((mthW us).filter fun d => !sentB us d).find? fun e=>decide (pthM us e=pthM us d) with
 | none =>
  have:=List.find?_eq_none.1 hf d hm
  simp at this
 | some e =>
  rw [called_inj h (List.mem_of_find?_eq_some hf) hm (by simpa using List.find?_some hf)]
theorem get_snd_of (h:Good us) (hP:PreE us) {d:Nat×Nat} (hd:d∈mthW us) (hs:sentB us d=true):getM (decl us).sends (pthM us d)=some d:=by
 rw [decl_sndW h hP,getM_find]
 have hm:d∈(mthW us).filter fun d=>sentB us d:=List.mem_filter.2 ⟨hd,by simpa using hs⟩
 cases hf:((mthW us).filter fun d=>sentB us d).find? fun e=>decide (pthM us e=pthM us d) with
 | none =>
  have:=List.find?_eq_none.1 hf d hm
  simp at this
 | some e =>
  rw [pthM_inj h hP (List.mem_filter.1 (List.mem_of_find?_eq_some hf)).1 hd (by simpa using List.find?_some hf)]
theorem pre_path (u:Unt) (s:ByteArray):preL u.name (dots u.name s)=true:=by
 unfold preL
 rw [toL_dots]
 exact List.isPrefixOf_iff_prefix.2 ⟨s.data.toList,by simp⟩
theorem unit_pre (h:Good us) {k:Nat} {u:Unt} (hu:us[k]? = some u) {p:ByteArray} {d:Nat×Nat} (hg:getM (decl us).classes p=some d):d.1=k↔preL u.name p=true:=by
 obtain ⟨hd,hp⟩:=get_cls_at h hg
 obtain ⟨⟨v,c⟩,ha⟩:=mem_clsW.1 hd
 obtain ⟨hv,hc⟩:=clsAt_un ha
 rw [pthC_at ha] at hp
 constructor
 ·rintro rfl
  rw [hu] at hv
  obtain rfl:=Option.some.inj hv
  rw [<-hp]
  exact pre_path u _
 ·intro q
  have q2:preL v.name p=true:=by rw [<-hp];exact pre_path v _
  have hum:=List.mem_of_getElem? hu
  have hvm:=List.mem_of_getElem? hv
  unfold preL at q q2
  have en:v.name=u.name:=ba_ext (pre_uni (plain_of_simple (h.ck v hvm).nm) (plain_of_simple (h.ck u hum).nm) (List.isPrefixOf_iff_prefix.1 q2) (List.isPrefixOf_iff_prefix.1 q))
  obtain rfl:=h.unit hvm hum en
  exact h.unitAt hv hu
def tpth (u:Unt) (t:Ty):ByteArray:=if tcls t=true then nm u t.cls else nost
def likeT (u v:Unt) (t s:Ty):Bool:=decide (t.kind=s.kind)&&decide (tpth u t=tpth v s)
def likeL (u v:Unt) (a b:List Ty):Bool:=decide (a.length=b.length)&&(a.zip b).all fun q=>likeT u v q.1 q.2
theorem mem_cutDot:∀ {l:List UInt8} {c:UInt8},c∈l->c=46∨∃ p∈cutDot l,c∈p
 | [],_,h=>by cases h
 | b::r,c,h=>by
  simp only [cutDot]
  by_cases hb:b=46
  ·rw [if_pos hb]
   rcases List.mem_cons.1 h with rfl | h
   ·exact .inl hb
   ·rcases mem_cutDot h with q | ⟨p,hp,hc⟩
    ·exact .inl q
    ·exact .inr ⟨p,List.mem_cons_of_mem _ hp,hc⟩
  ·rw [if_neg hb]
   cases hr:cutDot r with
   | nil=>exact absurd hr (cutDot_ne r)
   | cons x xs =>
    simp only
    rcases List.mem_cons.1 h with rfl | h
    ·exact .inr ⟨_,List.mem_cons_self ..,List.mem_cons_self ..⟩
    ·rcases mem_cutDot h with q | ⟨p,hp,hc⟩
     ·exact .inl q
     ·rw [hr] at hp
      rcases List.mem_cons.1 hp with rfl | hp
      ·exact .inr ⟨_,List.mem_cons_self ..,List.mem_cons_of_mem _ hc⟩
      ·exact .inr ⟨p,List.mem_cons_of_mem _ hp,hc⟩
theorem path_nocomma {s:ByteArray} (h:¬(path s:Int)=0):(44:UInt8) ∉ s.data.toList:=fun h44=>by
 unfold path pathL at h
 split at h
 ·rename_i hc
  rcases mem_cutDot h44 with q | ⟨p,hp,hm⟩
  ·revert q;decide
  ·have h1:=List.all_eq_true.1 hc.2 p hp
   unfold simpleL at h1
   simp only [Bool.and_eq_true] at h1
   have:=List.all_eq_true.1 h1.2 _ hm
   revert this;decide
 ·exact h rfl
theorem nm_nocomma {u:Unt} (hC:CkU u) {i:Int} (hi:inP u i):(44:UInt8) ∉ (nm u i).data.toList:=by
 obtain ⟨k,rfl,hk⟩:=inP_at hi
 have:=List.all_eq_true.1 hC.ps _ (List.mem_of_getElem? hk)
 exact path_nocomma (of_decide_eq_true this)
theorem toL_dig (k:Int):(dig k).data.toList=[UInt8.ofNat (48+k).toNat]:=rfl
theorem toL_app (a b:ByteArray):(a++b).data.toList=a.data.toList++b.data.toList:=by rw [ByteArray.data_append];simp
theorem toL_shown (u:Unt) (t:Ty) (h:tyP u t):(shownL u t).data.toList=UInt8.ofNat (48+t.kind).toNat::(tpth u t).data.toList:=by
 unfold shownL tpth
 rcases h with ⟨h1,h2⟩ | ⟨h1,h2⟩
 ·rw [if_pos h2.1,if_pos h1,toL_app,toL_dig];rfl
 ·rw [if_neg (by omega),if_neg (by rw [h1];decide),toL_dig]
theorem dig_inj {a b:Int} (ha:0<=a/\a<=4) (hb:0<=b/\b<=4) (h:UInt8.ofNat (48+a).toNat=UInt8.ofNat (48+b).toNat):a=b:=by
 have:=congrArg UInt8.toNat h
 rw [UInt8.toNat_ofNat',UInt8.toNat_ofNat'] at this
 omega
theorem shown_like {u v:Unt} {t s:Ty} (ht:tyP u t) (hs:tyP v s) (hkt:kindOk t) (hks:kindOk s):shownL u t=shownL v s↔likeT u v t s=true:=by
 unfold likeT
 simp only [Bool.and_eq_true,decide_eq_true_eq]
 constructor
 ·intro h
  have:=congrArg (fun x:ByteArray=>x.data.toList) h
  simp only [toL_shown u t ht,toL_shown v s hs,List.cons.injEq] at this
  exact ⟨dig_inj hkt hks this.1,ba_ext this.2⟩
 ·rintro ⟨h1,h2⟩
  refine ba_ext ?_
  rw [toL_shown u t ht,toL_shown v s hs,h1,h2]
theorem shown_nocomma {u:Unt} (hC:CkU u) {t:Ty} (ht:tyP u t) (hk:kindOk t):(44:UInt8) ∉ (shownL u t).data.toList:=by
 rw [toL_shown u t ht]
 intro h
 rcases List.mem_cons.1 h with q | q
 ·have:=congrArg UInt8.toNat q
  rw [UInt8.toNat_ofNat'] at this
  obtain ⟨h1,h2⟩:=hk
  have h3:(44:UInt8).toNat=44:=rfl
  omega
 ·unfold tpth at q
  rcases ht with ⟨h1,h2⟩ | ⟨h1,h2⟩
  ·rw [if_pos h1] at q;exact nm_nocomma hC h2 q
  ·rw [if_neg (by rw [h1];decide)] at q;cases q
theorem sig_toL (u:Unt) (m:Mth):(sigL u m).data.toList=(shownL u m.result).data.toList++m.params.flatMap fun t=>44::(shownL u t).data.toList:=by
 unfold sigL
 have key:∀ (l:List Ty) (s:ByteArray),(l.foldl (fun s t=>s++(⟨#[44]⟩++shownL u t)) s).data.toList=s.data.toList++l.flatMap fun t=>44::(shownL u t).data.toList:=by
  intro l
  induction l with
  | nil=>intro s;simp
  | cons t l ih =>
   intro s
   rw [List.foldl_cons,ih,toL_app,toL_app,List.flatMap_cons]
   simp
 exact key _ _
theorem comma_inj:∀ {xs ys:List (List UInt8)} {x y:List UInt8},(44:UInt8) ∉ x->(44:UInt8) ∉ y->(∀ a∈xs,(44:UInt8) ∉ a)->(∀ a∈ys,(44:UInt8) ∉ a)->x++xs.flatMap (fun a=>44::a)=y++ys.flatMap (fun a=>44::a)->x=y/\xs=ys:=by
 have key:∀ (x y:List UInt8),(44:UInt8) ∉ x->(44:UInt8) ∉ y->∀ p q:List UInt8,(p=[]∨∃ p',p=44::p')->(q=[]∨∃ q',q=44::q')->x++p=y++q->x=y/\p=q:=by
  intro x
  induction x with
  | nil =>
   intro y _ hy p q hp hq e
   cases y with
   | nil=>exact ⟨rfl,e⟩
   | cons c y =>
    rcases hp with rfl | ⟨p',rfl⟩
    ·simp at e
    ·simp only [List.nil_append,List.cons_append,List.cons.injEq] at e
     exact absurd (by rw [e.1];exact List.mem_cons_self ..) hy
  | cons c x ih =>
   intro y hx hy p q hp hq e
   cases y with
   | nil =>
    rcases hq with rfl | ⟨q',rfl⟩
    ·simp at e
    ·simp only [List.nil_append,List.cons_append,List.cons.injEq] at e
     exact absurd (by rw [<-e.1];exact List.mem_cons_self ..) hx
   | cons d y =>
    simp only [List.cons_append,List.cons.injEq] at e
    obtain ⟨e1,e2⟩:=ih y (fun m=>hx (List.mem_cons_of_mem _ m)) (fun m=>hy (List.mem_cons_of_mem _ m)) p q hp hq e.2
    exact ⟨by rw [e.1,e1],e2⟩
 have hd:∀ l:List (List UInt8),l.flatMap (fun a=>(44:UInt8)::a)=[]∨∃ p',l.flatMap (fun a=>(44:UInt8)::a)=44::p':=fun l=>by
  cases l with
  | nil=>exact .inl rfl
  | cons a l=>exact .inr ⟨_,by rw [List.flatMap_cons,List.cons_append]⟩
 intro xs
 induction xs with
 | nil =>
  intro ys x y hx hy _ _ e
  obtain ⟨e1,e2⟩:=key x y hx hy _ _ (hd []) (hd ys) e
  refine ⟨e1,?_⟩
  cases ys with
  | nil=>rfl
  | cons b ys=>simp at e2
 | cons a xs ih =>
  intro ys x y hx hy hxs hys e
  obtain ⟨e1,e2⟩:=key x y hx hy _ _ (hd (a::xs)) (hd ys) e
  cases ys with
  | nil=>simp at e2
  | cons b ys =>
   simp only [List.flatMap_cons,List.cons_append,List.cons.injEq,true_and] at e2
   obtain ⟨e3,e4⟩:=ih (hxs a (List.mem_cons_self ..)) (hys b (List.mem_cons_self ..)) (fun z hz=>hxs z (List.mem_cons_of_mem _ hz)) (fun z hz=>hys z (List.mem_cons_of_mem _ hz)) e2
   exact ⟨e1,by rw [e3,e4]⟩
theorem shown_list {u v:Unt}:∀ {a b:List Ty},(∀ t∈a,tyP u t/\kindOk t)->(∀ t∈b,tyP v t/\kindOk t)->(a.map (fun t=>(shownL u t).data.toList)=b.map (fun t=>(shownL v t).data.toList)↔likeL u v a b=true)
 | [],[],_,_=>by simp [likeL]
 | [],_::_,_,_=>by simp [likeL]
 | _::_,[],_,_=>by simp [likeL]
 | t::a,s::b,ha,hb=>by
  have h1:=ha t (List.mem_cons_self ..)
  have h2:=hb s (List.mem_cons_self ..)
  have ih:=shown_list (a:=a) (b:=b) (fun x hx=>ha x (List.mem_cons_of_mem _ hx)) (fun x hx=>hb x (List.mem_cons_of_mem _ hx))
  have e:=shown_like h1.1 h2.1 h1.2 h2.2
  simp only [List.map_cons,List.cons.injEq,ih]
  rw [show ((shownL u t).data.toList=(shownL v s).data.toList)↔shownL u t=shownL v s from ⟨fun q=>ba_ext q,fun q=>by rw [q]⟩,e]
  unfold likeL
  simp only [List.length_cons,Nat.add_right_cancel_iff,List.zip_cons_cons,List.all_cons,Bool.and_eq_true,decide_eq_true_eq]
  exact ⟨fun ⟨p,q,r⟩=>⟨q,p,r⟩,fun ⟨q,p,r⟩=>⟨p,q,r⟩⟩
theorem sig_like {u v:Unt} (hU:CkU u) (hV:CkU v) {m n:Mth} (hm:m∈u.methods) (hn:n∈v.methods):sigL u m=sigL v n↔(likeL u v m.params n.params&&likeT u v m.result n.result)=true:=by
 have tu:=tyU_of hU
 have tv:=tyU_of hV
 have ku:=fun t ht=>((tyOk_of hU m hm).2 t ht).2
 have kv:=fun t ht=>((tyOk_of hV n hn).2 t ht).2
 have k1:∀ t∈m.params,kindOk t:=fun t ht=>ku t (List.mem_append_left _ (List.mem_append_left _ ht))
 have k2:∀ t∈n.params,kindOk t:=fun t ht=>kv t (List.mem_append_left _ (List.mem_append_left _ ht))
 have k3:kindOk m.result:=ku _ (List.mem_append_right _ (List.mem_singleton.2 rfl))
 have k4:kindOk n.result:=kv _ (List.mem_append_right _ (List.mem_singleton.2 rfl))
 rw [Bool.and_eq_true,<-shown_list (u:=u) (v:=v) (fun t ht=>⟨tu.p m hm t ht,k1 t ht⟩) (fun t ht=>⟨tv.p n hn t ht,k2 t ht⟩),<-shown_like (tu.r m hm) (tv.r n hn) k3 k4]
 have f1:m.params.flatMap (fun t=>(44:UInt8)::(shownL u t).data.toList)=(m.params.map fun t=>(shownL u t).data.toList).flatMap fun a=>44::a:=by rw [List.flatMap_map]
 have f2:n.params.flatMap (fun t=>(44:UInt8)::(shownL v t).data.toList)=(n.params.map fun t=>(shownL v t).data.toList).flatMap fun a=>44::a:=by rw [List.flatMap_map]
 constructor
 ·intro h
  have:=congrArg (fun x:ByteArray=>x.data.toList) h
  simp only [sig_toL,f1,f2] at this
  obtain ⟨e1,e2⟩:=comma_inj (shown_nocomma hU (tu.r m hm) k3) (shown_nocomma hV (tv.r n hn) k4) (fun a ha=>by obtain ⟨t,ht,rfl⟩:=List.mem_map.1 ha;exact shown_nocomma hU (tu.p m hm t ht) (k1 t ht)) (fun a ha=>by obtain ⟨t,ht,rfl⟩:=List.mem_map.1 ha;exact shown_nocomma hV (tv.p n hn t ht) (k2 t ht)) this
  exact ⟨e2,ba_ext e1⟩
 ·rintro ⟨e1,e2⟩
  refine ba_ext ?_
  rw [sig_toL,sig_toL,f1,f2,e1,e2]
def FitP (us:List Unt):Prop:=∀ (i k:Nat) (a b:Nat×Nat) (u v:Unt) (m n:Mth),k<i->(mthW us)[i]? = some a->(mthW us)[k]? = some b->mthAt us a=some (u,m)->mthAt us b=some (v,n)->0<=m.cls->0<=n.cls->nm u m.name=nm v n.name ->
 (likeL u v m.params n.params&&likeT u v m.result n.result)=true
theorem fit_iff (h:Good us) (hP:PreE us):FitP us↔unlikeL us (decl us)=false:=by
 have sg:∀ d u m,mthAt us d=some (u,m)->0<=m.cls->sigD us (decl us) (pthM us d)=sigL u m:=fun d u m hd h0=>by
  unfold sigD
  rw [get_snd_of h hP (mem_mthW.2 ⟨_,hd⟩) (by rw [sentB_at hd];exact decide_eq_true h0),Option.bind_some,hd]
 have mem:∀ z p,p∈(getM (decl us).named z).getD []↔∃ d u m,d∈mthW us/\mthAt us d=some (u,m)/\0<=m.cls/\nm u m.name=z/\pthM us d=p:=fun z p=>by
  rw [nmd_W,List.mem_map]
  constructor
  ·rintro ⟨d,hd,rfl⟩
   obtain ⟨hd,hb⟩:=List.mem_filter.1 hd
   obtain ⟨⟨u,m⟩,hx⟩:=mem_mthW.1 hd
   simp only [sentB_at hx,hx,Option.map_some,Bool.and_eq_true,decide_eq_true_eq,Option.some.injEq] at hb
   exact ⟨d,u,m,hd,hx,hb.1,hb.2,rfl⟩
  ·rintro ⟨d,u,m,hd,hx,h0,hz,rfl⟩
   exact ⟨d,List.mem_filter.2 ⟨hd,by simp [sentB_at hx,hx,h0,hz]⟩,rfl⟩
 rw [unlike_iff]
 constructor
 ·intro hF z p hp q hq
  obtain ⟨a,u,m,ha,hax,h0,hz,rfl⟩:=(mem z p).1 hp
  obtain ⟨b,v,n,hb,hbx,h1,hy,rfl⟩:=(mem z q).1 hq
  rw [sg a u m hax h0,sg b v n hbx h1]
  obtain ⟨hu,hm⟩:=mthAt_un hax
  obtain ⟨hv,hn⟩:=mthAt_un hbx
  have hU:=h.ck u (List.mem_of_getElem? hu)
  have hV:=h.ck v (List.mem_of_getElem? hv)
  have hm:=List.mem_of_getElem? hm
  have hn:=List.mem_of_getElem? hn
  obtain ⟨i,hi⟩:=List.mem_iff_getElem?.1 ha
  obtain ⟨k,hk⟩:=List.mem_iff_getElem?.1 hb
  rcases Nat.lt_trichotomy k i with q | q | q
  ·exact (sig_like hU hV hm hn).2 (hF i k a b u v m n q hi hk hax hbx h0 h1 (hz.trans hy.symm))
  ·subst q
   rw [hi] at hk;obtain rfl:=Option.some.inj hk
   rw [hax] at hbx
   obtain ⟨rfl,rfl⟩:=Prod.mk.inj (Option.some.inj hbx)
   rfl
  ·exact ((sig_like hV hU hn hm).2 (hF k i b a v u n m q hk hi hbx hax h1 h0 (hy.trans hz.symm))).symm
 ·intro hE i k a b u v m n hki hi hk hax hbx h0 h1 he
  obtain ⟨hu,hm⟩:=mthAt_un hax
  obtain ⟨hv,hn⟩:=mthAt_un hbx
  have:=hE (nm u m.name) (pthM us a) ((mem _ _).2 ⟨a,u,m,List.mem_of_getElem? hi,hax,h0,rfl,rfl⟩) (pthM us b) ((mem _ _).2 ⟨b,v,n,List.mem_of_getElem? hk,hbx,h1,he.symm,rfl⟩)
  rw [sg a u m hax h0,sg b v n hbx h1] at this
  exact (sig_like (h.ck u (List.mem_of_getElem? hu)) (h.ck v (List.mem_of_getElem? hv)) (List.mem_of_getElem? hm) (List.mem_of_getElem? hn)).1 this
def atS (l:List ByteArray) (s:ByteArray):Nat:=(l.takeWhile fun x=>decide (toL x<toL s)).length
def putS (l:List ByteArray) (s:ByteArray):List ByteArray:=if l[atS l s]? = some s then l else l.take (atS l s)++s::l.drop (atS l s)
def AscB (l:List ByteArray):Prop:=(l.map toL).Pairwise (· < ·)
theorem atS_le (l:List ByteArray) (s:ByteArray):atS l s<=l.length:=(List.takeWhile_sublist _).length_le
theorem atS_lt {l:List ByteArray} {s x:ByteArray} {i:Nat} (h:i<atS l s) (hx:l[i]? = some x):toL x<toL s:=by
 induction l generalizing i with
 | nil=>simp at hx
 | cons y l ih =>
  unfold atS at h
  rw [List.takeWhile_cons] at h
  split at h
  ·rename_i hy
   cases i with
   | zero =>
    simp only [List.getElem?_cons_zero,Option.some.injEq] at hx
    subst hx;exact of_decide_eq_true hy
   | succ i =>
    rw [List.getElem?_cons_succ] at hx
    exact ih (by unfold atS;rw [List.length_cons] at h;omega) hx
  ·simp at h
theorem atS_not {l:List ByteArray} {s x:ByteArray} (hx:l[atS l s]? = some x):¬toL x<toL s:=by
 induction l with
 | nil=>simp at hx
 | cons y l ih =>
  unfold atS at hx
  rw [List.takeWhile_cons] at hx
  by_cases hy:toL y<toL s
  ·rw [if_pos (decide_eq_true hy),List.length_cons,List.getElem?_cons_succ] at hx
   exact ih hx
  ·rw [if_neg (by simpa using hy),List.length_nil,List.getElem?_cons_zero] at hx
   obtain rfl:=Option.some.inj hx
   exact hy
theorem atS_eq {l:List ByteArray} {s:ByteArray} {k:Nat} (hk:k<=l.length) (h1:∀ i x,i<k->l[i]? = some x->toL x<toL s) (h2:∀ x,l[k]? = some x->¬toL x<toL s):atS l s=k:=by
 have hle:=atS_le l s
 rcases Nat.lt_trichotomy (atS l s) k with q | q | q
 ·obtain ⟨x,hx⟩:=some_of_lt (l:=l) (k:=atS l s) (by omega)
  exact absurd (h1 _ x q hx) (atS_not hx)
 ·exact q
 ·obtain ⟨x,hx⟩:=some_of_lt (l:=l) (k:=k) (by omega)
  exact absurd (atS_lt q hx) (h2 x hx)
theorem ascB_lt {l:List ByteArray} (h:AscB l) {i j:Nat} {x y:ByteArray} (hij:i<j) (hx:l[i]? = some x) (hy:l[j]? = some y):toL x<toL y:=by
 obtain ⟨h1,e1⟩:=List.getElem?_eq_some_iff.1 hx
 obtain ⟨h2,e2⟩:=List.getElem?_eq_some_iff.1 hy
 have:=List.pairwise_iff_getElem.1 h i j (by simpa using h1) (by simpa using h2) hij
 simpa [e1,e2] using this
theorem putS_mem {l:List ByteArray} {s p:ByteArray}:p∈putS l s↔p∈l∨p=s:=by
 unfold putS
 split
 ·rename_i h
  exact ⟨.inl,fun q=>q.elim id fun e=>e▸List.mem_of_getElem? h⟩
 ·rw [List.mem_append,List.mem_cons]
  conv=>rhs;rw [<-List.take_append_drop (atS l s) l,List.mem_append]
  constructor
  ·rintro (q | q | q)
   ·exact .inl (.inl q)
   ·exact .inr q
   ·exact .inl (.inr q)
  ·rintro ((q | q) | q)
   ·exact .inl q
   ·exact .inr (.inr q)
   ·exact .inr (.inl q)
theorem putS_asc {l:List ByteArray} {s:ByteArray} (h:AscB l):AscB (putS l s):=by
 unfold putS
 split
 ·exact h
 ·rename_i hn
  unfold AscB at h ⊢
  rw [List.map_append,List.map_cons,List.pairwise_append,List.pairwise_cons]
  have hs:=h
  rw [<-List.take_append_drop (atS l s) l,List.map_append,List.pairwise_append] at hs
  obtain ⟨a1,a2,a3⟩:=hs
  have lo:∀ x∈l.take (atS l s),toL x<toL s:=fun x hx=>by
   obtain ⟨i,hi⟩:=List.mem_iff_getElem?.1 hx
   rw [List.getElem?_take] at hi
   split at hi
   ·rename_i q;exact atS_lt q hi
   ·cases hi
  have hi:∀ x∈l.drop (atS l s),toL s<toL x:=fun x hx=>by
   obtain ⟨i,hi⟩:=List.mem_iff_getElem?.1 hx
   rw [List.getElem?_drop] at hi
   obtain ⟨y,hy⟩:=some_of_lt (l:=l) (k:=atS l s) (by have:=(List.getElem?_eq_some_iff.1 hi).1;omega)
   have hys:toL s<toL y:=lt_of_le_ne (List.not_lt.1 (atS_not hy)) fun e=>hn (by rw [hy,ba_ext e])
   rcases Nat.eq_zero_or_pos i with rfl | q
   ·rw [Nat.add_zero,hy] at hi
    obtain rfl:=Option.some.inj hi;exact hys
   ·exact List.lt_trans hys (ascB_lt h (by omega) hy hi)
  refine ⟨a1,⟨fun x hx => ?_,a2⟩,fun x hx y hy => ?_⟩
  ·obtain ⟨z,hz,rfl⟩:=List.mem_map.1 hx;exact hi z hz
  ·obtain ⟨z,hz,rfl⟩:=List.mem_map.1 hx
   rcases List.mem_cons.1 hy with rfl | hy
   ·exact lo z hz
   ·obtain ⟨w,hw,rfl⟩:=List.mem_map.1 hy
    exact List.lt_trans (lo z hz) (hi w hw)
theorem putS_all:∀ (l acc:List ByteArray),AscB acc->AscB (l.foldl putS acc)/\∀ p,p∈l.foldl putS acc↔p∈acc∨p∈l
 | [],acc,h=>⟨h,fun p=>by simp⟩
 | s::l,acc,h=>by
  obtain ⟨h1,h2⟩:=putS_all l (putS acc s) (putS_asc h)
  rw [List.foldl_cons]
  refine ⟨h1,fun p => ?_⟩
  rw [h2,putS_mem,List.mem_cons,or_assoc]
theorem idxB_at {l:List ByteArray} {k:Nat} {x:ByteArray} (hn:l.Nodup) (hx:l[k]? = some x):idxB l x=k:=by
 have hk:=(List.getElem?_eq_some_iff.1 hx).1
 have:=Lib.idxFromS_hit x l k 0 hk (by rw [List.getD_eq_getElem?_getD,hx];rfl) fun j hj e=>by
  obtain ⟨y,hy⟩:=some_of_lt (l:=l) (k:=j) (by omega)
  rw [List.getD_eq_getElem?_getD,hy] at e
  have e:y=x:=e
  subst e
  have:=(List.getElem?_inj (by omega) hn).1 (hy.trans hx.symm)
  omega
 rw [Nat.zero_add] at this
 exact this
theorem ascB_nodup {l:List ByteArray} (h:AscB l):l.Nodup:=by
 unfold AscB at h
 rw [List.pairwise_map] at h
 rw [List.nodup_iff_pairwise_ne]
 exact h.imp fun q e=>by subst e;exact List.lt_irrefl _ q
theorem idxB_asc {l:List ByteArray} (h:AscB l) {s:ByteArray} (hs:s∈l):idxB l s=atS l s:=by
 obtain ⟨k,hk⟩:=List.mem_iff_getElem?.1 hs
 rw [idxB_at (ascB_nodup h) hk]
 congr 1
 refine (atS_eq (Nat.le_of_lt (List.getElem?_eq_some_iff.1 hk).1) (fun i x hi hx=>ascB_lt h hi hx hk) fun x hx => ?_).symm
 rw [hk] at hx
 obtain rfl:=Option.some.inj hx
 exact List.lt_irrefl _
def lessN (l:List ByteArray) (s:ByteArray):Nat:=(l.filter fun x=>decide (toL x<toL s)).length
theorem lessN_perm {l m:List ByteArray} (h:l.Perm m) (s:ByteArray):lessN l s=lessN m s:=(h.filter _).length_eq
theorem lessN_asc {l:List ByteArray} (h:AscB l) (s:ByteArray):lessN l s=atS l s:=by
 unfold lessN
 conv=>lhs;rw [<-List.take_append_drop (atS l s) l]
 rw [List.filter_append,List.length_append]
 have e1:(l.take (atS l s)).filter (fun x=>decide (toL x<toL s))=l.take (atS l s):=List.filter_eq_self.2 fun x hx=>by
  obtain ⟨i,hi⟩:=List.mem_iff_getElem?.1 hx
  rw [List.getElem?_take] at hi
  split at hi
  ·rename_i q;exact decide_eq_true (atS_lt q hi)
  ·cases hi
 have e2:(l.drop (atS l s)).filter (fun x=>decide (toL x<toL s))=[]:=List.filter_eq_nil_iff.2 fun x hx=>by
  obtain ⟨i,hi⟩:=List.mem_iff_getElem?.1 hx
  rw [List.getElem?_drop] at hi
  obtain ⟨y,hy⟩:=some_of_lt (l:=l) (k:=atS l s) (by have:=(List.getElem?_eq_some_iff.1 hi).1;omega)
  have hy2:=atS_not hy
  rw [decide_eq_true_eq]
  intro q
  rcases Nat.eq_zero_or_pos i with rfl | p
  ·rw [Nat.add_zero,hy] at hi
   obtain rfl:=Option.some.inj hi;exact hy2 q
  ·exact hy2 (List.lt_trans (ascB_lt h (by omega) hy hi) q)
 rw [e1,e2,List.length_take,Nat.min_eq_left (atS_le l s)];rfl
end Go.Proofs.YtkmdfjpafkcleaaGreatDoor
namespace Go.Proofs.YtkmdfjpafkcleaaGreatDoor
open Eng Go.RowKit
variable {us:List Unt}
theorem idxB_lt (l:List ByteArray) (x:ByteArray):idxB l x<l.length:=by
 have key:∀ (l:List ByteArray) (i:Nat),Lib.idxFromS l x i<(i+l.length:Nat):=by
  intro l
  induction l with
  | nil=>intro i;show (-1:Int)<_;omega
  | cons y l ih =>
   intro i
   unfold Lib.idxFromS
   split
   ·rw [List.length_cons];omega
   ·have:=ih (i+1);rw [List.length_cons];omega
 have:=key l 0
 rw [Nat.zero_add] at this
 exact this
theorem idxB_get {l:List ByteArray} {x:ByteArray} {k:Nat} (h:idxB l x=k):l[k]? = some x:=by
 have key:∀ (l:List ByteArray) (i k:Nat),Lib.idxFromS l x i=((i+k:Nat):Int)->l[k]? = some x:=by
  intro l
  induction l with
  | nil=>intro i k h;unfold Lib.idxFromS at h;omega
  | cons y l ih =>
   intro i k h
   unfold Lib.idxFromS at h
   split at h
   ·rename_i e
    obtain rfl:k=0:=by omega
    rw [e];rfl
   ·cases k with
    | zero =>
     have hge:∀ (l:List ByteArray) (j:Nat),Lib.idxFromS l x j = -1∨(j:Int)<=Lib.idxFromS l x j:=by
      intro l
      induction l with
      | nil=>intro j;exact .inl rfl
      | cons z l ih2 =>
       intro j
       unfold Lib.idxFromS
       split
       ·right;omega
       ·rcases ih2 (j+1) with q | q
        ·exact .inl q
        ·right;omega
     rcases hge l (i+1) with q | q <;> omega
    | succ k=>rw [List.getElem?_cons_succ];exact ih (i+1) k (by rw [h];congr 1;omega)
 exact key l 0 k (by rw [Nat.zero_add];exact h)
theorem idxB_no {l:List ByteArray} {x:ByteArray} (h:x ∉ l):idxB l x = -1:=by
 rcases idxB_ge l x with q | q
 ·exact q
 ·obtain ⟨k,hk⟩:=Int.eq_ofNat_of_zero_le q
  exact absurd (List.mem_of_getElem? (idxB_get hk)) h
theorem idxB_mem {l:List ByteArray} {x:ByteArray} (h:x∈l):0<=idxB l x:=by
 obtain ⟨k,hk⟩:=List.mem_iff_getElem?.1 h
 have key:∀ (l:List ByteArray) (i:Nat),x∈l->0<=Lib.idxFromS l x i:=by
  intro l
  induction l with
  | nil=>intro i h;cases h
  | cons y l ih =>
   intro i h
   unfold Lib.idxFromS
   split
   ·omega
   ·rename_i e
    rcases List.mem_cons.1 h with rfl | h
    ·exact absurd rfl e
    ·exact ih (i+1) h
 exact key l 0 h
theorem oc_perm (K:RunK us):(ordsL us).oc.Perm ((clsW us).map (pthC us)):=by
 have:=orderL_perm (show orderL (neeC us (decl us)) (keysM (decl us).classes)=some (ordsL us).oc from K.oc)
 rw [decl_clsW K.good,keysM_map] at this
 exact this
theorem os_perm (K:RunK us):(ordsL us).os.Perm ((staW us).map (pthS us)):=by
 have:=sortL_perm' (keysM (decl us).statics)
 rw [decl_staW K.good,keysM_map] at this
 show (sortL (keysM (decl us).statics)).Perm _
 rw [decl_staW K.good,keysM_map]
 exact this
theorem keys_om (K:RunK us):(keysM (decl us).calls++keysM (decl us).sends).Perm ((mthW us).map (pthM us)):=by
 rw [decl_calW K.good,decl_sndW K.good (preE_of K.df),keysM_map,keysM_map,<-List.map_append]
 refine List.Perm.map _ ?_
 have:=List.filter_append_perm (fun d => !sentB us d) (mthW us)
 simpa using this
theorem om_perm (K:RunK us):(ordsL us).om.Perm ((mthW us).map (pthM us)) :=
 (orderL_perm (show orderL (calL us (decl us)) (keysM (decl us).calls++keysM (decl us).sends)=some (ordsL us).om from K.om)).trans (keys_om K)
theorem oc_nodup (K:RunK us):(ordsL us).oc.Nodup:=(oc_perm K).nodup_iff.2 (map_nodup (clsW_nodup us) fun _ hx _ hy e=>pthC_inj K.good hx hy e)
theorem om_nodup (K:RunK us):(ordsL us).om.Nodup:=(om_perm K).nodup_iff.2 (map_nodup (mthW_nodup us) fun _ hx _ hy e=>pthM_inj K.good (preE_of K.df) hx hy e)
theorem os_asc (us:List Unt):AscB (ordsL us).os:=sortL_asc (keysS_nodup us)
theorem oz_asc (us:List Unt):AscB (ordsL us).oz:=sortL_asc (keysN_nodup us)
theorem mem_oc (K:RunK us) {p:ByteArray}:p∈(ordsL us).oc↔∃ x,clsOf us (decl us) p=some x:=by
 rw [(oc_perm K).mem_iff,List.mem_map]
 constructor
 ·rintro ⟨d,hd,rfl⟩
  obtain ⟨x,hx⟩:=mem_clsW.1 hd
  exact ⟨x,by unfold clsOf;rw [get_cls_of K.good hd,Option.bind_some,hx]⟩
 ·rintro ⟨x,hx⟩
  unfold clsOf at hx
  obtain ⟨d,hd,hx⟩:=Option.bind_eq_some_iff.1 hx
  obtain ⟨h1,h2⟩:=get_cls_at K.good hd
  exact ⟨d,h1,h2⟩
theorem hasC_oc (K:RunK us) {p:ByteArray} (h:hasM (decl us).classes p=true):p∈(ordsL us).oc:=by
 obtain ⟨d,hd⟩:=Option.isSome_iff_exists.1 h
 obtain ⟨h1,h2⟩:=get_cls_at K.good hd
 exact (oc_perm K).mem_iff.2 (List.mem_map.2 ⟨d,h1,h2⟩)
theorem cls_dot {x:Unt×Cls}:(46:UInt8)∈(cpath x.1 x.2).data.toList:=by rw [toL_dots];simp
theorem nost_oc (K:RunK us):nost ∉ (ordsL us).oc:=fun h=>by
 obtain ⟨x,hx⟩:=(mem_oc K).1 h
 have:=((cls_iff K.good).1 hx).2
 have h2:=cls_dot (x:=x)
 rw [<-this] at h2
 cases h2
theorem mthOf_at (K:RunK us) {d:Nat×Nat} {u:Unt} {m:Mth} (hd:mthAt us d=some (u,m)):mthOf us (decl us) (mpath u m)=some (u,m):=by
 have hG:=K.good
 have hP:=preE_of K.df
 have hW:=mem_mthW.2 ⟨_,hd⟩
 rw [<-pthM_at hd]
 unfold mthOf mthD
 cases hs:sentB us d with
 | false=>rw [get_cal_of hG hW hs];simp only [Option.bind_some,hd]
 | true =>
  cases hg:getM (decl us).calls (pthM us d) with
  | none=>simp only [get_snd_of hG hP hW hs,Option.bind_some,hd]
  | some e =>
   obtain ⟨h1,h2,h3⟩:=get_cal_at hG hg
   have:=pthM_inj hG hP h1 hW h3
   subst this
   rw [h2] at hs;cases hs
theorem mem_om (K:RunK us) {p:ByteArray} (h:p∈(ordsL us).om):∃ d u m,mthAt us d=some (u,m)/\p=mpath u m/\mthOf us (decl us) p=some (u,m):=by
 rw [(om_perm K).mem_iff,List.mem_map] at h
 obtain ⟨d,hd,rfl⟩:=h
 obtain ⟨⟨u,m⟩,hx⟩:=mem_mthW.1 hd
 exact ⟨d,u,m,hx,pthM_at hx,by rw [pthM_at hx];exact mthOf_at K hx⟩
theorem om_of (K:RunK us) {d:Nat×Nat} (hd:d∈mthW us):pthM us d∈(ordsL us).om:=(om_perm K).mem_iff.2 (List.mem_map.2 ⟨d,hd,rfl⟩)
theorem sent_of (K:RunK us) {d:Nat×Nat} {u:Unt} {m:Mth} (hd:mthAt us d=some (u,m)) {q z:ByteArray} (hq:q∈(ordsL us).oc) (hz:(46:UInt8) ∉ z.data.toList) (e:mpath u m=dots q z):0<=m.cls/\nm u m.cls=q/\nm u m.name=z:=by
 have hG:=K.good
 obtain ⟨hu,hm⟩:=mthAt_un hd
 have hC:=hG.ck u (List.mem_of_getElem? hu)
 have hmp:=m_plain hC (List.mem_of_getElem? hm)
 obtain ⟨x,hx⟩:=(mem_oc K).1 hq
 have hx2:=((cls_iff hG).1 hx).2
 have hdot:=cls_dot (x:=x)
 rw [<-hx2] at hdot
 unfold mpath at e
 by_cases h:m.cls<0
 ·rw [if_pos h] at e
  obtain ⟨e1,_⟩:=dots_inj hmp hz e
  rw [<-e1] at hdot
  exact absurd hdot (plain_of_simple hC.nm)
 ·rw [if_neg h] at e
  obtain ⟨e1,e2⟩:=dots_inj hmp hz e
  exact ⟨by omega,e1,e2⟩
theorem oz_plain (K:RunK us) {z:ByteArray} (h:z∈(ordsL us).oz):(46:UInt8) ∉ z.data.toList:=by
 have h2:z∈keysM (decl us).named:=(sortL_perm' _).mem_iff.1 h
 obtain ⟨x,hx,rfl⟩:=(has_nmd z).1 (hasM_iff.2 h2)
 exact m_plain (K.good.ck _ hx.1) hx.2.1
theorem mem_oz {z:ByteArray}:z∈(ordsL us).oz↔hasM (decl us).named z=true:=by
 rw [hasM_iff]
 exact (sortL_perm' _).mem_iff
theorem sub_lenA {α:Type} {a b:List α} (hn:a.Nodup) (h:∀ x∈a,x∈b):a.length<=b.length:=List.Nodup.length_le_of_subset hn h
theorem keys_len' {α:Type} (m:Mp α):(keysM m).length=m.length:=by unfold keysM;rw [List.length_map]
theorem big_of (K:RunK us):(ordsL us).oc.length<=10/\(ordsL us).os.length<=10/\(ordsL us).om.length<=16/\(ordsL us).oz.length<=16:=by
 have h:=K.bg
 unfold bigD at h
 simp only [Bool.or_eq_false_iff,decide_eq_false_iff_not] at h
 have h1:=(orderL_perm (show orderL (neeC us (decl us)) (keysM (decl us).classes)=some (ordsL us).oc from K.oc)).length_eq
 have h2:=(orderL_perm (show orderL (calL us (decl us)) (keysM (decl us).calls++keysM (decl us).sends)=some (ordsL us).om from K.om)).length_eq
 rw [keys_len'] at h1
 rw [List.length_append,keys_len',keys_len'] at h2
 have h3:(ordsL us).os.length=(decl us).statics.length:=by
  show (sortL _).length=_
  rw [sortL_len,keys_len']
 have h4:(ordsL us).oz.length=(keysM (decl us).named).length:=by
  show (sortL _).length=_
  rw [sortL_len]
 have h5:(keysM (decl us).named).length<=(decl us).sends.length:=by
  have hsub:∀ z∈keysM (decl us).named,z∈(sndE us).map fun q=>(mthAt us q.2).elim nost fun x=>nm x.1 x.2.name:=fun z hz=>by
   obtain ⟨x,hx,rfl⟩:=(has_nmd z).1 (hasM_iff.2 hz)
   obtain ⟨d,hd⟩:=sndE_c x hx
   obtain ⟨y,hy,he,hyE⟩:=sndE_s _ _ hd
   have:=snd_uni K.good (preE_of K.df) x y hx hyE he
   subst this
   exact List.mem_map.2 ⟨_,hd,by simp only [hy,Option.elim_some]⟩
  have hn:=keysN_nodup us
  have hle:=sub_lenA hn hsub
  rw [List.length_map] at hle
  rw [decl_sndW K.good (preE_of K.df),<-sndE_eq]
  exact hle
 omega
end Go.Proofs.YtkmdfjpafkcleaaGreatDoor
namespace Go.Proofs.YtkmdfjpafkcleaaGreatDoor
open Eng Go.RowKit
def ityp (m:Mod) (t:Ty) (least:Int):Bool :=
 if t.kind=2∨t.kind=4 then decide (0<=t.cls)&&decide (t.cls<m.classes.length)
 else if t.kind=0∨t.kind=1∨t.kind=3 then decide (least<=t.kind)&&decide (t.cls=0) else false
def supM (m:Mod) (a:Int):Int:=((m.classes[a.toNat]?).map fun c=>c.super).getD (-1)
def chn (m:Mod):Nat->Int->List Int
 | 0,_=>[]
 | n+1,a=>if a<0 then [] else a::chn m n (supM m a)
def upM (m:Mod) (a:Int):List Int:=chn m (a.toNat+1) a
def Desc (m:Mod) (k:Nat):Prop:=k<=m.classes.length/\∀ (i:Nat) x,i<k->m.classes[i]? = some x -> -1<=x.super/\x.super<i
variable {m:Mod} {k:Nat}
theorem supM_at {i:Nat} {x:MC} (h:m.classes[i]? = some x):supM m (i:Int)=x.super:=by unfold supM;rw [Int.toNat_natCast,h];rfl
theorem sup_lt (h:Desc m k) {a:Int} (h0:0<=a) (ha:a<k) : -1<=supM m a/\supM m a<a:=by
 obtain ⟨i,rfl⟩:=Int.eq_ofNat_of_zero_le h0
 obtain ⟨x,hx⟩:=some_of_lt (l:=m.classes) (k:=i) (by have:=h.1;omega)
 rw [supM_at hx]
 exact h.2 i x (by omega) hx
theorem chn_neg {n:Nat} {a:Int} (h:a<0):chn m n a=[]:=by
 cases n with
 | zero=>rfl
 | succ n=>simp only [chn,if_pos h]
theorem chn_fuel (h:Desc m k):∀ (n n':Nat) (a:Int),a<k->a<n->a<n'->chn m n a=chn m n' a
 | 0,n',a,_,h1,_=>by rw [chn_neg (by omega),chn_neg (by omega)]
 | n+1,0,a,_,_,h2=>by rw [chn_neg (by omega),chn_neg (by omega)]
 | n+1,n'+1,a,ha,h1,h2=>by
  simp only [chn]
  split
  ·rfl
  ·obtain ⟨_,q2⟩:=sup_lt h (a:=a) (by omega) ha
   rw [chn_fuel h n n' (supM m a) (by omega) (by omega) (by omega)]
theorem upM_neg {a:Int} (h:a<0):upM m a=[]:=chn_neg h
theorem upM_step (h:Desc m k) {a:Int} (h0:0<=a) (ha:a<k):upM m a=a::upM m (supM m a):=by
 obtain ⟨q1,q2⟩:=sup_lt h h0 ha
 unfold upM
 rw [show chn m (a.toNat+1) a=a::chn m a.toNat (supM m a) from by simp only [chn,if_neg (show ¬a<0 by omega)]]
 congr 1
 exact chn_fuel h _ _ _ (by omega) (by omega) (by omega)
theorem upM_le (h:Desc m k):∀ (n:Nat) {a b:Int},a<n->a<k->b∈upM m a->0<=b/\b<=a
 | 0,a,b,h1,_,hb=>by rw [upM_neg (by omega)] at hb;cases hb
 | n+1,a,b,h1,ha,hb=>by
  rcases Classical.em (a<0) with h0 | h0
  ·rw [upM_neg h0] at hb;cases hb
  ·rw [upM_step h (by omega) ha] at hb
   obtain ⟨q1,q2⟩:=sup_lt h (a:=a) (by omega) ha
   rcases List.mem_cons.1 hb with rfl | hb
   ·omega
   ·have:=upM_le h n (a:=supM m a) (by omega) (by omega) hb
    omega
theorem upM_mem_le (h:Desc m k) {a b:Int} (ha:a<k) (hb:b∈upM m a):0<=b/\b<=a:=upM_le h k ha ha hb
theorem upM_self {a:Int} (h0:0<=a):a∈upM m a:=by
 unfold upM
 simp only [chn,if_neg (show ¬a<0 by omega)]
 exact List.mem_cons_self ..
def AscI (l:List Int):Prop:=l.Pairwise (· < ·)
theorem asc_eq:∀ {a b:List Int},AscI a->AscI b->(∀ x,x∈a↔x∈b)->a=b
 | [],[],_,_,_=>rfl
 | [],y::b,_,_,h=>by have:=(h y).2 (List.mem_cons_self ..);cases this
 | x::a,[],_,_,h=>by have:=(h x).1 (List.mem_cons_self ..);cases this
 | x::a,y::b,ha,hb,h=>by
  obtain ⟨a1,a2⟩:=List.pairwise_cons.1 ha
  obtain ⟨b1,b2⟩:=List.pairwise_cons.1 hb
  have e:x=y:=by
   rcases List.mem_cons.1 ((h x).1 (List.mem_cons_self ..)) with q | q
   ·exact q
   ·rcases List.mem_cons.1 ((h y).2 (List.mem_cons_self ..)) with p | p
    ·exact p.symm
    ·have:=b1 x q;have:=a1 y p;omega
  subst e
  rw [asc_eq a2 b2 fun z => ?_]
  constructor
  ·intro hz
   rcases List.mem_cons.1 ((h z).1 (List.mem_cons_of_mem _ hz)) with q | q
   ·subst q;exact absurd (a1 z hz) (by omega)
   ·exact q
  ·intro hz
   rcases List.mem_cons.1 ((h z).2 (List.mem_cons_of_mem _ hz)) with q | q
   ·subst q;exact absurd (b1 z hz) (by omega)
   ·exact q
def insI (x:Int):List Int->List Int
 | []=>[x]
 | y::l=>if x<y then x::y::l else if x=y then y::l else y::insI x l
theorem mem_insI {x z:Int}:∀ {l:List Int},z∈insI x l↔z=x∨z∈l
 | []=>by simp [insI]
 | y::l=>by
  unfold insI
  split
  ·simp
  ·split
   ·rename_i h;subst h;simp
   ·simp only [List.mem_cons,mem_insI (l:=l)]
    exact or_left_comm
theorem asc_insI {x:Int}:∀ {l:List Int},AscI l->AscI (insI x l)
 | [],_=>by simp [insI,AscI]
 | y::l,h=>by
  obtain ⟨h1,h2⟩:=List.pairwise_cons.1 h
  unfold insI
  split
  ·rename_i q
   refine List.pairwise_cons.2 ⟨fun z hz => ?_,h⟩
   rcases List.mem_cons.1 hz with rfl | hz
   ·exact q
   ·have:=h1 z hz;omega
  ·split
   ·exact h
   ·refine List.pairwise_cons.2 ⟨fun z hz => ?_,asc_insI h2⟩
    rcases mem_insI.1 hz with rfl | hz
    ·omega
    ·exact h1 z hz
def srtI (l:List Int):List Int:=l.foldr insI []
theorem srtI_asc:∀ (l:List Int),AscI (srtI l)
 | []=>List.Pairwise.nil
 | _::l=>asc_insI (srtI_asc l)
theorem mem_srtI {z:Int}:∀ {l:List Int},z∈srtI l↔z∈l
 | []=>Iff.rfl
 | x::l=>by
  show z∈insI x (srtI l)↔_
  rw [mem_insI,mem_srtI (l:=l),List.mem_cons]
theorem srtI_of {a l:List Int} (ha:AscI a) (h:∀ x,x∈a↔x∈l):a=srtI l:=asc_eq ha (srtI_asc l) fun x=>by rw [h,mem_srtI]
def rawT (m:Mod) (s:Nat):List Int:=(m.classes.map fun c=>c.table.getD s (-1)).filter fun n=>decide (0<=n)
def trgM (m:Mod) (s:Nat):List Int:=srtI (rawT m s)
def calO (m:Mod) (i:Ins):List Int:=if i.op=25 then [i.a] else if i.op=26 then trgM m i.a.toNat else []
def calM (m:Mod) (k:Nat):List Int:=srtI ((((m.methods[k]?).map fun x=>x.code).getD []).flatMap (calO m))
structure EntP (m:Mod) (k:Nat) (x:MC) (s:Nat) (n:Int):Prop where
 lo : -1<=n
 hi:n<m.methods.length
 own:0<=n->∃ y z,m.methods[n.toNat]? = some y/\y.cls∈upM m k/\m.classes[y.cls.toNat]? = some z/\z.table[s]? = some n
 up:n<0->0<=x.super->∀ y q,m.classes[x.super.toNat]? = some y->y.table[s]? = some q->q<0
structure ClsP (m:Mod) (k:Nat) (x:MC):Prop where
 s1 : -1<=x.super
 s2:x.super<k
 fl:x.fields.length<=7
 ft:∀ t∈x.fields,ityp m t 1=true
 tl:(x.table.length:Int)=m.sels
 tb:∀ s n,x.table[s]? = some n->EntP m k x s n
 up:0<=x.super->∀ y,m.classes[x.super.toNat]? = some y->y.fields.length<=x.fields.length/\x.fields.take y.fields.length=y.fields
def mcl (m:Mod) (n:Int):Int:=((m.methods[n.toNat]?).map fun x=>x.cls).getD 0
def oprB (m:Mod) (k:Nat) (i:Ins):Bool :=
 if i.op=12 then decide (i.a=3)||decide (i.b<m.classes.length)
 else if i.op=14∨i.op=24 then decide (i.a<m.classes.length)
 else if i.op=16 then decide (i.b<m.classes.length)
 else if i.op=22∨i.op=23 then decide (i.a<m.statics.length)
 else if i.op=25 then decide (i.a<k)&&decide (mcl m i.a = -1)
 else if i.op=26 then decide (i.a<m.sels)&&(trgM m i.a.toNat).all fun t=>decide (t<k)
 else true
structure MthP (m:Mod) (k:Nat) (x:MM):Prop where
 c1 : -1<=x.cls
 c2:x.cls<m.classes.length
 pl:x.params.length<=4
 ll:(x.params.length:Int)+x.locals.length+(if 0<=x.cls then 1 else 0)<=10
 pt:∀ t∈x.params,ityp m t 1=true
 lt:∀ t∈x.locals,ityp m t 1=true
 rt:ityp m x.result 0=true
 cd:codeE x.code false=0
 op:∀ i∈x.code,oprB m k i=true
def AlkP (m:Mod) (s:Nat):Prop:=∀ t∈trgM m s,∀ u∈trgM m s,∀ x y,m.methods[t.toNat]? = some x->m.methods[u.toNat]? = some y->x.params=y.params/\x.result=y.result
structure ModP (m:Mod):Prop where
 cl:m.classes.length<=10
 sl:m.statics.length<=10
 ml:m.methods.length<=16
 z0:0<=m.sels
 z1:m.sels<=16
 cls:∀ k x,m.classes[k]? = some x->ClsP m k x
 sta:∀ t∈m.statics,ityp m t 1=true
 mth:∀ k x,m.methods[k]? = some x->MthP m k x
 alk:∀ s:Nat,s<m.sels->AlkP m s
open Classical in
noncomputable def mchkE (m:Mod):Int:=if ModP m then 0 else 1
theorem desc_of {k:Nat} (hk:k<=m.classes.length) (h:∀ i x,i<k->m.classes[i]? = some x->ClsP m i x):Desc m k:=⟨hk,fun i x hi hx=>⟨(h i x hi hx).s1,(h i x hi hx).s2⟩⟩
theorem rawT_le (m:Mod) (s:Nat):(rawT m s).length<=m.classes.length:=by
 unfold rawT
 refine Nat.le_trans (List.length_filter_le _ _) ?_
 rw [List.length_map];exact Nat.le_refl _
theorem mem_rawT {s:Nat} {t:Int}:t∈rawT m s↔0<=t/\∃ c∈m.classes,c.table.getD s (-1)=t:=by
 unfold rawT
 rw [List.mem_filter,List.mem_map,decide_eq_true_eq,and_comm]
theorem mem_trg {s:Nat} {t:Int}:t∈trgM m s↔0<=t/\∃ c∈m.classes,c.table.getD s (-1)=t:=by unfold trgM;rw [mem_srtI,mem_rawT]
theorem insI_len (x:Int):∀ (l:List Int),(insI x l).length<=l.length+1
 | []=>Nat.le_refl _
 | y::l=>by
  unfold insI
  split
  ·simp
  ·split
   ·simp
   ·have:=insI_len x l;simp only [List.length_cons];omega
theorem srtI_len:∀ (l:List Int),(srtI l).length<=l.length
 | []=>Nat.le_refl _
 | x::l=>by
  have:=srtI_len l
  have:=insI_len x (srtI l)
  show (insI x (srtI l)).length<=_
  simp only [List.length_cons];omega
theorem trg_len (s:Nat):(trgM m s).length<=m.classes.length:=Nat.le_trans (srtI_len _) (rawT_le m s)
end Go.Proofs.YtkmdfjpafkcleaaGreatDoor
namespace Go.Proofs.YtkmdfjpafkcleaaGreatDoor
open Eng Go.RowKit
variable {us:List Unt}
theorem def_cls (K:RunK us) {x:Unt×Cls} (h:InC us x):(x.2.super<0∨hasM (decl us).classes (nm x.1 x.2.super)=true)/\∀ f∈x.2.fields,isTypeL (decl us) x.1 f.ty=true:=by
 have h0:=K.df
 unfold definedL at h0
 have h1:=List.all_eq_true.1 h0 _ h.1
 unfold defU at h1
 simp only [Bool.and_eq_true] at h1
 have h2:=List.all_eq_true.1 h1.1 _ h.2
 unfold defC at h2
 simp only [Bool.and_eq_true,Bool.or_eq_true,decide_eq_true_eq,List.all_eq_true] at h2
 exact h2
theorem def_sta (K:RunK us) {x:Unt×Fld} (h:InS us x):isTypeL (decl us) x.1 x.2.ty=true:=by
 have h0:=K.df
 unfold definedL at h0
 have h1:=List.all_eq_true.1 h0 _ h.1
 unfold defU at h1
 simp only [Bool.and_eq_true] at h1
 exact List.all_eq_true.1 h1.2.1 _ h.2
theorem def_mth (K:RunK us) {u:Unt} {m:Mth} (hu:u∈us) (hm:m∈u.methods):(m.cls<0∨hasM (decl us).classes (nm u m.cls)=true)/\(∀ t∈m.params++m.locals++[m.result],isTypeL (decl us) u t=true)/\∀ i∈m.code,operL (decl us) u i=true:=by
 have h0:=K.df
 unfold definedL at h0
 have h1:=List.all_eq_true.1 h0 _ hu
 unfold defU at h1
 simp only [Bool.and_eq_true] at h1
 have h2:=List.all_eq_true.1 h1.2.2 _ hm
 unfold defM at h2
 simp only [Bool.and_eq_true,Bool.or_eq_true,decide_eq_true_eq] at h2
 obtain ⟨h3,h4,h5⟩:=h2
 exact ⟨h3.imp_right (·.1),List.all_eq_true.1 h4,List.all_eq_true.1 h5⟩
theorem sup_at (K:RunK us) {k:Nat} {p:ByteArray} (hp:(ordsL us).oc[k]? = some p):(supL us (decl us) p=nost/\idxB (ordsL us).oc (supL us (decl us) p) = -1)∨∃ j,j<k/\(ordsL us).oc[j]? = some (supL us (decl us) p)/\idxB (ordsL us).oc (supL us (decl us) p)=j/\¬supL us (decl us) p=nost:=by
 by_cases h:supL us (decl us) p=nost
 ·exact .inl ⟨h,by rw [h];exact idxB_no (nost_oc K)⟩
 ·right
  have:=orderL_placed (show orderL (neeC us (decl us)) (keysM (decl us).classes)=some (ordsL us).oc from K.oc) k p hp (supL us (decl us) p) (by unfold neeC;rw [if_neg h];exact List.mem_singleton.2 rfl)
  obtain ⟨j,hj⟩:=List.mem_iff_getElem?.1 this
  rw [List.getElem?_take] at hj
  split at hj
  ·rename_i hjk
   exact ⟨j,hjk,hj,idxB_at (oc_nodup K) hj,h⟩
  ·cases hj
theorem ft_fuel (K:RunK us) (oc:List ByteArray):∀ (n n' k:Nat) (p:ByteArray),(ordsL us).oc[k]? = some p->k<n->k<n'->ftL us (decl us) oc n p=ftL us (decl us) oc n' p
 | 0,_,_,_,_,h,_=>by omega
 | _+1,0,_,_,_,_,h=>by omega
 | n+1,n'+1,k,p,hp,h1,h2=>by
  simp only [ftL]
  rcases sup_at K hp with ⟨h,_⟩ | ⟨j,hj,hs,_,h⟩
  ·rw [if_pos h,if_pos h]
  ·rw [if_neg h,if_neg h,ft_fuel K oc n n' j _ hs (by omega) (by omega)]
theorem near_fuel (K:RunK us) (om:List ByteArray) (s:ByteArray):∀ (n n' k:Nat) (p:ByteArray),(ordsL us).oc[k]? = some p->k<n->k<n'->nearM us (decl us) om n p s=nearM us (decl us) om n' p s
 | 0,_,_,_,_,h,_=>by omega
 | _+1,0,_,_,_,_,h=>by omega
 | n+1,n'+1,k,p,hp,h1,h2=>by
  simp only [nearM]
  split
  ·rfl
  ·split
   ·rfl
   ·rcases sup_at K hp with ⟨h,_⟩ | ⟨j,hj,hs,_,h⟩
    ·rw [h]
     have e:∀ m,nearM us (decl us) om m nost s = -1:=fun m=>by cases m <;> simp [nearM]
     rw [e,e]
    ·exact near_fuel K om s n n' j _ hs (by omega) (by omega)
theorem lay_len (oc:List ByteArray):∀ (n:Nat) (p:ByteArray),(ftL us (decl us) oc n p).length=(layL us (decl us) n p).length
 | 0,_=>rfl
 | n+1,p=>by
  have ho:(ownT us (decl us) oc p).length=(ownL us (decl us) p).length:=by
   unfold ownT ownL
   cases clsOf us (decl us) p with
   | none=>rfl
   | some x=>obtain ⟨u,c⟩:=x;simp
  simp only [ftL,layL,List.length_append,ho]
  split
  ·rfl
  ·rw [lay_len oc n]
theorem near_ge (om:List ByteArray):∀ (n:Nat) (p s:ByteArray),-1<=nearM us (decl us) om n p s/\nearM us (decl us) om n p s<om.length
 | 0,_,_=>by unfold nearM;omega
 | n+1,p,s=>by
  simp only [nearM]
  split
  ·omega
  ·split
   ·have:=idxB_lt om (dots p s);omega
   ·exact near_ge om n _ s
theorem ft_in (K:RunK us) (oc:List ByteArray):∀ (n:Nat) (p:ByteArray) (t:Ty),t∈ftL us (decl us) oc n p->∃ u∈us,∃ c∈u.classes,∃ f∈c.fields,t=kindM oc u f.ty
 | 0,_,_,h=>by simp [ftL] at h
 | n+1,p,t,h=>by
  simp only [ftL,List.mem_append] at h
  rcases h with h | h
  ·split at h
   ·cases h
   ·exact ft_in K oc n _ t h
  ·unfold ownT at h
   split at h
   ·rename_i u c hx
    obtain ⟨f,hf,rfl⟩:=List.mem_map.1 h
    obtain ⟨h1,_⟩:=(cls_iff K.good).1 hx
    exact ⟨u,h1.1,c,h1.2,f,hf,rfl⟩
   ·cases h
theorem modO_cls {k:Nat} {x:MC} (h:(modO us (ordsL us)).classes[k]? = some x):∃ p,(ordsL us).oc[k]? = some p/\x=clsM us (ordsL us) p:=by
 have h:((ordsL us).oc.map (clsM us (ordsL us)))[k]? = some x:=h
 rw [List.getElem?_map] at h
 obtain ⟨p,hp,rfl⟩:=Option.map_eq_some_iff.1 h
 exact ⟨p,hp,rfl⟩
theorem cls_modO {k:Nat} {p:ByteArray} (h:(ordsL us).oc[k]? = some p):(modO us (ordsL us)).classes[k]? = some (clsM us (ordsL us) p):=by
 show ((ordsL us).oc.map (clsM us (ordsL us)))[k]? = _
 rw [List.getElem?_map,h];rfl
theorem modO_mth {k:Nat} {x:MM} (h:(modO us (ordsL us)).methods[k]? = some x):∃ p,(ordsL us).om[k]? = some p/\x=mthM us (ordsL us) p:=by
 have h:((ordsL us).om.map (mthM us (ordsL us)))[k]? = some x:=h
 rw [List.getElem?_map] at h
 obtain ⟨p,hp,rfl⟩:=Option.map_eq_some_iff.1 h
 exact ⟨p,hp,rfl⟩
theorem mth_modO {k:Nat} {p:ByteArray} (h:(ordsL us).om[k]? = some p):(modO us (ordsL us)).methods[k]? = some (mthM us (ordsL us) p):=by
 show ((ordsL us).om.map (mthM us (ordsL us)))[k]? = _
 rw [List.getElem?_map,h];rfl
theorem mthM_of (K:RunK us) {d:Nat×Nat} {u:Unt} {m:Mth} (hd:mthAt us d=some (u,m)) (O:Ords) :
  mthM us O (mpath u m)=⟨mpath u m,if 0<=m.cls then idxB O.oc (nm u m.cls) else -1,m.params.map (kindM O.oc u),m.locals.map (kindM O.oc u),kindM O.oc u m.result,m.code.map (instM us O u)⟩:=by
 unfold mthM;rw [mthOf_at K hd]
theorem modO_cl:(modO us (ordsL us)).classes.length=(ordsL us).oc.length:=List.length_map ..
theorem modO_ml:(modO us (ordsL us)).methods.length=(ordsL us).om.length:=List.length_map ..
theorem modO_sl:(modO us (ordsL us)).statics.length=(ordsL us).os.length:=List.length_map ..
theorem modO_desc (K:RunK us):Desc (modO us (ordsL us)) (modO us (ordsL us)).classes.length:=by
 refine ⟨Nat.le_refl _,fun i x _ hx => ?_⟩
 obtain ⟨p,hp,rfl⟩:=modO_cls hx
 show -1<=idxB _ _/\idxB _ _<_
 rcases sup_at K hp with ⟨_,h⟩ | ⟨j,hj,_,h,_⟩ <;> rw [h] <;> omega
theorem ityp_kind (K:RunK us) {u:Unt} {t:Ty} {least:Int} (ht:tyP u t) (hi:isTypeL (decl us) u t=true) (hk:least<=t.kind/\0<=t.kind/\t.kind<=4):ityp (modO us (ordsL us)) (kindM (ordsL us).oc u t) least=true:=by
 rw [isType_tcls ht] at hi
 rcases ht with ⟨h1,h2⟩ | ⟨h1,h2⟩
 ·have hkm:kindM (ordsL us).oc u t=⟨t.kind,idxB (ordsL us).oc (nm u t.cls)⟩:=by unfold kindM;rw [if_neg (by have:=h2.1;omega)]
  rw [if_pos h1] at hi
  have hm:=hasC_oc K hi
  have h0:=idxB_mem hm
  have h3:=idxB_lt (ordsL us).oc (nm u t.cls)
  unfold tcls at h1
  simp only [Bool.or_eq_true,decide_eq_true_eq] at h1
  rw [hkm]
  show (if t.kind=2∨t.kind=4 then decide (0<=idxB (ordsL us).oc (nm u t.cls))&&decide (idxB (ordsL us).oc (nm u t.cls)<(modO us (ordsL us)).classes.length) else _)=true
  rw [if_pos h1,modO_cl,Bool.and_eq_true,decide_eq_true_eq,decide_eq_true_eq]
  exact ⟨h0,h3⟩
 ·have hkm:kindM (ordsL us).oc u t=⟨t.kind,0⟩:=by unfold kindM;rw [if_pos (by omega)]
  unfold tcls at h1
  simp only [Bool.or_eq_false_iff,decide_eq_false_iff_not] at h1
  rw [hkm]
  show (if t.kind=2∨t.kind=4 then _ else if t.kind=0∨t.kind=1∨t.kind=3 then decide (least<=t.kind)&&decide ((0:Int)=0) else false)=true
  rw [if_neg (by omega),if_pos (by omega)]
  simp [hk.1]
theorem near_spec (K:RunK us) (s:ByteArray):∀ (n k:Nat) (p:ByteArray),(ordsL us).oc[k]? = some p->0<=nearM us (decl us) (ordsL us).om n p s ->
  ∃ (j:Nat) (q:ByteArray),(ordsL us).oc[j]? = some q/\(j:Int)∈upM (modO us (ordsL us)) k/\idxB (ordsL us).om (dots q s)=nearM us (decl us) (ordsL us).om n p s
 | 0,_,_,_,h=>by simp [nearM] at h
 | n+1,k,p,hp,h=>by
  have hk:(k:Int)<(modO us (ordsL us)).classes.length:=by rw [modO_cl];have:=(List.getElem?_eq_some_iff.1 hp).1;omega
  simp only [nearM] at h ⊢
  split at h
  ·omega
  ·rename_i h0
   rw [if_neg h0]
   split at h
   ·rename_i h1
    rw [if_pos h1]
    exact ⟨k,p,hp,upM_self (by omega),rfl⟩
   ·rename_i h1
    rw [if_neg h1]
    rcases sup_at K hp with ⟨hs,_⟩ | ⟨j,hj,hs,hix,_⟩
    ·rw [hs] at h
     have e:∀ m,nearM us (decl us) (ordsL us).om m nost s = -1:=fun m=>by cases m <;> simp [nearM]
     rw [e] at h;omega
    ·obtain ⟨i,q,hq,hu,he⟩:=near_spec K s n j _ hs h
     refine ⟨i,q,hq,?_,he⟩
     rw [upM_step (modO_desc K) (by omega) hk,supM_at (cls_modO hp)]
     refine List.mem_cons_of_mem _ ?_
     show _∈upM _ (idxB _ _)
     rw [hix];exact hu
theorem tbl_at {p:ByteArray} {s:Nat} {n:Int} (h:(clsM us (ordsL us) p).table[s]? = some n):∃ z,(ordsL us).oz[s]? = some z/\n=nearM us (decl us) (ordsL us).om ((keysM (decl us).classes).length+1) p z:=by
 have h:((ordsL us).oz.map fun s=>nearM us (decl us) (ordsL us).om ((keysM (decl us).classes).length+1) p s)[s]? = some n:=h
 rw [List.getElem?_map] at h
 obtain ⟨z,hz,rfl⟩:=Option.map_eq_some_iff.1 h
 exact ⟨z,hz,rfl⟩
theorem keys_oc (K:RunK us):(keysM (decl us).classes).length=(ordsL us).oc.length:=(orderL_perm (show orderL (neeC us (decl us)) (keysM (decl us).classes)=some (ordsL us).oc from K.oc)).length_eq.symm
theorem tbl_of {p z:ByteArray} {s:Nat} (hz:(ordsL us).oz[s]? = some z):(clsM us (ordsL us) p).table[s]? = some (nearM us (decl us) (ordsL us).om ((keysM (decl us).classes).length+1) p z):=by
 show ((ordsL us).oz.map fun s=>nearM us (decl us) (ordsL us).om ((keysM (decl us).classes).length+1) p s)[s]? = _
 rw [List.getElem?_map,hz];rfl
theorem sent_at (K:RunK us) {j:Nat} {q z:ByteArray} {n:Nat} (hq:(ordsL us).oc[j]? = some q) (hz:z∈(ordsL us).oz) (h:idxB (ordsL us).om (dots q z)=n) :
  ∃ d u m,mthAt us d=some (u,m)/\(ordsL us).om[n]? = some (mpath u m)/\mpath u m=dots q z/\0<=m.cls/\nm u m.cls=q/\nm u m.name=z:=by
 have hg:=idxB_get h
 obtain ⟨d,u,m,hd,he,_⟩:=mem_om K (List.mem_of_getElem? hg)
 obtain ⟨h1,h2,h3⟩:=sent_of K hd (List.mem_of_getElem? hq) (oz_plain K hz) he.symm
 exact ⟨d,u,m,hd,by rw [hg,he],he.symm,h1,h2,h3⟩
theorem clsP_modO (K:RunK us) {k:Nat} {x:MC} (hx:(modO us (ordsL us)).classes[k]? = some x):ClsP (modO us (ordsL us)) k x:=by
 obtain ⟨p,hp,rfl⟩:=modO_cls hx
 have hk:k<(ordsL us).oc.length:=(List.getElem?_eq_some_iff.1 hp).1
 have hN:=keys_oc K
 have hs:=(modO_desc K).2 k _ (by rw [modO_cl];exact hk) hx
 refine ⟨hs.1,hs.2,?_,fun t ht => ?_,?_,fun s n hn => ?_,fun h0 y hy => ?_⟩
 ·show (ftL us (decl us) (ordsL us).oc _ p).length<=7
  rw [lay_len]
  have:=K.ly
  rw [List.any_eq_false] at this
  have:=this p (List.mem_of_getElem? hp)
  unfold lay at this
  simpa using this
 ·obtain ⟨u,hu,c,hc,f,hf,rfl⟩:=ft_in K _ _ p t ht
  have hC:=K.good.ck u hu
  have hkd:=hC.kd
  simp only [kinds,Bool.and_eq_true,List.all_eq_true] at hkd
  have hkc:=hkd.1.1 c hc
  simp only [kcls,List.all_eq_true] at hkc
  have hkf:=hkc f hf
  simp only [kin,Bool.and_eq_true,decide_eq_true_eq] at hkf
  exact ityp_kind K ((tyU_of hC).f c hc f hf) ((def_cls K (x:=(u,c)) ⟨hu,hc⟩).2 f hf) ⟨hkf.1,by omega,hkf.2⟩
 ·show ((((ordsL us).oz.map _).length:Nat):Int)=((ordsL us).oz.length:Int)
  rw [List.length_map]
 ·obtain ⟨z,hz,rfl⟩:=tbl_at hn
  have hg:=near_ge (us:=us) (ordsL us).om ((keysM (decl us).classes).length+1) p z
  refine ⟨hg.1,by rw [modO_ml];exact hg.2,fun h0 => ?_,fun h0 h1 y q hy hq => ?_⟩
  ·obtain ⟨j,q,hq,hu,he⟩:=near_spec K z _ k p hp h0
   obtain ⟨n,hn'⟩:=Int.eq_ofNat_of_zero_le h0
   rw [hn'] at he
   obtain ⟨d,u,m,hd,hm,hmp,h1,h2,h3⟩:=sent_at K hq (List.mem_of_getElem? hz) he
   have hy:=mth_modO hm
   rw [mthM_of K hd] at hy
   have hix:idxB (ordsL us).oc (nm u m.cls)=j:=by rw [h2];exact idxB_at (oc_nodup K) hq
   refine ⟨_,clsM us (ordsL us) q,by rw [hn',Int.toNat_natCast];exact hy,?_,?_,?_⟩
   ·show (if 0<=m.cls then idxB (ordsL us).oc (nm u m.cls) else -1)∈_
    rw [if_pos h1,hix];exact hu
   ·show (modO us (ordsL us)).classes[(if 0<=m.cls then idxB (ordsL us).oc (nm u m.cls) else -1).toNat]? = _
    rw [if_pos h1,hix,Int.toNat_natCast]
    exact cls_modO hq
   ·rw [tbl_of hz,hn']
    congr 1
    have hq0:¬q=nost:=fun e=>nost_oc K (e▸List.mem_of_getElem? hq)
    simp only [nearM,if_neg hq0]
    rw [if_pos (by rw [he];omega),he]
  ·rcases sup_at K hp with ⟨hs',hi⟩ | ⟨j,hj,hs',hi,hns⟩
   ·have h1:0<=idxB (ordsL us).oc (supL us (decl us) p):=h1
    omega
   ·have hy':(modO us (ordsL us)).classes[(idxB (ordsL us).oc (supL us (decl us) p)).toNat]? = some y:=hy
    rw [hi,Int.toNat_natCast] at hy'
    obtain ⟨p',hp',rfl⟩:=modO_cls hy'
    rw [hs'] at hp'
    obtain rfl:=Option.some.inj hp'
    rw [tbl_of hz] at hq
    obtain rfl:=Option.some.inj hq
    have hp0:¬p=nost:=fun e=>nost_oc K (e▸List.mem_of_getElem? hp)
    simp only [nearM,if_neg hp0] at h0
    split at h0
    ·omega
    ·rw [near_fuel K _ z ((keysM (decl us).classes).length+1) (keysM (decl us).classes).length j _ hs' (by omega) (by omega)]
     exact h0
 ·rcases sup_at K hp with ⟨hs',hi⟩ | ⟨j,hj,hs',hi,hns⟩
  ·have h0:0<=idxB (ordsL us).oc (supL us (decl us) p):=h0
   omega
  ·have hy':(modO us (ordsL us)).classes[(idxB (ordsL us).oc (supL us (decl us) p)).toNat]? = some y:=hy
   rw [hi,Int.toNat_natCast] at hy'
   obtain ⟨p',hp',rfl⟩:=modO_cls hy'
   rw [hs'] at hp'
   obtain rfl:=Option.some.inj hp'
   obtain ⟨N,hNe⟩:∃ N,(keysM (decl us).classes).length=N+1:=⟨(keysM (decl us).classes).length-1,by omega⟩
   have e:ftL us (decl us) (ordsL us).oc (keysM (decl us).classes).length p=ftL us (decl us) (ordsL us).oc (keysM (decl us).classes).length (supL us (decl us) p)++ownT us (decl us) (ordsL us).oc p:=by
    rw [ft_fuel K _ (keysM (decl us).classes).length N j _ hs' (by omega) (by omega)]
    conv=>lhs;rw [hNe]
    simp only [ftL,if_neg hns]
   show (ftL us (decl us) (ordsL us).oc (keysM (decl us).classes).length (supL us (decl us) p)).length<=(ftL us (decl us) (ordsL us).oc (keysM (decl us).classes).length p).length/\(ftL us (decl us) (ordsL us).oc (keysM (decl us).classes).length p).take _=_
   rw [e]
   exact ⟨by rw [List.length_append];omega,List.take_left ..⟩
end Go.Proofs.YtkmdfjpafkcleaaGreatDoor
namespace Go.Proofs.YtkmdfjpafkcleaaGreatDoor
open Eng Go.RowKit
theorem Sl.take {α:Type} {E:El α} {S:Nat->Prop} {w:World} {a:Option Addr} {l:List α} (h:Sl E S w a l) (k:Nat):Sl E S w a (l.take k) :=
 ⟨Nat.le_trans (List.length_take_le' ..) h.big,fun i x hx=>by
  rw [List.getElem?_take] at hx
  split at hx
  ·exact h.el i x hx
  ·cases hx⟩
theorem Sl.drop {α:Type} {E:El α} {S:Nat->Prop} {w:World} {a:Option Addr} {l:List α} (h:Sl E S w a l) (k:Nat):Sl E S w (a.map (·.add (k*E.sz))) (l.drop k) :=
 ⟨by have:=h.big;rw [List.length_drop];omega,fun i x hx=>by
  rw [List.getElem?_drop] at hx
  obtain ⟨b,o,cs,rfl,hs,hat,hr⟩:=h.el (k+i) x hx
  refine ⟨b,o+k*E.sz,cs,by simp [Addr.add],hs,?_,hr⟩
  rw [Nat.add_mul] at hat
  rw [Nat.add_assoc];exact hat⟩
end Go.Proofs.YtkmdfjpafkcleaaGreatDoor
namespace Go.Proofs.YtkmdfjpafkcleaaGreatDoor.Eng
open Go Go.RowKit
theorem bounds3_run {P:Program} {w:World} {sl:Bool} {len cap lo hi mx:Nat} {vlo vhi:Option Value} {km kh:IntKind} (h1:bnd 0 vlo lo) (h2:vhi=some (.int kh hi)) (h3:lo<=hi) (h4:hi<=mx) (h5:mx<=cap) :
  (Instr.sliceBounds sl len cap vlo vhi (some (.int km mx))).run P w = .ok (lo,hi,mx) w:=by
 subst h2
 unfold Instr.sliceBounds
 simp only
 refine (run_bind_ok (bound_run h5)).trans ?_
 refine (run_bind_ok (bound_run h4)).trans ?_
 cases vlo with
 | none=>have:lo=0:=h1;subst this;rfl
 | some v=>obtain ⟨k,rfl⟩:=h1;exact (run_bind_ok (bound_run h3)).trans rfl
theorem exec_slm {P:Program} {ρ:Operand->Value} {w:World} {d:Option Nat} {T:TypeId} {x hi mx:Operand} {lo:Option Operand} {ty:TypeId} {pos:String} {af:Array Edge} {g:Option (Nat×Bool)} {e esz by' sz:Nat} {ag:Bool} {zr:List Value}
  (ht:tiOk P T ⟨.slice e esz by',sz,ag,zr⟩=true) {a:Option Addr} {len cap nl nh nm:Nat} {kh km:IntKind} (hx:ρ x = .slice a len cap) (h1:bnd 0 (lo.map ρ) nl) (h2:ρ hi = .int kh nh) (h2':ρ mx = .int km nm) (h3:nl<=nh) (h4:nh<=nm) (h5:nm<=cap) :
  (execOp ρ ⟨d,.slice T x lo (some hi) (some mx),ty,pos,af,g⟩).run P w = .ok (.value (.slice (if nm=nl then a else a.map (·.add (nl*esz))) (nh-nl) (nm-nl))) w:=by
 obtain ⟨dd,xx,zz,hT⟩:=tiOk_und ht
 obtain ⟨rfl,hel⟩:=hT.sl _ _ _ rfl
 obtain ⟨y,z,hy,hys,_⟩:=elemOk_of hel
 simp only [execOp,hx]
 refine (run_bind_ok (P:=P) (x:=_) (w':=w) ?_).trans rfl
 simp only [Instr.sliceAt]
 rw [run_bind_ok (und_run hT.und w)]
 simp only [Instr.slice]
 rw [run_bind_ok (und_run hT.und w)]
 simp only [Option.map_some,h2,h2']
 rw [run_bind_ok (bounds3_run h1 rfl h3 h4 h5)]
 simp only
 rw [run_bind_ok (size_run hy w),hys]
 rfl
section
variable {C:Cx} {s:St} {w:World}
theorem slm {md:Option Md} {ops:Array Oper} {T:TypeId} {x hi mx:Operand} {lo:Option Operand} {d:Nat} {ty:TypeId} {pos:String} {af:Array Edge} {g:Option (Nat×Bool)} {rest:List Oper} {k:List Item} {l:Env} {c:CEnv} {e esz by' sz:Nat} {ag:Bool} {zr:List Value}
  {a:Option Addr} {len cap:Nat} (nl nh nm:Nat) {vlo:Option Value} {kh km:IntKind} (h:Wk C (.reg md ops rest k ((d,.slice (if nm=nl then a else a.map (·.add (nl*esz))) (nh-nl) (nm-nl))::l) c) w)
  (hs:adv C.tab C.n C.ks 400 s = .opn md ops ⟨some d,.slice T x lo (some hi) (some mx),ty,pos,af,g⟩ rest k l c []:=by rfl) (ht:C.tab.at T=some ⟨.slice e esz by',sz,ag,zr⟩:=by rfl) (hx:evc l c [] x=some (.slice a len cap):=by rfl)
  (hlo:evo l c [] lo=some vlo:=by rfl) (hhi:evc l c [] hi=some (.int kh nh):=by rfl) (hmx:evc l c [] mx=some (.int km nm):=by rfl) (h1:bnd 0 vlo nl:=by first | rfl | exact ⟨_,rfl⟩) (h3:nl<=nh:=by omega) (h4:nh<=nm:=by omega) (h5:nm<=cap:=by omega) (hf:fresh d l c []=true:=by rfl):Wk C s w :=
 rd (p:=[]) (fun hT _ hA hp _ _=>exec_slm (tab_at hT ht) (evc_ok hA.k hA.kc.c hp hx) (by rw [evo_ok hA.k hA.kc.c hp hlo];exact h1) (evc_ok hA.k hA.kc.c hp hhi) (evc_ok hA.k hA.kc.c hp hmx) h3 h4 h5) h hs rfl hf (okR_no rfl)
theorem grow_run {P:Program} {w:World} {T e esz by' sz:Nat} {ag:Bool} {zr:List Value} (ht:tiOk P T ⟨.slice e esz by',sz,ag,zr⟩=true) (hsz:0<esz) {a:Option Addr} {n cap:Nat} {xs:List Value} (hO:Src w a n xs) (hc:a=none->cap=0)
  {ay:Option Addr} {m cy:Nat} {news:List Value} (hy:Src w ay m news) (hlx:xs.length=n*esz) (hl:news.length=m*esz) (h1:news.all Value.oneCell'=true) (hg:cap<n+m) (hm:0<m) (hb:(n+m)*by'<=140737488355328) (hn:n+m<=1152921504606846976) (ty:TypeId) :
  ∃ a' cap' w',(Builtin.append_ #[T,T] ty #[.slice a n cap,.slice ay m cy]).run P w = .ok (.slice a' (n+m) cap') w'/\Ow w' w.heap.size e esz a' (n+m) cap' (xs++news)/\Bl w w':=by
 obtain ⟨d,x,z,hT⟩:=tiOk_und ht
 obtain ⟨rfl,hel⟩:=hT.sl _ _ _ rfl
 obtain ⟨y,zz,hyi,hys,hyb,hyz,hzc⟩:=elemOk_of hel
 have h63:n+m<=maxLen:=by unfold maxLen;omega
 rcases hy with ⟨rfl,rfl⟩ | ⟨b,o,rfl,hat⟩
 ·omega
 have hnews:∀ j u,news[j]? = some u->w.cell? ((⟨b,o,none⟩:Addr).add j)=some u:=fun j u hu=>by rw [add_none];exact hat j u hu
 cases a with
 | none =>
  obtain rfl:=hc rfl
  rcases hO with ⟨rfl,rfl⟩ | ⟨b,o,h,_⟩
  ·obtain ⟨a',cap',w',g1,g2,g3,g4⟩:=append_run (w:=w) (base:=w.heap.size) ht hsz (Ow.nil w w.heap.size e y.size |> fun h=>by rw [hys] at h;exact h) (.inr ⟨b,o,rfl,hat⟩) hl h1 (by omega) hn (Nat.le_refl _) ty (cy:=cy)
   exact ⟨a',cap',w',g1,g2,g3.below (Nat.le_refl _) fun g hg=>by cases hg⟩
  ·cases h
 | some ad =>
  have hold:∀ j u,xs[j]? = some u->w.cell? (ad.add j)=some u:=fun j u hu=>by
   rcases hO with ⟨rfl,rfl⟩ | ⟨b,o,h,hx⟩
   ·simp at hu
   ·obtain rfl:=Option.some.inj h
    rw [add_none];exact hx j u hu
  obtain ⟨v',w',hr,ho,hgr⟩:=run_append_arg_grows (P:=P) w T ty _ y zz esz by' hT.und hyi hyz hys hyb hzc hsz ad n cap xs hlx hold ⟨b,o,none⟩ m cy news hl hnews hg h63 hb
  have hB:Bl w w':=⟨hgr.os,hgr.tape,hgr.output,hgr.size,fun k hk=>hgr.block k hk (by simp)⟩
  rcases ho.2 with ⟨rfl,h0⟩ | ⟨g',cap',cur',rfl,hb',_⟩
  ·omega
  ·exact ⟨_,_,w',hr,⟨ho⟩,hB⟩
theorem apg {md:Option Md} {ops:Array Oper} {T T':TypeId} {x y:Operand} {d:Nat} {ty:TypeId} {pos:String} {af:Array Edge} {g:Option (Nat×Bool)} {rest:List Oper} {k:List Item} {l:Env} {c:CEnv} {e esz by' sz:Nat} {ag:Bool} {zr:List Value}
  {a:Option Addr} {n cap:Nat} {xs:List Value} {ay:Option Addr} {m cy:Nat} {news:List Value} (hO:Src w a n xs) (hsrc:Src w ay m news) (hc:a=none->cap=0) (hg:cap<n+m) (hmp:0<m)
  (h:∀ a' cap' w',Ow w' w.heap.size e esz a' (n+m) cap' (xs++news)->Bl w w'->Wk C (.reg md ops rest k ((d,.slice a' (n+m) cap')::l) c) w')
  (hs:adv C.tab C.n C.ks 400 s = .opn md ops ⟨some d,.call ⟨.builtin .append,#[x,y],#[T,T']⟩,ty,pos,af,g⟩ rest k l c []:=by rfl) (ht:C.tab.at T=some ⟨.slice e esz by',sz,ag,zr⟩:=by rfl)
  (hx:evc l c [] x=some (.slice a n cap):=by rfl) (hy:evc l c [] y=some (.slice ay m cy):=by rfl) (hTT:T'=T:=by rfl) (hsz:Nat.blt 0 esz=true:=by rfl) (hlx:xs.length=n*esz:=by first | rfl | (simp;done) | omega) (hl:news.length=m*esz:=by first | rfl | (simp;done) | omega) (h1:news.all Value.oneCell'=true:=by first | rfl | (simp;done))
  (hb:(n+m)*by'<=140737488355328:=by omega) (hn:n+m<=1152921504606846976:=by omega) (hf:fresh d l c []=true:=by rfl) (hm:∀ w',Bl w w'->mdW md w w':=by exact fun _ h=>mdW_bl h) (hnt:notT md=true:=by rfl):Wk C s w:=by
 subst hTT
 refine by_adv hs ⟨fun hT hfn => ?_⟩
 obtain ⟨a',cap',w',hr,hO',hB⟩:=grow_run (tab_at hT ht) (blt_lt hsz) hO hc hsrc hlx hl h1 hg hmp hb hn ty (cy:=cy)
 refine (op_val0 (okW_of rfl hnt) (hm _ hB) (fun _ a hA => ?_) (h a' cap' w' hO' hB) rfl hf).run hT hfn
 simp only [execOp,resolve,List.map_toArray,List.map_cons,List.map_nil,evc_ok hA.k hA.kc.c (p:=[]) trivial hx,evc_ok hA.k hA.kc.c (p:=[]) trivial hy]
 show (Sem.bind (Sem.pure _) _).run C.P w=_
 simp only [Sem.bind,invoke,builtin]
 exact (run_bind_ok hr).trans rfl
end
end Go.Proofs.YtkmdfjpafkcleaaGreatDoor.Eng
namespace Go.Proofs.YtkmdfjpafkcleaaGreatDoor
open Eng Go.RowKit
end Go.Proofs.YtkmdfjpafkcleaaGreatDoor
namespace Go.Proofs.YtkmdfjpafkcleaaGreatDoor
open Eng Go.RowKit
theorem ityp_obj {m:Mod} {t:Ty} {least:Int} (h:t.kind=2∨t.kind=4):ityp m t least=(decide (0<=t.cls)&&decide (t.cls<m.classes.length)):=by
 unfold ityp
 rw [if_pos h]
theorem mem_step {m:Mod} {k:Nat} (h:Desc m k) {a b:Int} (h0:0<=a) (ha:a<k) (hne:¬a=b):b∈upM m a↔b∈upM m (supM m a):=by
 rw [upM_step h h0 ha,List.mem_cons]
 exact ⟨fun q=>q.resolve_left fun e=>hne e.symm,.inr⟩
def rT (s:Nat) (l:List MC):List Int:=(l.map fun c=>c.table.getD s (-1)).filter fun n=>decide (0<=n)
theorem rT_snoc {s:Nat} {l:List MC} {k:Nat} {c:MC} {n:Int} (hc:l[k]? = some c) (hn:c.table[s]? = some n):rT s (l.take (k+1))=rT s (l.take k)++(if 0<=n then [n] else []):=by
 have e:c.table.getD s (-1)=n:=by rw [List.getD_eq_getElem?_getD,hn];rfl
 unfold rT
 rw [take_succ_some hc,List.map_append,List.filter_append]
 congr 1
 simp only [List.map_cons,List.map_nil,e]
 split
 ·rename_i h;rw [List.filter_cons_of_pos (by simpa using h)];rfl
 ·rename_i h;rw [List.filter_cons_of_neg (by simpa using h)];rfl
theorem rT_len (s:Nat) (l:List MC):(rT s l).length<=l.length:=by
 unfold rT
 refine Nat.le_trans (List.length_filter_le _ _) ?_
 rw [List.length_map];exact Nat.le_refl _
end Go.Proofs.YtkmdfjpafkcleaaGreatDoor
namespace Go.Proofs.YtkmdfjpafkcleaaGreatDoor
open Eng Go.RowKit
theorem opr_nul {m:Mod} {k:Nat} {i:Ins} (h:i.op=12):oprB m k i=(decide (i.a=3)||decide (i.b<m.classes.length)):=by unfold oprB;rw [if_pos h]
theorem opr_new {m:Mod} {k:Nat} {i:Ins} (h:i.op=14∨i.op=24):oprB m k i=decide (i.a<m.classes.length):=by unfold oprB;rw [if_neg (by omega),if_pos h]
theorem opr_rfs {m:Mod} {k:Nat} {i:Ins} (h:i.op=16):oprB m k i=decide (i.b<m.classes.length):=by unfold oprB;rw [if_neg (by omega),if_neg (by omega),if_pos h]
theorem opr_sta {m:Mod} {k:Nat} {i:Ins} (h:i.op=22∨i.op=23):oprB m k i=decide (i.a<m.statics.length):=by unfold oprB;rw [if_neg (by omega),if_neg (by omega),if_neg (by omega),if_pos h]
theorem opr_cal {m:Mod} {k:Nat} {i:Ins} (h:i.op=25):oprB m k i=(decide (i.a<k)&&decide (mcl m i.a = -1)):=by unfold oprB;rw [if_neg (by omega),if_neg (by omega),if_neg (by omega),if_neg (by omega),if_pos h]
theorem opr_snd {m:Mod} {k:Nat} {i:Ins} (h:i.op=26):oprB m k i=(decide (i.a<m.sels)&&(trgM m i.a.toNat).all fun t=>decide (t<k)):=by unfold oprB;rw [if_neg (by omega),if_neg (by omega),if_neg (by omega),if_neg (by omega),if_neg (by omega),if_pos h]
theorem opr_no {m:Mod} {k:Nat} {i:Ins} (h1:¬i.op=12) (h2:¬(i.op=14∨i.op=24)) (h3:¬i.op=16) (h4:¬(i.op=22∨i.op=23)) (h5:¬i.op=25) (h6:¬i.op=26):oprB m k i=true:=by unfold oprB;rw [if_neg h1,if_neg h2,if_neg h3,if_neg h4,if_neg h5,if_neg h6]
theorem val_call {i:Ins} (hv:validI i false=true) (h:i.op=25∨i.op=26):0<=i.a:=by
 obtain ⟨op,a,b⟩:=i
 simp only at h ⊢
 rcases h with rfl | rfl <;> (simp [validI,inR,rngs,mosts] at hv;omega)
end Go.Proofs.YtkmdfjpafkcleaaGreatDoor
namespace Go.Proofs.YtkmdfjpafkcleaaGreatDoor
open Eng Go.RowKit
theorem part_cell {P:Program} {w:World} {t:TypeId} {tk:TK} {sz:Nat} {zr:List Value} {xs:Array Value} {off:Nat} {v:Value} (h:tiOk P t ⟨tk,sz,false,zr⟩=true) (hv:xs[off]? = some v):(part t xs off).run P w = .ok v w:=by
 unfold part
 rw [run_bind_ok (ti_agg h w).1]
 simp only [hv];rfl
def shp:List Field->List (Nat×Nat)->Bool
 | [],[]=>true
 | f::fs,(t,o)::ts=>decide (f.name ≠ "_")&&decide (f.type=t)&&decide (f.offset=o)&&shp fs ts
 | _,_=>false
theorem eqf_gen {P:Program} {w:World} {d:Nat} {t o:Nat} {ts:List (Nat×Nat)} {fs:List Field} {xs ys:Array Value} {vx vy:Value} {r:Bool} (h:shp fs ((t,o)::ts)=true)
  (hx:(part t xs o).run P w = .ok vx w) (hy:(part t ys o).run P w = .ok vy w) (he:(Op.equalIn d t vx vy).run P w = .ok r w):∃ fs',shp fs' ts=true/\(Op.eqFields d xs ys fs).run P w=if r=true then (Op.eqFields d xs ys fs').run P w else .ok false w:=by
 cases fs with
 | nil=>simp [shp] at h
 | cons f fs =>
  simp only [shp,Bool.and_eq_true,decide_eq_true_eq] at h
  obtain ⟨⟨⟨h1,rfl⟩,rfl⟩,h4⟩:=h
  refine ⟨fs,h4,?_⟩
  rw [Op.eqFields,if_pos h1,run_bind_ok hx,run_bind_ok hy,run_bind_ok he]
  cases r <;> rfl
theorem eqf_nil {P:Program} {w:World} {d:Nat} {fs:List Field} {xs ys:Array Value} (h:shp fs []=true):(Op.eqFields d xs ys fs).run P w = .ok true w:=by
 cases fs with
 | nil=>rfl
 | cons f fs=>simp [shp] at h
theorem ti_i:tiOk Tryz.prog 3 ⟨.other,1,false,[.int .i64 0]⟩=true:=tab_at tabok rfl
theorem eq_i {w:World} {d:Nat} (a b:Int):(Op.equalIn (d+1) 3 (I a) (I b)).run Tryz.prog w = .ok (a == b) w:=run_equalIn_int w d _ .i64 .i64 _ _ (by kernel_rfl)
theorem eq_ty {w:World} {d:Nat} (x y:Ty):(Op.equalIn (d+2) 51 (.agg (encTy x).toArray) (.agg (encTy y).toArray)).run Tryz.prog w = .ok (decide (x=y)) w:=by
 rw [run_equalIn_struct w (d+1) _ _ _ (by kernel_rfl) (by kernel_rfl)]
 obtain ⟨f1,h1,e1⟩:=eqf_gen (P:=Tryz.prog) (w:=w) (d:=d+1) (ts:=[(3,1)]) (xs:=(encTy x).toArray) (ys:=(encTy y).toArray) (show shp (Tryz.prog.fieldsOf 51).toList [(3,0),(3,1)]=true by kernel_rfl) (part_cell ti_i rfl) (part_cell ti_i rfl) (eq_i x.kind y.kind)
 obtain ⟨f2,h2,e2⟩:=eqf_gen (P:=Tryz.prog) (w:=w) (d:=d+1) (xs:=(encTy x).toArray) (ys:=(encTy y).toArray) h1 (part_cell ti_i rfl) (part_cell ti_i rfl) (eq_i x.cls y.cls)
 rw [e1,e2,eqf_nil h2]
 obtain ⟨a,b⟩:=x
 obtain ⟨c,e⟩:=y
 by_cases p:a=c <;> by_cases q:b=e <;> simp [p,q]
theorem eq_ins {w:World} {d:Nat} (x y:Ins):(Op.equalIn (d+2) 120 (.agg (encIns x).toArray) (.agg (encIns y).toArray)).run Tryz.prog w = .ok (decide (x=y)) w:=by
 rw [run_equalIn_struct w (d+1) _ _ _ (by kernel_rfl) (by kernel_rfl)]
 obtain ⟨f1,h1,e1⟩:=eqf_gen (P:=Tryz.prog) (w:=w) (d:=d+1) (ts:=[(3,1),(3,2)]) (xs:=(encIns x).toArray) (ys:=(encIns y).toArray) (show shp (Tryz.prog.fieldsOf 120).toList [(3,0),(3,1),(3,2)]=true by kernel_rfl) (part_cell ti_i rfl) (part_cell ti_i rfl) (eq_i x.op y.op)
 obtain ⟨f2,h2,e2⟩:=eqf_gen (P:=Tryz.prog) (w:=w) (d:=d+1) (xs:=(encIns x).toArray) (ys:=(encIns y).toArray) h1 (part_cell ti_i rfl) (part_cell ti_i rfl) (eq_i x.a y.a)
 obtain ⟨f3,h3,e3⟩:=eqf_gen (P:=Tryz.prog) (w:=w) (d:=d+1) (xs:=(encIns x).toArray) (ys:=(encIns y).toArray) h2 (part_cell ti_i rfl) (part_cell ti_i rfl) (eq_i x.b y.b)
 rw [e1,e2,e3,eqf_nil h3]
 obtain ⟨a,b,c⟩:=x
 obtain ⟨a',b',c'⟩:=y
 by_cases p:a=a' <;> by_cases q:b=b' <;> by_cases r:c=c' <;> simp [p,q,r]
theorem Eng.neA {C:Cx} {s:St} {w:World} {md:Option Md} {ops:Array Oper} {T T':TypeId} {x y:Operand} {d:Nat} {ty:TypeId} {pos:String} {af:Array Edge} {g:Option (Nat×Bool)} {rest:List Oper} {k:List Item} {l:Env} {c:CEnv} {a b:List Value} {r:Bool}
  (he:∀ w',(Op.equalIn 10000 T (.agg a.toArray) (.agg b.toArray)).run C.P w' = .ok r w') (h:Wk C (.reg md ops rest k ((d,.bool (!r))::l) c) w)
  (hs:adv C.tab C.n C.ks 400 s = .opn md ops ⟨some d,.binOp .neq T x y T',ty,pos,af,g⟩ rest k l c []:=by rfl) (hx:evc l c [] x=some (.agg a.toArray):=by rfl) (hy:evc l c [] y=some (.agg b.toArray):=by rfl) (hg:C.P.eqGuardType C.P.depth T=false:=by kernel_rfl) (hf:fresh d l c []=true:=by rfl):Wk C s w :=
 rd (p:=[]) (fun _ _ hA hp w' _=>by
  simp only [execOp,evc_ok hA.k hA.kc.c hp hx,evc_ok hA.k hA.kc.c hp hy]
  have hb:(binOp .neq T (.agg a.toArray) (.agg b.toArray)).run C.P w' = .ok (.bool (!r)) w':=by rw [run_neq_struct,he];rfl
  exact run_bind_ok (run_bind_ok (run_eqGuard_agg _ _ _ _ _ _ _ hg) |>.trans hb) |>.trans rfl) h hs rfl hf (okR_no rfl)
theorem Eng.eqA {C:Cx} {s:St} {w:World} {md:Option Md} {ops:Array Oper} {T T':TypeId} {x y:Operand} {d:Nat} {ty:TypeId} {pos:String} {af:Array Edge} {g:Option (Nat×Bool)} {rest:List Oper} {k:List Item} {l:Env} {c:CEnv} {a b:List Value} {r:Bool}
  (he:∀ w',(Op.equalIn 10000 T (.agg a.toArray) (.agg b.toArray)).run C.P w' = .ok r w') (h:Wk C (.reg md ops rest k ((d,.bool r)::l) c) w)
  (hs:adv C.tab C.n C.ks 400 s = .opn md ops ⟨some d,.binOp .eql T x y T',ty,pos,af,g⟩ rest k l c []:=by rfl) (hx:evc l c [] x=some (.agg a.toArray):=by rfl) (hy:evc l c [] y=some (.agg b.toArray):=by rfl) (hg:C.P.eqGuardType C.P.depth T=false:=by kernel_rfl) (hf:fresh d l c []=true:=by rfl):Wk C s w :=
 rd (p:=[]) (fun _ _ hA hp w' _=>by
  simp only [execOp,evc_ok hA.k hA.kc.c hp hx,evc_ok hA.k hA.kc.c hp hy]
  have hb:(binOp .eql T (.agg a.toArray) (.agg b.toArray)).run C.P w' = .ok (.bool r) w':=by rw [run_eql_struct,he];rfl
  exact run_bind_ok (run_bind_ok (run_eqGuard_agg _ _ _ _ _ _ _ hg) |>.trans hb) |>.trans rfl) h hs rfl hf (okR_no rfl)
theorem same_no {α:Type} [DecidableEq α] {l m:List α} {k:Nat} {x y:α} (hx:l[k]? = some x) (hy:m[k]? = some y) (h:x≠y):decide (l=m)=false:=by
 rw [decide_eq_false_iff_not]
 rintro rfl
 rw [hx] at hy
 exact h (Option.some.inj hy)
theorem same_len {α:Type} [DecidableEq α] {l m:List α} (h:(l.length:Int)≠m.length):decide (l=m)=false:=by
 rw [decide_eq_false_iff_not]
 rintro rfl
 exact h rfl
theorem same_go {α:Type} {l m:List α} {k:Nat} {x y:α} (hx:l[k]? = some x) (hy:m[k]? = some y) (h:x=y) (hk:l.take k=m.take k):l.take (k+1)=m.take (k+1):=by
 rw [take_succ_some hx,take_succ_some hy,hk,h]
theorem same_end {α:Type} [DecidableEq α] {l m:List α} {k:Nat} (hl:(l.length:Int)=m.length) (h:l.take k=m.take k) (hk:k=l.length):decide (l=m)=true:=by
 subst hk
 rw [List.take_length,List.take_of_length_le (by omega)] at h
 exact decide_eq_true h
theorem r_SameTypes (l m:List Ty) (a1 a2:Option Addr) (c1 c2:Nat) (w:World) (h1:Sl eTy T w a1 l) (h2:Sl eTy T w a2 m):Ret Tryz.prog 40 #[.slice a1 l.length c1,.slice a2 m.length c2] w fun v w'=>v = .bool (decide (l=m))/\Bl w w':=by
 refine entr (vs:=[.slice a1 l.length c1,.slice a2 m.length c2]) [0,1,4,5,10,14,25] tabok Tryz.func40 (by kernel_rfl) ?_
 have hb1:=h1.big
 have hb2:=h2.big
 refine br (fun h => ?_) (fun h => ?_)
 ·exact rt1 ⟨vb (same_len (of_decide_eq_true h)).symm,Bl.refl _⟩
 have hl:=Classical.not_not.1 (of_decide_eq_false h)
 refine lpk l.length 5 [] [(0,.slice a1 l.length c1),(1,.slice a2 m.length c2)] (fun k vals w'=>vals=[]/\l.take k=m.take k/\Bl w w') ⟨rfl,rfl,Bl.refl _⟩ ?_
 rintro k vals w2 hk ⟨rfl,ha,hB⟩ ih
 by_cases hlt:k<l.length
 ·refine brT ?_
  obtain ⟨x,b,o,cs,hx,rfl,_,hAt,rfl⟩:=at_some (h1.bl hB) hlt
  obtain ⟨y,b',o',cs',hy,rfl,_,hAt',rfl⟩:=at_some (h2.bl hB) (i:=k) (by omega)
  refine dh T (List.range 9) fun w8 h8 => ?_
  have hC:=hAt.bl h8.bl
  have hC':=hAt'.bl h8.bl
  refine ix ?_
  refine lda hC ?_ (hm:=trivial)
  refine ix ?_
  refine lda hC' ?_ (hm:=trivial)
  refine neA (fun w=>eq_ty x y) ?_
  refine br (fun h => ?_) (fun h => ?_)
  ·exact rt1 ⟨vb (same_no hx hy (fun e=>by rw [decide_eq_true e] at h;cases h)).symm,hB.trans h8.bl⟩
  ·exact ih hlt ⟨rfl,same_go hx hy (Classical.byContradiction fun e=>by rw [decide_eq_false e] at h;cases h) ha,hB.trans h8.bl⟩
 refine brF ?_
 exact rt1 ⟨vb (same_end hl ha (by omega)).symm,hB⟩
theorem r_SameCode (l m:List Ins) (a1 a2:Option Addr) (c1 c2:Nat) (w:World) (h1:Sl eIns T w a1 l) (h2:Sl eIns T w a2 m):Ret Tryz.prog 110 #[.slice a1 l.length c1,.slice a2 m.length c2] w fun v w'=>v = .bool (decide (l=m))/\Bl w w':=by
 refine entr (vs:=[.slice a1 l.length c1,.slice a2 m.length c2]) [0,1,4,5,10,14,25] tabok Tryz.func110 (by kernel_rfl) ?_
 have hb1:=h1.big
 have hb2:=h2.big
 refine br (fun h => ?_) (fun h => ?_)
 ·exact rt1 ⟨vb (same_len (of_decide_eq_true h)).symm,Bl.refl _⟩
 have hl:=Classical.not_not.1 (of_decide_eq_false h)
 refine lpk l.length 5 [] [(0,.slice a1 l.length c1),(1,.slice a2 m.length c2)] (fun k vals w'=>vals=[]/\l.take k=m.take k/\Bl w w') ⟨rfl,rfl,Bl.refl _⟩ ?_
 rintro k vals w2 hk ⟨rfl,ha,hB⟩ ih
 by_cases hlt:k<l.length
 ·refine brT ?_
  obtain ⟨x,b,o,cs,hx,rfl,_,hAt,rfl⟩:=at_some (h1.bl hB) hlt
  obtain ⟨y,b',o',cs',hy,rfl,_,hAt',rfl⟩:=at_some (h2.bl hB) (i:=k) (by omega)
  refine dh T (List.range 9) fun w8 h8 => ?_
  have hC:=hAt.bl h8.bl
  have hC':=hAt'.bl h8.bl
  refine ix ?_
  refine lda hC ?_ (hm:=trivial)
  refine ix ?_
  refine lda hC' ?_ (hm:=trivial)
  refine neA (fun w=>eq_ins x y) ?_
  refine br (fun h => ?_) (fun h => ?_)
  ·exact rt1 ⟨vb (same_no hx hy (fun e=>by rw [decide_eq_true e] at h;cases h)).symm,hB.trans h8.bl⟩
  ·exact ih hlt ⟨rfl,same_go hx hy (Classical.byContradiction fun e=>by rw [decide_eq_false e] at h;cases h) ha,hB.trans h8.bl⟩
 refine brF ?_
 exact rt1 ⟨vb (same_end hl ha (by omega)).symm,hB⟩
theorem r_Ints (l m:List Int) (a1 a2:Option Addr) (c1 c2:Nat) (w:World) (h1:Sl eInt T w a1 l) (h2:Sl eInt T w a2 m):Ret Tryz.prog 28 #[.slice a1 l.length c1,.slice a2 m.length c2] w fun v w'=>v = .bool (decide (l=m))/\Bl w w':=by
 refine entr (vs:=[.slice a1 l.length c1,.slice a2 m.length c2]) [0,1,4,5,10,14,25] tabok Tryz.func28 (by kernel_rfl) ?_
 have hb1:=h1.big
 have hb2:=h2.big
 refine br (fun h => ?_) (fun h => ?_)
 ·exact rt1 ⟨vb (same_len (of_decide_eq_true h)).symm,Bl.refl _⟩
 have hl:=Classical.not_not.1 (of_decide_eq_false h)
 refine lpk l.length 5 [] [(0,.slice a1 l.length c1),(1,.slice a2 m.length c2)] (fun k vals w'=>vals=[]/\l.take k=m.take k/\Bl w w') ⟨rfl,rfl,Bl.refl _⟩ ?_
 rintro k vals w2 hk ⟨rfl,ha,hB⟩ ih
 by_cases hlt:k<l.length
 ·refine brT ?_
  obtain ⟨x,b,o,cs,hx,rfl,_,hAt,rfl⟩:=at_some (h1.bl hB) hlt
  obtain ⟨y,b',o',cs',hy,rfl,_,hAt',rfl⟩:=at_some (h2.bl hB) (i:=k) (by omega)
  refine dh T (List.range 9) fun w8 h8 => ?_
  have hC:=hAt.bl h8.bl
  have hC':=hAt'.bl h8.bl
  refine ix ?_
  refine ld (hC 0 _ rfl) ?_ (hm:=trivial)
  refine ix ?_
  refine ld (hC' 0 _ rfl) ?_ (hm:=trivial)
  refine br (fun h => ?_) (fun h => ?_)
  ·exact rt1 ⟨vb (same_no hx hy (of_decide_eq_true h)).symm,hB.trans h8.bl⟩
  ·exact ih hlt ⟨rfl,same_go hx hy (Classical.not_not.1 (of_decide_eq_false h)) ha,hB.trans h8.bl⟩
 refine brF ?_
 exact rt1 ⟨vb (same_end hl ha (by omega)).symm,hB⟩
theorem r_sameClass (c:MC) (a1 a2 b1 b2:Option Addr) (c1 c2 d1 d2:Nat) (w:World) (h1:Sl eTy T w a1 c.fields) (h2:Sl eInt T w a2 c.table) (g1:Sl eTy T w b1 c.fields) (g2:Sl eInt T w b2 c.table) :
  Ret Tryz.prog 48 #[.agg (mccells c a1 c1 a2 c2).toArray,.agg (mccells c b1 d1 b2 d2).toArray] w fun v w'=>v = .bool true/\Bl w w':=by
 refine entr (vs:=[.agg (mccells c a1 c1 a2 c2).toArray,.agg (mccells c b1 d1 b2 d2).toArray]) [0,1,2,3,4] tabok Tryz.func48 (by kernel_rfl) ?_
 refine bx (cs:=mccells c a1 c1 a2 c2) fun p1 w1 k1 => ?_
 refine bx (cs:=mccells c b1 d1 b2 d2) fun p2 w2 k2 => ?_
 have B2:=k1.bl.trans k2.bl
 have x1:=Bl.box k2.bl k1.box
 have x2:=k2.box
 refine ld (x1.cell rfl) ?_
 refine ld (x2.cell rfl) ?_
 refine ldg (fun _=>x1.cell rfl) ?_
 refine ldg (fun _=>x2.cell rfl) ?_
 refine ldg (fun _=>x1.cell rfl) ?_
 refine ldg (fun _=>x2.cell rfl) ?_
 refine spt (.bool true) ?_
 refine cl (r_SameTypes c.fields c.fields a1 b1 c1 d1 w2 (h1.bl B2) (g1.bl B2)) ?_
 rintro _ w3 ⟨rfl,B23⟩
 rw [decide_eq_true (rfl:c.fields=c.fields)]
 have B3:=B2.trans B23
 refine ldg (fun _=>(Bl.box B23 x1).cell rfl) ?_
 refine ldg (fun _=>(Bl.box B23 x2).cell rfl) ?_
 refine spt (.bool true) ?_
 refine cl (r_Ints c.table c.table a2 b2 c2 d2 w3 (h2.bl B3) (g2.bl B3)) ?_
 rintro _ w4 ⟨rfl,B34⟩
 rw [decide_eq_true (rfl:c.table=c.table)]
 exact rt1 ⟨rfl,B3.trans B34⟩
theorem r_sameMethod (m:MM) (a1 a2 a3 b1 b2 b3:Option Addr) (c1 c2 c3 d1 d2 d3:Nat) (w:World) (h1:Sl eTy T w a1 m.params) (h2:Sl eTy T w a2 m.locals) (h3:Sl eIns T w a3 m.code) (g1:Sl eTy T w b1 m.params) (g2:Sl eTy T w b2 m.locals) (g3:Sl eIns T w b3 m.code) :
  Ret Tryz.prog 49 #[.agg (mmcells m a1 c1 a2 c2 a3 c3).toArray,.agg (mmcells m b1 d1 b2 d2 b3 d3).toArray] w fun v w'=>v = .bool true/\Bl w w':=by
 refine entr (vs:=[.agg (mmcells m a1 c1 a2 c2 a3 c3).toArray,.agg (mmcells m b1 d1 b2 d2 b3 d3).toArray]) [0,1,2,3,4] tabok Tryz.func49 (by kernel_rfl) ?_
 refine bx (cs:=mmcells m a1 c1 a2 c2 a3 c3) fun p1 w1 k1 => ?_
 refine bx (cs:=mmcells m b1 d1 b2 d2 b3 d3) fun p2 w2 k2 => ?_
 have B2:=k1.bl.trans k2.bl
 have x1:=Bl.box k2.bl k1.box
 have x2:=k2.box
 refine ld (x1.cell rfl) ?_
 refine ld (x2.cell rfl) ?_
 refine ldg (fun _=>x1.cell rfl) ?_
 refine ldg (fun _=>x2.cell rfl) ?_
 refine ldg (fun _=>x1.cell rfl) ?_
 refine ldg (fun _=>x2.cell rfl) ?_
 refine spt (.bool true) ?_
 refine cl (r_SameTypes m.params m.params a1 b1 c1 d1 w2 (h1.bl B2) (g1.bl B2)) ?_
 rintro _ w3 ⟨rfl,B23⟩
 rw [decide_eq_true (rfl:m.params=m.params)]
 have B3:=B2.trans B23
 have x13:=Bl.box B23 x1
 have x23:=Bl.box B23 x2
 refine ldg (fun _=>x13.cell rfl) ?_
 refine ldg (fun _=>x23.cell rfl) ?_
 refine spt (.bool true) ?_
 refine cl (r_SameTypes m.locals m.locals a2 b2 c2 d2 w3 (h2.bl B3) (g2.bl B3)) ?_
 rintro _ w4 ⟨rfl,B34⟩
 rw [decide_eq_true (rfl:m.locals=m.locals)]
 have B4:=B3.trans B34
 have x14:=Bl.box B34 x13
 have x24:=Bl.box B34 x23
 refine spt (.bool true) ?_
 refine lda (At.left (cs:=encTy m.result) x14.at.tail.tail.tail.tail) ?_
 refine spt (.bool true) ?_
 refine lda (At.left (cs:=encTy m.result) x24.at.tail.tail.tail.tail) ?_
 refine spt (.bool true) ?_
 refine eqA (fun w=>eq_ty m.result m.result) ?_
 rw [decide_eq_true (rfl:m.result=m.result)]
 refine ldg (fun _=>x14.cell rfl) ?_
 refine ldg (fun _=>x24.cell rfl) ?_
 refine spt (.bool true) ?_
 refine cl (r_SameCode m.code m.code a3 b3 c3 d3 w4 (h3.bl B4) (g3.bl B4)) ?_
 rintro _ w5 ⟨rfl,B45⟩
 rw [decide_eq_true (rfl:m.code=m.code)]
 exact rt1 ⟨rfl,B4.trans B45⟩
theorem r_Same_eq (m:Mod) (a b:MA) (w:World) (hA:MdR T w m a) (hB:MdR T w m b):Ret Tryz.prog 15 #[.agg (modcells m a).toArray,.agg (modcells m b).toArray] w fun v w'=>v = .bool true/\Bl w w':=by
 have q1:=hA.cls.big
 have q2:=hA.mth.big
 refine entr (vs:=[.agg (modcells m a).toArray,.agg (modcells m b).toArray]) [0,1,2,3,4,5,6,37,42,56,61,75] tabok Tryz.func15 (by kernel_rfl) ?_
 refine bx (cs:=modcells m a) fun p1 w1 k1 => ?_
 refine bx (cs:=modcells m b) fun p2 w2 k2 => ?_
 have B2:=k1.bl.trans k2.bl
 have x1:=Bl.box k2.bl k1.box
 have x2:=k2.box
 refine ld (x1.cell rfl) ?_
 refine ld (x2.cell rfl) ?_
 refine ldg (fun _=>x1.cell rfl) ?_
 refine ldg (fun _=>x2.cell rfl) ?_
 refine ldg (fun _=>x1.cell rfl) ?_
 refine ldg (fun _=>x2.cell rfl) ?_
 refine ldg (fun _=>x1.cell rfl) ?_
 refine ldg (fun _=>x2.cell rfl) ?_
 refine spt (.bool true) ?_
 refine cl (r_SameTypes m.statics m.statics a.a2 b.a2 a.c2 b.c2 w2 (hA.bl B2).sta (hB.bl B2).sta) ?_
 rintro _ w3 ⟨rfl,B23⟩
 rw [decide_eq_true (rfl:m.statics=m.statics)]
 have B3:=B2.trans B23
 replace x1:=Bl.box B23 x1
 replace x2:=Bl.box B23 x2
 refine brf ?_
 refine lpk (vals:=[]) m.classes.length 5 [] [(2,.pointer (some ⟨p1,0,none⟩)),(3,.pointer (some ⟨p2,0,none⟩))] (fun k vals w'=>vals=[]/\Bl w3 w') ⟨rfl,Bl.refl _⟩ ?_
 rintro k vals w4 hk ⟨rfl,B34⟩ ih
 have B4:=B3.trans B34
 have y1:=Bl.box B34 x1
 have y2:=Bl.box B34 x2
 refine ld (y1.cell rfl) ?_
 by_cases hlt:k<m.classes.length
 ·refine brT ?_
  obtain ⟨c,bs,o,cs,hc,e2,_,hAt,e1,r1,e3,r3,rfl,f1,f2,_⟩:=at_some (hA.bl B4).cls hlt
  obtain ⟨c',bs',o',cs',hc',e2',_,hAt',e1',r1',e3',r3',rfl,f1',f2',_⟩:=at_some (hB.bl B4).cls hlt
  obtain rfl:c=c':=by rw [hc] at hc';exact Option.some.inj hc'
  refine dh T (List.range 12) fun w5 k5 => ?_
  have B5:=B4.trans k5.bl
  have B35:=B34.trans k5.bl
  refine ld ((k5.box y1).cell rfl) ?_ (hm:=trivial)
  rw [e2]
  refine ix ?_
  refine lda (hAt.bl k5.bl) ?_ (hm:=trivial)
  refine ld ((k5.box y2).cell rfl) ?_ (hm:=trivial)
  rw [e2']
  refine ix ?_
  refine lda (hAt'.bl k5.bl) ?_ (hm:=trivial)
  refine cl (r_sameClass c e1 e3 e1' e3' r1 r3 r1' r3' w5 (f1.bl k5.bl) (f2.bl k5.bl) (f1'.bl k5.bl) (f2'.bl k5.bl)) ?_
  rintro _ w6 ⟨rfl,B56⟩
  refine brf ?_
  exact ih hlt ⟨rfl,B35.trans B56⟩
 refine brF ?_
 clear ih y1 y2
 refine lpk (vals:=[]) m.methods.length 6 [] [(2,.pointer (some ⟨p1,0,none⟩)),(3,.pointer (some ⟨p2,0,none⟩))] (fun k vals w'=>vals=[]/\Bl w3 w') ⟨rfl,B34⟩ ?_
 clear B34 B4
 rintro k vals w4 hk ⟨rfl,B34⟩ ih
 have B4:=B3.trans B34
 have y1:=Bl.box B34 x1
 have y2:=Bl.box B34 x2
 refine ld (y1.cell rfl) ?_
 by_cases hlt:k<m.methods.length
 ·refine brT ?_
  obtain ⟨c,bs,o,cs,hc,e2,_,hAt,e1,r1,e3,r3,e4,r4,rfl,f1,f2,f3,_⟩:=at_some (hA.bl B4).mth hlt
  obtain ⟨c',bs',o',cs',hc',e2',_,hAt',e1',r1',e3',r3',e4',r4',rfl,f1',f2',f3',_⟩:=at_some (hB.bl B4).mth hlt
  obtain rfl:c=c':=by rw [hc] at hc';exact Option.some.inj hc'
  refine dh T (List.range 12) fun w5 k5 => ?_
  have B35:=B34.trans k5.bl
  refine ld ((k5.box y1).cell rfl) ?_ (hm:=trivial)
  rw [e2]
  refine ix ?_
  refine lda (hAt.bl k5.bl) ?_ (hm:=trivial)
  refine ld ((k5.box y2).cell rfl) ?_ (hm:=trivial)
  rw [e2']
  refine ix ?_
  refine lda (hAt'.bl k5.bl) ?_ (hm:=trivial)
  refine cl (r_sameMethod c e1 e3 e4 e1' e3' e4' r1 r3 r4 r1' r3' r4' w5 (f1.bl k5.bl) (f2.bl k5.bl) (f3.bl k5.bl) (f1'.bl k5.bl) (f2'.bl k5.bl) (f3'.bl k5.bl)) ?_
  rintro _ w6 ⟨rfl,B56⟩
  refine brf ?_
  exact ih hlt ⟨rfl,B35.trans B56⟩
 refine brF ?_
 exact rt1 ⟨rfl,B4⟩
end Go.Proofs.YtkmdfjpafkcleaaGreatDoor
namespace Go.Proofs.YtkmdfjpafkcleaaGreatDoor
open Eng
end Go.Proofs.YtkmdfjpafkcleaaGreatDoor
namespace Go.Proofs.YtkmdfjpafkcleaaGreatDoor
open Eng Go.RowKit
end Go.Proofs.YtkmdfjpafkcleaaGreatDoor
namespace Go.Proofs.YtkmdfjpafkcleaaGreatDoor
open Eng Go.RowKit
theorem code_all {l:List Ins} {p:Bool} (h:codeE l p=0):∀ i∈l,validI i p=true:=by
 unfold codeE at h
 split at h
 ·cases h
 ·split at h
  ·rename_i h2;exact List.all_eq_true.1 h2
  ·cases h
end Go.Proofs.YtkmdfjpafkcleaaGreatDoor
namespace Go.Proofs.YtkmdfjpafkcleaaGreatDoor
open Eng Go.RowKit
variable {us:List Unt}
theorem cutI_dots {x y:ByteArray} (h:(46:UInt8) ∉ y.data.toList):cutI (dots x y)=x.size/\(dots x y).extract 0 (cutI (dots x y))=x/\(dots x y).extract (cutI (dots x y)+1) (dots x y).size=y:=by
 have hsz:=dots_sz x y
 have hl:=toL_dots x y
 have hget:∀ i,i<(dots x y).size->(dots x y).data[i]! = (x.data.toList++46::y.data.toList).getD i 0:=fun i hi=>by
  have h1:i<(dots x y).data.size:=hi
  rw [getElem!_pos _ i h1,List.getD_eq_getElem?_getD,<-hl,Array.getElem?_toList,Array.getElem?_eq_getElem h1];rfl
 have key:cutI (dots x y)=x.size:=by
  unfold cutI
  rcases Lib.lastIndexByte_spec (dots x y) 46 with ⟨_,hn⟩ | ⟨i,hi,e,hc,hn⟩
  ·have:=hn x.size (by omega)
   rw [hget _ (by omega)] at this
   rw [show x.size=x.data.toList.length from (ba_len x).symm] at this
   simp at this
  ·rw [e,Int.toNat_natCast]
   rcases Nat.lt_trichotomy i x.size with q | q | q
   ·have:=hn x.size q (by omega)
    rw [hget _ (by omega)] at this
    rw [show x.size=x.data.toList.length from (ba_len x).symm] at this
    simp at this
   ·exact q
   ·exfalso
    rw [hget i hi] at hc
    apply h
    have hxl:=ba_len x
    rw [List.getD_eq_getElem?_getD,List.getElem?_append_right (by omega)] at hc
    obtain ⟨k,hk⟩:∃ k,i-x.data.toList.length=k+1:=⟨i-x.data.toList.length-1,by omega⟩
    rw [hk,List.getElem?_cons_succ] at hc
    have hyl:=ba_len y
    obtain ⟨b,hb⟩:=some_of_lt (l:=y.data.toList) (k:=k) (by omega)
    rw [hb] at hc
    have hb':b=46:=by
     have hc:(b.toNat:Int)=46:=hc
     exact UInt8.toNat_inj.1 (by show b.toNat=46;omega)
    subst hb'
    exact List.mem_of_getElem? hb
 refine ⟨key,?_,?_⟩
 ·refine ba_ext ?_
  rw [key,ByteArray.data_extract]
  simp only [Array.toList_extract,List.extract_eq_take_drop,hl,List.drop_zero,Nat.sub_zero]
  rw [show x.size=x.data.toList.length from (ba_len x).symm,List.take_left]
 ·refine ba_ext ?_
  rw [key,ByteArray.data_extract]
  simp only [Array.toList_extract,List.extract_eq_take_drop,hl]
  have e:x.data.toList++46::y.data.toList=(x.data.toList++[46])++y.data.toList:=by simp
  rw [e,List.drop_append_of_le_length (by simp),List.drop_eq_nil_of_le (by simp),List.nil_append,List.take_of_length_le]
  rw [hsz,ba_len];omega
theorem f_plain {u:Unt} (hC:CkU u) {c:Cls} (hc:c∈u.classes) {f:Fld} (hf:f∈c.fields):(46:UInt8) ∉ (nm u f.name).data.toList:=by
 refine nm_plain hC (List.mem_append_left _ (List.mem_append_left _ (List.mem_flatMap.2 ⟨c,hc,?_⟩)))
 simp only [cref,List.mem_append,List.mem_flatMap]
 exact .inr ⟨f,hf,by simp [fref]⟩
theorem fldM_at (K:RunK us) {p:ByteArray} (h:(getM (decl us).fields p).getD false=true) :
  ∃ u∈us,∃ c∈u.classes,∃ f∈c.fields,p=fpath u c f/\cpath u c∈(ordsL us).oc/\fldM us (ordsL us).oc p=idxB (lay us (cpath u c)) (nm u f.name)/\nm u f.name∈lay us (cpath u c):=by
 obtain ⟨u,hu,c,hc,f,hf,rfl⟩:=(get_fld p).1 h
 have hC:=K.good.ck u hu
 have hcl:=(cls_iff K.good (p:=cpath u c) (x:=(u,c))).2 ⟨⟨hu,hc⟩,rfl⟩
 have hoc:=(mem_oc K).2 ⟨_,hcl⟩
 obtain ⟨e1,e2,e3⟩:=cutI_dots (x:=cpath u c) (f_plain hC hc hf)
 refine ⟨u,hu,c,hc,f,hf,rfl,hoc,?_,?_⟩
 ·unfold fldM layA
  show idxB (if hasB _ ((dots (cpath u c) (nm u f.name)).extract 0 (cutI (dots (cpath u c) (nm u f.name))))=true then _ else _) ((dots (cpath u c) (nm u f.name)).extract _ _)=_
  rw [e2,e3,if_pos (hasB_iff.2 hoc)]
 ·unfold lay
  obtain ⟨N,hN⟩:∃ N,(keysM (decl us).classes).length=N+1:=⟨(keysM (decl us).classes).length-1,by have:=List.length_pos_of_mem hoc;rw [keys_oc K];omega⟩
  rw [hN]
  simp only [layL,List.mem_append]
  right
  unfold ownL
  rw [hcl]
  exact List.mem_map.2 ⟨f,hf,rfl⟩
theorem lay_7 (K:RunK us) {p:ByteArray} (h:p∈(ordsL us).oc):(lay us p).length<=7:=by
 have:=K.ly
 rw [List.any_eq_false] at this
 have:=this p h
 simpa using this
theorem op_rngs:∀ k:Fin 36,k.val≠12->k.val≠14->k.val≠24->k.val≠16->k.val≠17->k.val≠18->k.val≠22->k.val≠23->k.val≠25->k.val≠26->isPool (rngs.getD k.val (0,0)).1=false/\isPool (rngs.getD k.val (0,0)).2=false:=by decide
theorem inR_np {n:Int} {r:Nat} (h:isPool r=false):inR n r true=inR n r false:=by
 unfold inR
 simp [h]
theorem small_in' {n:Int} {r:Nat} {M:Int} (hr:mosts.getD r 0=M) (h0:0<=n) (h1:n<=M) (q1:r≠1) (q3:r≠3) (q14:r≠14):inR n r false=true:=by
 unfold inR
 rw [if_neg q1,if_neg q3,if_neg q14,if_neg (by simp),hr]
 simp [h0,h1]
theorem validI_iff' {i:Ins} {p:Bool}:validI i p=true↔(0<=i.op/\i.op<36)/\inR i.a (rngs.getD i.op.toNat (0,0)).1 p=true/\inR i.b (rngs.getD i.op.toNat (0,0)).2 p=true/\(¬i.op=12∨¬i.a=3∨i.b=0):=by
 unfold validI
 simp only [Bool.and_eq_true,Bool.or_eq_true,decide_eq_true_eq]
 constructor
 ·rintro ⟨⟨⟨h,a⟩,b⟩,(c | c) | c⟩
  ·exact ⟨h,a,b,.inl c⟩
  ·exact ⟨h,a,b,.inr (.inl c)⟩
  ·exact ⟨h,a,b,.inr (.inr c)⟩
 ·rintro ⟨h,a,b,c | c | c⟩
  ·exact ⟨⟨⟨h,a⟩,b⟩,.inl (.inl c)⟩
  ·exact ⟨⟨⟨h,a⟩,b⟩,.inl (.inr c)⟩
  ·exact ⟨⟨⟨h,a⟩,b⟩,.inr c⟩
theorem inst_op (us:List Unt) (O:Ords) (u:Unt) (i:Ins):(instM us O u i).op=i.op:=by
 unfold instM
 repeat' split
 all_goals rfl
theorem inst_val (K:RunK us) {u:Unt} (hu:u∈us) {m:Mth} (hm:m∈u.methods) {i:Ins} (hi:i∈m.code):validI (instM us (ordsL us) u i) false=true:=by
 have hC:=K.good.ck u hu
 have hv:=valid_of hC hm hi
 have ho:=(def_mth K hu hm).2.2 i hi
 obtain ⟨b1,b2,b3,b4⟩:=big_of K
 obtain ⟨v1,v2,v3,v4⟩:=validI_iff'.1 hv
 unfold operL at ho
 by_cases h14:i.op=14∨i.op=24
 ·rw [if_pos h14] at ho
  have hmem:=hasC_oc K ho
  have h0:=idxB_mem hmem
  have h1:=idxB_lt (ordsL us).oc (nm u i.a)
  unfold instM
  rw [if_pos h14]
  refine validI_iff'.2 ⟨v1,?_,?_,.inl (by simp only;omega)⟩
  ·rcases h14 with q | q <;> (simp only [q];exact small_in' (r:=4) (M:=9) rfl h0 (by omega) (by decide) (by decide) (by decide))
  ·rcases h14 with q | q <;> (simp only [q] at v3 ⊢;exact (inR_np (r:=0) (by decide)).symm.trans v3)
 rw [if_neg h14] at ho
 by_cases h16:i.op=16
 ·rw [if_pos h16] at ho
  have hmem:=hasC_oc K ho
  have h0:=idxB_mem hmem
  have h1:=idxB_lt (ordsL us).oc (nm u i.b)
  unfold instM
  rw [if_neg h14,if_pos h16]
  refine validI_iff'.2 ⟨v1,?_,?_,.inl (by simp only;omega)⟩
  ·simp only [h16] at v2 ⊢;exact (inR_np (r:=5) (by decide)).symm.trans v2
  ·simp only [h16];exact small_in' (r:=4) (M:=9) rfl h0 (by omega) (by decide) (by decide) (by decide)
 rw [if_neg h16] at ho
 by_cases h12:i.op=12
 ·rw [if_pos h12] at ho
  unfold instM
  rw [if_neg h14,if_neg h16,if_pos h12]
  by_cases h3:i.a=3
  ·rw [if_pos h3]
   have hb:i.b=0:=by
    rcases v4 with q | q | q
    ·exact absurd h12 q
    ·exact absurd h3 q
    ·exact q
   refine validI_iff'.2 ⟨v1,?_,?_,.inr (.inr hb)⟩
   ·rw [h12] at v2 ⊢;exact (inR_np (r:=3) (by decide)).symm.trans v2
   ·rw [h12,hb];decide
  ·rw [if_neg h3]
   simp only [h3,decide_false,Bool.false_or] at ho
   have hmem:=hasC_oc K ho
   have h0:=idxB_mem hmem
   have h1:=idxB_lt (ordsL us).oc (nm u i.b)
   refine validI_iff'.2 ⟨v1,?_,?_,.inr (.inl h3)⟩
   ·simp only [h12] at v2 ⊢;exact (inR_np (r:=3) (by decide)).symm.trans v2
   ·simp only [h12];exact small_in' (r:=4) (M:=9) rfl h0 (by omega) (by decide) (by decide) (by decide)
 rw [if_neg h12] at ho
 by_cases h17:i.op=17∨i.op=18
 ·rw [if_pos h17] at ho
  obtain ⟨v,hv',c,hc,f,hf,_,hoc,e,hmem⟩:=fldM_at K ho
  have h0:=idxB_mem hmem
  have h1:=idxB_lt (lay us (cpath v c)) (nm v f.name)
  have h2:=lay_7 K hoc
  unfold instM
  rw [if_neg h14,if_neg h16,if_neg h12,if_pos h17,e]
  refine validI_iff'.2 ⟨v1,?_,?_,.inl (by simp only;omega)⟩
  ·rcases h17 with q | q <;> (simp only [q];exact small_in' (r:=6) (M:=6) rfl h0 (by omega) (by decide) (by decide) (by decide))
  ·rcases h17 with q | q <;> (simp only [q] at v3 ⊢;exact (inR_np (r:=0) (by decide)).symm.trans v3)
 rw [if_neg h17] at ho
 by_cases h22:i.op=22∨i.op=23
 ·rw [if_pos h22] at ho
  have hmem:nm u i.a∈(ordsL us).os:=(sortL_perm' _).mem_iff.2 (hasM_iff.1 ho)
  have h0:=idxB_mem hmem
  have h1:=idxB_lt (ordsL us).os (nm u i.a)
  unfold instM
  rw [if_neg h14,if_neg h16,if_neg h12,if_neg h17,if_pos h22]
  refine validI_iff'.2 ⟨v1,?_,?_,.inl (by simp only;omega)⟩
  ·rcases h22 with q | q <;> (simp only [q];exact small_in' (r:=7) (M:=9) rfl h0 (by omega) (by decide) (by decide) (by decide))
  ·rcases h22 with q | q <;> (simp only [q] at v3 ⊢;exact (inR_np (r:=0) (by decide)).symm.trans v3)
 rw [if_neg h22] at ho
 by_cases h25:i.op=25
 ·rw [if_pos h25] at ho
  obtain ⟨d,hd⟩:=Option.isSome_iff_exists.1 ho
  obtain ⟨hdW,_,hdp⟩:=get_cal_at K.good hd
  have hmem:nm u i.a∈(ordsL us).om:=by rw [<-hdp];exact om_of K hdW
  have h0:=idxB_mem hmem
  have h1:=idxB_lt (ordsL us).om (nm u i.a)
  unfold instM
  rw [if_neg h14,if_neg h16,if_neg h12,if_neg h17,if_neg h22,if_pos h25]
  refine validI_iff'.2 ⟨v1,?_,?_,.inl (by simp only;omega)⟩
  ·simp only [h25];exact small_in' (r:=8) (M:=15) rfl h0 (by omega) (by decide) (by decide) (by decide)
  ·simp only [h25] at v3 ⊢;exact (inR_np (r:=0) (by decide)).symm.trans v3
 rw [if_neg h25] at ho
 by_cases h26:i.op=26
 ·rw [if_pos h26] at ho
  have hmem:nm u i.a∈(ordsL us).oz:=mem_oz.2 ho
  have h0:=idxB_mem hmem
  have h1:=idxB_lt (ordsL us).oz (nm u i.a)
  unfold instM
  rw [if_neg h14,if_neg h16,if_neg h12,if_neg h17,if_neg h22,if_neg h25,if_pos h26]
  refine validI_iff'.2 ⟨v1,?_,?_,.inl (by simp only;omega)⟩
  ·simp only [h26];exact small_in' (r:=9) (M:=15) rfl h0 (by omega) (by decide) (by decide) (by decide)
  ·simp only [h26] at v3 ⊢;exact (inR_np (r:=0) (by decide)).symm.trans v3
 unfold instM
 rw [if_neg h14,if_neg h16,if_neg h12,if_neg h17,if_neg h22,if_neg h25,if_neg h26]
 obtain ⟨k,hk⟩:=Int.eq_ofNat_of_zero_le v1.1
 have hk36:k<36:=by omega
 have hkt:i.op.toNat=k:=by omega
 obtain ⟨p1,p2⟩:=op_rngs ⟨k,hk36⟩ (by show k≠12;omega) (by show k≠14;omega) (by show k≠24;omega) (by show k≠16;omega) (by show k≠17;omega) (by show k≠18;omega) (by show k≠22;omega) (by show k≠23;omega) (by show k≠25;omega) (by show k≠26;omega)
 rw [hkt] at v2 v3
 exact validI_iff'.2 ⟨v1,by rw [hkt,<-inR_np p1];exact v2,by rw [hkt,<-inR_np p2];exact v3,v4⟩
theorem inst_cod (K:RunK us) {u:Unt} (hu:u∈us) {m:Mth} (hm:m∈u.methods):codeE (m.code.map (instM us (ordsL us) u)) false=0:=by
 have hC:=K.good.ck u hu
 have hc:=mErr_zero hC.me m hm
 have hl:=code_len hC hm
 have hall:=code_all hc
 unfold codeE at hc ⊢
 rw [if_neg (by omega),if_pos (List.all_eq_true.2 hall)] at hc
 rw [if_neg (by rw [List.length_map];omega),if_pos (List.all_eq_true.2 fun i hi=>by
  obtain ⟨i0,hi0,rfl⟩:=List.mem_map.1 hi
  exact inst_val K hu hm hi0)]
 have:(m.code.map (instM us (ordsL us) u)).map (·.op)=m.code.map (·.op):=by
  rw [List.map_map]
  exact List.map_congr_left fun i _=>inst_op us _ u i
 rw [this];exact hc
theorem cal_ahead (K:RunK us) {k:Nat} {d:Nat×Nat} {u:Unt} {m:Mth} (hd:mthAt us d=some (u,m)) (hk:(ordsL us).om[k]? = some (mpath u m)) {i:Ins} (hi:i∈m.code) {q:ByteArray} (hq:q∈calI (decl us) u i) {j:Nat} (hj:(ordsL us).om[j]? = some q):j<k:=by
 have hc:q∈calL us (decl us) (mpath u m):=by
  unfold calL
  rw [mthOf_at K hd]
  exact List.mem_flatMap.2 ⟨i,hi,hq⟩
 have:=orderL_placed (show orderL (calL us (decl us)) (keysM (decl us).calls++keysM (decl us).sends)=some (ordsL us).om from K.om) k _ hk q hc
 obtain ⟨j',hj'⟩:=List.mem_iff_getElem?.1 this
 rw [List.getElem?_take] at hj'
 split at hj'
 ·have:=(List.getElem?_inj (List.getElem?_eq_some_iff.1 hj).1 (om_nodup K)).1 (hj.trans hj'.symm)
  omega
 ·cases hj'
theorem trg_at (K:RunK us) {s:Nat} {t:Int} (h:t∈trgM (modO us (ordsL us)) s) {z:ByteArray} (hz:(ordsL us).oz[s]? = some z) :
  ∃ (n:Nat) (d:Nat×Nat) (u:Unt) (m:Mth),t=n/\mthAt us d=some (u,m)/\(ordsL us).om[n]? = some (mpath u m)/\0<=m.cls/\nm u m.name=z:=by
 obtain ⟨h0,c,hc,ht⟩:=mem_trg.1 h
 obtain ⟨k,hk⟩:=List.mem_iff_getElem?.1 hc
 obtain ⟨p,hp,rfl⟩:=modO_cls hk
 have e:=tbl_of (p:=p) hz
 rw [List.getD_eq_getElem?_getD,e] at ht
 have ht:nearM us (decl us) (ordsL us).om ((keysM (decl us).classes).length+1) p z=t:=ht
 obtain ⟨n,rfl⟩:=Int.eq_ofNat_of_zero_le h0
 obtain ⟨j,q,hq,_,he⟩:=near_spec K z _ k p hp (by rw [ht];omega)
 rw [ht] at he
 obtain ⟨d,u,m,hd,hm,_,h1,_,h3⟩:=sent_at K hq (List.mem_of_getElem? hz) he
 exact ⟨n,d,u,m,rfl,hd,hm,h1,h3⟩
theorem opr_modO (K:RunK us) {k:Nat} {d:Nat×Nat} {u:Unt} {m:Mth} (hd:mthAt us d=some (u,m)) (hk:(ordsL us).om[k]? = some (mpath u m)) {i:Ins} (hi:i∈m.code):oprB (modO us (ordsL us)) k (instM us (ordsL us) u i)=true:=by
 obtain ⟨hu,hm⟩:=mthAt_un hd
 have hu:=List.mem_of_getElem? hu
 have hm:=List.mem_of_getElem? hm
 have ho:=(def_mth K hu hm).2.2 i hi
 unfold operL at ho
 unfold oprB
 rw [inst_op,modO_cl,modO_sl]
 by_cases h14:i.op=14∨i.op=24
 ·rw [if_neg (by omega),if_pos h14]
  unfold instM
  rw [if_pos h14]
  exact decide_eq_true (idxB_lt _ _)
 rw [if_neg h14] at ho
 by_cases h16:i.op=16
 ·rw [if_neg (by omega),if_neg h14,if_pos h16]
  unfold instM
  rw [if_neg h14,if_pos h16]
  exact decide_eq_true (idxB_lt _ _)
 rw [if_neg h16] at ho
 by_cases h12:i.op=12
 ·rw [if_pos h12]
  unfold instM
  rw [if_neg h14,if_neg h16,if_pos h12]
  by_cases h3:i.a=3
  ·rw [if_pos h3];simp [h3]
  ·rw [if_neg h3]
   simp [idxB_lt]
 rw [if_neg h12] at ho ⊢
 rw [if_neg h14,if_neg h16]
 by_cases h22:i.op=22∨i.op=23
 ·rw [if_pos h22]
  unfold instM
  rw [if_neg h14,if_neg h16,if_neg h12,if_neg (by omega),if_pos h22]
  exact decide_eq_true (idxB_lt _ _)
 rw [if_neg h22]
 by_cases h17:i.op=17∨i.op=18
 ·rw [if_neg (by omega),if_neg (by omega)]
 rw [if_neg h17,if_neg h22] at ho
 by_cases h25:i.op=25
 ·rw [if_pos h25] at ho ⊢
  obtain ⟨e,he⟩:=Option.isSome_iff_exists.1 ho
  obtain ⟨heW,hes,hep⟩:=get_cal_at K.good he
  obtain ⟨⟨v,n⟩,hvn⟩:=mem_mthW.1 heW
  have hmem:nm u i.a∈(ordsL us).om:=by rw [<-hep];exact om_of K heW
  obtain ⟨j,hj⟩:=List.mem_iff_getElem?.1 hmem
  have hjk:=cal_ahead K hd hk hi (q:=nm u i.a) (by unfold calI;rw [if_pos h25];exact List.mem_singleton.2 rfl) hj
  unfold instM
  rw [if_neg h14,if_neg h16,if_neg h12,if_neg h17,if_neg h22,if_pos h25]
  simp only [idxB_at (om_nodup K) hj,Bool.and_eq_true,decide_eq_true_eq]
  refine ⟨by omega,?_⟩
  unfold mcl
  rw [Int.toNat_natCast,mth_modO hj,<-hep,pthM_at hvn,mthM_of K hvn]
  rw [sentB_at hvn,decide_eq_false_iff_not] at hes
  show (if 0<=n.cls then _ else (-1:Int)) = -1
  rw [if_neg hes]
 rw [if_neg h25] at ho ⊢
 by_cases h26:i.op=26
 ·rw [if_pos h26] at ho ⊢
  have hmem:nm u i.a∈(ordsL us).oz:=mem_oz.2 ho
  obtain ⟨s,hs⟩:=List.mem_iff_getElem?.1 hmem
  have hix:=idxB_at (ascB_nodup (oz_asc us)) hs
  unfold instM
  rw [if_neg h14,if_neg h16,if_neg h12,if_neg h17,if_neg h22,if_neg h25,if_pos h26]
  simp only [hix,Bool.and_eq_true,decide_eq_true_eq,Int.toNat_natCast,List.all_eq_true]
  refine ⟨?_,fun t ht => ?_⟩
  ·show (s:Int)<((ordsL us).oz.length:Int)
   have:=(List.getElem?_eq_some_iff.1 hs).1;omega
  ·obtain ⟨n,e,v,n',rfl,he,hn,h0,hz⟩:=trg_at K ht hs
   have:=cal_ahead K hd hk hi (q:=mpath v n') (by
    unfold calI
    rw [if_neg h25,if_pos h26,nmd_W]
    refine List.mem_map.2 ⟨e,List.mem_filter.2 ⟨mem_mthW.2 ⟨_,he⟩,?_⟩,pthM_at he⟩
    simp [sentB_at he,he,h0,hz]) hn
   omega
 rw [if_neg h26]
theorem mthP_modO (K:RunK us) {k:Nat} {x:MM} (hx:(modO us (ordsL us)).methods[k]? = some x):MthP (modO us (ordsL us)) k x:=by
 obtain ⟨p,hp,rfl⟩:=modO_mth hx
 obtain ⟨d,u,m,hd,rfl,_⟩:=mem_om K (List.mem_of_getElem? hp)
 obtain ⟨hu,hm⟩:=mthAt_un hd
 have hu:=List.mem_of_getElem? hu
 have hm:=List.mem_of_getElem? hm
 have hC:=K.good.ck u hu
 have hL:=lim_of hC.lim
 have hT:=tyU_of hC
 obtain ⟨d1,d2,d3⟩:=def_mth K hu hm
 have hkd:=hC.kd
 simp only [kinds,Bool.and_eq_true,List.all_eq_true] at hkd
 have hkm:=hkd.2 m hm
 simp only [kmth,Bool.and_eq_true,List.all_eq_true] at hkm
 obtain ⟨⟨k1,k2⟩,k3⟩:=hkm
 rw [mthM_of K hd]
 have hc0 : -1<=(if 0<=m.cls then idxB (ordsL us).oc (nm u m.cls) else -1)/\(if 0<=m.cls then idxB (ordsL us).oc (nm u m.cls) else (-1:Int))<(ordsL us).oc.length:=by
  split
  ·have:=idxB_lt (ordsL us).oc (nm u m.cls)
   have:=idxB_ge (ordsL us).oc (nm u m.cls)
   omega
  ·omega
 have hlim:=hC.lim
 simp only [limits,Bool.and_eq_true,List.all_eq_true] at hlim
 have hlm:=hlim.2 m hm
 simp only [lmth,mslots,Bool.and_eq_true,decide_eq_true_eq] at hlm
 refine ⟨hc0.1,by rw [modO_cl];exact hc0.2,by simp only [List.length_map];exact hlm.1,?_,fun t ht => ?_,fun t ht => ?_,?_,inst_cod K hu hm,fun i hi => ?_⟩
 ·simp only [List.length_map]
  have h2:(m.params.length:Int)+m.locals.length+(if m.cls = -1 then 0 else 1)<=10:=of_decide_eq_true hlm.2
  have one:∀ (p:Prop) [Decidable p],(if p then (1:Int) else 0)<=1:=fun p _=>by split <;> omega
  by_cases hc1:m.cls = -1
  ·rw [if_pos hc1] at h2
   have e1:¬(0:Int)<=m.cls:=by omega
   rw [if_neg e1,if_neg (by decide)];omega
  ·rw [if_neg hc1] at h2
   have:=one (0<=if 0<=m.cls then idxB (ordsL us).oc (nm u m.cls) else -1)
   omega
 ·obtain ⟨t0,h0,rfl⟩:=List.mem_map.1 ht
  have:=k1 t0 h0
  simp only [kin,Bool.and_eq_true,decide_eq_true_eq] at this
  exact ityp_kind K (hT.p m hm t0 h0) (d2 t0 (List.mem_append_left _ (List.mem_append_left _ h0))) ⟨this.1,by omega,this.2⟩
 ·obtain ⟨t0,h0,rfl⟩:=List.mem_map.1 ht
  have:=k2 t0 h0
  simp only [kin,Bool.and_eq_true,decide_eq_true_eq] at this
  exact ityp_kind K (hT.l m hm t0 h0) (d2 t0 (List.mem_append_left _ (List.mem_append_right _ h0))) ⟨this.1,by omega,this.2⟩
 ·simp only [kout,Bool.and_eq_true,decide_eq_true_eq] at k3
  exact ityp_kind K (hT.r m hm) (d2 _ (List.mem_append_right _ (List.mem_singleton.2 rfl))) ⟨k3.1,k3.1,k3.2⟩
 ·obtain ⟨i0,hi0,rfl⟩:=List.mem_map.1 hi
  exact opr_modO K hd hp hi0
theorem like_kind {oc:List ByteArray} {u v:Unt} {t s:Ty} (ht:tyP u t) (hs:tyP v s) (h:likeT u v t s=true):kindM oc u t=kindM oc v s:=by
 unfold likeT at h
 simp only [Bool.and_eq_true,decide_eq_true_eq] at h
 obtain ⟨h1,h2⟩:=h
 have hk:tcls t=tcls s:=by unfold tcls;rw [h1]
 unfold kindM
 cases hc:tcls t with
 | true =>
  have n1:¬t.cls<0:=fun q=>by rw [ht.neg.1 q] at hc;cases hc
  have n2:¬s.cls<0:=fun q=>by rw [hk,hs.neg.1 q] at hc;cases hc
  unfold tpth at h2
  rw [if_pos hc,if_pos (hk▸hc)] at h2
  rw [if_neg n1,if_neg n2,h1,h2]
 | false =>
  rw [if_pos (ht.neg.2 hc),if_pos (hs.neg.2 (hk▸hc)),h1]
theorem like_kinds {oc:List ByteArray} {u v:Unt}:∀ {a b:List Ty},(∀ t∈a,tyP u t)->(∀ t∈b,tyP v t)->likeL u v a b=true->a.map (kindM oc u)=b.map (kindM oc v)
 | [],[],_,_,_=>rfl
 | [],_::_,_,_,h=>by simp [likeL] at h
 | _::_,[],_,_,h=>by simp [likeL] at h
 | t::a,s::b,ha,hb,h=>by
  unfold likeL at h
  simp only [List.length_cons,Nat.add_right_cancel_iff,List.zip_cons_cons,List.all_cons,Bool.and_eq_true,decide_eq_true_eq] at h
  rw [List.map_cons,List.map_cons,like_kind (ha t (List.mem_cons_self ..)) (hb s (List.mem_cons_self ..)) h.2.1,
   like_kinds (a:=a) (b:=b) (fun x hx=>ha x (List.mem_cons_of_mem _ hx)) (fun x hx=>hb x (List.mem_cons_of_mem _ hx)) (by unfold likeL;simp only [Bool.and_eq_true,decide_eq_true_eq];exact ⟨h.1,h.2.2⟩)]
theorem modO_valid (K:RunK us):ModP (modO us (ordsL us)):=by
 obtain ⟨b1,b2,b3,b4⟩:=big_of K
 have hG:=K.good
 refine ⟨by rw [modO_cl];exact b1,by rw [modO_sl];exact b2,by rw [modO_ml];exact b3,Int.natCast_nonneg _,by show ((ordsL us).oz.length:Int)<=16;omega,fun k x hx=>clsP_modO K hx,fun t ht => ?_,fun k x hx=>mthP_modO K hx,fun s hs t ht u hu x y hx hy => ?_⟩
 ·have ht:t∈(ordsL us).os.map (staM us (ordsL us)):=ht
  obtain ⟨p,hp,rfl⟩:=List.mem_map.1 ht
  rw [(os_perm K).mem_iff,List.mem_map] at hp
  obtain ⟨d,hd,rfl⟩:=hp
  obtain ⟨⟨u,f⟩,hx⟩:=mem_staW.1 hd
  obtain ⟨h1,h2⟩:=staAt_un hx
  have hu:=List.mem_of_getElem? h1
  have hf:=List.mem_of_getElem? h2
  have e:staM us (ordsL us) (pthS us d)=kindM (ordsL us).oc u f.ty:=by
   unfold staM
   rw [get_sta_of hG hd,Option.bind_some]
   have hx':(us[d.1]?).bind (fun u=>(u.statics[d.2]?).map fun f=>(u,f))=some (u,f):=hx
   rw [hx']
  rw [e]
  have hC:=hG.ck u hu
  have hkd:=hC.kd
  simp only [kinds,Bool.and_eq_true,List.all_eq_true] at hkd
  have hkf:=hkd.1.2 f hf
  simp only [kin,Bool.and_eq_true,decide_eq_true_eq] at hkf
  exact ityp_kind K ((tyU_of hC).s f hf) (def_sta K (x:=(u,f)) ⟨hu,hf⟩) ⟨hkf.1,by omega,hkf.2⟩
 ·have hs:(s:Int)<((ordsL us).oz.length:Int):=hs
  obtain ⟨z,hz⟩:=some_of_lt (l:=(ordsL us).oz) (k:=s) (by omega)
  obtain ⟨n1,e1,u1,m1,rfl,he1,hn1,h01,hz1⟩:=trg_at K ht hz
  obtain ⟨n2,e2,u2,m2,rfl,he2,hn2,h02,hz2⟩:=trg_at K hu hz
  rw [Int.toNat_natCast,mth_modO hn1,mthM_of K he1] at hx
  rw [Int.toNat_natCast,mth_modO hn2,mthM_of K he2] at hy
  obtain rfl:=Option.some.inj hx
  obtain rfl:=Option.some.inj hy
  obtain ⟨a1,a2⟩:=mthAt_un he1
  obtain ⟨a3,a4⟩:=mthAt_un he2
  have a1:=List.mem_of_getElem? a1
  have a2:=List.mem_of_getElem? a2
  have a3:=List.mem_of_getElem? a3
  have a4:=List.mem_of_getElem? a4
  have hU:=hG.ck u1 a1
  have hV:=hG.ck u2 a3
  have mem:∀ {e u m},mthAt us e=some (u,m)->0<=m.cls->nm u m.name=z->pthM us e∈(getM (decl us).named z).getD []:=fun {e u m} he h0 hz=>by
   rw [nmd_W]
   exact List.mem_map.2 ⟨e,List.mem_filter.2 ⟨mem_mthW.2 ⟨_,he⟩,by simp [sentB_at he,he,h0,hz]⟩,rfl⟩
  have sg:∀ {e u m},mthAt us e=some (u,m)->0<=m.cls->sigD us (decl us) (pthM us e)=sigL u m:=fun {e u m} he h0=>by
   unfold sigD
   rw [get_snd_of hG (preE_of K.df) (mem_mthW.2 ⟨_,he⟩) (by rw [sentB_at he];exact decide_eq_true h0),Option.bind_some,he]
  have hq:=(unlike_iff us).1 K.un z _ (mem he1 h01 hz1) _ (mem he2 h02 hz2)
  rw [sg he1 h01,sg he2 h02] at hq
  have:=(sig_like hU hV a2 a4).1 hq
  rw [Bool.and_eq_true] at this
  exact ⟨like_kinds (fun t ht=>(tyU_of hU).p m1 a2 t ht) (fun t ht=>(tyU_of hV).p m2 a4 t ht) this.1,like_kind ((tyU_of hU).r m1 a2) ((tyU_of hV).r m2 a4) this.2⟩
theorem modL_valid (h:runE us=0):ModP (modL us):=by
 unfold modL
 rw [if_pos h]
 exact modO_valid (runK_of h)
end Go.Proofs.YtkmdfjpafkcleaaGreatDoor
namespace Go.Proofs.YtkmdfjpafkcleaaGreatDoor
open Eng Go.RowKit
abbrev tPr:TypeId:=102
abbrev encWh:Nat×Nat->List Value:=fun d=>[I d.1,I d.2]
def eWh:El (Nat×Nat):=plainEl 2 encWh (fun _=>rfl)
theorem r_text {u:Unt} {ua:UA} {w:World} (hU:UnR T w u ua) {i:Int} (hi:inP u i):Ret Tryz.prog 66 #[.agg (ucells u ua).toArray,I i] w fun v w'=>v = .string (nm u i)/\Bl w w':=by
 refine entr (vs:=[.agg (ucells u ua).toArray,I i]) [0,1,2,4] tabok Tryz.func66 (by kernel_rfl) ?_
 refine bx (cs:=ucells u ua) fun b1 w1 k1 => ?_
 refine ld (k1.box.cell rfl) ?_
 obtain ⟨k,b,o,rfl,hk,e1,_,hc⟩:=poolAt hU hi
 rw [e1]
 refine ix ?_
 refine ld (k1.bl.kp T _ _ _ trivial hc) ?_
 exact rt1 ⟨rfl,k1.bl⟩
def PgU (us:List Unt) (b:Nat) (w:World):Prop:=∃ au cu rest,Box w b tPr (.slice au us.length cu::rest)/\Sl eUnt T w au us
theorem PgU.bl {us:List Unt} {b:Nat} {w w':World} (h:PgU us b w) (k:Bl w w'):PgU us b w':=by
 obtain ⟨au,cu,rest,hx,hS⟩:=h
 exact ⟨au,cu,rest,Bl.box k hx,hS.bl k⟩
structure UAt (us:List Unt) (b:Nat) (w:World) (n:Nat) (u:Unt):Prop where
 ex:∃ bu ou cu rest cs ua,Box w b tPr (.slice (some ⟨bu,ou,none⟩) us.length cu::rest)/\At w bu (ou+n*eUnt.sz) cs/\cs=ucells u ua/\UnR T w u ua/\n<us.length
theorem PgU.at {us:List Unt} {b:Nat} {w:World} (h:PgU us b w) {n:Nat} {u:Unt} (hu:us[n]? = some u):UAt us b w n u:=by
 obtain ⟨au,cu,rest,hx,hS⟩:=h
 obtain ⟨bu,ou,cs,rfl,_,hAt,ua,rfl,hU⟩:=hS.el n u hu
 exact ⟨bu,ou,cu,rest,_,ua,hx,hAt,rfl,hU,(List.getElem?_eq_some_iff.1 hu).1⟩
variable {us:List Unt} {b:Nat} {w:World}
theorem r_cpath (H:PgU us b w) (hC:∀ u∈us,CkU u) {d:Nat×Nat} {u:Unt} {c:Cls} (hd:clsAt us d=some (u,c)) :
  Ret Tryz.prog 56 #[.pointer (some ⟨b,0,none⟩),.agg (encWh d).toArray] w fun v w'=>v = .string (pthC us d)/\Bl w w':=by
 obtain ⟨hu,hc⟩:=clsAt_un hd
 have hum:=List.mem_of_getElem? hu
 have hI:=ixs_of (hC u hum)
 obtain ⟨bu,ou,cu,rest,cs,ua,hx,hAt,rfl,hU,hlt⟩:=(H.at hu).ex
 refine entr (vs:=[.pointer (some ⟨b,0,none⟩),.agg (encWh d).toArray]) [0,1,3,4,5] tabok Tryz.func56 (by kernel_rfl) ?_
 refine bx (cs:=encWh d) fun b1 w1 k1 => ?_
 have z1:=k1.size
 have y1:=k1.blk
 have hb:=hx.lt
 have hbu:bu<w.heap.size:=cell_lt (hAt 0 _ rfl)
 refine dh (fun i=>i<w1.heap.size) (List.range 10) fun w2 k2 => ?_
 have B2:=k1.bl.trans k2.bl
 have x1:=k2.box k1.box
 refine ld ((Bl.box B2 hx).cell rfl) ?_ (hm:=by show b<_;omega)
 refine ld (x1.cell rfl) ?_ (hm:=by show b1<_;omega)
 refine ix ?_
 refine lda (hAt.bl B2) ?_ (hm:=by show bu<_;omega)
 refine al fun b3 w3 k3 => ?_
 refine sta (cs':=ucells u ua) k3.box (fun w4 k4 x4 => ?_) (hm:=wrS (by show ¬b3<_;have:=k3.blk;have:=k2.bl.size;omega))
 have y3:=k3.blk
 have B24:Bl w2 w4:=Below.trans k3.bl (k4.below (by omega))
 have B4:=B2.trans B24
 have U4:=hU.bl B4
 have x14:=Bl.box B24 x1
 obtain ⟨bc,oc,cs,e2,_,hAtc,af,cf,rfl,hF⟩:=U4.cls.el d.2 c hc
 have hkl:d.2<u.classes.length:=(List.getElem?_eq_some_iff.1 hc).1
 refine dh T (List.range 14) fun w5 k5 => ?_
 have x5:=k5.box x4
 have x15:=k5.box x14
 refine ld (x5.cell rfl) ?_ (hm:=trivial)
 refine cat ?_ (hab:=by have:=hU.nm;rw [show ByteArray.size ⟨#[46]⟩=1 from rfl];omega)
 refine lda x5.at ?_ (hm:=trivial)
 refine ld (x5.cell rfl) ?_ (hm:=trivial)
 refine ld (x15.cell rfl) ?_ (hm:=trivial)
 rw [e2]
 refine ix ?_
 refine ld (hAtc.bl k5.bl 0 _ rfl) ?_ (hm:=trivial)
 refine cl (r_text (U4.bl k5.bl) (hI.plc.cn c (List.mem_of_getElem? hc))) ?_
 rintro _ w6 ⟨rfl,B6⟩
 have n1:=nm_size hU (hI.plc.cn c (List.mem_of_getElem? hc))
 refine cat ?_ (hab:=by have:=hU.nm;rw [ByteArray.size_append,show ByteArray.size ⟨#[46]⟩=1 from rfl];omega)
 refine rt1 ⟨?_,(B4.trans k5.bl).trans B6⟩
 rw [pthC_at hd];rfl
theorem r_spath (H:PgU us b w) (hC:∀ u∈us,CkU u) {d:Nat×Nat} {u:Unt} {c:Fld} (hd:staAt us d=some (u,c)) :
  Ret Tryz.prog 63 #[.pointer (some ⟨b,0,none⟩),.agg (encWh d).toArray] w fun v w'=>v = .string (pthS us d)/\Bl w w':=by
 obtain ⟨hu,hc⟩:=staAt_un hd
 have hum:=List.mem_of_getElem? hu
 have hcm:=List.mem_of_getElem? hc
 have hI:=ixs_of (hC u hum)
 obtain ⟨bu,ou,cu,rest,cs,ua,hx,hAt,rfl,hU,hlt⟩:=(H.at hu).ex
 refine entr (vs:=[.pointer (some ⟨b,0,none⟩),.agg (encWh d).toArray]) [0,1,3,4,5] tabok Tryz.func63 (by kernel_rfl) ?_
 refine bx (cs:=encWh d) fun b1 w1 k1 => ?_
 have z1:=k1.size
 have y1:=k1.blk
 have hb:=hx.lt
 have hbu:bu<w.heap.size:=cell_lt (hAt 0 _ rfl)
 refine dh (fun i=>i<w1.heap.size) (List.range 10) fun w2 k2 => ?_
 have B2:=k1.bl.trans k2.bl
 have x1:=k2.box k1.box
 refine ld ((Bl.box B2 hx).cell rfl) ?_ (hm:=by show b<_;omega)
 refine ld (x1.cell rfl) ?_ (hm:=by show b1<_;omega)
 refine ix ?_
 refine lda (hAt.bl B2) ?_ (hm:=by show bu<_;omega)
 refine al fun b3 w3 k3 => ?_
 refine sta (cs':=ucells u ua) k3.box (fun w4 k4 x4 => ?_) (hm:=wrS (by show ¬b3<_;have:=k3.blk;have:=k2.bl.size;omega))
 have y3:=k3.blk
 have B24:Bl w2 w4:=Below.trans k3.bl (k4.below (by omega))
 have B4:=B2.trans B24
 have U4:=hU.bl B4
 have x14:=Bl.box B24 x1
 obtain ⟨bc,oc,cs,e2,_,hAtc,rfl⟩:=U4.sta.el d.2 c hc
 have hkl:d.2<u.statics.length:=(List.getElem?_eq_some_iff.1 hc).1
 refine dh T (List.range 14) fun w5 k5 => ?_
 have x5:=k5.box x4
 have x15:=k5.box x14
 refine ld (x5.cell rfl) ?_ (hm:=trivial)
 refine cat ?_ (hab:=by have:=hU.nm;rw [show ByteArray.size ⟨#[46]⟩=1 from rfl];omega)
 refine lda x5.at ?_ (hm:=trivial)
 refine ld (x5.cell rfl) ?_ (hm:=trivial)
 refine ld (x15.cell rfl) ?_ (hm:=trivial)
 rw [e2]
 refine ix ?_
 refine ld (hAtc.bl k5.bl 0 _ rfl) ?_ (hm:=trivial)
 refine cl (r_text (U4.bl k5.bl) (hI.plc.sn c hcm)) ?_
 rintro _ w6 ⟨rfl,B6⟩
 have n1:=nm_size hU (hI.plc.sn c hcm)
 refine cat ?_ (hab:=by have:=hU.nm;rw [ByteArray.size_append,show ByteArray.size ⟨#[46]⟩=1 from rfl];omega)
 refine rt1 ⟨?_,(B4.trans k5.bl).trans B6⟩
 rw [pthS_at hd];rfl
theorem r_sent (H:PgU us b w) (hC:∀ u∈us,CkU u) {d:Nat×Nat} {u:Unt} {c:Mth} (hd:mthAt us d=some (u,c)) :
  Ret Tryz.prog 124 #[.pointer (some ⟨b,0,none⟩),.agg (encWh d).toArray] w fun v w'=>v = .bool (sentB us d)/\Bl w w':=by
 obtain ⟨hu,hc⟩:=mthAt_un hd
 have hum:=List.mem_of_getElem? hu
 have hcm:=List.mem_of_getElem? hc
 have hI:=ixs_of (hC u hum)
 obtain ⟨bu,ou,cu,rest,cs,ua,hx,hAt,rfl,hU,hlt⟩:=(H.at hu).ex
 refine entr (vs:=[.pointer (some ⟨b,0,none⟩),.agg (encWh d).toArray]) [0,1,3,4] tabok Tryz.func124 (by kernel_rfl) ?_
 refine bx (cs:=encWh d) fun b1 w1 k1 => ?_
 have z1:=k1.size
 have y1:=k1.blk
 have hb:=hx.lt
 have hbu:bu<w.heap.size:=cell_lt (hAt 0 _ rfl)
 have hkl:d.2<u.methods.length:=(List.getElem?_eq_some_iff.1 hc).1
 obtain ⟨bc,oc,cs,e2,_,hAtc,a1,c1,a2,c2,a3,c3,rfl,_⟩:=hU.mth.el d.2 c hc
 refine dh T (List.range 16) fun w2 k2 => ?_
 have B2:=k1.bl.trans k2.bl
 have x1:=k2.box k1.box
 refine ld ((Bl.box B2 hx).cell rfl) ?_ (hm:=trivial)
 refine ld (x1.cell rfl) ?_ (hm:=trivial)
 refine ix ?_
 refine ld (hAt.bl B2 4 _ rfl) ?_ (hm:=trivial)
 refine ld (x1.cell rfl) ?_ (hm:=trivial)
 rw [e2]
 refine ix ?_
 refine ld (hAtc.bl B2 1 _ rfl) ?_ (hm:=trivial)
 refine rt1 ⟨?_,B2⟩
 rw [sentB_at hd]
theorem r_mname (H:PgU us b w) (hC:∀ u∈us,CkU u) {d:Nat×Nat} {u:Unt} {c:Mth} (hd:mthAt us d=some (u,c)) :
  Ret Tryz.prog 125 #[.pointer (some ⟨b,0,none⟩),.agg (encWh d).toArray] w fun v w'=>v = .string (nm u c.name)/\Bl w w':=by
 obtain ⟨hu,hc⟩:=mthAt_un hd
 have hum:=List.mem_of_getElem? hu
 have hcm:=List.mem_of_getElem? hc
 have hI:=ixs_of (hC u hum)
 obtain ⟨bu,ou,cu,rest,cs,ua,hx,hAt,rfl,hU,hlt⟩:=(H.at hu).ex
 refine entr (vs:=[.pointer (some ⟨b,0,none⟩),.agg (encWh d).toArray]) [0,1,3,4,5] tabok Tryz.func125 (by kernel_rfl) ?_
 refine bx (cs:=encWh d) fun b1 w1 k1 => ?_
 have z1:=k1.size
 have y1:=k1.blk
 have hb:=hx.lt
 have hbu:bu<w.heap.size:=cell_lt (hAt 0 _ rfl)
 refine dh (fun i=>i<w1.heap.size) (List.range 10) fun w2 k2 => ?_
 have B2:=k1.bl.trans k2.bl
 have x1:=k2.box k1.box
 refine ld ((Bl.box B2 hx).cell rfl) ?_ (hm:=by show b<_;omega)
 refine ld (x1.cell rfl) ?_ (hm:=by show b1<_;omega)
 refine ix ?_
 refine lda (hAt.bl B2) ?_ (hm:=by show bu<_;omega)
 refine al fun b3 w3 k3 => ?_
 refine sta (cs':=ucells u ua) k3.box (fun w4 k4 x4 => ?_) (hm:=wrS (by show ¬b3<_;have:=k3.blk;have:=k2.bl.size;omega))
 have y3:=k3.blk
 have B24:Bl w2 w4:=Below.trans k3.bl (k4.below (by omega))
 have B4:=B2.trans B24
 have U4:=hU.bl B4
 have x14:=Bl.box B24 x1
 obtain ⟨bc,oc,cs,e2,_,hAtc,a1,c1,a2,c2,a3,c3,rfl,_⟩:=U4.mth.el d.2 c hc
 have hkl:d.2<u.methods.length:=(List.getElem?_eq_some_iff.1 hc).1
 refine dh T (List.range 10) fun w5 k5 => ?_
 have x5:=k5.box x4
 have x15:=k5.box x14
 refine lda x5.at ?_ (hm:=trivial)
 refine ld (x5.cell rfl) ?_ (hm:=trivial)
 refine ld (x15.cell rfl) ?_ (hm:=trivial)
 rw [e2]
 refine ix ?_
 refine ld (hAtc.bl k5.bl 0 _ rfl) ?_ (hm:=trivial)
 refine cl (r_text (U4.bl k5.bl) (hI.plc.mn c hcm)) ?_
 rintro _ w6 ⟨rfl,B6⟩
 exact rt1 ⟨rfl,(B4.trans k5.bl).trans B6⟩
theorem r_mclass (H:PgU us b w) (hC:∀ u∈us,CkU u) {d:Nat×Nat} {u:Unt} {c:Mth} (hd:mthAt us d=some (u,c)) (hcl:inP u c.cls) :
  Ret Tryz.prog 126 #[.pointer (some ⟨b,0,none⟩),.agg (encWh d).toArray] w fun v w'=>v = .string (nm u c.cls)/\Bl w w':=by
 obtain ⟨hu,hc⟩:=mthAt_un hd
 have hum:=List.mem_of_getElem? hu
 have hcm:=List.mem_of_getElem? hc
 have hI:=ixs_of (hC u hum)
 obtain ⟨bu,ou,cu,rest,cs,ua,hx,hAt,rfl,hU,hlt⟩:=(H.at hu).ex
 refine entr (vs:=[.pointer (some ⟨b,0,none⟩),.agg (encWh d).toArray]) [0,1,3,4,5] tabok Tryz.func126 (by kernel_rfl) ?_
 refine bx (cs:=encWh d) fun b1 w1 k1 => ?_
 have z1:=k1.size
 have y1:=k1.blk
 have hb:=hx.lt
 have hbu:bu<w.heap.size:=cell_lt (hAt 0 _ rfl)
 refine dh (fun i=>i<w1.heap.size) (List.range 10) fun w2 k2 => ?_
 have B2:=k1.bl.trans k2.bl
 have x1:=k2.box k1.box
 refine ld ((Bl.box B2 hx).cell rfl) ?_ (hm:=by show b<_;omega)
 refine ld (x1.cell rfl) ?_ (hm:=by show b1<_;omega)
 refine ix ?_
 refine lda (hAt.bl B2) ?_ (hm:=by show bu<_;omega)
 refine al fun b3 w3 k3 => ?_
 refine sta (cs':=ucells u ua) k3.box (fun w4 k4 x4 => ?_) (hm:=wrS (by show ¬b3<_;have:=k3.blk;have:=k2.bl.size;omega))
 have y3:=k3.blk
 have B24:Bl w2 w4:=Below.trans k3.bl (k4.below (by omega))
 have B4:=B2.trans B24
 have U4:=hU.bl B4
 have x14:=Bl.box B24 x1
 obtain ⟨bc,oc,cs,e2,_,hAtc,a1,c1,a2,c2,a3,c3,rfl,_⟩:=U4.mth.el d.2 c hc
 have hkl:d.2<u.methods.length:=(List.getElem?_eq_some_iff.1 hc).1
 refine dh T (List.range 10) fun w5 k5 => ?_
 have x5:=k5.box x4
 have x15:=k5.box x14
 refine lda x5.at ?_ (hm:=trivial)
 refine ld (x5.cell rfl) ?_ (hm:=trivial)
 refine ld (x15.cell rfl) ?_ (hm:=trivial)
 rw [e2]
 refine ix ?_
 refine ld (hAtc.bl k5.bl 1 _ rfl) ?_ (hm:=trivial)
 refine cl (r_text (U4.bl k5.bl) (hcl)) ?_
 rintro _ w6 ⟨rfl,B6⟩
 exact rt1 ⟨rfl,(B4.trans k5.bl).trans B6⟩
end Go.Proofs.YtkmdfjpafkcleaaGreatDoor
namespace Go.Proofs.YtkmdfjpafkcleaaGreatDoor
open Eng Go.RowKit
abbrev tWh:TypeId:=104
structure PgS where
 cls:List (Nat×Nat)
 sta:List (Nat×Nat)
 mth:List (Nat×Nat)
 ord:List (Nat×Nat)
 las:List (Nat×Nat)
 sel:List ByteArray
def Pg (us:List Unt) (b:Nat) (s:PgS) (w:World):Prop:=∃ au cu ac cc as' cs am cm ao co al' cl' az cz,
 Box w b tPr [.slice au us.length cu,.slice ac s.cls.length cc,.slice as' s.sta.length cs,.slice am s.mth.length cm,.slice ao s.ord.length co,.slice al' s.las.length cl',.slice az s.sel.length cz] /\
 Sl eUnt T w au us/\Sl eWh T w ac s.cls/\Sl eWh T w as' s.sta/\Sl eWh T w am s.mth/\Sl eWh T w ao s.ord/\Sl eWh T w al' s.las/\Sl eStr T w az s.sel/\s.sel.length<=cz
variable {us:List Unt} {b:Nat} {w:World} {s:PgS}
theorem Pg.u (h:Pg us b s w):PgU us b w:=by
 obtain ⟨au,cu,ac,cc,as',cs,am,cm,ao,co,al',cl',az,cz,hx,hU,_⟩:=h
 exact ⟨au,cu,_,hx,hU⟩
theorem Pg.bl {w':World} (h:Pg us b s w) (k:Bl w w'):Pg us b s w':=by
 obtain ⟨au,cu,ac,cc,as',cs,am,cm,ao,co,al',cl',az,cz,hx,h1,h2,h3,h4,h5,h6,h7,h8⟩:=h
 exact ⟨au,cu,ac,cc,as',cs,am,cm,ao,co,al',cl',az,cz,Bl.box k hx,h1.bl k,h2.bl k,h3.bl k,h4.bl k,h5.bl k,h6.bl k,h7.bl k,h8⟩
theorem none_snoc {α:Type} {p:α->Bool} {l:List α} {k:Nat} {x:α} (h:∀ d∈l.take k,p d=false) (hx:l[k]? = some x) (hn:p x=false):∀ d∈l.take (k+1),p d=false:=by
 intro d hd
 rw [take_succ_some hx,List.mem_append,List.mem_singleton] at hd
 rcases hd with hd | rfl
 ·exact h d hd
 ·exact hn
theorem find_at {α:Type} {p:α->Bool} {l:List α} {k:Nat} {x:α} (h:∀ d∈l.take k,p d=false) (hx:l[k]? = some x) (hp:p x=true):l.find? p=some x:=by
 obtain ⟨q1,q2⟩:=List.getElem?_eq_some_iff.1 hx
 conv=>lhs;rw [<-List.take_append_drop k l,List.drop_eq_getElem_cons q1,q2]
 rw [List.find?_append,List.find?_eq_none.2 (fun d hd=>by rw [h d hd];decide),List.find?_cons_of_pos hp];rfl
theorem find_no {α:Type} {p:α->Bool} {l:List α} (h:∀ d∈l.take l.length,p d=false):l.find? p=none:=by
 rw [List.take_length] at h
 exact List.find?_eq_none.2 fun d hd=>by rw [h d hd];decide
def clsF (us:List Unt) (p:ByteArray):Option (Nat×Nat):=(clsW us).find? fun d=>decide (pthC us d=p)
set_option maxHeartbeats 1000000 in
theorem r_class (H:Pg us b s w) (hs:s.cls=clsW us) (hC:∀ u∈us,CkU u) (p:ByteArray) :
  Ret Tryz.prog 127 #[.pointer (some ⟨b,0,none⟩),.string p] w fun v w'=>v = .tuple #[.agg (encWh ((clsF us p).getD (0,0))).toArray,.bool (clsF us p).isSome]/\Bl w w':=by
 refine entr (vs:=[.pointer (some ⟨b,0,none⟩),.string p]) [0,1,4,5,6,13,26] tabok Tryz.func127 (by kernel_rfl) ?_
 refine al fun b4 w1 k1 => ?_
 have y1:=k1.blk
 have z1:=k1.size
 have hlc:(clsW us).length<=4194304:=by
  obtain ⟨au,cu,ac,cc,as',cs,am,cm,ao,co,al',cl',az,cz,hx,h1,h2,h3,h4,h5,h6,h7,h8⟩:=H
  rw [<-hs];exact h2.big
 refine lpk (vals:=[]) (clsW us).length 6 [] [(0,.pointer (some ⟨b,0,none⟩)),(1,.string p),(4,.pointer (some ⟨b4,0,none⟩))]
  (fun k vals w'=>vals=[]/\(∀ d∈(clsW us).take k,decide (pthC us d=p)=false)/\Box w' b4 tWh [I 0,I 0]/\Bl w w') ⟨rfl,by simp,k1.box,k1.bl⟩ ?_
 rintro k vals w2 hk ⟨rfl,hno,x2,B2⟩ ih
 obtain ⟨au,cu,ac,cc,as',cs,am,cm,ao,co,al',cl',az,cz,hx,h1,h2,h3,h4,h5,h6,h7,h8⟩:=H.bl B2
 rw [hs] at hx h2
 refine ld (hx.cell rfl) ?_
 by_cases hlt:k<(clsW us).length
 ·refine brT ?_
  refine ld (hx.cell rfl) ?_
  obtain ⟨d,bd,od,cs,hd,rfl,_,hAt,rfl⟩:=at_some h2 hlt
  obtain ⟨⟨u,c⟩,ha⟩:=mem_clsW.1 (List.mem_of_getElem? hd)
  refine ix ?_
  refine lda hAt ?_
  refine cl (r_cpath (H.u.bl B2) hC ha) ?_
  rintro _ w3 ⟨rfl,B3⟩
  have B13:=B2.trans B3
  by_cases hp:pthC us d=p
  ·refine brt ?_ (hp:=by simp [hp])
   refine ld ((Bl.box B3 hx).cell rfl) ?_
   refine ix ?_
   refine lda (hAt.bl B3) ?_
   refine sta (cs':=encWh d) (Bl.box B3 x2) fun w4 k4 x4 => ?_
   have hf:clsF us p=some d:=find_at hno hd (by simp [hp])
   refine rtc2 (cs:=encWh d) x4.at ⟨by rw [hf];rfl,Below.trans B13 (k4.below (by omega))⟩
  ·refine brf ?_ (hp:=by simp [hp])
   exact ih hlt ⟨rfl,none_snoc hno hd (by simp [hp]),Bl.box B3 x2,B13⟩
 ·refine brF ?_
  obtain rfl:k=(clsW us).length:=by omega
  refine bd ?_
  refine sta (cs':=encWh (0,0)) x2 fun w4 k4 x4 => ?_
  have hf:clsF us p=none:=find_no hno
  refine rtc2 (cs:=encWh (0,0)) x4.at ⟨by rw [hf];rfl,Below.trans B2 (k4.below (by omega))⟩
end Go.Proofs.YtkmdfjpafkcleaaGreatDoor
namespace Go.Proofs.YtkmdfjpafkcleaaGreatDoor
open Eng Go.RowKit
variable {us:List Unt} {b:Nat} {w:World} {s:PgS}
def supF (u:Unt) (c:Cls):ByteArray:=if c.super<0 then nost else nm u c.super
set_option maxHeartbeats 1000000 in
theorem r_super (H:PgU us b w) (hC:∀ u∈us,CkU u) {d:Nat×Nat} {u:Unt} {c:Cls} (hd:clsAt us d=some (u,c)) :
  Ret Tryz.prog 58 #[.pointer (some ⟨b,0,none⟩),.agg (encWh d).toArray] w fun v w'=>v = .tuple #[.string (supF u c),.bool (decide (0<=c.super))]/\Bl w w':=by
 obtain ⟨hu,hc⟩:=clsAt_un hd
 have hum:=List.mem_of_getElem? hu
 have hcm:=List.mem_of_getElem? hc
 have hI:=ixs_of (hC u hum)
 obtain ⟨bu,ou,cu,rest,cs,ua,hx,hAt,rfl,hU,hlt⟩:=(H.at hu).ex
 refine entr (vs:=[.pointer (some ⟨b,0,none⟩),.agg (encWh d).toArray]) [0,1,3,4,5,6,7,24] tabok Tryz.func58 (by kernel_rfl) ?_
 refine bx (cs:=encWh d) fun b1 w1 k1 => ?_
 have z1:=k1.size
 have y1:=k1.blk
 have hb:=hx.lt
 have hbu:bu<w.heap.size:=cell_lt (hAt 0 _ rfl)
 refine dh (fun i=>i<w1.heap.size) (List.range 10) fun w2 k2 => ?_
 have B2:=k1.bl.trans k2.bl
 have x1:=k2.box k1.box
 refine ld ((Bl.box B2 hx).cell rfl) ?_ (hm:=by show b<_;omega)
 refine ld (x1.cell rfl) ?_ (hm:=by show b1<_;omega)
 refine ix ?_
 refine lda (hAt.bl B2) ?_ (hm:=by show bu<_;omega)
 refine al fun b3 w3 k3 => ?_
 refine sta (cs':=ucells u ua) k3.box (fun w4 k4 x4 => ?_) (hm:=wrS (by show ¬b3<_;have:=k3.blk;have:=k2.bl.size;omega))
 have y3:=k3.blk
 have B24:Bl w2 w4:=Below.trans k3.bl (k4.below (by omega))
 have B4:=B2.trans B24
 have U4:=hU.bl B4
 have x14:=Bl.box B24 x1
 obtain ⟨bc,oc,cs,e2,_,hAtc,af,cf,rfl,hF⟩:=U4.cls.el d.2 c hc
 have hkl:d.2<u.classes.length:=(List.getElem?_eq_some_iff.1 hc).1
 refine ld (x4.cell rfl) ?_
 refine ld (x14.cell rfl) ?_
 rw [e2]
 refine ix ?_
 refine ld (hAtc 1 _ rfl) ?_
 by_cases h0:c.super<0
 ·refine brT ?_ (hp:=h0)
  refine rt2 ⟨?_,B4⟩
  unfold supF
  rw [if_pos h0,decide_eq_false (by omega)]
 ·refine brF ?_ (hp:=h0)
  have hin:inP u c.super:=(hI.sup c hcm).resolve_left fun q=>by omega
  refine lda x4.at ?_
  refine cl (r_text U4 hin) ?_
  rintro _ w5 ⟨rfl,B5⟩
  refine rt2 ⟨?_,B4.trans B5⟩
  unfold supF
  rw [if_neg h0,decide_eq_true (by omega)]
theorem eq_wh {w:World} {d:Nat} (x y:Nat×Nat):(Op.equalIn (d+2) tWh (.agg (encWh x).toArray) (.agg (encWh y).toArray)).run Tryz.prog w = .ok (decide (x=y)) w:=by
 rw [run_equalIn_struct w (d+1) _ _ _ (by kernel_rfl) (by kernel_rfl)]
 obtain ⟨f1,h1,e1⟩:=eqf_gen (P:=Tryz.prog) (w:=w) (d:=d+1) (ts:=[(3,1)]) (xs:=(encWh x).toArray) (ys:=(encWh y).toArray) (show shp (Tryz.prog.fieldsOf tWh).toList [(3,0),(3,1)]=true by kernel_rfl) (part_cell ti_i rfl) (part_cell ti_i rfl) (eq_i x.1 y.1)
 obtain ⟨f2,h2,e2⟩:=eqf_gen (P:=Tryz.prog) (w:=w) (d:=d+1) (xs:=(encWh x).toArray) (ys:=(encWh y).toArray) h1 (part_cell ti_i rfl) (part_cell ti_i rfl) (eq_i x.2 y.2)
 rw [e1,e2,eqf_nil h2]
 obtain ⟨a,b⟩:=x
 obtain ⟨c,e⟩:=y
 by_cases p:a=c
 ·by_cases q:b=e
  ·simp [p,q]
  ·have:¬(b:Int)=e:=by omega
   simp [p,q,this]
 ·have:¬(a:Int)=c:=by omega
  simp [p,this]
def plcW:List (Nat×Nat)->Nat->(Nat×Nat)->Int
 | [],_,_ => -1
 | x::l,k,d=>if x=d then k else plcW l (k+1) d
theorem plcW_drop {l:List (Nat×Nat)} {k:Nat} {x d:Nat×Nat} (h:l[k]? = some x):plcW (l.drop k) k d=if x=d then (k:Int) else plcW (l.drop (k+1)) (k+1) d:=by
 obtain ⟨q1,q2⟩:=List.getElem?_eq_some_iff.1 h
 rw [List.drop_eq_getElem_cons q1,q2];rfl
theorem plcW_iff:∀ (l:List (Nat×Nat)) (k:Nat) (d:Nat×Nat),(d∈l->0<=plcW l k d)/\(d ∉ l->plcW l k d = -1)
 | [],_,_=>⟨fun h=>(by cases h),fun _=>rfl⟩
 | x::l,k,d=>by
  obtain ⟨h1,h2⟩:=plcW_iff l (k+1) d
  simp only [plcW]
  by_cases e:x=d
  ·rw [if_pos e];exact ⟨fun _=>by omega,fun h=>absurd (by rw [e];exact List.mem_cons_self ..) h⟩
  ·rw [if_neg e]
   exact ⟨fun h=>h1 ((List.mem_cons.1 h).resolve_left (Ne.symm e)),fun h=>h2 fun q=>h (List.mem_cons_of_mem _ q)⟩
theorem r_placed {l:List (Nat×Nat)} {a:Option Addr} {c:Nat} (hS:Sl eWh T w a l) (d:Nat×Nat) :
  Ret Tryz.prog 128 #[.slice a l.length c,.agg (encWh d).toArray] w fun v w'=>v=I (plcW l 0 d)/\Bl w w':=by
 have hbig:=hS.big
 refine entr (vs:=[.slice a l.length c,.agg (encWh d).toArray]) [0,1,3,4,5,9,17] tabok Tryz.func128 (by kernel_rfl) ?_
 refine bx (cs:=encWh d) fun b1 w1 k1 => ?_
 refine lpk (vals:=[]) l.length 5 [] [(0,.slice a l.length c),(3,.pointer (some ⟨b1,0,none⟩))] (fun k vals w'=>vals=[]/\plcW l 0 d=plcW (l.drop k) k d/\Bl w1 w') ⟨rfl,rfl,Bl.refl _⟩ ?_
 rintro k vals w2 hk ⟨rfl,he,B2⟩ ih
 by_cases hlt:k<l.length
 ·refine brT ?_
  obtain ⟨x,bf,off,cs,hx,rfl,_,hAt,rfl⟩:=at_some (hS.bl (k1.bl.trans B2)) hlt
  refine dh T (List.range 6) fun w3 k3 => ?_
  refine ix ?_
  refine lda (hAt.bl k3.bl) ?_ (hm:=trivial)
  refine lda (Bl.box (B2.trans k3.bl) k1.box).at ?_ (hm:=trivial)
  refine eqA (fun w=>eq_wh x d) ?_
  rw [plcW_drop hx] at he
  by_cases e:x=d
  ·rw [if_pos e] at he
   refine brt ?_ (hp:=by simp [e])
   exact rt1 ⟨by rw [he],(k1.bl.trans B2).trans k3.bl⟩
  ·rw [if_neg e] at he
   refine brf ?_ (hp:=by simp [e])
   exact ih hlt ⟨rfl,he,B2.trans k3.bl⟩
 ·refine brF ?_
  obtain rfl:k=l.length:=by omega
  rw [List.drop_eq_nil_of_le (Nat.le_refl _)] at he
  exact rt1 ⟨by rw [he];first | done | rfl,k1.bl.trans B2⟩
theorem r_mpath (H:PgU us b w) (hC:∀ u∈us,CkU u) {d:Nat×Nat} {u:Unt} {c:Mth} (hd:mthAt us d=some (u,c)) :
  Ret Tryz.prog 64 #[.pointer (some ⟨b,0,none⟩),.agg (encWh d).toArray] w fun v w'=>v = .string (pthM us d)/\Bl w w':=by
 obtain ⟨hu,hc⟩:=mthAt_un hd
 have hum:=List.mem_of_getElem? hu
 have hcm:=List.mem_of_getElem? hc
 have hI:=ixs_of (hC u hum)
 obtain ⟨bu,ou,cu,rest,cs,ua,hx,hAt,rfl,hU,hlt⟩:=(H.at hu).ex
 refine entr (vs:=[.pointer (some ⟨b,0,none⟩),.agg (encWh d).toArray]) [0,1,3,4,7] tabok Tryz.func64 (by kernel_rfl) ?_
 refine bx (cs:=encWh d) fun b1 w1 k1 => ?_
 have z1:=k1.size
 have y1:=k1.blk
 have hb:=hx.lt
 have hbu:bu<w.heap.size:=cell_lt (hAt 0 _ rfl)
 have n1:=nm_size hU (hI.plc.mn c hcm)
 refine lda k1.box.at ?_
 refine cl (r_sent (H.bl k1.bl) hC hd) ?_
 rintro _ w2 ⟨rfl,B12⟩
 have B2:=k1.bl.trans B12
 have x1:=Bl.box B12 k1.box
 by_cases h0:0<=c.cls
 ·have hcl:inP u c.cls:=(hI.plc.mc c hcm).resolve_left fun q=>by omega
  have n2:=nm_size hU hcl
  refine brt ?_ (hp:=by rw [sentB_at hd];simp [h0])
  refine dh T [0,1,4,5,2,3,6,7,8] fun w3 k3 => ?_
  have B3:=B2.trans k3.bl
  refine lda (k3.box x1).at ?_ (hm:=trivial)
  refine lda (k3.box x1).at ?_ (hm:=trivial)
  refine cl (r_mclass (H.bl B3) hC hd hcl) ?_
  rintro _ w4 ⟨rfl,B34⟩
  have B4:=B3.trans B34
  refine cat ?_ (hab:=by rw [show ByteArray.size ⟨#[46]⟩=1 from rfl];omega)
  refine cl (r_mname (H.bl B4) hC hd) ?_
  rintro _ w5 ⟨rfl,B5⟩
  refine cat ?_ (hab:=by rw [ByteArray.size_append,show ByteArray.size ⟨#[46]⟩=1 from rfl];omega)
  refine rt1 ⟨?_,B4.trans B5⟩
  rw [pthM_at hd]
  unfold mpath
  rw [if_neg (by omega)];rfl
 ·refine brf ?_ (hp:=by rw [sentB_at hd];simp [h0])
  refine dh T (List.range 15) fun w3 k3 => ?_
  have B3:=B2.trans k3.bl
  have x3:=k3.box x1
  refine ld ((Bl.box B3 hx).cell rfl) ?_ (hm:=trivial)
  refine ld (x3.cell rfl) ?_ (hm:=trivial)
  refine ix ?_
  refine ld (hAt.bl B3 0 _ rfl) ?_ (hm:=trivial)
  refine cat ?_ (hab:=by have:=hU.nm;rw [show ByteArray.size ⟨#[46]⟩=1 from rfl];omega)
  refine lda x3.at ?_ (hm:=trivial)
  refine cl (r_mname (H.bl B3) hC hd) ?_
  rintro _ w5 ⟨rfl,B5⟩
  refine cat ?_ (hab:=by have:=hU.nm;rw [ByteArray.size_append,show ByteArray.size ⟨#[46]⟩=1 from rfl];omega)
  refine rt1 ⟨?_,B3.trans B5⟩
  rw [pthM_at hd]
  unfold mpath
  rw [if_pos (by omega)];rfl
end Go.Proofs.YtkmdfjpafkcleaaGreatDoor
namespace Go.Proofs.YtkmdfjpafkcleaaGreatDoor
open Eng Go.RowKit
variable {us:List Unt} {b:Nat} {w:World} {s:PgS}
def mnm (us:List Unt) (d:Nat×Nat):ByteArray:=match mthAt us d with
 | some (u,c)=>nm u c.name
 | none=>nost
theorem mnm_at {d:Nat×Nat} {u:Unt} {c:Mth} (h:mthAt us d=some (u,c)):mnm us d=nm u c.name:=by unfold mnm;rw [h]
def calB (us:List Unt) (p:ByteArray) (d:Nat×Nat):Bool := !sentB us d&&decide (pthM us d=p)
def calF (us:List Unt) (p:ByteArray):Option (Nat×Nat):=(mthW us).find? (calB us p)
def selB (us:List Unt) (z:ByteArray) (d:Nat×Nat):Bool:=sentB us d&&decide (mnm us d=z)
def selF (us:List Unt) (z:ByteArray):Bool:=(mthW us).any (selB us z)
theorem Pg.len (H:Pg us b s w):s.cls.length<=4194304/\s.sta.length<=4194304/\s.mth.length<=4194304/\s.ord.length<=4194304/\s.las.length<=4194304/\s.sel.length<=4194304:=by
 obtain ⟨au,cu,ac,cc,as',cs,am,cm,ao,co,al',cl',az,cz,hx,h1,h2,h3,h4,h5,h6,h7,h8⟩:=H
 exact ⟨h2.big,h3.big,h4.big,h5.big,h6.big,h7.big⟩
set_option maxHeartbeats 1000000 in
theorem r_called (H:Pg us b s w) (hs:s.mth=mthW us) (hC:∀ u∈us,CkU u) (p:ByteArray) :
  Ret Tryz.prog 130 #[.pointer (some ⟨b,0,none⟩),.string p] w fun v w'=>v = .tuple #[.agg (encWh ((calF us p).getD (0,0))).toArray,.bool (calF us p).isSome]/\Bl w w':=by
 refine entr (vs:=[.pointer (some ⟨b,0,none⟩),.string p]) [0,1,4,5,6,13,38] tabok Tryz.func130 (by kernel_rfl) ?_
 refine al fun b4 w1 k1 => ?_
 have y1:=k1.blk
 have z1:=k1.size
 have hlc:(mthW us).length<=4194304:=by rw [<-hs];exact H.len.2.2.1
 refine lpk (vals:=[]) (mthW us).length 6 [] [(0,.pointer (some ⟨b,0,none⟩)),(1,.string p),(4,.pointer (some ⟨b4,0,none⟩))]
  (fun k vals w'=>vals=[]/\(∀ d∈(mthW us).take k,calB us p d=false)/\Box w' b4 tWh [I 0,I 0]/\Bl w w') ⟨rfl,by simp,k1.box,k1.bl⟩ ?_
 rintro k vals w2 hk ⟨rfl,hno,x2,B2⟩ ih
 obtain ⟨au,cu,ac,cc,as',cs,am,cm,ao,co,al',cl',az,cz,hx,h1,h2,h3,h4,h5,h6,h7,h8⟩:=H.bl B2
 rw [hs] at hx h4
 refine ld (hx.cell rfl) ?_
 by_cases hlt:k<(mthW us).length
 ·refine brT ?_
  refine ld (hx.cell rfl) ?_
  obtain ⟨d,bd,od,cs,hd,rfl,_,hAt,rfl⟩:=at_some h4 hlt
  obtain ⟨⟨u,c⟩,ha⟩:=mem_mthW.1 (List.mem_of_getElem? hd)
  refine ix ?_
  refine lda hAt ?_
  refine cl (r_sent (H.u.bl B2) hC ha) ?_
  rintro _ w3 ⟨rfl,B3⟩
  have B13:=B2.trans B3
  have hx3:=Bl.box B3 hx
  cases hsb:sentB us d with
  | true =>
   have hn:calB us p d=false:=by unfold calB;rw [hsb];rfl
   refine spn (.slice none 0 0) ?_
   refine spn (.pointer none) ?_
   refine spn (.agg #[I 0,I 0]) ?_
   refine spn (.string ⟨#[]⟩) ?_
   refine brf ?_ (hp:=by rfl)
   exact ih hlt ⟨rfl,none_snoc hno hd hn,Bl.box B3 x2,B13⟩
  | false =>
   refine spt (.slice none 0 0) ?_
   refine ld (hx3.cell rfl) ?_
   refine spt (.pointer none) ?_
   refine ix ?_
   refine spt (.agg #[I 0,I 0]) ?_
   refine lda (hAt.bl B3) ?_
   refine spt (.string ⟨#[]⟩) ?_
   refine cl (r_mpath (H.u.bl B13) hC ha) ?_
   rintro _ w4 ⟨rfl,B4⟩
   have B14:=B13.trans B4
   by_cases hp:pthM us d=p
   ·have hy:calB us p d=true:=by unfold calB;rw [hsb,hp];simp
    refine brt ?_ (hp:=by simp [hp])
    refine ld ((Bl.box B4 hx3).cell rfl) ?_
    refine ix ?_
    refine lda ((hAt.bl B3).bl B4) ?_
    refine sta (cs':=encWh d) (Bl.box B4 (Bl.box B3 x2)) fun w5 k5 x5 => ?_
    have hf:calF us p=some d:=find_at hno hd hy
    refine rtc2 (cs:=encWh d) x5.at ⟨by rw [hf];rfl,Below.trans B14 (k5.below (by omega))⟩
   ·have hn:calB us p d=false:=by unfold calB;simp [hp]
    refine brf ?_ (hp:=by simp [hp])
    exact ih hlt ⟨rfl,none_snoc hno hd hn,Bl.box B4 (Bl.box B3 x2),B14⟩
 ·refine brF ?_
  obtain rfl:k=(mthW us).length:=by omega
  refine bd ?_
  refine sta (cs':=encWh (0,0)) x2 fun w4 k4 x4 => ?_
  have hf:calF us p=none:=find_no hno
  refine rtc2 (cs:=encWh (0,0)) x4.at ⟨by rw [hf];rfl,Below.trans B2 (k4.below (by omega))⟩
theorem any_no {α:Type} {p:α->Bool} {l:List α} (h:∀ d∈l.take l.length,p d=false):l.any p=false:=by
 rw [List.take_length] at h
 exact List.any_eq_false.2 fun d hd=>by rw [h d hd];decide
set_option maxHeartbeats 1000000 in
theorem r_isSel (H:Pg us b s w) (hs:s.mth=mthW us) (hC:∀ u∈us,CkU u) (z:ByteArray) :
  Ret Tryz.prog 237 #[.pointer (some ⟨b,0,none⟩),.string z] w fun v w'=>v = .bool (selF us z)/\Bl w w':=by
 refine entr (vs:=[.pointer (some ⟨b,0,none⟩),.string z]) [0,1,4,5,12,36] tabok Tryz.func237 (by kernel_rfl) ?_
 have hlc:(mthW us).length<=4194304:=by rw [<-hs];exact H.len.2.2.1
 refine lpk (vals:=[]) (mthW us).length 5 [] [(0,.pointer (some ⟨b,0,none⟩)),(1,.string z)]
  (fun k vals w'=>vals=[]/\(∀ d∈(mthW us).take k,selB us z d=false)/\Bl w w') ⟨rfl,by simp,Bl.refl _⟩ ?_
 rintro k vals w2 hk ⟨rfl,hno,B2⟩ ih
 obtain ⟨au,cu,ac,cc,as',cs,am,cm,ao,co,al',cl',az,cz,hx,h1,h2,h3,h4,h5,h6,h7,h8⟩:=H.bl B2
 rw [hs] at hx h4
 refine ld (hx.cell rfl) ?_
 by_cases hlt:k<(mthW us).length
 ·refine brT ?_
  refine ld (hx.cell rfl) ?_
  obtain ⟨d,bd,od,cs,hd,rfl,_,hAt,rfl⟩:=at_some h4 hlt
  obtain ⟨⟨u,c⟩,ha⟩:=mem_mthW.1 (List.mem_of_getElem? hd)
  refine ix ?_
  refine lda hAt ?_
  refine cl (r_sent (H.u.bl B2) hC ha) ?_
  rintro _ w3 ⟨rfl,B3⟩
  have B13:=B2.trans B3
  have hx3:=Bl.box B3 hx
  cases hsb:sentB us d with
  | false =>
   have hn:selB us z d=false:=by unfold selB;rw [hsb];rfl
   refine spn (.slice none 0 0) ?_
   refine spn (.pointer none) ?_
   refine spn (.agg #[I 0,I 0]) ?_
   refine spn (.string ⟨#[]⟩) ?_
   refine brf ?_ (hp:=by rfl)
   exact ih hlt ⟨rfl,none_snoc hno hd hn,B13⟩
  | true =>
   refine spt (.slice none 0 0) ?_
   refine ld (hx3.cell rfl) ?_
   refine spt (.pointer none) ?_
   refine ix ?_
   refine spt (.agg #[I 0,I 0]) ?_
   refine lda (hAt.bl B3) ?_
   refine spt (.string ⟨#[]⟩) ?_
   refine cl (r_mname (H.u.bl B13) hC ha) ?_
   rintro _ w4 ⟨rfl,B4⟩
   have B14:=B13.trans B4
   by_cases hp:nm u c.name=z
   ·have hy:selB us z d=true:=by unfold selB;rw [hsb,mnm_at ha,hp];simp
    refine brt ?_ (hp:=by simp [hp])
    exact rt1 ⟨by rw [show selF us z=true from List.any_eq_true.2 ⟨d,List.mem_of_getElem? hd,hy⟩],B14⟩
   ·have hn:selB us z d=false:=by unfold selB;rw [mnm_at ha];simp [hp]
    refine brf ?_ (hp:=by simp [hp])
    exact ih hlt ⟨rfl,none_snoc hno hd hn,B14⟩
 ·refine brF ?_
  obtain rfl:k=(mthW us).length:=by omega
  exact rt1 ⟨by rw [show selF us z=false from any_no hno],B2⟩
theorem r_number (H:Pg us b s w) (hs:s.cls=clsW us) (hC:∀ u∈us,CkU u) (p:ByteArray) :
  Ret Tryz.prog 59 #[.pointer (some ⟨b,0,none⟩),.string p] w fun v w'=>v=I (plcW s.ord 0 ((clsF us p).getD (0,0)))/\Bl w w':=by
 refine entr (vs:=[.pointer (some ⟨b,0,none⟩),.string p]) [0,1,4,5] tabok Tryz.func59 (by kernel_rfl) ?_
 refine cl (r_class H hs hC p) ?_
 rintro _ w2 ⟨rfl,B2⟩
 refine al fun b4 w3 k3 => ?_
 have y3:=k3.blk
 refine sta (cs':=encWh ((clsF us p).getD (0,0))) k3.box fun w4 k4 x4 => ?_
 have B4:Bl w w4:=B2.trans (Below.trans k3.bl (k4.below (by omega)))
 refine dh T [0,1,2,3,4,5,6] fun w5 k5 => ?_
 obtain ⟨au,cu,ac,cc,as',cs,am,cm,ao,co,al',cl',az,cz,hx,h1,h2,h3,h4,h5,h6,h7,h8⟩:=H.bl (B4.trans k5.bl)
 refine ld (hx.cell rfl) ?_ (hm:=trivial)
 refine lda (k5.box x4).at ?_ (hm:=trivial)
 refine cl (r_placed h5 _) ?_
 rintro _ w6 ⟨rfl,B6⟩
 exact rt1 ⟨rfl,(B4.trans k5.bl).trans B6⟩
end Go.Proofs.YtkmdfjpafkcleaaGreatDoor
namespace Go.Proofs.YtkmdfjpafkcleaaGreatDoor
open Eng Go.RowKit
theorem bl_lt:∀ x y:List UInt8,Op.bytesLess x y=decide (x<y):=by
 intro x
 induction x with
 | nil=>intro y;cases y <;> simp [Op.bytesLess]
 | cons a x ih =>
  intro y
  cases y with
  | nil=>simp [Op.bytesLess]
  | cons b y =>
   rw [Op.bytesLess,ih,Bool.eq_iff_iff]
   simp only [List.cons_lt_cons_iff,Bool.or_eq_true,Bool.and_eq_true,decide_eq_true_eq,beq_iff_eq]
theorem lss_run {T:TypeId} {a b:ByteArray}:∀ P w,(binOp .lss T (.string a) (.string b)).run P w = .ok (.bool (decide (toL a<toL b))) w:=fun P w=>by
 simp [binOp,Op.stringOp,pure,ByteArray.toList_eq,bl_lt]
theorem Eng.sop {C:Cx} {s:St} {w:World} {md:Option Md} {ops:Array Oper} {op:BinOp} {T T':TypeId} {x y:Operand} {d:Nat} {ty:TypeId} {pos:String} {af:Array Edge} {g:Option (Nat×Bool)} {rest:List Oper} {k:List Item} {l:Env} {c:CEnv} {a b:ByteArray} {v:Value}
  (hr:∀ P w,(binOp op T (.string a) (.string b)).run P w = .ok v w) (h:Wk C (.reg md ops rest k ((d,v)::l) c) w)
  (hs:adv C.tab C.n C.ks 400 s = .opn md ops ⟨some d,.binOp op T x y T',ty,pos,af,g⟩ rest k l c []:=by rfl) (hx:evc l c [] x=some (.string a):=by rfl) (hy:evc l c [] y=some (.string b):=by rfl) (hf:fresh d l c []=true:=by rfl):Wk C s w :=
 rd (p:=[]) (fun _ _ hA hp w' _=>by
  simp only [execOp,evc_ok hA.k hA.kc.c hp hx,evc_ok hA.k hA.kc.c hp hy]
  exact run_bind_ok (run_bind_ok (eqg_str ..) |>.trans (hr C.P w')) |>.trans rfl) h hs rfl hf (okR_no rfl)
variable {us:List Unt} {b:Nat} {w:World} {s:PgS}
def staN (us:List Unt) (p:ByteArray) (l:List (Nat×Nat)):Nat:=l.countP fun d=>decide (toL (pthS us d)<toL p)
def staO (us:List Unt) (p:ByteArray) (l:List (Nat×Nat)):Bool:=l.any fun d=>decide (pthS us d=p)
theorem staN_snoc {p:ByteArray} {l:List (Nat×Nat)} {k:Nat} {d:Nat×Nat} (h:l[k]? = some d):staN us p (l.take (k+1))=staN us p (l.take k)+if toL (pthS us d)<toL p then 1 else 0:=by
 unfold staN
 rw [take_succ_some h,List.countP_append,List.countP_singleton]
 by_cases q:toL (pthS us d)<toL p <;> simp [q]
theorem staO_snoc {p:ByteArray} {l:List (Nat×Nat)} {k:Nat} {d:Nat×Nat} (h:l[k]? = some d):staO us p (l.take (k+1))=(staO us p (l.take k)||decide (pthS us d=p)):=by
 unfold staO
 rw [take_succ_some h,List.any_append];simp
set_option maxHeartbeats 1000000 in
theorem r_static (H:Pg us b s w) (hs:s.sta=staW us) (hC:∀ u∈us,CkU u) (p:ByteArray) :
  Ret Tryz.prog 62 #[.pointer (some ⟨b,0,none⟩),.string p] w fun v w'=>v = .tuple #[I (staN us p (staW us)),.bool (staO us p (staW us))]/\Bl w w':=by
 refine entr (vs:=[.pointer (some ⟨b,0,none⟩),.string p]) [0,1,4,5,6,7,8,9,16,30] tabok Tryz.func62 (by kernel_rfl) ?_
 have hlc:(staW us).length<=4194304:=by rw [<-hs];exact H.len.2.1
 refine lpk (vals:=[I 0,.bool false]) (staW us).length 8 [6,7] [(0,.pointer (some ⟨b,0,none⟩)),(1,.string p)]
  (fun k vals w'=>vals=[I (staN us p ((staW us).take k)),.bool (staO us p ((staW us).take k))]/\Bl w w') ⟨rfl,Bl.refl _⟩ ?_
 rintro k vals w2 hk ⟨rfl,B2⟩ ih
 obtain ⟨au,cu,ac,cc,as',cs,am,cm,ao,co,al',cl',az,cz,hx,h1,h2,h3,h4,h5,h6,h7,h8⟩:=H.bl B2
 rw [hs] at hx h3
 refine ld (hx.cell rfl) ?_
 by_cases hlt:k<(staW us).length
 ·refine brT ?_
  refine ld (hx.cell rfl) ?_
  obtain ⟨d,bd,od,cs,hd,rfl,_,hAt,rfl⟩:=at_some h3 hlt
  obtain ⟨⟨u,c⟩,ha⟩:=mem_staW.1 (List.mem_of_getElem? hd)
  refine ix ?_
  refine lda hAt ?_
  refine cl (r_spath (H.u.bl B2) hC ha) ?_
  rintro _ w3 ⟨rfl,B3⟩
  have B13:=B2.trans B3
  have e1:=staN_snoc (us:=us) (p:=p) hd
  have e2:=staO_snoc (us:=us) (p:=p) hd
  have hcnt:staN us p ((staW us).take k)<=k:=by
   have h8:staN us p ((staW us).take k)<=((staW us).take k).length:=List.countP_le_length
   rw [List.length_take] at h8;omega
  refine sop lss_run ?_
  by_cases hp:toL (pthS us d)<toL p
  ·rw [if_pos hp] at e1
   refine brT ?_ (hp:=hp)
   have hw:IntKind.i64.wrap ((staN us p ((staW us).take k):Int)+1)=((staN us p ((staW us).take (k+1)):Nat):Int):=by rw [wrap_fit (by omega) (by omega),e1];omega
   refine ih hlt ⟨?_,B13⟩
   rw [e2,<-hw]
  ·rw [if_neg hp] at e1
   have e1:staN us p ((staW us).take (k+1))=staN us p ((staW us).take k):=by omega
   refine brF ?_ (hp:=hp)
   refine ih hlt ⟨?_,B13⟩
   rw [e2,e1]
 ·refine brF ?_
  obtain rfl:k=(staW us).length:=by omega
  rw [List.take_length]
  exact rt2 ⟨rfl,B2⟩
def tyF (us:List Unt) (u:Unt) (t:Ty):Bool:=if tcls t=true then (clsF us (nm u t.cls)).isSome else true
theorem r_tyd (H:Pg us b s w) (hs:s.cls=clsW us) (hC:∀ u∈us,CkU u) {u:Unt} {ua:UA} (hU:UnR T w u ua) {t:Ty} (ht:tcls t=true->inP u t.cls) :
  Ret Tryz.prog 189 #[.pointer (some ⟨b,0,none⟩),.agg (ucells u ua).toArray,.agg (encTy t).toArray] w fun v w'=>v = .bool (tyF us u t)/\Bl w w':=by
 refine entr (vs:=[.pointer (some ⟨b,0,none⟩),.agg (ucells u ua).toArray,.agg (encTy t).toArray]) [0,1,2,4,5,6,8,16] tabok Tryz.func189 (by kernel_rfl) ?_
 refine bx (cs:=ucells u ua) fun b1 w1 k1 => ?_
 refine bx (cs:=encTy t) fun b2 w2 k2 => ?_
 have B2:=k1.bl.trans k2.bl
 have x1:=Bl.box k2.bl k1.box
 refine ld (k2.box.cell rfl) ?_
 by_cases h2:t.kind=2
 ·have hc:tcls t=true:=by simp [tcls,h2]
  refine spn (I 0) ?_ (hb:=by simp [h2])
  refine brf ?_ (hp:=by simp [h2])
  refine lda x1.at ?_
  refine ld (k2.box.cell rfl) ?_
  refine cl (r_text (hU.bl B2) (ht hc)) ?_
  rintro _ w3 ⟨rfl,B3⟩
  refine cl (r_class (H.bl (B2.trans B3)) hs hC _) ?_
  rintro _ w4 ⟨rfl,B4⟩
  refine al fun b5 w5 k5 => ?_
  have y5:=k5.blk
  refine sta (cs':=encWh ((clsF us (nm u t.cls)).getD (0,0))) k5.box fun w6 k6 x6 => ?_
  refine rt1 ⟨?_,((B2.trans B3).trans B4).trans (Below.trans k5.bl (k6.below (by omega)))⟩
  unfold tyF
  rw [if_pos hc];rfl
 ·refine spt (I 0) ?_ (hb:=by simp [h2])
  refine ld (k2.box.cell rfl) ?_
  by_cases h4:t.kind=4
  ·have hc:tcls t=true:=by simp [tcls,h4]
   refine brf ?_ (hp:=by simp [h4])
   refine lda x1.at ?_
   refine ld (k2.box.cell rfl) ?_
   refine cl (r_text (hU.bl B2) (ht hc)) ?_
   rintro _ w3 ⟨rfl,B3⟩
   refine cl (r_class (H.bl (B2.trans B3)) hs hC _) ?_
   rintro _ w4 ⟨rfl,B4⟩
   refine al fun b5 w5 k5 => ?_
   have y5:=k5.blk
   refine sta (cs':=encWh ((clsF us (nm u t.cls)).getD (0,0))) k5.box fun w6 k6 x6 => ?_
   refine rt1 ⟨?_,((B2.trans B3).trans B4).trans (Below.trans k5.bl (k6.below (by omega)))⟩
   unfold tyF
   rw [if_pos hc];rfl
  ·have hc:tcls t=false:=by simp [tcls,h2,h4]
   refine brt ?_ (hp:=by simp [h4])
   refine rt1 ⟨?_,B2⟩
   unfold tyF
   rw [hc];rfl
theorem all_no {α:Type} {p:α->Bool} {l:List α} {k:Nat} {x:α} (hx:l[k]? = some x) (hn:p x=false):l.all p=false:=List.all_eq_false.2 ⟨x,List.mem_of_getElem? hx,by rw [hn];decide⟩
theorem all_snocV {α:Type} {p:α->Bool} {l:List α} {k:Nat} {x:α} (h:(l.take k).all p=true) (hx:l[k]? = some x) (hy:p x=true):(l.take (k+1)).all p=true:=by
 rw [take_succ_some hx,List.all_append,h];simp [hy]
theorem r_allTyped (H:Pg us b s w) (hs:s.cls=clsW us) (hC:∀ u∈us,CkU u) {u:Unt} {ua:UA} (hU:UnR T w u ua) {l:List Ty} {a:Option Addr} {c:Nat} (hl:Sl eTy T w a l) (ht:∀ t∈l,tcls t=true->inP u t.cls) :
  Ret Tryz.prog 188 #[.pointer (some ⟨b,0,none⟩),.agg (ucells u ua).toArray,.slice a l.length c] w fun v w'=>v = .bool (l.all (tyF us u))/\Bl w w':=by
 have hbig:=hl.big
 refine entr (vs:=[.pointer (some ⟨b,0,none⟩),.agg (ucells u ua).toArray,.slice a l.length c]) [0,1,2,4,6,7,11,21] tabok Tryz.func188 (by kernel_rfl) ?_
 refine bx (cs:=ucells u ua) fun b1 w1 k1 => ?_
 refine lpk (vals:=[]) l.length 7 [] [(0,.pointer (some ⟨b,0,none⟩)),(2,.slice a l.length c),(4,.pointer (some ⟨b1,0,none⟩))] (fun k vals w'=>vals=[]/\(l.take k).all (tyF us u)=true/\Bl w1 w') ⟨rfl,rfl,Bl.refl _⟩ ?_
 rintro k vals w2 hk ⟨rfl,hall,B2⟩ ih
 by_cases hlt:k<l.length
 ·refine brT ?_
  obtain ⟨t,bf,off,cs,hx,rfl,_,hAt,rfl⟩:=at_some (hl.bl (k1.bl.trans B2)) hlt
  refine dh T (List.range 8) fun w3 k3 => ?_
  have B3:=(k1.bl.trans B2).trans k3.bl
  refine lda (Bl.box (B2.trans k3.bl) k1.box).at ?_ (hm:=trivial)
  refine ix ?_
  refine lda (hAt.bl k3.bl) ?_ (hm:=trivial)
  refine cl (r_tyd (H.bl B3) hs hC (hU.bl B3) (ht t (List.mem_of_getElem? hx))) ?_
  rintro _ w4 ⟨rfl,B4⟩
  cases hq:tyF us u t with
  | false =>
   refine brt ?_ (hp:=by rfl)
   exact rt1 ⟨by rw [all_no hx hq],B3.trans B4⟩
  | true =>
   refine brf ?_ (hp:=by rfl)
   exact ih hlt ⟨rfl,all_snocV hall hx hq,(B2.trans k3.bl).trans B4⟩
 ·refine brF ?_
  obtain rfl:k=l.length:=by omega
  rw [List.take_length] at hall
  exact rt1 ⟨by rw [hall],k1.bl.trans B2⟩
theorem r_fieldsTyped (H:Pg us b s w) (hs:s.cls=clsW us) (hC:∀ u∈us,CkU u) {u:Unt} {ua:UA} (hU:UnR T w u ua) {l:List Fld} {a:Option Addr} {c:Nat} (hl:Sl eFld T w a l) (ht:∀ f∈l,tcls f.ty=true->inP u f.ty.cls) :
  Ret Tryz.prog 187 #[.pointer (some ⟨b,0,none⟩),.agg (ucells u ua).toArray,.slice a l.length c] w fun v w'=>v = .bool (l.all fun f=>tyF us u f.ty)/\Bl w w':=by
 have hbig:=hl.big
 refine entr (vs:=[.pointer (some ⟨b,0,none⟩),.agg (ucells u ua).toArray,.slice a l.length c]) [0,1,2,4,6,7,11,22] tabok Tryz.func187 (by kernel_rfl) ?_
 refine bx (cs:=ucells u ua) fun b1 w1 k1 => ?_
 refine lpk (vals:=[]) l.length 7 [] [(0,.pointer (some ⟨b,0,none⟩)),(2,.slice a l.length c),(4,.pointer (some ⟨b1,0,none⟩))] (fun k vals w'=>vals=[]/\((l.take k).all fun f=>tyF us u f.ty)=true/\Bl w1 w') ⟨rfl,rfl,Bl.refl _⟩ ?_
 rintro k vals w2 hk ⟨rfl,hall,B2⟩ ih
 by_cases hlt:k<l.length
 ·refine brT ?_
  obtain ⟨f,bf,off,cs,hx,rfl,_,hAt,rfl⟩:=at_some (hl.bl (k1.bl.trans B2)) hlt
  refine dh T (List.range 9) fun w3 k3 => ?_
  have B3:=(k1.bl.trans B2).trans k3.bl
  refine lda (Bl.box (B2.trans k3.bl) k1.box).at ?_ (hm:=trivial)
  refine ix ?_
  refine lda (hAt.bl k3.bl).tail ?_ (hm:=trivial)
  refine cl (r_tyd (H.bl B3) hs hC (hU.bl B3) (ht f (List.mem_of_getElem? hx))) ?_
  rintro _ w4 ⟨rfl,B4⟩
  cases hq:tyF us u f.ty with
  | false =>
   refine brt ?_ (hp:=by rfl)
   exact rt1 ⟨by rw [all_no (p:=fun f:Fld=>tyF us u f.ty) hx hq],B3.trans B4⟩
  | true =>
   refine brf ?_ (hp:=by rfl)
   exact ih hlt ⟨rfl,all_snocV (p:=fun f:Fld=>tyF us u f.ty) hall hx hq,(B2.trans k3.bl).trans B4⟩
 ·refine brF ?_
  obtain rfl:k=l.length:=by omega
  rw [List.take_length] at hall
  exact rt1 ⟨by rw [hall],k1.bl.trans B2⟩
end Go.Proofs.YtkmdfjpafkcleaaGreatDoor
