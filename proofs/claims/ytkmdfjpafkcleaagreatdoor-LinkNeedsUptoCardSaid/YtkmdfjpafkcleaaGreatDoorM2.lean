import Derived.Test.YtkmdfjpafkcleaaGreatDoorM1
import Derived.Deep.Slices
import Derived.MapKept
import Derived.Laws.IdiomRangeMap
import Derived.Lib.AppendZerosOnto
import Derived.Laws.AppendOwn
/- What an argument of the laws holds, as lists and structures: a unit, a list of strings, bytes. -/
namespace Go.Proofs.YtkmdfjpafkcleaaGreatDoor
open Eng Go.ChangeShapes Go.WideShapes Go.ChangeAt Go.RowKit
theorem bulk_one {H:Type} (d:DataW H):1≤Rows.uptoBulk d:=by
  cases d with
  | lit l=>cases l <;> simp [Rows.uptoBulk]
  | nil=>simp [Rows.uptoBulk]
  | ptr d=>simp [Rows.uptoBulk]
  | slice elems spare=>simp [Rows.uptoBulk]
  | agg parts=>simp [Rows.uptoBulk]
  | iface t d=>simp [Rows.uptoBulk]
  | map entries=>simp [Rows.uptoBulk]
  | held h=>simp [Rows.uptoBulk]
theorem bulk_part {H:Type} {d:DataW H} {l:List (DataW H)} (h:d∈l):Rows.uptoBulk d≤Rows.uptoBulkAll l:=by
  induction l with
  | nil=>cases h
  | cons x r ih =>
    simp only [Rows.uptoBulkAll]
    cases List.mem_cons.1 h with
    | inl e=>subst e;omega
    | inr e=>have:=ih e;omega
theorem bulk_len {H:Type} (l:List (DataW H)):l.length≤Rows.uptoBulkAll l:=by
  induction l with
  | nil=>simp [Rows.uptoBulkAll]
  | cons x r ih=>have:=bulk_one x;simp only [Rows.uptoBulkAll,List.length_cons];omega
theorem list_of {α:Type} {p:Nat→α→Prop}:∀ {n:Nat},(∀ i,i<n→∃ x,p i x)→∃ l:List α,l.length=n∧∀ i x,l[i]? = some x→p i x
  | 0,_=>⟨[],rfl,fun i x h=>by simp at h⟩
  | n+1,hel=>by
    obtain ⟨l,e1,e2⟩:=list_of (n:=n) fun i hi=>hel i (by omega)
    obtain ⟨x,h1⟩:=hel n (by omega)
    refine ⟨l++[x],by simp [e1],fun i y hy => ?_⟩
    rcases Nat.lt_or_ge i l.length with q | q
    · rw [List.getElem?_append_left q] at hy
      exact e2 i y hy
    · rw [List.getElem?_append_right q] at hy
      rcases Nat.eq_zero_or_pos (i-l.length) with h0 | h0
      · rw [h0] at hy
        simp at hy
        subst hy
        obtain rfl:i=n:=by omega
        exact h1
      · rw [List.getElem?_eq_none (by simp;omega)] at hy
        cases hy
section
variable {H:Type} {enc:TypeId×Value→H} {P:Program} {w:World} {base:Nat} {sp:Nat→Bool} {hd:Bool}
def Reads (enc:TypeId×Value→H) (P:Program) (w:World) (base:Nat) (sp:Nat→Bool) (hd:Bool) (t:TypeId) (R:List Value→Prop):Prop :=
  ∀ (n:Nat) (cs:List Value) (y:DataW H×List MemPlace),DataW.trod enc P w base sp hd n t cs=some y→Rows.uptoBulk y.1≤1048576→R cs
theorem reads_int {t:TypeId} (ht:P.underlying t=some (.int .i64)):Reads enc P w base sp hd t fun cs=>∃ n,cs=[I n]:=fun n cs y h _=>by
  obtain ⟨n,rfl,_⟩:=DataW.trod_int ht h
  exact ⟨n,rfl⟩
theorem reads_str {t:TypeId} (ht:P.underlying t=some .string):Reads enc P w base sp hd t fun cs=>∃ s:ByteArray,cs=[.string s]∧s.size≤1048576:=fun n cs y h hb=>by
  obtain ⟨s,rfl,rfl,_⟩:=DataW.trod_string ht h
  refine ⟨s,rfl,?_⟩
  simp only [Rows.uptoBulk] at hb
  have:=ba_len s
  omega
theorem reads_fields {t:TypeId} {L:List (TypeId×Nat)} (ht:P.underlying t=some (.struct (P.fieldsOf t))) (hm:((P.fieldsOf t).toList.map fun f=>(f.type,f.offset))=L) {n:Nat} {cs:List Value} {y:DataW H×List MemPlace}
    (h:DataW.trod enc P w base sp hd n t cs=some y) (hb:Rows.uptoBulk y.1≤1048576):cs.length=P.cellsOf t∧∀ q∈L,∀ R:List Value→Prop,Reads enc P w base sp hd q.1 R→R ((cs.drop q.2).take (P.cellsOf q.1)):=by
  obtain ⟨xs,m,rfl,rfl,h1,h2,h3⟩:=DataW.trod_struct ht h
  refine ⟨h1,fun q hq R hR => ?_⟩
  rw [←hm] at hq
  obtain ⟨f,hf,rfl⟩:=List.mem_map.1 hq
  obtain ⟨i,hi⟩:=List.mem_iff_getElem?.1 hf
  rw [Array.getElem?_toList] at hi
  have h4:=h3 i f hi
  have hlt:i<xs.length:=by
    rw [h2]
    rcases Nat.lt_or_ge i (P.fieldsOf t).size with h5 | h5
    · exact h5
    · rw [Array.getElem?_eq_none h5] at hi;cases hi
  rw [List.getElem?_eq_getElem hlt] at h4
  refine hR m _ _ h4 ?_
  have:xs[i].1∈xs.map (·.1):=List.mem_map_of_mem (List.getElem_mem hlt)
  have:=bulk_part this
  simp only [Rows.uptoBulk] at hb
  omega
theorem reads_sliceC {α:Type} {E:El α} {t e:TypeId} (ht:P.underlying t=some (.slice e)) (hc:P.cellsOf e=E.sz) (hpos:0<E.sz) (hE:Reads enc P w base sp hd e fun cs=>∃ x,E.rel T w cs x) :
    Reads enc P w base sp hd t fun cs=>∃ (a:Option Addr) (l:List α) (cap:Nat),cs=[.slice a l.length cap]∧Sl E T w a l∧l.length≤cap:=fun n cs y h hb=>by
  rcases Deep.open_slice ht h with ⟨rfl,rfl⟩ | ⟨a,len,cap,m,k,D,Pl,rfl,_,hl,_,hm,rfl,hx⟩
  · exact ⟨none,[],0,rfl,Sl.nil ..,Nat.le_refl _⟩
  · have hle:len≤m:=by rw [hm];split <;> omega
    simp only [Rows.uptoBulk] at hb
    have hlen:len≤1048576:=by
      have:=bulk_len ((List.range len).map D)
      rw [List.length_map,List.length_range] at this
      omega
    obtain ⟨l,hl2,hl3⟩:=list_of (n:=len) (p:=fun i (x:α)=>∃ cs',w.cells? base (a.add (i*E.sz)) E.sz=some cs'∧E.rel T w cs' x) fun i hi=>by
      obtain ⟨cs',h1,h2⟩:=hx i (by omega)
      rw [hc] at h1
      obtain ⟨x,hr⟩:=hE k cs' _ h2 (by
        have:D i∈(List.range len).map D:=List.mem_map_of_mem (List.mem_range.2 hi)
        have:=bulk_part this
        show Rows.uptoBulk (D i)≤1048576
        omega)
      exact ⟨x,cs',h1,hr⟩
    obtain ⟨b,o,s⟩:=a
    refine ⟨some ⟨b,o,s⟩,l,cap,by rw [hl2],⟨by omega,fun i x hx => ?_⟩,by omega⟩
    obtain ⟨cs',h1,h2⟩:=hl3 i x hx
    obtain ⟨_,h3,h4⟩:=World.cells?_some h1
    have hs:s=none:=by
      obtain ⟨x0,e0⟩:=some_of_lt (l:=l) (k:=0) (by have:=(List.getElem?_eq_some_iff.1 hx).1;omega)
      obtain ⟨cs0,g1,_⟩:=hl3 0 x0 e0
      obtain ⟨_,g3,g4⟩:=World.cells?_some g1
      have h5:=g4 0 hpos
      rw [List.getElem?_eq_getElem (by omega)] at h5
      have:=World.cell?_spot h5
      simpa [Addr.add] using this
    subst hs
    refine ⟨b,o,cs',rfl,trivial,fun j v hj => ?_,h2⟩
    have hj':j<E.sz:=by rw [←h3];exact (List.getElem?_eq_some_iff.1 hj).1
    have:=h4 j hj'
    rw [hj] at this
    rw [←this,Deep.add_add]
    congr 1
    simp only [Addr.add]
    split <;> simp <;> omega
theorem reads_slice {α:Type} {E:El α} {t e:TypeId} (ht:P.underlying t=some (.slice e)) (hc:P.cellsOf e=E.sz) (hpos:0<E.sz) (hE:Reads enc P w base sp hd e fun cs=>∃ x,E.rel T w cs x) :
    Reads enc P w base sp hd t fun cs=>∃ (a:Option Addr) (l:List α) (cap:Nat),cs=[.slice a l.length cap]∧Sl E T w a l:=fun n cs y h hb=>by
  obtain ⟨a,l,cap,h1,h2,_⟩:=reads_sliceC ht hc hpos hE n cs y h hb
  exact ⟨a,l,cap,h1,h2⟩
end
section
variable {H:Type} {enc:TypeId×Value→H} {w:World} {base:Nat} {sp:Nat→Bool} {hd:Bool}
set_option maxRecDepth 100000 in
theorem rd_ins:Reads enc Tryz.prog w base sp hd 120 fun cs=>∃ x,eIns.rel T w cs x:=fun n cs y h hb=>by
  obtain ⟨h1,h2⟩:=reads_fields (L:=[(3,0),(3,1),(3,2)]) (by kernel_rfl) (by kernel_rfl) h hb
  rw [show Tryz.prog.cellsOf 120=3 by kernel_rfl] at h1
  match cs,h1 with
  | [c0,c1,c2],_ =>
    obtain ⟨a,ea⟩:=h2 (3,0) (by simp) _ (reads_int (by kernel_rfl))
    obtain ⟨b,eb⟩:=h2 (3,1) (by simp) _ (reads_int (by kernel_rfl))
    obtain ⟨c,ec⟩:=h2 (3,2) (by simp) _ (reads_int (by kernel_rfl))
    simp only [show Tryz.prog.cellsOf 3=1 by kernel_rfl,List.drop,List.take,List.cons.injEq,and_true] at ea eb ec
    subst ea eb ec
    exact ⟨⟨a,b,c⟩,rfl⟩
theorem rd_str:Reads enc Tryz.prog w base sp hd 9 fun cs=>∃ x:ByteArray,(cs=encStr x∧x.size≤1048576):=fun n cs y h hb=>by
  obtain ⟨s,rfl,hs⟩:=reads_str (by kernel_rfl) n cs y h hb
  exact ⟨s,rfl,hs⟩
end
theorem prog_kids:Kids Tryz.prog (· < Tryz.prog.types.size):=kids_rows (by kernel_rfl) (by kernel_rfl)
theorem prog_full:∀ t e,t<Tryz.prog.types.size→Tryz.prog.underlying t=some (.slice e)→0<Tryz.prog.cellsOf e:=slices_full_of Tryz.prog (by kernel_rfl)
theorem same_bl {W W':World} (h:Bl W W') {p:MemPlace} (hp:p.block<W.heap.size):W.sameAt W' p:=by
  cases p with
  | cell b o=>exact World.cell?_of_block (w:=W) (h.block b hp)
  | map b=>exact h.block b hp
theorem all_bl {H:Type} {enc:TypeId×Value→H} {P:Program} {W W':World} {base:Nat} {sp:Nat→Bool} {hd:Bool} (h:Bl W W'):∀ {ts:List TypeId} {vs:List Value} {ds:List (DataW H)} {ps:List MemPlace},(∀ p∈ps,p.block<W.heap.size) →
    DataW.TrodAll enc P W base sp hd ts vs ds ps→DataW.TrodAll enc P W' base sp hd ts vs ds ps
  | [],[],[],_,_,h1=>h1
  | _::_,_::_,_::_,_,hp,⟨p,q,⟨n,h1⟩,h2,e⟩ =>
    ⟨p,q,⟨n,DataW.trod_carry n _ _ _ h1 fun x hx=>same_bl h (hp x (by rw [e];exact List.mem_append_left _ hx))⟩,all_bl h (fun x hx=>hp x (by rw [e];exact List.mem_append_right _ hx)) h2,e⟩
set_option maxRecDepth 100000 in
theorem post_law {H:Type} {enc:TypeId×Value→H} {f:Func} {s:ChangeSpec} {W W':World} {args:Array Value} {ds gs:List (DataW H)} {before:List MemPlace} (hW:DataW.Whole enc Tryz.prog f.params.toList s.vars false W args.toList ds gs before)
    (hv:s.vars=[]) (hs:∀ gs',gs'=[]→(s.fn H (ds++gs')).results=[.lit (.bool true)]∧(s.fn H (ds++gs')).args=ds∧(s.fn H (ds++gs')).vars=[]) (hpar:∀ t∈f.params.toList,t<Tryz.prog.types.size) (hr:f.resultTypes=#[4]) (hB:Bl W W') :
    s.post enc Tryz.prog f false true false false W args (.bool true) W':=by
  have hW0:=hW
  have hlt:=hW.lt
  obtain ⟨p,q,hA,hV,rfl,_⟩:=hW
  rw [hv] at hV
  obtain ⟨rfl,rfl⟩:=trodVars_none hV
  obtain ⟨h1,h2,h3⟩:=hs [] rfl
  have hA':=all_bl hB (fun x hx=>hlt x (List.mem_append_left _ hx)) hA
  refine post_of_bl (pa:=p) (pv:=[]) hW0 (fun _ _ _ => ?_) (fun sp hsp => ?_) (fun _ _ => ?_) rfl hB (ok_one hr rfl (okWide_bool_mk Tryz.underlying4 _))
  · rw [h1,hr]
    exact trodAll_cons_mk (shut_bool Tryz.underlying4 _) trodAll_mk0
  · rw [h2]
    exact DataW.TrodAll.respare prog_kids prog_full hpar hA' (fun x hx=>hsp x (List.mem_append_left _ hx))
  · rw [h3,hv];rfl
end Go.Proofs.YtkmdfjpafkcleaaGreatDoor
namespace Go.Proofs.YtkmdfjpafkcleaaGreatDoor
open Go Go.RowKit Eng
abbrev Mp (α:Type):=List (ByteArray×α)
def getM {α:Type}:Mp α→ByteArray→Option α
  | [],_=>none
  | (k',v)::m,k=>if k'=k then some v else getM m k
def putM {α:Type}:Mp α→ByteArray→α→Mp α
  | [],k,v=>[(k,v)]
  | (k',v')::m,k,v=>if k'=k then (k,v)::m else (k',v')::putM m k v
def hasM {α:Type} (m:Mp α) (k:ByteArray):Bool:=(getM m k).isSome
def keysM {α:Type} (m:Mp α):List ByteArray:=m.map (·.1)
abbrev kv (e:MapEntry):Value×Value:=(e.key,e.val)
abbrev kvm {α:Type} (enc:α→Value) (p:ByteArray×α):Value×Value:=(.string p.1,enc p.2)
structure MapIs {α:Type} (enc:α→Value) (w:World) (b:Nat) (m:Mp α):Prop where
  is:∃ es clock,w.heap[b]? = some (.map es clock)∧es.toList.map kv=m.map (kvm enc)∧MapKept.Stamped es clock
theorem MapIs.lt {α:Type} {enc:α→Value} {w:World} {b:Nat} {m:Mp α} (h:MapIs enc w b m):b<w.heap.size:=by
  obtain ⟨es,clock,h1,_⟩:=h.is
  exact (Array.getElem?_eq_some_iff.1 h1).1
theorem MapIs.same {α:Type} {enc:α→Value} {w w':World} {b:Nat} {m:Mp α} (h:MapIs enc w b m) (hs:w'.heap[b]? = w.heap[b]?):MapIs enc w' b m:=by
  obtain ⟨es,clock,h1,h2⟩:=h.is
  exact ⟨⟨es,clock,hs.trans h1,h2⟩⟩
theorem MapIs.bl {α:Type} {enc:α→Value} {w w':World} {b:Nat} {m:Mp α} (h:MapIs enc w b m) (k:Bl w w'):MapIs enc w' b m:=h.same (k.block b h.lt)
theorem MapIs.wr {α:Type} {enc:α→Value} {w w':World} {b c:Nat} {m:Mp α} (h:MapIs enc w b m) (k:Wr w c w') (hb:b≠c):MapIs enc w' b m:=h.same (k.block b hb)
theorem MapIs.ap {α:Type} {enc:α→Value} {w w':World} {b:Nat} {a:Option Addr} {m:Mp α} (h:MapIs enc w b m) (k:Ap w a w') (hb:a≠some ⟨b,0,none⟩):MapIs enc w' b m:=h.same (k.block b h.lt hb)
theorem MapIs.ne {α:Type} {enc:α→Value} {w:World} {b c:Nat} {m:Mp α} {t:TypeId} {cs:List Value} (h:MapIs enc w b m) (hb:Box w c t cs):b≠c:=by
  rintro rfl
  obtain ⟨es,clock,h1,_⟩:=h.is
  unfold Box at hb
  rw [h1] at hb;cases hb
theorem MapIs.ow {α:Type} {enc:α→Value} {w:World} {b base e esz n cap:Nat} {a:Option Addr} {xs:List Value} {m:Mp α} (h:MapIs enc w b m) (hO:Ow w base e esz a n cap xs):a≠some ⟨b,0,none⟩:=by
  rintro rfl
  obtain ⟨cur,hb,_⟩:=hO.box
  exact h.ne hb rfl
theorem keys_nodup {α:Type} {enc:α→Value} {w:World} {b:Nat} {m:Mp α} (h:MapIs enc w b m):(keysM m).Nodup:=by
  obtain ⟨es,clock,_,h2,h3⟩:=h.is
  have e:es.toList.map (·.key)=(keysM m).map Value.string:=by
    have:=congrArg (List.map Prod.fst) h2
    simp only [List.map_map] at this
    unfold keysM
    rw [List.map_map];exact this
  have:=h3.2.2
  rw [e] at this
  exact List.Pairwise.of_map (f:=Value.string) (fun a b hab e=>hab (congrArg _ e)) this
theorem MapIs.len {α:Type} {enc:α→Value} {w:World} {b:Nat} {m:Mp α} (h:MapIs enc w b m):∃ es clock,w.heap[b]? = some (.map es clock)∧es.size=m.length:=by
  obtain ⟨es,clock,h1,h2,_⟩:=h.is
  refine ⟨es,clock,h1,?_⟩
  have:=congrArg List.length h2
  simpa using this
theorem same_str (a b:ByteArray):Instr.sameNow .string (.string a) (.string b)=some (decide (a=b)):=by
  have:(a == b)=decide (a=b):=by
    by_cases h:a=b
    · rw [decide_eq_true h];exact (MapKept.bytes_beq _ _).2 h
    · rw [decide_eq_false h,←Bool.not_eq_true];exact fun q=>h ((MapKept.bytes_beq _ _).1 q)
  exact congrArg some this
theorem findNow_ok {α:Type} {enc:α→Value} (k:ByteArray):∀ (L:List MapEntry) (m:Mp α) (i:Nat),L.map kv=m.map (kvm enc) →
    (getM m k=none∧Instr.findNow .string (.string k) L i=some none∧(∀ x∈L,x.key ≠ .string k)∧∀ v,putM m k v=m++[(k,v)]) ∨
    ∃ v j,getM m k=some v∧Instr.findNow .string (.string k) L i=some (some (i+j,enc v))∧(∃ e,L[j]? = some e∧e.key = .string k) ∧
      ∀ v',(L.modify j fun e=>{ e with key := .string k,val:=enc v' }).map kv=(putM m k v').map (kvm enc)
  | [],[],i,_ => .inl ⟨rfl,rfl,by simp,fun v=>rfl⟩
  | [],_::_,i,h=>by simp at h
  | _::_,[],i,h=>by simp at h
  | e::L,(k',v0)::m,i,h=>by
    simp only [List.map_cons,List.cons.injEq,Prod.mk.injEq] at h
    obtain ⟨⟨hk,hv⟩,hr⟩:=h
    simp only [getM,putM,Instr.findNow,hk,same_str]
    by_cases hkk:k'=k
    · subst hkk
      refine .inr ⟨v0,0,by simp,by simp [hv],⟨e,rfl,hk⟩,fun v' => ?_⟩
      simp [hr]
    · have hkk':¬k=k':=fun e=>hkk e.symm
      simp only [if_neg hkk,decide_eq_false hkk']
      rcases findNow_ok k L m (i+1) hr with ⟨h1,h2,h3,h4⟩ | ⟨v,j,h1,h2,⟨e',h3,h3'⟩,h4⟩
      · refine .inl ⟨h1,h2,fun x hx => ?_,fun v=>by rw [h4];rfl⟩
        rcases List.mem_cons.1 hx with rfl | hx
        · rw [hk];intro q;exact hkk (Value.string.inj q)
        · exact h3 x hx
      · refine .inr ⟨v,j+1,h1,by rw [h2];congr 3;omega,⟨e',by simpa using h3,h3'⟩,fun v' => ?_⟩
        rw [List.modify_succ_cons,List.map_cons,h4]
        simp [hk,hv]
structure MapT (P:Program) (T et:TypeId) (z:Value):Prop where
  kt:∃ kt,P.underlying T=some (.map kt et)∧P.underlying kt=some .string
  zero:∀ w,(zeroValue et).run P w = .ok z w
theorem getObj_run {P:Program} {w:World} {b:Nat} {es:Array MapEntry} {clock:Nat} (h:w.heap[b]? = some (.map es clock)):(getObj b).run P w = .ok (.map es clock) w:=by
  simp only [getObj,Sem.run,h]
theorem setObj_run {P:Program} {w:World} {b:Nat} {es es':Array MapEntry} {clock clock':Nat} (h:w.heap[b]? = some (.map es clock)):(setObj b (.map es' clock')).run P w = .ok () { w with heap:=w.heap.setIfInBounds b (.map es' clock') }:=by
  simp only [setObj,Sem.run,h]
theorem checkKey_run {P:Program} {w:World} {kt:TypeId} {e:Bool} {n:Nat} {s:ByteArray} (h:P.underlying kt=some .string):(Instr.checkKey e (n+1) kt (.string s)).run P w = .ok () w:=by
  unfold Instr.checkKey
  rw [run_bind_ok (und_run h w)];rfl
theorem look_run {P:Program} {T et:TypeId} {z:Value} (ht:MapT P T et z) {α:Type} {enc:α→Value} {w:World} {b:Nat} {m:Mp α} (h:MapIs enc w b m) (k:ByteArray) (ok:Bool) :
    (Instr.lookup T (.map (some b)) (.string k) ok).run P w = .ok (if ok then .tuple #[((getM m k).map enc).getD z,.bool (hasM m k)] else ((getM m k).map enc).getD z) w:=by
  obtain ⟨kt,h1,h2⟩:=ht.kt
  obtain ⟨es,clock,h3,h4,h5⟩:=h.is
  have e2:∀ r,Instr.findNow .string (.string k) es.toList 0=some r→(Instr.findKey kt (.string k) es.toList).run P w = .ok r w:=fun r q=>by
    unfold Instr.findKey
    rw [run_bind_ok (und_run h2 w),q];rfl
  have e4:=ht.zero w
  rcases findNow_ok k es.toList m 0 h4 with ⟨g,q,_⟩ | ⟨v,j,g,q,_⟩
  · have e5:=e2 _ q
    have e6:((getM m k).map enc).getD z=z:=by rw [g];rfl
    have e7:hasM m k=false:=by unfold hasM;rw [g];rfl
    rw [e6,e7]
    simp [Instr.lookup,run_underlying h1,MapKept.run_getObj_map h3,checkKey_run h2,e5,e4,Result.andThen]
  · have e5:=e2 _ q
    have e6:((getM m k).map enc).getD z=enc v:=by rw [g];rfl
    have e7:hasM m k=true:=by unfold hasM;rw [g];rfl
    rw [e6,e7]
    simp [Instr.lookup,run_underlying h1,MapKept.run_getObj_map h3,checkKey_run h2,e5,Result.andThen]
theorem setMap_wr (w:World) (b:Nat) (o:Obj):Wr w b { w with heap:=w.heap.setIfInBounds b o } :=
  ⟨rfl,rfl,rfl,by simp,fun k hk=>by simp only [Array.getElem?_setIfInBounds];rw [if_neg (fun e=>hk e.symm)]⟩
theorem put_run {P:Program} {T et:TypeId} {z:Value} (ht:MapT P T et z) {α:Type} {enc:α→Value} {w:World} {b:Nat} {m:Mp α} (h:MapIs enc w b m) (k:ByteArray) (v:α) :
    ∃ w',(Instr.mapUpdate T (.map (some b)) (.string k) (enc v)).run P w = .ok () w'∧Wr w b w'∧MapIs enc w' b (putM m k v):=by
  obtain ⟨kt,h1,h2⟩:=ht.kt
  obtain ⟨es,clock,h3,h4,h5⟩:=h.is
  have hlt:=h.lt
  have upd:∀ o:Obj,(w.heap.setIfInBounds b o)[b]? = some o:=fun o=>by simp [hlt]
  have e2:∀ r,Instr.findNow .string (.string k) es.toList 0=some r→(Instr.findKey kt (.string k) es.toList).run P w = .ok r w:=fun r q=>by
    unfold Instr.findKey
    rw [run_bind_ok (und_run h2 w),q];rfl
  rcases findNow_ok k es.toList m 0 h4 with ⟨_,q,q3,q4⟩ | ⟨u,j,_,q,⟨e,hj,hek⟩,q4⟩
  · refine ⟨{ w with heap:=w.heap.setIfInBounds b (.map (es.push { key := .string k,val:=enc v,born:=clock }) (clock+1)) },?_,setMap_wr ..,⟨_,_,upd _,?_,MapKept.stamped_push h5 q3⟩⟩
    · unfold Instr.mapUpdate
      rw [run_bind_ok (und_run h1 w)]
      simp only
      rw [run_bind_ok (getObj_run h3)]
      simp only
      rw [run_bind_ok (checkKey_run h2),run_bind_ok (e2 _ q)]
      exact setObj_run h3
    · rw [Array.toList_push,List.map_append,h4,q4,List.map_append];rfl
  · have hj':es[j]? = some e:=by rw [←Array.getElem?_toList];exact hj
    refine ⟨{ w with heap:=w.heap.setIfInBounds b (.map (es.modify j fun e=>{ e with key := .string k,val:=enc v }) clock) },?_,setMap_wr ..,⟨_,_,upd _,?_,?_⟩⟩
    · unfold Instr.mapUpdate
      rw [run_bind_ok (und_run h1 w)]
      simp only
      rw [run_bind_ok (getObj_run h3)]
      simp only
      rw [run_bind_ok (checkKey_run h2),run_bind_ok (e2 _ q)]
      simp only
      have e3:(Instr.keyThatStays (((es[0+j]?).map (·.key)).getD (.string k)) (.string k)).run P w = .ok (.string k) w:=by
        rw [Nat.zero_add,hj']
        simp only [Option.map_some,Option.getD_some,hek]
        unfold Instr.keyThatStays
        have:Instr.sameBits 10000 (.string k) (.string k)=true:=by unfold Instr.sameBits;exact (MapKept.bytes_beq _ _).2 rfl
        rw [this];rfl
      rw [run_bind_ok e3,Nat.zero_add]
      exact setObj_run h3
    · rw [Array.toList_modify,q4]
    · refine MapKept.stamped_modify h5 j _ (fun _ _=>rfl) fun e' _ he' => ?_
      rw [hj'] at he'
      obtain rfl:=Option.some.inj he'
      exact hek.symm
theorem putM_get {α:Type} (m:Mp α) (k k':ByteArray) (v:α):getM (putM m k v) k'=if k=k' then some v else getM m k':=by
  induction m with
  | nil=>simp [putM,getM]
  | cons p m ih =>
    obtain ⟨k0,v0⟩:=p
    simp only [putM,getM]
    by_cases h:k0=k
    · subst h
      simp only [if_true,getM]
      by_cases h1:k0=k'
      · simp [h1]
      · simp [h1]
    · simp only [if_neg h,getM,ih]
      by_cases h1:k=k'
      · subst h1;simp [h]
      · simp [h1]
theorem putM_len {α:Type} (m:Mp α) (k:ByteArray) (v:α):(putM m k v).length≤m.length+1:=by
  induction m with
  | nil=>simp [putM]
  | cons p m ih =>
    obtain ⟨k0,v0⟩:=p
    simp only [putM]
    split
    · simp
    · simp;omega
theorem mdR_map {α:Type} {enc:α→Value} {md:Option Md} {w w':World} {b:Nat} {m:Mp α} (hb:mdB md b) (h:mdR md w w') (hM:MapIs enc w b m):MapIs enc w' b m:=by
  cases md with
  | none=>have e:w'=w:=h;rw [e];exact hM
  | some m=>cases m with
    | t n=>have e:w'=w:=h;rw [e];exact hM
    | h S t=>exact hM.same (Kb.blk h b hb hM.lt)
    | b S t=>exact hM.same (Kb.blk h b hb hM.lt)
def notH (md:Option Md):Bool:=match md with
  | some (.h _ _)=>false
  | some (.b _ _)=>false
  | _=>true
theorem mdR_eq {md:Option Md} {w w':World} (h:notH md=true) (k:mdR md w w'):w'=w:=by
  cases md with
  | none=>exact k
  | some m=>cases m with
    | t n=>exact k
    | h S t=>simp [notH] at h
    | b S t=>simp [notH] at h
namespace Eng
variable {C:Cx} {s:St} {w:World}
theorem lk {md:Option Md} {ops:Array Oper} {T et:TypeId} {z:Value} {x i:Operand} {d:Nat} {ty:TypeId} {pos:String} {af:Array Edge} {g:Option (Nat×Bool)} {rest:List Oper} {k:List Item} {l:Env} {c:CEnv} {α:Type} {enc:α→Value} {b:Nat} {m:Mp α} {key:ByteArray}
    (ht:MapT C.P T et z) (hM:MapIs enc w b m) (h:Wk C (.reg md ops rest k ((d,((getM m key).map enc).getD z)::l) c) w)
    (hs:adv C.tab C.n C.ks 400 s = .opn md ops ⟨some d,.lookup T x i false,ty,pos,af,g⟩ rest k l c []:=by rfl)
    (hx:evc l c [] x=some (.map (some b)):=by rfl) (hi:evc l c [] i=some (.string key):=by rfl) (hf:fresh d l c []=true:=by rfl) (hm:mdB md b:=by first | exact True.intro | assumption | (simp only [mdB];omega)):Wk C s w :=
  rd (p:=[]) (fun _ _ hA hp _ hk=>by
    have hM':=mdR_map hm hk hM
    simp only [execOp,evc_ok hA.k hA.kc.c hp hx,evc_ok hA.k hA.kc.c hp hi]
    exact (run_bind_ok (look_run ht hM' key false)).trans rfl) h hs rfl hf (okR_no rfl)
theorem lko {md:Option Md} {ops:Array Oper} {T et:TypeId} {z:Value} {x i:Operand} {d:Nat} {ty:TypeId} {pos:String} {af:Array Edge} {g:Option (Nat×Bool)} {rest:List Oper} {k:List Item} {l:Env} {c:CEnv} {α:Type} {enc:α→Value} {b:Nat} {m:Mp α} {key:ByteArray}
    (ht:MapT C.P T et z) (hM:MapIs enc w b m) (h:Wk C (.reg md ops rest k ((d,.tuple #[((getM m key).map enc).getD z,.bool (hasM m key)])::l) c) w)
    (hs:adv C.tab C.n C.ks 400 s = .opn md ops ⟨some d,.lookup T x i true,ty,pos,af,g⟩ rest k l c []:=by rfl)
    (hx:evc l c [] x=some (.map (some b)):=by rfl) (hi:evc l c [] i=some (.string key):=by rfl) (hf:fresh d l c []=true:=by rfl) (hm:mdB md b:=by first | exact True.intro | assumption | (simp only [mdB];omega)):Wk C s w :=
  rd (p:=[]) (fun _ _ hA hp _ hk=>by
    have hM':=mdR_map hm hk hM
    simp only [execOp,evc_ok hA.k hA.kc.c hp hx,evc_ok hA.k hA.kc.c hp hi]
    exact (run_bind_ok (look_run ht hM' key true)).trans rfl) h hs rfl hf (okR_no rfl)
theorem len_map {P:Program} {T kt et:TypeId} {ty:TypeId} (ht:P.underlying T=some (.map kt et)) {es:Array MapEntry} {clock:Nat} {b:Nat} (h:w.heap[b]? = some (.map es clock)):(Builtin.len_ #[T] ty #[.map (some b)]).run P w = .ok (.int .i64 es.size) w:=by
  simp only [Builtin.len_,List.getElem?_toArray,List.getElem?_cons_zero]
  rw [run_bind_ok (und_run ht w)]
  simp only
  rw [run_bind_ok (getObj_run h)];rfl
theorem lnm {md:Option Md} {ops:Array Oper} {T et:TypeId} {z:Value} {x:Operand} {d:Nat} {ty:TypeId} {pos:String} {af:Array Edge} {g:Option (Nat×Bool)} {rest:List Oper} {k:List Item} {l:Env} {c:CEnv} {α:Type} {enc:α→Value} {b:Nat} {m:Mp α}
    (ht:MapT C.P T et z) (hM:MapIs enc w b m) (h:Wk C (.reg md ops rest k ((d,I (m.length:Nat))::l) c) w)
    (hs:adv C.tab C.n C.ks 400 s = .opn md ops ⟨some d,.call ⟨.builtin .len,#[x],#[T]⟩,ty,pos,af,g⟩ rest k l c []:=by rfl)
    (hx:evc l c [] x=some (.map (some b)):=by rfl) (hf:fresh d l c []=true:=by rfl) (hm:mdB md b:=by first | exact True.intro | assumption | (simp only [mdB];omega)):Wk C s w :=
  rd (p:=[]) (fun _ _ hA hp w' hk=>by
    have hM':=mdR_map hm hk hM
    obtain ⟨kt,h1,_⟩:=ht.kt
    obtain ⟨es,clock,h3,h4⟩:=hM'.len
    simp only [execOp,resolve,List.map_toArray,List.map_cons,List.map_nil,evc_ok hA.k hA.kc.c hp hx]
    show (Sem.bind (Builtin.len_ #[T] ty #[_]) _).run C.P w'=_
    rw [←h4]
    exact (run_bind_ok (len_map h1 h3)).trans rfl) h hs rfl hf (okR_no rfl)
theorem mu {md:Option Md} {ops:Array Oper} {T et:TypeId} {z:Value} {x i y:Operand} {ty:TypeId} {pos:String} {af:Array Edge} {g:Option (Nat×Bool)} {rest:List Oper} {k:List Item} {l:Env} {c:CEnv} {α:Type} {enc:α→Value} {b:Nat} {m:Mp α} {key:ByteArray} (v:α)
    (ht:MapT C.P T et z) (hM:MapIs enc w b m) (h:∀ w',Wr w b w'→MapIs enc w' b (putM m key v)→Wk C (.reg md ops rest k l c) w')
    (hs:adv C.tab C.n C.ks 400 s = .opn md ops ⟨none,.mapUpdate T x i y,ty,pos,af,g⟩ rest k l c []:=by rfl)
    (hx:evc l c [] x=some (.map (some b)):=by rfl) (hi:evc l c [] i=some (.string key):=by rfl) (hy:evc l c [] y=some (enc v):=by rfl) (hm:∀ w',Wr w b w'→mdW md w w':=by intros;exact True.intro) (hnt:notT md=true:=by rfl):Wk C s w:=by
  obtain ⟨w',hr,hw,hM'⟩:=put_run ht hM key v
  exact op_unit (okW_of rfl hnt) (hm _ hw) (fun _ a hA=>by
    simp only [execOp,evc_ok hA.k hA.kc.c (p:=[]) trivial hx,evc_ok hA.k hA.kc.c (p:=[]) trivial hi,evc_ok hA.k hA.kc.c (p:=[]) trivial hy]
    exact (run_bind_ok hr).trans rfl) (h w' hw hM') hs rfl
structure NewM (w:World) (b:Nat) (w':World):Prop where
  blk:b=w.heap.size
  eq:w'=w.alloc (.map #[] 0)
theorem NewM.bl {w w':World} {b:Nat} (h:NewM w b w'):Bl w w':=by rw [h.eq];exact (Below.refl _ _).alloc (Nat.le_refl _) _
theorem NewM.size {w w':World} {b:Nat} (h:NewM w b w'):w'.heap.size=w.heap.size+1:=by rw [h.eq];show (w.heap.push _).size=_;simp
theorem NewM.is {w w':World} {b:Nat} (h:NewM w b w') {α:Type} (enc:α→Value):MapIs enc w' b []:=by
  refine ⟨⟨#[],0,?_,rfl,MapKept.stamped_empty 0⟩⟩
  rw [h.eq,h.blk];show (w.heap.push _)[w.heap.size]? = _;simp
theorem mm {md:Option Md} {ops:Array Oper} {T:TypeId} {d:Nat} {ty:TypeId} {pos:String} {af:Array Edge} {g:Option (Nat×Bool)} {rest:List Oper} {k:List Item} {l:Env} {c:CEnv}
    (h:∀ b w',NewM w b w'→Wk C (.reg md ops rest k ((d,.map (some b))::l) c) w')
    (hs:adv C.tab C.n C.ks 400 s = .opn md ops ⟨some d,.makeMap T none,ty,pos,af,g⟩ rest k l c []:=by rfl) (hf:fresh d l c []=true:=by rfl) (hnt:notT md=true:=by rfl):Wk C s w :=
  op_val (v := .map (some w.heap.size)) (w':=w.alloc (.map #[] 0)) (okW_of rfl hnt) (mdW_bl (NewM.bl ⟨rfl,rfl⟩)) (fun _ a hA=>by
    simp only [execOp,Option.map_none]
    exact (run_bind_ok (show (Instr.makeMap T none).run C.P w = .ok (.map (some w.heap.size)) (w.alloc (.map #[] 0)) from rfl)).trans rfl) (h _ _ ⟨rfl,rfl⟩) hs rfl hf
end Eng
end Go.Proofs.YtkmdfjpafkcleaaGreatDoor
namespace Go.Proofs.YtkmdfjpafkcleaaGreatDoor
open Eng Go.RowKit
theorem Eng.New.wr {w w3 w4:World} {b:Nat} {t:TypeId} {cs:List Value} (h5:New w b t cs w3) (h6:Wr w3 b w4):Bl w w4:=Below.trans h5.bl (h6.below (by have:=h5.blk;omega))
abbrev mcells (m:Mth) (a1:Option Addr) (c1:Nat) (a2:Option Addr) (c2:Nat) (a3:Option Addr) (c3:Nat):List Value:=[I m.name,I m.cls,.slice a1 m.params.length c1,.slice a2 m.locals.length c2,I m.result.kind,I m.result.cls,.slice a3 m.code.length c3]
abbrev ccells (c:Cls) (a:Option Addr) (q:Nat):List Value:=[I c.name,I c.super,.slice a c.fields.length q]
def lcls (c:Cls):Bool:=decide (c.fields.length≤7)
def mslots (m:Mth):Int:=(m.params.length:Int)+m.locals.length+(if m.cls = -1 then 0 else 1)
def lmth (m:Mth):Bool:=decide (m.params.length≤4)&&decide (mslots m≤10)
def limits (u:Unt):Bool:=decide (u.pool.length≤60)&&decide (u.classes.length≤10)&&decide (u.statics.length≤10)&&decide (u.methods.length≤16)&&u.classes.all lcls&&u.methods.all lmth
structure Lim (u:Unt):Prop where
  pool:u.pool.length≤60
  cls:u.classes.length≤10
  sta:u.statics.length≤10
  mth:u.methods.length≤16
  flds:∀ c∈u.classes,c.fields.length≤7
  pars:∀ m∈u.methods,m.params.length≤4
  locs:∀ m∈u.methods,m.params.length+m.locals.length≤10
theorem lim_of {u:Unt} (h:limits u=true):Lim u:=by
  unfold limits at h
  simp only [Bool.and_eq_true,decide_eq_true_eq] at h
  obtain ⟨⟨⟨⟨⟨h1,h2⟩,h3⟩,h4⟩,h5⟩,h6⟩:=h
  refine ⟨h1,h2,h3,h4,fun c hc => ?_,fun m hm => ?_,fun m hm => ?_⟩
  · have:=List.all_eq_true.1 h5 c hc
    simpa [lcls] using this
  · have:=List.all_eq_true.1 h6 m hm
    simp only [lmth,Bool.and_eq_true,decide_eq_true_eq] at this;exact this.1
  · have:=List.all_eq_true.1 h6 m hm
    simp only [lmth,Bool.and_eq_true,decide_eq_true_eq] at this
    have h7:mslots m≤10:=this.2
    unfold mslots at h7
    by_cases hc:m.cls = -1
    · rw [if_pos hc] at h7;omega
    · rw [if_neg hc] at h7;omega
def kin (t:Ty):Bool:=decide (1≤t.kind)&&decide (t.kind≤4)
def kout (t:Ty):Bool:=decide (0≤t.kind)&&decide (t.kind≤4)
def kcls (c:Cls):Bool:=c.fields.all fun f=>kin f.ty
def kmth (m:Mth):Bool:=m.params.all kin&&m.locals.all kin&&kout m.result
def kinds (u:Unt):Bool:=u.classes.all kcls&&(u.statics.all fun f=>kin f.ty)&&u.methods.all kmth
def tcls (t:Ty):Bool:=decide (t.kind=2)||decide (t.kind=4)
def bare (t:Ty):Bool:=tcls t||decide (t.cls = -1)
def bcls (c:Cls):Bool:=c.fields.all fun f=>bare f.ty
def bmth (m:Mth):Bool:=bare m.result&&m.params.all bare&&m.locals.all bare
def classless (u:Unt):Bool:=u.classes.all bcls&&(u.statics.all fun f=>bare f.ty)&&u.methods.all bmth
structure Rf where
  at':Int
  parts:Int
  opt:Bool
def typed (t:Ty):Rf:=⟨t.cls,2,!tcls t⟩
def fref (f:Fld):List Rf:=[⟨f.name,1,false⟩,typed f.ty]
def cref (c:Cls):List Rf:=[⟨c.name,1,false⟩,⟨c.super,2,true⟩]++c.fields.flatMap fref
def mref (m:Mth):List Rf:=[⟨m.name,1,false⟩,⟨m.cls,2,true⟩]++m.params.map typed++m.locals.map typed++[typed m.result]
def refs (u:Unt):List Rf:=u.classes.flatMap cref++u.statics.flatMap fref++u.methods.flatMap mref
def refOk (n:Nat) (r:Rf):Bool:=(decide (r.at' = -1)&&r.opt) || !(decide (r.at'<0)||decide (r.at'≥n))
def places (u:Unt):Bool:=(refs u).all (refOk u.pool.length)&&classless u
theorem all_snoc' {α:Type} {p:α→Bool} {l:List α} {k:Nat} {x:α} (hx:l[k]? = some x) (h:(l.take k).all p=true) (h2:p x=true):(l.take (k+1)).all p=true:=by
  rw [take_succ_some hx,List.all_append,h];simp [h2]
theorem all_end {α:Type} {p:α→Bool} {l:List α} (h:(l.take l.length).all p=true):l.all p=true:=by rwa [List.take_length] at h
theorem all_miss {α:Type} {p:α→Bool} {l:List α} {k:Nat} {x:α} (hx:l[k]? = some x) (h:p x=false):l.all p=false:=by
  rw [←Bool.not_eq_true];intro ht
  rw [List.all_eq_true.1 ht _ (List.mem_of_getElem? hx)] at h;cases h
def hasB (l:List ByteArray) (x:ByteArray):Bool:=l.any fun y=>decide (y=x)
theorem hasB_iff {l:List ByteArray} {x:ByteArray}:hasB l x=true↔x∈l:=by
  unfold hasB
  rw [List.any_eq_true]
  exact ⟨fun ⟨y,h,e⟩=>(of_decide_eq_true e)▸h,fun h=>⟨x,h,decide_eq_true rfl⟩⟩
def dup:List ByteArray→Bool
  | []=>false
  | x::r=>hasB r x||dup r
def nm (u:Unt) (i:Int):ByteArray:=u.pool.getD i.toNat ⟨#[]⟩
def named (i:Ins):Int×Int :=
  if i.op=17∨i.op=18 then (1,3) else if i.op=14∨i.op=24∨i.op=22∨i.op=23∨i.op=25 then (1,2) else if i.op=26 then (1,1) else if i.op=16 then (2,2) else if i.op=12∧(i.a=2∨i.a=4) then (2,2) else (0,0)
def operand (i:Ins):Int×Int:=if (named i).1=1 then (i.a,(named i).2) else if (named i).1=2 then (i.b,(named i).2) else (-1,0)
def insOk (u:Unt) (i:Ins):Bool := !(decide (0<(operand i).2)&&(decide ((operand i).1≥u.pool.length)||decide ((path (nm u (operand i).1):Int)≠(operand i).2)))
def codesOk (u:Unt):Bool:=u.methods.all fun m=>m.code.all (insOk u)
def cdup (u:Unt) (c:Cls):Bool:=dup (c.fields.map fun f=>nm u f.name)
def dots (x y:ByteArray):ByteArray:=x++⟨#[46]⟩++y
def heads (u:Unt):List ByteArray:=(u.classes.map fun c=>nm u c.name)++(u.statics.map fun f=>nm u f.name)++(u.methods.filter fun m=>decide (m.cls = -1)).map fun m=>nm u m.name
def fulls (u:Unt):List ByteArray:=(u.methods.filter fun m => !decide (m.cls = -1)).map fun m=>dots (nm u m.cls) (nm u m.name)
def doubled (u:Unt):Bool:=dup u.pool||u.classes.any (cdup u)||dup (heads u)||dup (fulls u)
def inP (u:Unt) (i:Int):Prop:=0≤i∧i<u.pool.length
structure Plc (u:Unt):Prop where
  cn:∀ c∈u.classes,inP u c.name
  fn:∀ c∈u.classes,∀ f∈c.fields,inP u f.name
  sn:∀ f∈u.statics,inP u f.name
  mn:∀ m∈u.methods,inP u m.name
  mc:∀ m∈u.methods,m.cls = -1∨inP u m.cls
theorem plc_of {u:Unt} (h:(refs u).all (refOk u.pool.length)=true):Plc u:=by
  have key:∀ r∈refs u,(r.at' = -1∧r.opt=true)∨inP u r.at':=fun r hr=>by
    have:=List.all_eq_true.1 h r hr
    simp only [refOk,Bool.or_eq_true,Bool.and_eq_true,decide_eq_true_eq,Bool.not_eq_true',Bool.or_eq_false_iff,decide_eq_false_iff_not] at this
    rcases this with h | h
    · exact .inl h
    · exact .inr ⟨by omega,by omega⟩
  have one:∀ i:Int,⟨i,1,false⟩∈refs u→inP u i:=fun i hi=>by
    rcases key _ hi with ⟨_,h⟩ | h
    · cases h
    · exact h
  have mc:∀ c∈u.classes,∀ r∈cref c,r∈refs u:=fun c hc r hr=>List.mem_append_left _ (List.mem_append_left _ (List.mem_flatMap.2 ⟨c,hc,hr⟩))
  have ms:∀ f∈u.statics,∀ r∈fref f,r∈refs u:=fun c hc r hr=>List.mem_append_left _ (List.mem_append_right _ (List.mem_flatMap.2 ⟨c,hc,hr⟩))
  have mm:∀ m∈u.methods,∀ r∈mref m,r∈refs u:=fun c hc r hr=>List.mem_append_right _ (List.mem_flatMap.2 ⟨c,hc,hr⟩)
  refine ⟨fun c hc=>one _ (mc c hc _ (by simp [cref])),fun c hc f hf=>one _ (mc c hc _ ?_),fun f hf=>one _ (ms f hf _ (by simp [fref])),fun m hm=>one _ (mm m hm _ (by simp [mref])),fun m hm => ?_⟩
  · simp only [cref,List.mem_append,List.mem_flatMap]
    exact .inr ⟨f,hf,by simp [fref]⟩
  · rcases key ⟨m.cls,2,true⟩ (mm m hm _ (by simp [mref])) with h | h
    · exact .inl h.1
    · exact .inr h
end Go.Proofs.YtkmdfjpafkcleaaGreatDoor
namespace Go.Proofs.YtkmdfjpafkcleaaGreatDoor
open Eng Go.RowKit
theorem u_long1 (c:Cls) (cs:List Value) (S:Nat→Prop) (w:World) (hr:eCls.rel S w cs c):Ret Tryz.prog 198 #[asV cs] w fun v w'=>v = .bool (!lcls c)∧Bl w w':=by
  obtain ⟨a,cap,rfl,hf⟩:=hr
  refine entr (vs:=[asV [I c.name,I c.super,.slice a c.fields.length cap]]) [0,1,2] tabok Tryz.func198 (by kernel_rfl) ?_
  refine bx (cs:=[I c.name,I c.super,.slice a c.fields.length cap]) fun b w1 hn => ?_
  refine ld (hn.box.cell rfl) ?_
  refine rt1 ⟨vb ?_,hn.bl⟩
  unfold lcls
  by_cases h:c.fields.length≤7 <;> simp [h] <;> omega
theorem u_long2 (m:Mth) (cs:List Value) (S:Nat→Prop) (w:World) (hr:eMth.rel S w cs m):Ret Tryz.prog 199 #[asV cs] w fun v w'=>v = .bool (!lmth m)∧Bl w w':=by
  obtain ⟨a1,c1,a2,c2,a3,c3,rfl,h1,h2,h3⟩:=hr
  have hb1:=h1.big
  have hb2:=h2.big
  refine entr (vs:=[asV [I m.name,I m.cls,.slice a1 m.params.length c1,.slice a2 m.locals.length c2,I m.result.kind,I m.result.cls,.slice a3 m.code.length c3]]) [0,1,2,3,13] tabok Tryz.func199 (by kernel_rfl) ?_
  refine bx (cs:=[I m.name,I m.cls,.slice a1 m.params.length c1,.slice a2 m.locals.length c2,I m.result.kind,I m.result.cls,.slice a3 m.code.length c3]) fun b w1 hn => ?_
  have hslots:IntKind.i64.wrap ((m.params.length:Int)+m.locals.length)=(m.params.length:Int)+m.locals.length:=wrap_fit (by omega) (by omega)
  have hslots1:IntKind.i64.wrap ((m.params.length:Int)+m.locals.length+1)=(m.params.length:Int)+m.locals.length+1:=wrap_fit (by omega) (by omega)
  have fin:∀ {x y:Int},x=m.params.length→y=mslots m→lmth m = !(decide (x > 4)||decide (y > 10)):=by
    rintro x y rfl rfl
    unfold lmth
    by_cases h1:m.params.length≤4 <;> by_cases h2:mslots m≤10 <;> simp [h1,h2] <;> omega
  refine ld (hn.box.cell rfl) ?_
  refine ld (hn.box.cell rfl) ?_
  refine ld (hn.box.cell rfl) ?_
  refine br (fun hc => ?_) (fun hc => ?_)
  · have hc':=of_decide_eq_true hc
    have hy:IntKind.i64.wrap (IntKind.i64.wrap ((m.params.length:Int)+m.locals.length)+1)=mslots m:=by rw [hslots,hslots1];simp [mslots,hc']
    refine ld (hn.box.cell rfl) ?_
    exact rt1 ⟨vb (by rw [fin rfl hy,Bool.not_not]),hn.bl⟩
  · have hc':=of_decide_eq_false hc
    have hy:IntKind.i64.wrap ((m.params.length:Int)+m.locals.length)=mslots m:=by rw [hslots];simp only [mslots];rw [if_pos (Classical.not_not.1 hc')];omega
    refine ld (hn.box.cell rfl) ?_
    exact rt1 ⟨vb (by rw [fin rfl hy,Bool.not_not]),hn.bl⟩
theorem any_not {α:Type} (p:α→Bool) (l:List α):(l.any fun x => !p x) = !(l.all p):=by induction l with
  | nil=>rfl
  | cons x l ih=>simp [ih]
theorem limits_not (u:Unt):limits u=(!(decide (60<(u.pool.length:Int))||decide (10<(u.classes.length:Int))||decide (10<(u.statics.length:Int))||decide (16<(u.methods.length:Int)))&&u.classes.all lcls&&u.methods.all lmth):=by
  unfold limits
  have e:∀ n k:Nat,decide (n≤k) = !decide ((k:Int)<n):=fun n k=>by by_cases h:n≤k <;> simp [h] <;> omega
  rw [e,e,e,e]
  simp only [Bool.not_or];rfl
theorem u_long (u:Unt) (a:UA) (b:Nat) (w:World) (hx:At w b 0 (ucells u a)) (hU:UnR T w u a):Ret Tryz.prog 142 #[.pointer (some ⟨b,0,none⟩)] w fun v w'=>v = .bool (!limits u)∧Bl w w':=by
  refine entr (vs:=[.pointer (some ⟨b,0,none⟩)]) [0,2,3,4] tabok Tryz.func142 (by kernel_rfl) ?_
  have c1:=hx 1 _ rfl
  have c2:=hx 2 _ rfl
  have c3:=hx 3 _ rfl
  have c4:=hx 4 _ rfl
  rw [Nat.zero_add] at c1 c2 c3 c4
  refine ld c1 ?_
  refine ldg (fun _=>c2) ?_
  refine ldg (fun _=>c3) ?_
  refine ldg (fun _=>c4) ?_
  refine ldg (fun _=>c2) ?_
  refine sp (.bool true) (fun h1 => ?_) (fun h1 => ?_)
  · refine cl (ContainsFunc_cls u.classes _ _ 198 [] (fun x => !lcls x) T w hU.cls ?_) ?_
    · exact fun x cs _ w' _ hr=>u_long1 x cs T w' hr
    rintro _ w1 ⟨rfl,hB⟩
    have c4':=hB.kp T _ _ _ trivial c4
    refine ldg (fun _=>c4') ?_
    refine sp (.bool true) (fun h2 => ?_) (fun h2 => ?_)
    · refine cl (ContainsFunc_mth u.methods _ _ 199 [] (fun x => !lmth x) T w1 (hU.bl hB).mth ?_) ?_
      · exact fun x cs _ w' _ hr=>u_long2 x cs T w' hr
      rintro _ w2 ⟨rfl,hB2⟩
      refine rt1 ⟨vb ?_,hB.trans hB2⟩
      rw [any_not,Bool.false_or] at h2 ⊢
      rw [limits_not,h1];revert h2;cases u.classes.all lcls <;> cases u.methods.all lmth <;> simp
    · refine rt1 ⟨vb ?_,hB⟩
      rw [any_not,Bool.false_or] at h2
      rw [limits_not,h1];revert h2;cases u.classes.all lcls <;> simp
  · refine ldg (fun _=>c4) ?_
    refine sp (.bool true) (fun h2 => ?_) (fun h2 => ?_)
    · rw [h1] at h2;cases h2
    refine rt1 ⟨vb ?_,Bl.refl _⟩
    rw [limits_not,h1];simp
end Go.Proofs.YtkmdfjpafkcleaaGreatDoor
namespace Go.Proofs.YtkmdfjpafkcleaaGreatDoor
open Eng Go.RowKit
end Go.Proofs.YtkmdfjpafkcleaaGreatDoor
namespace Go.Proofs.YtkmdfjpafkcleaaGreatDoor
open Eng Go.RowKit
end Go.Proofs.YtkmdfjpafkcleaaGreatDoor
namespace Go.Proofs.YtkmdfjpafkcleaaGreatDoor
open Eng Go.RowKit
end Go.Proofs.YtkmdfjpafkcleaaGreatDoor
namespace Go.Proofs.YtkmdfjpafkcleaaGreatDoor
open Eng Go.RowKit
end Go.Proofs.YtkmdfjpafkcleaaGreatDoor
namespace Go.Proofs.YtkmdfjpafkcleaaGreatDoor
open Eng Go.RowKit
theorem nm_at {u:Unt} {i:Int} {x:ByteArray} (h:u.pool[i.toNat]? = some x):nm u i=x:=by unfold nm;rw [List.getD_eq_getElem?_getD,h];rfl
end Go.Proofs.YtkmdfjpafkcleaaGreatDoor
namespace Go.Proofs.YtkmdfjpafkcleaaGreatDoor
open Eng Go.RowKit
theorem pool_at {S:Nat→Prop} {w:World} {u:Unt} {a:UA} (h:UnR S w u a) {i:Int} (hi:inP u i):∃ b o,a.a1=some ⟨b,o,none⟩∧S b∧w.cell? ⟨b,o+i.toNat*1,none⟩=some (.string (nm u i))∧(nm u i).size≤1048576∧i=((i.toNat:Nat):Int)∧i.toNat<u.pool.length:=by
  obtain ⟨h1,h2⟩:=hi
  have h3:i.toNat<u.pool.length:=by omega
  obtain ⟨s,b,o,cs,hs,e,hS,hAt,rfl⟩:=at_some h.pool h3
  refine ⟨b,o,e,hS,?_,?_,by omega,h3⟩
  · rw [nm_at hs];exact hAt 0 _ rfl
  · rw [nm_at hs];exact h.ps s (List.mem_of_getElem? hs)
end Go.Proofs.YtkmdfjpafkcleaaGreatDoor
namespace Go.Proofs.YtkmdfjpafkcleaaGreatDoor.Eng
open Go Go.RowKit
def arrO (i esz:Nat):Nat→List (Nat×Nat)
  | 0=>[]
  | n+1=>(i*esz,esz)::arrO (i+1) esz n
theorem arrO_at {esz:Nat}:∀ {n i j o z:Nat},(arrO i esz n)[j]? = some (o,z)→o=(i+j)*esz∧z=esz
  | 0,_,_,_,_,h=>by simp [arrO] at h
  | n+1,i,0,o,z,h=>by simp [arrO] at h;obtain ⟨rfl,rfl⟩:=h;simp
  | n+1,i,j+1,o,z,h=>by
    have:=arrO_at (n:=n) (i:=i+1) (j:=j) (by simpa [arrO] using h)
    rw [show i+(j+1)=i+1+j by omega];exact this
section
variable {C:Cx} {s:St} {w:World}
theorem exec_bda {P:Program} {ρ:Operand→Value} {w:World} {o:Oper} {T:TypeId} {parts:Array (Nat×Operand)} {n e esz sz:Nat} {ag:Bool} {zr cs:List Value} {pv:List (Nat×Value)} (ho:o.op = .build T parts)
    (ht:tiOk P T ⟨.arr n e esz,sz,ag,zr⟩=true) (hp:parts.toList.map (fun (i,x)=>(i,ρ x))=pv) (hcs:fillL (arrO 0 esz n) zr pv=some cs):(execOp ρ o).run P w = .ok (.value (.agg cs.toArray)) w:=by
  obtain ⟨d,x,z,hT⟩:=tiOk_und ht
  obtain ⟨rfl,y,hy,hys⟩:=hT.ar _ _ _ rfl
  obtain ⟨z',hz,hzc⟩:=zero_run ht w
  have ep:parts.map (fun (i,x)=>(i,ρ x))=pv.toArray:=by rw [←hp,←List.map_toArray,Array.toArray_toList]
  unfold execOp
  simp only [ho,ep]
  refine (run_bind_ok (P:=P) (x := .agg cs.toArray) (w':=w) ?_).trans rfl
  unfold Instr.build
  rw [run_bind_ok hz]
  simp only
  rw [run_bind_ok (und_run hT.und w)]
  simp only
  rw [run_bind_ok (size_run hy w),hys]
  have:=fill_ok (offs:=arrO 0 esz n) (place:=fun i=>some (i*esz,esz)) (fun i o z h=>by obtain ⟨rfl,rfl⟩:=arrO_at h;simp) hcs
  rw [hzc]
  simp only [this]
  rfl
theorem bda {md:Option Md} {ops:Array Oper} {T:TypeId} {parts:Array (Nat×Operand)} {d:Nat} {ty:TypeId} {pos:String} {af:Array Edge} {g:Option (Nat×Bool)} {rest:List Oper} {k:List Item} {l:Env} {c:CEnv} {n e esz sz:Nat} {ag:Bool} {zr cs:List Value} {pv:List (Nat×Value)}
    (h:Wk C (.reg md ops rest k ((d,.agg cs.toArray)::l) c) w)
    (hs:adv C.tab C.n C.ks 400 s = .opn md ops ⟨some d,.build T parts,ty,pos,af,g⟩ rest k l c []:=by rfl) (ht:C.tab.at T=some ⟨.arr n e esz,sz,ag,zr⟩:=by rfl)
    (hp:evparts l c [] parts.toList=some pv:=by rfl) (hcs:fillL (arrO 0 esz n) zr pv=some cs:=by rfl) (hf:fresh d l c []=true:=by rfl):Wk C s w :=
  rd (p:=[]) (fun hT _ hA hpp _ _=>exec_bda rfl (tab_at hT ht) (evparts_ok hA.k hA.kc.c hpp hp) hcs) h hs rfl hf (okR_no rfl)
theorem exec_ixa {P:Program} {ρ:Operand→Value} {w:World} {d:Option Nat} {T:TypeId} {x i:Operand} {ty:TypeId} {pos:String} {af:Array Edge} {g:Option (Nat×Bool)} {sz n e esz:Nat} {ag:Bool} {zr:List Value} {b o j:Nat} {kd:IntKind}
    (ht:tiOk P T ⟨.arr n e esz,sz,ag,zr⟩=true) (hx:ρ x = .pointer (some ⟨b,o,none⟩)) (hi:ρ i = .int kd j) (hb:j<n) :
    (execOp ρ ⟨d,.indexAddr T x i,ty,pos,af,g⟩).run P w = .ok (.value (.pointer (some ⟨b,o+j*esz,none⟩))) w:=by
  obtain ⟨dd,xx,zz,hT⟩:=tiOk_und ht
  have hu:=hT.und
  obtain ⟨rfl,y,hy,hys⟩:=hT.ar _ _ _ rfl
  simp only [execOp,hx,hi]
  refine (run_bind_ok (P:=P) (x:=_) (w':=w) ?_).trans rfl
  simp only [Instr.indexAt]
  rw [run_bind_ok (show (asIntOf (.int kd j)).run P w = .ok (kd,(j:Int)) w from rfl)]
  simp only
  rw [run_bind_ok (und_run hu w)]
  simp only [Instr.sureAddr]
  rw [run_bind_ok (show (pure (⟨b,o,none⟩:Addr):Sem Addr).run P w = .ok ⟨b,o,none⟩ w from rfl)]
  rw [run_bind_ok (show (pure (some (⟨b,o,none⟩:Addr),n,e):Sem (Option Addr×Nat×TypeId)).run P w = .ok (some ⟨b,o,none⟩,n,e) w from rfl)]
  simp only
  rw [run_bind_ok (und_run hu w)]
  simp only
  rw [if_pos ⟨by omega,by omega⟩,run_bind_ok (size_run hy w),hys,Int.toNat_natCast,add_none]
  rfl
theorem ixa {md:Option Md} {ops:Array Oper} {T:TypeId} {x i:Operand} {d:Nat} {ty:TypeId} {pos:String} {af:Array Edge} {g:Option (Nat×Bool)} {rest:List Oper} {k:List Item} {l:Env} {c:CEnv} {n e esz sz:Nat} {ag:Bool} {zr:List Value} {b o j:Nat} {kd:IntKind} {i0:Int}
    (h:Wk C (.reg md ops rest k ((d,.pointer (some ⟨b,o+j*esz,none⟩))::l) c) w)
    (hs:adv C.tab C.n C.ks 400 s = .opn md ops ⟨some d,.indexAddr T x i,ty,pos,af,g⟩ rest k l c []:=by rfl) (ht:C.tab.at T=some ⟨.arr n e esz,sz,ag,zr⟩:=by rfl)
    (hx:evc l c [] x=some (.pointer (some ⟨b,o,none⟩)):=by rfl) (hi:evc l c [] i=some (.int kd i0):=by rfl) (hij:i0=(j:Int):=by rfl) (hf:fresh d l c []=true:=by rfl) (hb:j<n:=by omega):Wk C s w :=
  rd (p:=[]) (fun hT _ hA hp _ _=>exec_ixa (tab_at hT ht) (evc_ok hA.k hA.kc.c hp hx) (by rw [←hij];exact evc_ok hA.k hA.kc.c hp hi) hb) h hs rfl hf (okR_no rfl)
theorem exec_ixv {P:Program} {ρ:Operand→Value} {w:World} {d:Option Nat} {T:TypeId} {x i:Operand} {ty:TypeId} {pos:String} {af:Array Edge} {g:Option (Nat×Bool)} {sz n e esz se:Nat} {ag:Bool} {zr:List Value} {j:Nat} {kd:IntKind} {cs:List Value} {v:Value} {tk:TK} {ze:List Value}
    (ht:tiOk P T ⟨.arr n e esz,sz,ag,zr⟩=true) (he:tiOk P e ⟨tk,se,false,ze⟩=true) (hx:ρ x = .agg cs.toArray) (hi:ρ i = .int kd j) (hb:j<n) (hv:cs[j*esz]? = some v) :
    (execOp ρ ⟨d,.index T x i,ty,pos,af,g⟩).run P w = .ok (.value v) w:=by
  obtain ⟨dd,xx,zz,hT⟩:=tiOk_und ht
  have hu:=hT.und
  obtain ⟨rfl,y,hy,hys⟩:=hT.ar _ _ _ rfl
  simp only [execOp,hx,hi]
  refine (run_bind_ok (P:=P) (x:=_) (w':=w) ?_).trans rfl
  simp only [Instr.index]
  rw [run_bind_ok (show (asIntOf (.int kd j)).run P w = .ok (kd,(j:Int)) w from rfl)]
  simp only
  rw [run_bind_ok (und_run hu w)]
  simp only
  rw [if_pos ⟨by omega,by omega⟩,run_bind_ok (size_run hy w),hys,Int.toNat_natCast]
  unfold part
  rw [run_bind_ok (ti_agg he w).1,if_neg (by simp)]
  simp only [List.getElem?_toArray,hv]
  rfl
theorem ixv {md:Option Md} {ops:Array Oper} {T:TypeId} {x i:Operand} {d:Nat} {ty:TypeId} {pos:String} {af:Array Edge} {g:Option (Nat×Bool)} {rest:List Oper} {k:List Item} {l:Env} {c:CEnv} {n e esz sz se:Nat} {ag:Bool} {zr:List Value} {j:Nat} {kd:IntKind} {i0:Int} {cs:List Value} {v:Value} {tk:TK} {ze:List Value}
    (hv:cs[j*esz]? = some v) (h:Wk C (.reg md ops rest k ((d,v)::l) c) w)
    (hs:adv C.tab C.n C.ks 400 s = .opn md ops ⟨some d,.index T x i,ty,pos,af,g⟩ rest k l c []:=by rfl) (ht:C.tab.at T=some ⟨.arr n e esz,sz,ag,zr⟩:=by rfl) (he:C.tab.at e=some ⟨tk,se,false,ze⟩:=by rfl)
    (hx:evc l c [] x=some (.agg cs.toArray):=by rfl) (hi:evc l c [] i=some (.int kd i0):=by rfl) (hij:i0=(j:Int):=by rfl) (hf:fresh d l c []=true:=by rfl) (hb:j<n:=by omega):Wk C s w :=
  rd (p:=[]) (fun hT _ hA hp _ _=>exec_ixv (tab_at hT ht) (tab_at hT he) (evc_ok hA.k hA.kc.c hp hx) (by rw [←hij];exact evc_ok hA.k hA.kc.c hp hi) hb hv) h hs rfl hf (okR_no rfl)
theorem rtc2 {k:List Item} {l:Env} {dd d2:Nat} {t:TypeId} {tk:TK} {sz:Nat} {zr:List Value} {b o:Nat} {cs:List Value} {v:Value} (hc:At w b o cs) (hq:C.Q (.tuple #[.agg cs.toArray,v]) w) (hs:adv C.tab C.n C.ks 400 s = .code (.code .ret::k) l:=by rfl)
    (ho:C.fn.results=#[.cell dd t,.tmp d2]:=by rfl) (ht:C.tab.at t=some ⟨tk,sz,true,zr⟩:=by rfl) (hl:cs.length=sz:=by rfl) (hx:look l dd=some (.pointer (some ⟨b,o,none⟩)):=by rfl) (hy:look l d2=some v:=by rfl):Wk C s w :=
  by_adv hs ⟨fun hT hf a hA=>fin hf (by
    unfold results
    rw [ho]
    have e:a.tmps.getD dd undef = .pointer (some ⟨b,o,none⟩):=hA.k _ _ hx
    have e':a.tmps.getD d2 undef=v:=hA.k _ _ hy
    have e2:(loadVar t ⟨b,o,none⟩).run C.P w = .ok (.agg cs.toArray) w:=loadVar_agg (tab_at hT ht) hc hl
    simp only [List.mapM_toArray,List.mapM_cons,List.mapM_nil,e,e',asAddr]
    have e3:(do let x ←(do let p ←(pure (⟨b,o,none⟩:Addr):Sem Addr);loadVar t p);let y ←(do let z ←(pure v:Sem Value);let u ←(pure []:Sem (List Value));pure (z::u));pure (x::y):Sem (List Value)).run C.P w = .ok [.agg cs.toArray,v] w:=(run_bind_ok e2).trans rfl
    refine (run_bind_ok (P:=C.P) (x:=#[.agg cs.toArray,v]) (w':=w) ?_).trans rfl
    exact (run_bind_ok e3).trans rfl) hA.defers hq (fun _=>step_ret)⟩
theorem ovl_get:∀ (vs cs:List Value) (o j:Nat),o+vs.length≤cs.length→(ovl cs o vs)[j]? = if o≤j∧j<o+vs.length then vs[j-o]? else cs[j]?
  | [],cs,o,j,_=>by simp only [ovl,List.length_nil];rw [if_neg (by omega)]
  | v::vs,cs,o,j,h=>by
    simp only [List.length_cons] at h
    simp only [ovl,List.length_cons]
    rw [ovl_get vs _ _ _ (by simp;omega)]
    by_cases h1:j=o
    · subst h1
      rw [if_neg (by omega),if_pos (by omega),List.getElem?_set_self (by omega)];simp
    · by_cases h2:o+1≤j∧j<o+1+vs.length
      · rw [if_pos h2,if_pos (by omega),show j-o=j-(o+1)+1 by omega];simp
      · rw [if_neg h2,if_neg (by omega),List.getElem?_set_ne (by omega)]
theorem ovl_whole {vs cs:List Value} (h:vs.length=cs.length):ovl cs 0 vs=vs:=by
  apply List.ext_getElem?
  intro j
  rw [ovl_get _ _ _ _ (by omega)]
  by_cases h1:j<vs.length
  · rw [if_pos (by omega)];rfl
  · rw [if_neg (by omega),List.getElem?_eq_none (by omega),List.getElem?_eq_none (by omega)]
theorem stw {md:Option Md} {ops:Array Oper} {T:TypeId} {x y:Operand} {ty:TypeId} {pos:String} {af:Array Edge} {g:Option (Nat×Bool)} {rest:List Oper} {k:List Item} {l:Env} {c:CEnv} {tk:TK} {sz:Nat} {ag:Bool} {zr:List Value} {b:Nat} {t:TypeId} {vs cs:List Value}
    (hb:Box w b t cs) (hl:vs.length=sz) (hl2:cs.length=sz) (hv:vs.all Value.oneCell'=true) (h:∀ w',Wr w b w'→Box w' b t vs→Wk C (.reg md ops rest k l c) w')
    (hs:adv C.tab C.n C.ks 400 s = .opn md ops ⟨none,.store T x y,ty,pos,af,g⟩ rest k l c []:=by rfl) (ht:C.tab.at T=some ⟨tk,sz,ag,zr⟩:=by rfl)
    (hx:evc l c [] x=some (.pointer (some ⟨b,0,none⟩)):=by rfl) (hy:evc l c [] y=some (.agg vs.toArray):=by rfl) (hm:∀ w',Wr w b w'→mdW md w w':=by intros;exact True.intro) (hnt:notT md=true:=by rfl):Wk C s w :=
  op_unit (okW_of rfl hnt) (hm _ (setCells_ok hb).1) (w':=setCells w b 0 vs) (fun hT a hA=>by
    have hz:=(ti_agg (tab_at hT ht) w).2
    simp only [execOp,evc_ok hA.k hA.kc.c (p:=[]) trivial hx,evc_ok hA.k hA.kc.c (p:=[]) trivial hy,Instr.storeAt,Instr.sureAddr]
    refine (run_bind_ok (P:=C.P) (x:=()) (w':=setCells w b 0 vs) ?_).trans rfl
    show (storeVar T ⟨b,0,none⟩ (.agg vs.toArray)).run C.P w=_
    unfold storeVar
    rw [run_bind_ok hz,if_neg (by simp [Value.cells,hl])]
    exact storeCells_run (vs:=vs) (i:=0) hb (by omega) hv)
    (h _ (setCells_ok hb).1 (by have:=(setCells_ok (o:=0) (vs:=vs) hb).2;rw [ovl_whole (by omega)] at this;exact this)) hs rfl
theorem mx {md:Option Md} {ops:Array Oper} {x y:Operand} {tys:Array TypeId} {d:Nat} {ty:TypeId} {pos:String} {af:Array Edge} {g:Option (Nat×Bool)} {rest:List Oper} {k:List Item} {l:Env} {c:CEnv} {kd:IntKind} {a b:Int}
    (h:Wk C (.reg md ops rest k ((d,.int kd (max a b))::l) c) w)
    (hs:adv C.tab C.n C.ks 400 s = .opn md ops ⟨some d,.call ⟨.builtin .max,#[x,y],tys⟩,ty,pos,af,g⟩ rest k l c []:=by rfl) (hx:evc l c [] x=some (.int kd a):=by rfl) (hy:evc l c [] y=some (.int kd b):=by rfl) (hf:fresh d l c []=true:=by rfl):Wk C s w :=
  rd (p:=[]) (fun _ _ hA hp w' _=>by
    simp only [execOp,resolve,List.map_toArray,List.map_cons,List.map_nil,evc_ok hA.k hA.kc.c hp hx,evc_ok hA.k hA.kc.c hp hy]
    show (Sem.bind (Builtin.max_ _ ty #[_,_]) _).run C.P w'=_
    refine (run_bind_ok (P:=C.P) (x := .int kd (max a b)) (w':=w') ?_).trans rfl
    simp only [Builtin.max_,List.foldlM,Builtin.max2]
    by_cases hab:a<b
    · simp [hab,pure,Int.max_def];omega
    · simp [hab,pure,Int.max_def];omega) h hs rfl hf (okR_no rfl)
end
end Go.Proofs.YtkmdfjpafkcleaaGreatDoor.Eng
namespace Go.Proofs.YtkmdfjpafkcleaaGreatDoor
def opensB (op:Int):Bool:=decide (29≤op)&&decide (op≤33)
def stepB (s:List (Int×Bool)) (d:Nat) (op:Int):Option (List (Int×Bool)×Nat) :=
  if opensB op=true then some ((op,false)::s,max d (s.length+1))
  else if op=34 then match s with
    | (o,false)::r=>if o=29∨o=33 then some ((o,true)::r,d) else none
    | _=>none
  else if op=35 then match s with
    | (o,e)::r=>if o=33∧e=false then none else some (r,d)
    | []=>none
  else some (s,d)
def runB:List Int→List (Int×Bool)→Nat→Option (List (Int×Bool)×Nat)
  | [],s,d=>some (s,d)
  | op::c,s,d=>match stepB s d op with
    | some (s',d')=>runB c s' d'
    | none=>none
def okB (c:List Int):Bool:=match runB c [] 0 with
  | some ([],d)=>decide (d≤6)
  | _=>false
def badB (c:List Int):Prop:=∀ s d d',s.length≤d→runB c s d≠some ([],d')
theorem runB_plain {op:Int} {c:List Int} {s:List (Int×Bool)} {d:Nat} (h1:opensB op=false) (h2:op≠34) (h3:op≠35):runB (op::c) s d=runB c s d:=by
  simp [runB,stepB,h1,h2,h3]
theorem runB_open {op:Int} {c:List Int} {s:List (Int×Bool)} {d:Nat} (h1:opensB op=true):runB (op::c) s d=runB c ((op,false)::s) (max d (s.length+1)):=by
  simp [runB,stepB,h1]
theorem runB_else {o:Int} {e:Bool} {c:List Int} {s:List (Int×Bool)} {d:Nat}:runB (34::c) ((o,e)::s) d=if e=false∧(o=29∨o=33) then runB c ((o,true)::s) d else none:=by
  cases e
  · by_cases h:o=29∨o=33 <;> simp [runB,stepB,opensB,h]
  · simp [runB,stepB,opensB]
theorem runB_end {o:Int} {e:Bool} {c:List Int} {s:List (Int×Bool)} {d:Nat}:runB (35::c) ((o,e)::s) d=if o=33∧e=false then none else runB c s d:=by
  by_cases h:o=33∧e=false
  · obtain ⟨rfl,rfl⟩:=h;simp [runB,stepB,opensB]
  · rw [if_neg h]
    have:stepB ((o,e)::s) d 35=some (s,d):=by
      simp [stepB,opensB]
      intro h1
      cases e with
      | true=>rfl
      | false=>exact absurd ⟨h1,rfl⟩ h
    simp [runB,this]
theorem runB_top {op:Int} {c:List Int} {d:Nat} (h:op=34∨op=35):runB (op::c) [] d=none:=by
  rcases h with rfl | rfl <;> simp [runB,stepB,opensB]
def partsOk (c:List Int) (i:Nat) (next deep:Int):Prop :=
  (deep = -1∧badB (c.drop i))∨∃ n k:Nat,next=n∧deep=k∧i≤n∧n≤c.length∧k≤n-i∧(n=c.length∨c[n]? = some 34∨c[n]? = some 35)∧∀ s D,s.length≤D→runB (c.drop i) s D=runB (c.drop n) s (max D (s.length+k))
def bracketOk (c:List Int) (i:Nat) (next deep:Int):Prop :=
  (deep = -1∧badB (c.drop i))∨∃ n k:Nat,next=n∧deep=k∧i<n∧n<c.length∧k+1≤n+1-i∧∀ s D,s.length≤D→runB (c.drop i) s D=runB (c.drop (n+1)) s (max D (s.length+k+1))
end Go.Proofs.YtkmdfjpafkcleaaGreatDoor
namespace Go.Proofs.YtkmdfjpafkcleaaGreatDoor
open Eng Go.RowKit
def mosts:List Int:=[0,0,9,4,9,48,6,9,15,15,3,9,50,5,24]
def isPool (r:Nat):Bool:=decide ((r:Int)=4)||decide ((r:Int)=6)||decide ((r:Int)=7)||decide ((r:Int)=8)||decide ((r:Int)=9)
def inR (n:Int) (r:Nat) (pooled:Bool):Bool :=
  if r=1 then decide (-2147483648≤n)&&decide (n≤2147483647) else if r=3 then decide (2≤n)&&decide (n≤4) else if r=14 then decide (1≤n)&&decide (n≤24)
  else if (pooled&&isPool r)=true then decide (0≤n)&&decide (n<60) else decide (0≤n)&&decide (n≤mosts.getD r 0)
def rngs:List (Nat×Nat):=[(0,0),(1,0),(2,0),(2,0),(0,0),(0,0),(0,0),(0,0),(0,0),(0,0),(0,0),(0,0),(3,4),(0,0),(4,0),(5,0),(5,4),(6,0),(6,0),(0,0),(0,0),(0,0),(7,0),(7,0),(4,0),(8,0),(9,0),(10,0),(11,0),(0,0),(12,2),(13,0),(14,0),(0,0),(0,0),(0,0)]
def validI (i:Ins) (pooled:Bool):Bool:=decide (0≤i.op)&&decide (i.op<36)&&inR i.a (rngs.getD i.op.toNat (0,0)).1 pooled&&inR i.b (rngs.getD i.op.toNat (0,0)).2 pooled&&(decide (¬i.op=12)||decide (¬i.a=3)||decide (i.b=0))
theorem w_most (r:Nat) (hr:r<15) (w:World):Ret Tryz.prog 283 #[I r] w fun v w'=>v=I (mosts.getD r 0)∧w'=w:=by
  refine entr (vs:=[I r]) [0,2] tabok Tryz.func283 (by kernel_rfl) ?_
  refine bda ?_
  refine ixv (j:=r) (v:=I (mosts.getD r 0)) ?_ ?_
  rotate_left
  · exact rt1 ⟨rfl,rfl⟩
  · show (mosts.map I)[r*1]? = _
    rw [Nat.mul_one,List.getElem?_map,List.getD_eq_getElem?_getD]
    obtain ⟨x,hx⟩:=some_of_lt (l:=mosts) (k:=r) hr
    rw [hx];rfl
theorem w_pools (r:Nat) (w:World):Ret Tryz.prog 284 #[I r] w fun v w'=>v = .bool (isPool r)∧w'=w:=by
  refine entr (vs:=[I r]) [0,2] tabok Tryz.func284 (by kernel_rfl) ?_
  exact rt1 ⟨rfl,rfl⟩
theorem w_in (n:Int) (r:Nat) (p:Bool) (hr:r<15) (w:World):Ret Tryz.prog 256 #[I n,I r,.bool p] w fun v w'=>v = .bool (inR n r p)∧w'=w:=by
  refine entr (vs:=[I n,I r,.bool p]) [0,1,2,6,7,16,25,35] tabok Tryz.func256 (by kernel_rfl) ?_
  refine br (t:=decide ((r:Int)=1)) (fun h => ?_) (fun h => ?_)
  · have h1:r=1:=by have:=of_decide_eq_true h;omega
    exact rt1 ⟨vb (by unfold inR;rw [if_pos h1]),rfl⟩
  have n1:¬r=1:=by have:=of_decide_eq_false h;omega
  refine br (t:=decide ((r:Int)=3)) (fun h => ?_) (fun h => ?_)
  · have h1:r=3:=by have:=of_decide_eq_true h;omega
    exact rt1 ⟨vb (by unfold inR;rw [if_neg n1,if_pos h1]),rfl⟩
  have n3:¬r=3:=by have:=of_decide_eq_false h;omega
  refine br (t:=decide ((r:Int)=14)) (fun h => ?_) (fun h => ?_)
  · have h1:r=14:=by have:=of_decide_eq_true h;omega
    refine sp (I 0) (fun p1 => ?_) (fun p1 => ?_)
    · refine cl (w_most 14 (by omega) _) ?_
      rintro _ _ ⟨rfl,rfl⟩
      refine rt1 ⟨vb ?_,rfl⟩
      unfold inR;rw [if_neg n1,if_neg n3,if_pos h1]
      rw [show decide (1≤n)=true from p1];rfl
    · refine rt1 ⟨vb ?_,rfl⟩
      unfold inR;rw [if_neg n1,if_neg n3,if_pos h1]
      rw [show decide (1≤n)=false from p1];rfl
  have n14:¬r=14:=by have:=of_decide_eq_false h;omega
  refine sp (.bool false) (fun p1 => ?_) (fun p1 => ?_)
  · refine cl (w_pools r _) ?_
    rintro _ _ ⟨rfl,rfl⟩
    refine br (t:=isPool r) (fun h => ?_) (fun h => ?_)
    · refine rt1 ⟨vb ?_,rfl⟩
      unfold inR;rw [if_neg n1,if_neg n3,if_neg n14,p1,h,if_pos (by rfl)]
    · refine sp (I 0) (fun p2 => ?_) (fun p2 => ?_)
      · refine cl (w_most r hr _) ?_
        rintro _ _ ⟨rfl,rfl⟩
        refine rt1 ⟨vb ?_,rfl⟩
        unfold inR;rw [if_neg n1,if_neg n3,if_neg n14,p1,h,if_neg (by simp),show decide (0≤n)=true from p2]
      · refine rt1 ⟨vb ?_,rfl⟩
        unfold inR;rw [if_neg n1,if_neg n3,if_neg n14,p1,h,if_neg (by simp),show decide (0≤n)=false from p2];rfl
  · refine br (fun h => ?_) (fun h => ?_)
    · rw [p1] at h;cases h
    · refine sp (I 0) (fun p2 => ?_) (fun p2 => ?_)
      · refine cl (w_most r hr _) ?_
        rintro _ _ ⟨rfl,rfl⟩
        refine rt1 ⟨vb ?_,rfl⟩
        unfold inR;rw [if_neg n1,if_neg n3,if_neg n14,p1,if_neg (by simp),show decide (0≤n)=true from p2]
      · refine rt1 ⟨vb ?_,rfl⟩
        unfold inR;rw [if_neg n1,if_neg n3,if_neg n14,p1,if_neg (by simp),show decide (0≤n)=false from p2];rfl
set_option maxRecDepth 200000 in
theorem w_table (w:World):Ret Tryz.prog 282 #[] w fun v w'=>(∃ cs:List Value,v = .agg cs.toArray∧cs.length=144∧cs.all Value.oneCell'=true∧((List.range 36).map fun k=>(cs[k*4+1]?,cs[k*4+2]?))=rngs.map fun r=>(some (I r.1),some (I r.2)))∧Bl w w':=by
  refine entr (vs:=[]) [0] tabok Tryz.func282 (by kernel_rfl) ?_
  refine al fun b w1 hn => ?_
  iterate 36 refine bd ?_
  refine bda ?_
  refine stw hn.box ?_ rfl ?_ fun w2 h2 hb2 => ?_
  · rfl
  · rfl
  exact rtc hb2.at ⟨⟨_,rfl,rfl,rfl,rfl⟩,hn.wr h2⟩
theorem w_known (op:Int) (w:World):Ret Tryz.prog 255 #[I op] w fun v w'=>(if 0≤op∧op<36 then ∃ x y,x.oneCell'=true∧y.oneCell'=true∧v = .tuple #[.agg #[x,I (rngs.getD op.toNat (0,0)).1,I (rngs.getD op.toNat (0,0)).2,y],.bool true]
    else v = .tuple #[.agg #[.string ⟨#[]⟩,I 0,I 0,I 0],.bool false])∧Bl w w':=by
  refine entr (vs:=[I op]) [0,2,3,4,11] tabok Tryz.func255 (by kernel_rfl) ?_
  refine al fun b0 w1 h1 => ?_
  refine cl (w_table _) ?_
  rintro _ w2 ⟨⟨cs,rfl,hl,ha,ht⟩,hB2⟩
  refine al fun b3 w3 h3 => ?_
  refine stw h3.box hl rfl ha fun w4 h4 hb4 => ?_
  have hB14:=hB2.trans (h3.wr h4)
  have hb0:=Bl.box hB14 h1.box
  refine br (t:=decide (op<0)||decide (op≥36)) (fun h => ?_) (fun h => ?_)
  · simp only [Bool.or_eq_true,decide_eq_true_eq] at h
    refine bd ?_
    refine sta hb0 fun w5 h5 hb5 => ?_
    refine rtc2 hb5.at ⟨?_,?_⟩
    · rw [if_neg (by omega)]
    · exact Below.trans (Bl.trans h1.bl hB14) (h5.below (by have:=h1.blk;omega))
  · simp only [Bool.or_eq_false_iff,decide_eq_false_iff_not] at h
    obtain ⟨j,rfl⟩:∃ j:Nat,op=j:=⟨op.toNat,by omega⟩
    have hj:j<36:=by omega
    have key:(cs[j*4+1]?,cs[j*4+2]?)=(some (I (rngs.getD j (0,0)).1),some (I (rngs.getD j (0,0)).2)):=by
      have:=congrArg (fun l=>l[j]?) ht
      simp only [List.getElem?_map] at this
      rw [List.getElem?_range hj] at this
      obtain ⟨r,hr⟩:=some_of_lt (l:=rngs) (k:=j) hj
      rw [hr] at this
      rw [List.getD_eq_getElem?_getD,hr]
      exact Option.some.inj this
    obtain ⟨x,hx⟩:=some_of_lt (l:=cs) (k:=j*4) (by omega)
    obtain ⟨y,hy⟩:=some_of_lt (l:=cs) (k:=j*4+3) (by omega)
    simp only [Prod.mk.injEq] at key
    have hAt:At w4 b3 (0+j*4) [x,I (rngs.getD j (0,0)).1,I (rngs.getD j (0,0)).2,y]:=fun i v hv=>by
      rw [Nat.zero_add]
      match i,hv with
      | 0,hv=>simp at hv;subst hv;exact hb4.cell hx
      | 1,hv=>simp at hv;subst hv;exact hb4.cell key.1
      | 2,hv=>simp at hv;subst hv;exact hb4.cell key.2
      | 3,hv=>simp at hv;subst hv;exact hb4.cell hy
      | i+4,hv=>simp at hv
    have hx1:x.oneCell'=true:=List.all_eq_true.1 ha x (List.mem_of_getElem? hx)
    have hy1:y.oneCell'=true:=List.all_eq_true.1 ha y (List.mem_of_getElem? hy)
    refine ixa ?_
    refine lda hAt ?_
    refine stw (vs:=[x,I (rngs.getD j (0,0)).1,I (rngs.getD j (0,0)).2,y]) hb0 rfl rfl (by simp only [List.all_cons,hx1,hy1];rfl) fun w5 h5 hb5 => ?_
    refine rtc2 hb5.at ⟨?_,?_⟩
    · rw [if_pos (by omega)]
      exact ⟨x,y,hx1,hy1,rfl⟩
    · exact Below.trans (Bl.trans h1.bl hB14) (h5.below (by have:=h1.blk;omega))
end Go.Proofs.YtkmdfjpafkcleaaGreatDoor
namespace Go.Proofs.YtkmdfjpafkcleaaGreatDoor
open Eng Go.RowKit
theorem rng_lt (j:Nat):(rngs.getD j (0,0)).1<15∧(rngs.getD j (0,0)).2<15:=by
  by_cases hj:j<36
  · obtain ⟨r,hr⟩:=some_of_lt (l:=rngs) (k:=j) hj
    rw [List.getD_eq_getElem?_getD,hr]
    have:rngs.all (fun r=>decide (r.1<15)&&decide (r.2<15))=true:=by decide
    have:=List.all_eq_true.1 this r (List.mem_of_getElem? hr)
    simpa using this
  · rw [List.getD_eq_getElem?_getD,List.getElem?_eq_none (by show 36≤j;omega)];simp
theorem w_Valid (i:Ins) (p:Bool) (w:World):Ret Tryz.prog 212 #[.agg #[I i.op,I i.a,I i.b],.bool p] w fun v w'=>v = .bool (validI i p)∧Bl w w':=by
  refine entr (vs:=[.agg #[I i.op,I i.a,I i.b],.bool p]) [0,1,2,4,5,6,32] tabok Tryz.func212 (by kernel_rfl) ?_
  refine bx (cs:=[I i.op,I i.a,I i.b]) fun b w1 hn => ?_
  refine ld (hn.box.cell rfl) ?_
  refine cl (w_known i.op _) ?_
  rintro v w2 ⟨hv,hB⟩
  by_cases hk:0≤i.op∧i.op<36
  · rw [if_pos hk] at hv
    obtain ⟨x,y,hx1,hy1,rfl⟩:=hv
    have hval:validI i p=(inR i.a (rngs.getD i.op.toNat (0,0)).1 p&&inR i.b (rngs.getD i.op.toNat (0,0)).2 p&&(decide (¬i.op=12)||decide (¬i.a=3)||decide (i.b=0))):=by
      unfold validI;rw [decide_eq_true hk.1,decide_eq_true hk.2];rfl
    obtain ⟨hr1,hr2⟩:=rng_lt i.op.toNat
    generalize (rngs.getD i.op.toNat (0,0)).1=ra at *
    generalize (rngs.getD i.op.toNat (0,0)).2=rb at *
    refine al fun b5 w3 h5 => ?_
    refine stw (vs:=[x,I ra,I rb,y]) h5.box rfl rfl (by simp only [List.all_cons,hx1,hy1];rfl) fun w4 h6 hb5 => ?_
    have hB4:=hB.trans (h5.wr h6)
    have hb:=Bl.box hB4 hn.box
    refine ldg (fun _=>hb.cell rfl) ?_
    refine ldg (fun _=>hb5.cell rfl) ?_
    refine sp (.bool false) (fun _ => ?_) (fun q => ?_)
    rotate_left
    · exact absurd q (by decide)
    refine cl (w_in i.a ra p hr1 _) ?_
    rintro _ _ ⟨rfl,rfl⟩
    refine ldg (fun _=>hb.cell rfl) ?_
    refine ldg (fun _=>hb5.cell rfl) ?_
    refine sp (.bool false) (fun q => ?_) (fun q => ?_)
    · refine cl (w_in i.b rb p hr2 _) ?_
      rintro _ _ ⟨rfl,rfl⟩
      refine br (fun h => ?_) (fun h => ?_)
      · refine rt1 ⟨vb ?_,hn.bl.trans hB4⟩
        rw [hval];revert q h;cases inR i.a ra p <;> cases inR i.b rb p <;> simp
      · refine ld (hb.cell rfl) ?_
        refine ldg (fun _=>hb.cell rfl) ?_
        refine ldg (fun _=>hb.cell rfl) ?_
        refine rt1 ⟨vb ?_,hn.bl.trans hB4⟩
        rw [hval];revert q h;cases inR i.a ra p <;> cases inR i.b rb p <;> simp
    · refine br (fun h => ?_) (fun h => ?_)
      · refine rt1 ⟨vb ?_,hn.bl.trans hB4⟩
        rw [hval];revert q;cases inR i.a ra p <;> simp
      · simp at h
  · rw [if_neg hk] at hv
    subst hv
    refine al fun b5 w3 h5 => ?_
    refine sta h5.box fun w4 h6 hb5 => ?_
    have hB4:=hB.trans (h5.wr h6)
    have hb:=Bl.box hB4 hn.box
    refine ldg (fun _=>hb.cell rfl) ?_
    refine ldg (fun _=>hb5.cell rfl) ?_
    refine sp (.bool false) (fun q => ?_) (fun q => ?_)
    · exact absurd q (by decide)
    refine ldg (fun _=>hb.cell rfl) ?_
    refine ldg (fun _=>hb5.cell rfl) ?_
    refine sp (.bool false) (fun q2 => ?_) (fun q2 => ?_)
    · exact absurd q2 (by decide)
    refine br (fun h => ?_) (fun h => ?_)
    · refine rt1 ⟨vb ?_,hn.bl.trans hB4⟩
      unfold validI
      by_cases h1:0≤i.op
      · rw [decide_eq_false (p:=i.op<36) (by omega)];simp
      · rw [decide_eq_false h1];simp
    · simp at h
end Go.Proofs.YtkmdfjpafkcleaaGreatDoor
namespace Go.Proofs.YtkmdfjpafkcleaaGreatDoor
open Eng Go.RowKit
def opN (op:Int):Int:=if op=12∨op=16∨op=30 then 2 else if op=1∨op=2∨op=3∨op=14∨op=15∨op=17∨op=18∨op=22∨op=23∨op=24∨op=25∨op=26∨op=27∨op=28∨op=31∨op=32 then 1 else 0
def opE (op:Int):Int:=if op<0∨35<op then 3 else 0
theorem r3_Operands (op:Int) (w:World):Ret Tryz.prog 227 #[I op] w fun v w'=>v = .tuple #[I (opN op),I (opE op)]∧w'=w:=by
  refine entr (vs:=[I op]) [0,2,3,4,5,9,31] tabok Tryz.func227 (by kernel_rfl) ?_
  have fin:∀ {a b:Int},opN op=a→opE op=b→Value.tuple #[I a,I b] = .tuple #[I (opN op),I (opE op)]:=fun e f=>by rw [e,f]
  refine br (t:=decide (op=12)) (fun h => ?_) (fun h => ?_)
  · have e:=of_decide_eq_true h
    refine brt ?_ (hp:=h)
    subst e
    exact rt2 ⟨fin (a:=2) (b:=0) (by decide) (by decide),rfl⟩
  have n12:=of_decide_eq_false h
  refine br (t:=decide (op=16)) (fun h => ?_) (fun h => ?_)
  · have e:=of_decide_eq_true h
    refine brt ?_ (hp:=h)
    subst e
    exact rt2 ⟨fin (a:=2) (b:=0) (by decide) (by decide),rfl⟩
  have n16:=of_decide_eq_false h
  refine br (t:=decide (op=30)) (fun h => ?_) (fun h => ?_)
  · have e:=of_decide_eq_true h
    subst e
    exact rt2 ⟨fin (a:=2) (b:=0) (by decide) (by decide),rfl⟩
  have n30:=of_decide_eq_false h
  refine br (t:=decide (op=1)) (fun h => ?_) (fun h => ?_)
  · have e:=of_decide_eq_true h
    refine brt ?_ (hp:=h)
    subst e
    exact rt2 ⟨fin (a:=1) (b:=0) (by decide) (by decide),rfl⟩
  have n1:=of_decide_eq_false h
  refine br (t:=decide (op=2)) (fun h => ?_) (fun h => ?_)
  · have e:=of_decide_eq_true h
    refine brt ?_ (hp:=h)
    subst e
    exact rt2 ⟨fin (a:=1) (b:=0) (by decide) (by decide),rfl⟩
  have n2:=of_decide_eq_false h
  refine br (t:=decide (op=3)) (fun h => ?_) (fun h => ?_)
  · have e:=of_decide_eq_true h
    refine brt ?_ (hp:=h)
    subst e
    exact rt2 ⟨fin (a:=1) (b:=0) (by decide) (by decide),rfl⟩
  have n3:=of_decide_eq_false h
  refine br (t:=decide (op=14)) (fun h => ?_) (fun h => ?_)
  · have e:=of_decide_eq_true h
    refine brt ?_ (hp:=h)
    subst e
    exact rt2 ⟨fin (a:=1) (b:=0) (by decide) (by decide),rfl⟩
  have n14:=of_decide_eq_false h
  refine br (t:=decide (op=15)) (fun h => ?_) (fun h => ?_)
  · have e:=of_decide_eq_true h
    refine brt ?_ (hp:=h)
    subst e
    exact rt2 ⟨fin (a:=1) (b:=0) (by decide) (by decide),rfl⟩
  have n15:=of_decide_eq_false h
  refine br (t:=decide (op=17)) (fun h => ?_) (fun h => ?_)
  · have e:=of_decide_eq_true h
    refine brt ?_ (hp:=h)
    subst e
    exact rt2 ⟨fin (a:=1) (b:=0) (by decide) (by decide),rfl⟩
  have n17:=of_decide_eq_false h
  refine br (t:=decide (op=18)) (fun h => ?_) (fun h => ?_)
  · have e:=of_decide_eq_true h
    refine brt ?_ (hp:=h)
    subst e
    exact rt2 ⟨fin (a:=1) (b:=0) (by decide) (by decide),rfl⟩
  have n18:=of_decide_eq_false h
  refine br (t:=decide (op=22)) (fun h => ?_) (fun h => ?_)
  · have e:=of_decide_eq_true h
    refine brt ?_ (hp:=h)
    subst e
    exact rt2 ⟨fin (a:=1) (b:=0) (by decide) (by decide),rfl⟩
  have n22:=of_decide_eq_false h
  refine br (t:=decide (op=23)) (fun h => ?_) (fun h => ?_)
  · have e:=of_decide_eq_true h
    refine brt ?_ (hp:=h)
    subst e
    exact rt2 ⟨fin (a:=1) (b:=0) (by decide) (by decide),rfl⟩
  have n23:=of_decide_eq_false h
  refine br (t:=decide (op=24)) (fun h => ?_) (fun h => ?_)
  · have e:=of_decide_eq_true h
    refine brt ?_ (hp:=h)
    subst e
    exact rt2 ⟨fin (a:=1) (b:=0) (by decide) (by decide),rfl⟩
  have n24:=of_decide_eq_false h
  refine br (t:=decide (op=25)) (fun h => ?_) (fun h => ?_)
  · have e:=of_decide_eq_true h
    refine brt ?_ (hp:=h)
    subst e
    exact rt2 ⟨fin (a:=1) (b:=0) (by decide) (by decide),rfl⟩
  have n25:=of_decide_eq_false h
  refine br (t:=decide (op=26)) (fun h => ?_) (fun h => ?_)
  · have e:=of_decide_eq_true h
    refine brt ?_ (hp:=h)
    subst e
    exact rt2 ⟨fin (a:=1) (b:=0) (by decide) (by decide),rfl⟩
  have n26:=of_decide_eq_false h
  refine br (t:=decide (op=27)) (fun h => ?_) (fun h => ?_)
  · have e:=of_decide_eq_true h
    refine brt ?_ (hp:=h)
    subst e
    exact rt2 ⟨fin (a:=1) (b:=0) (by decide) (by decide),rfl⟩
  have n27:=of_decide_eq_false h
  refine br (t:=decide (op=28)) (fun h => ?_) (fun h => ?_)
  · have e:=of_decide_eq_true h
    refine brt ?_ (hp:=h)
    subst e
    exact rt2 ⟨fin (a:=1) (b:=0) (by decide) (by decide),rfl⟩
  have n28:=of_decide_eq_false h
  refine br (t:=decide (op=31)) (fun h => ?_) (fun h => ?_)
  · have e:=of_decide_eq_true h
    refine brt ?_ (hp:=h)
    subst e
    exact rt2 ⟨fin (a:=1) (b:=0) (by decide) (by decide),rfl⟩
  have n31:=of_decide_eq_false h
  refine br (t:=decide (op=32)) (fun h => ?_) (fun h => ?_)
  · have e:=of_decide_eq_true h
    subst e
    exact rt2 ⟨fin (a:=1) (b:=0) (by decide) (by decide),rfl⟩
  have n32:=of_decide_eq_false h
  have e0:opN op=0:=by simp [opN,n12,n16,n30,n1,n2,n3,n14,n15,n17,n18,n22,n23,n24,n25,n26,n27,n28,n31,n32]
  refine br (t:=decide (op<0)||decide (op > 35)) (fun h => ?_) (fun h => ?_)
  · simp only [Bool.or_eq_true,decide_eq_true_eq] at h
    exact rt2 ⟨fin (a:=0) (b:=3) e0 (by unfold opE;rw [if_pos (by omega)]),rfl⟩
  · simp only [Bool.or_eq_false_iff,decide_eq_false_iff_not] at h
    exact rt2 ⟨fin (a:=0) (b:=0) e0 (by unfold opE;rw [if_neg (by omega)]),rfl⟩
theorem r3_in (n lo hi:Int) (w:World):Ret Tryz.prog 228 #[I n,I lo,I hi] w fun v w'=>v = .bool (decide (lo≤n)&&decide (n≤hi))∧w'=w:=by
  refine entr (vs:=[I n,I lo,I hi]) [0,1,2,6] tabok Tryz.func228 (by kernel_rfl) ?_
  exact rt1 ⟨rfl,rfl⟩
theorem r3_most (n:Int) (p:Bool) (w:World) (h0:0≤n) (h1:n≤1000):Ret Tryz.prog 229 #[I n,.bool p] w fun v w'=>v=I (if p=true then 59 else n-1)∧w'=w:=by
  refine entr (vs:=[I n,.bool p]) [0,1,4,5] tabok Tryz.func229 (by kernel_rfl) ?_
  refine br (fun h => ?_) (fun h => ?_)
  · subst h;exact rt1 ⟨rfl,rfl⟩
  · subst h
    refine rt1 ⟨?_,rfl⟩
    rw [wrap_fit (by omega) (by omega)];rfl
end Go.Proofs.YtkmdfjpafkcleaaGreatDoor
namespace Go.Proofs.YtkmdfjpafkcleaaGreatDoor
open Eng Go.RowKit
def vbad (op a b:Int):Bool:=(decide (¬opE op=0)||(decide (opN op<2)&&decide (¬b=0)))||(decide (opN op<1)&&decide (¬a=0))
theorem vgood {op a b:Int} (h:vbad op a b=false):opE op=0∧(opN op<2→b=0)∧(opN op<1→a=0):=by
  unfold vbad at h
  simp only [Bool.or_eq_false_iff,Bool.and_eq_false_iff,decide_eq_false_iff_not] at h
  omega
theorem valid_bad (op a b:Int) (p:Bool) (h:vbad op a b=true):validI ⟨op,a,b⟩ p=false:=by
  by_cases hr:0≤op∧op≤35
  · have hc:op=0∨op=1∨op=2∨op=3∨op=4∨op=5∨op=6∨op=7∨op=8∨op=9∨op=10∨op=11∨op=12∨op=13∨op=14∨op=15∨op=16∨op=17∨op=18∨op=19∨op=20∨op=21∨op=22∨op=23∨op=24∨op=25∨op=26∨op=27∨op=28∨op=29∨op=30∨op=31∨op=32∨op=33∨op=34∨op=35:=by omega
    rcases hc with rfl | rfl | rfl | rfl | rfl | rfl | rfl | rfl | rfl | rfl | rfl | rfl | rfl | rfl | rfl | rfl | rfl | rfl | rfl | rfl | rfl | rfl | rfl | rfl | rfl | rfl | rfl | rfl | rfl | rfl | rfl | rfl | rfl | rfl | rfl | rfl <;>
      (simp [vbad,opE,opN] at h) <;> (try (cases p <;> (rw [←Bool.not_eq_true];simp [validI,inR,rngs,isPool,mosts]) <;> omega))
  · unfold validI
    by_cases h1:0≤op
    · rw [decide_eq_false (p:=op<36) (by omega)];simp
    · rw [decide_eq_false h1];simp
theorem r3_Valid (i:Ins) (p:Bool) (w:World):Ret Tryz.prog 177 #[.agg #[I i.op,I i.a,I i.b],.bool p] w fun v w'=>v = .bool (validI i p)∧Bl w w':=by
  obtain ⟨op,a,b⟩:=i
  refine entr (vs:=[.agg #[I op,I a,I b],.bool p]) [0,1,2,4,5,6,32,34,35,40,46,50,64,72,77,89,97,105,113,118,123,133,138] tabok Tryz.func177 (by kernel_rfl) ?_
  refine bx (cs:=[I op,I a,I b]) fun bb w1 hn => ?_
  have hx:=hn.box
  have hn2:=hn.bl
  refine ld (hx.cell rfl) ?_
  refine cl (r3_Operands op _) ?_
  rintro _ _ ⟨rfl,rfl⟩
  refine ldg2 (fun _ _=>hx.cell rfl) ?_
  refine ldg2 (fun _ _=>hx.cell rfl) ?_
  refine br (t:=vbad op a b) (fun h => ?_) (fun hg => ?_)
  · exact rt1 ⟨vb (valid_bad op a b p h).symm,hn.bl⟩
  refine ld (hx.cell rfl) ?_
  refine br (t:=decide (op=1)) (fun h => ?_) (fun h => ?_)
  · have e:=of_decide_eq_true h
    subst e
    refine ld (hx.cell rfl) ?_
    refine cl (r3_in _ _ _ _) ?_
    rintro _ _ ⟨rfl,rfl⟩
    refine rt1 ⟨vb ?_,hn2⟩
    obtain ⟨-,g1,g2⟩:=vgood hg
    try (have hb:=g1 (by decide);subst hb)
    cases p <;> (rw [Bool.eq_iff_iff];simp [validI,inR,rngs,isPool,mosts]) <;> omega
  have n1:=of_decide_eq_false h
  refine br (t:=decide (op=2)) (fun h => ?_) (fun h => ?_)
  · have e:=of_decide_eq_true h
    refine brt ?_ (hp:=h)
    subst e
    refine ld (hx.cell rfl) ?_
    refine cl (r3_in _ _ _ _) ?_
    rintro _ _ ⟨rfl,rfl⟩
    refine rt1 ⟨vb ?_,hn2⟩
    obtain ⟨-,g1,g2⟩:=vgood hg
    try (have hb:=g1 (by decide);subst hb)
    cases p <;> (rw [Bool.eq_iff_iff];simp [validI,inR,rngs,isPool,mosts]) <;> omega
  have n2:=of_decide_eq_false h
  refine br (t:=decide (op=3)) (fun h => ?_) (fun h => ?_)
  · have e:=of_decide_eq_true h
    subst e
    refine ld (hx.cell rfl) ?_
    refine cl (r3_in _ _ _ _) ?_
    rintro _ _ ⟨rfl,rfl⟩
    refine rt1 ⟨vb ?_,hn2⟩
    obtain ⟨-,g1,g2⟩:=vgood hg
    try (have hb:=g1 (by decide);subst hb)
    cases p <;> (rw [Bool.eq_iff_iff];simp [validI,inR,rngs,isPool,mosts]) <;> omega
  have n3:=of_decide_eq_false h
  refine br (t:=decide (op=12)) (fun h => ?_) (fun h => ?_)
  · have e:=of_decide_eq_true h
    subst e
    refine ld (hx.cell rfl) ?_
    refine br (t:=decide (a=3)) (fun h3 => ?_) (fun h3 => ?_)
    · have e3:=of_decide_eq_true h3
      subst e3
      refine ld (hx.cell rfl) ?_
      refine rt1 ⟨vb ?_,hn2⟩
      cases p <;> (rw [Bool.eq_iff_iff];simp [validI,inR,rngs,isPool,mosts]) <;> omega
    · refine ds fun w2 h2 => ?_
      have hx:=h2.box hx
      have hn2:=hn.bl.trans h2.bl
      refine ld (hx.cell rfl) ?_
      refine clq (r3_in _ _ _ _) ?_
      refine ldg (fun _=>hx.cell rfl) ?_
      refine sp (I 0) (fun q => ?_) (fun q => ?_)
      · refine clq (r3_most 10 p _ (by omega) (by omega)) ?_
        refine sp (.bool false) (fun q2 => ?_) (fun q2 => ?_)
        · refine clq (r3_in _ _ _ _) ?_
          refine rt1 ⟨vb ?_,hn2⟩
          simp only [Bool.and_eq_true,decide_eq_true_eq] at q
          try have h3':=of_decide_eq_false h3
          cases p <;> (rw [Bool.eq_iff_iff];simp [validI,inR,rngs,isPool,mosts]) <;> omega
        · exact absurd q2 (by decide)
      · refine sp (.bool false) (fun q2 => ?_) (fun q2 => ?_)
        · rw [q] at q2;cases q2
        · refine rt1 ⟨vb ?_,hn2⟩
          rw [q]
          simp only [Bool.not_true,Bool.and_eq_false_iff,decide_eq_false_iff_not] at q
          try have h3':=of_decide_eq_false h3
          cases p <;> (rw [Bool.eq_iff_iff];simp [validI,inR,rngs,isPool,mosts]) <;> omega
  have n12:=of_decide_eq_false h
  refine br (t:=decide (op=14)) (fun h => ?_) (fun h => ?_)
  · have e:=of_decide_eq_true h
    refine brt ?_ (hp:=h)
    subst e
    refine ds fun w2 h2 => ?_
    have hx:=h2.box hx
    have hn2:=hn.bl.trans h2.bl
    refine ld (hx.cell rfl) ?_
    refine clq (r3_most 10 p _ (by omega) (by omega)) ?_
    refine clq (r3_in _ _ _ _) ?_
    refine rt1 ⟨vb ?_,hn2⟩
    obtain ⟨-,g1,g2⟩:=vgood hg
    try (have hb:=g1 (by decide);subst hb)
    cases p <;> (rw [Bool.eq_iff_iff];simp [validI,inR,rngs,isPool,mosts]) <;> omega
  have n14:=of_decide_eq_false h
  refine br (t:=decide (op=24)) (fun h => ?_) (fun h => ?_)
  · have e:=of_decide_eq_true h
    subst e
    refine ds fun w2 h2 => ?_
    have hx:=h2.box hx
    have hn2:=hn.bl.trans h2.bl
    refine ld (hx.cell rfl) ?_
    refine clq (r3_most 10 p _ (by omega) (by omega)) ?_
    refine clq (r3_in _ _ _ _) ?_
    refine rt1 ⟨vb ?_,hn2⟩
    obtain ⟨-,g1,g2⟩:=vgood hg
    try (have hb:=g1 (by decide);subst hb)
    cases p <;> (rw [Bool.eq_iff_iff];simp [validI,inR,rngs,isPool,mosts]) <;> omega
  have n24:=of_decide_eq_false h
  refine br (t:=decide (op=15)) (fun h => ?_) (fun h => ?_)
  · have e:=of_decide_eq_true h
    subst e
    refine ld (hx.cell rfl) ?_
    refine cl (r3_in _ _ _ _) ?_
    rintro _ _ ⟨rfl,rfl⟩
    refine rt1 ⟨vb ?_,hn2⟩
    obtain ⟨-,g1,g2⟩:=vgood hg
    try (have hb:=g1 (by decide);subst hb)
    cases p <;> (rw [Bool.eq_iff_iff];simp [validI,inR,rngs,isPool,mosts]) <;> omega
  have n15:=of_decide_eq_false h
  refine br (t:=decide (op=16)) (fun h => ?_) (fun h => ?_)
  · have e:=of_decide_eq_true h
    subst e
    refine ds fun w2 h2 => ?_
    have hx:=h2.box hx
    have hn2:=hn.bl.trans h2.bl
    refine ld (hx.cell rfl) ?_
    refine clq (r3_in _ _ _ _) ?_
    refine ldg (fun _=>hx.cell rfl) ?_
    refine sp (I 0) (fun q => ?_) (fun q => ?_)
    · refine clq (r3_most 10 p _ (by omega) (by omega)) ?_
      refine sp (.bool false) (fun q2 => ?_) (fun q2 => ?_)
      · refine clq (r3_in _ _ _ _) ?_
        refine rt1 ⟨vb ?_,hn2⟩
        simp only [Bool.and_eq_true,decide_eq_true_eq] at q
        try have h3':=of_decide_eq_false h3
        cases p <;> (rw [Bool.eq_iff_iff];simp [validI,inR,rngs,isPool,mosts]) <;> omega
      · exact absurd q2 (by decide)
    · refine sp (.bool false) (fun q2 => ?_) (fun q2 => ?_)
      · rw [q] at q2;cases q2
      · refine rt1 ⟨vb ?_,hn2⟩
        rw [q]
        simp only [Bool.not_true,Bool.and_eq_false_iff,decide_eq_false_iff_not] at q
        try have h3':=of_decide_eq_false h3
        cases p <;> (rw [Bool.eq_iff_iff];simp [validI,inR,rngs,isPool,mosts]) <;> omega
  have n16:=of_decide_eq_false h
  refine br (t:=decide (op=17)) (fun h => ?_) (fun h => ?_)
  · have e:=of_decide_eq_true h
    refine brt ?_ (hp:=h)
    subst e
    refine ds fun w2 h2 => ?_
    have hx:=h2.box hx
    have hn2:=hn.bl.trans h2.bl
    refine ld (hx.cell rfl) ?_
    refine clq (r3_most 7 p _ (by omega) (by omega)) ?_
    refine clq (r3_in _ _ _ _) ?_
    refine rt1 ⟨vb ?_,hn2⟩
    obtain ⟨-,g1,g2⟩:=vgood hg
    try (have hb:=g1 (by decide);subst hb)
    cases p <;> (rw [Bool.eq_iff_iff];simp [validI,inR,rngs,isPool,mosts]) <;> omega
  have n17:=of_decide_eq_false h
  refine br (t:=decide (op=18)) (fun h => ?_) (fun h => ?_)
  · have e:=of_decide_eq_true h
    subst e
    refine ds fun w2 h2 => ?_
    have hx:=h2.box hx
    have hn2:=hn.bl.trans h2.bl
    refine ld (hx.cell rfl) ?_
    refine clq (r3_most 7 p _ (by omega) (by omega)) ?_
    refine clq (r3_in _ _ _ _) ?_
    refine rt1 ⟨vb ?_,hn2⟩
    obtain ⟨-,g1,g2⟩:=vgood hg
    try (have hb:=g1 (by decide);subst hb)
    cases p <;> (rw [Bool.eq_iff_iff];simp [validI,inR,rngs,isPool,mosts]) <;> omega
  have n18:=of_decide_eq_false h
  refine br (t:=decide (op=22)) (fun h => ?_) (fun h => ?_)
  · have e:=of_decide_eq_true h
    refine brt ?_ (hp:=h)
    subst e
    refine ds fun w2 h2 => ?_
    have hx:=h2.box hx
    have hn2:=hn.bl.trans h2.bl
    refine ld (hx.cell rfl) ?_
    refine clq (r3_most 10 p _ (by omega) (by omega)) ?_
    refine clq (r3_in _ _ _ _) ?_
    refine rt1 ⟨vb ?_,hn2⟩
    obtain ⟨-,g1,g2⟩:=vgood hg
    try (have hb:=g1 (by decide);subst hb)
    cases p <;> (rw [Bool.eq_iff_iff];simp [validI,inR,rngs,isPool,mosts]) <;> omega
  have n22:=of_decide_eq_false h
  refine br (t:=decide (op=23)) (fun h => ?_) (fun h => ?_)
  · have e:=of_decide_eq_true h
    subst e
    refine ds fun w2 h2 => ?_
    have hx:=h2.box hx
    have hn2:=hn.bl.trans h2.bl
    refine ld (hx.cell rfl) ?_
    refine clq (r3_most 10 p _ (by omega) (by omega)) ?_
    refine clq (r3_in _ _ _ _) ?_
    refine rt1 ⟨vb ?_,hn2⟩
    obtain ⟨-,g1,g2⟩:=vgood hg
    try (have hb:=g1 (by decide);subst hb)
    cases p <;> (rw [Bool.eq_iff_iff];simp [validI,inR,rngs,isPool,mosts]) <;> omega
  have n23:=of_decide_eq_false h
  refine br (t:=decide (op=25)) (fun h => ?_) (fun h => ?_)
  · have e:=of_decide_eq_true h
    refine brt ?_ (hp:=h)
    subst e
    refine ds fun w2 h2 => ?_
    have hx:=h2.box hx
    have hn2:=hn.bl.trans h2.bl
    refine ld (hx.cell rfl) ?_
    refine clq (r3_most 16 p _ (by omega) (by omega)) ?_
    refine clq (r3_in _ _ _ _) ?_
    refine rt1 ⟨vb ?_,hn2⟩
    obtain ⟨-,g1,g2⟩:=vgood hg
    try (have hb:=g1 (by decide);subst hb)
    cases p <;> (rw [Bool.eq_iff_iff];simp [validI,inR,rngs,isPool,mosts]) <;> omega
  have n25:=of_decide_eq_false h
  refine br (t:=decide (op=26)) (fun h => ?_) (fun h => ?_)
  · have e:=of_decide_eq_true h
    subst e
    refine ds fun w2 h2 => ?_
    have hx:=h2.box hx
    have hn2:=hn.bl.trans h2.bl
    refine ld (hx.cell rfl) ?_
    refine clq (r3_most 16 p _ (by omega) (by omega)) ?_
    refine clq (r3_in _ _ _ _) ?_
    refine rt1 ⟨vb ?_,hn2⟩
    obtain ⟨-,g1,g2⟩:=vgood hg
    try (have hb:=g1 (by decide);subst hb)
    cases p <;> (rw [Bool.eq_iff_iff];simp [validI,inR,rngs,isPool,mosts]) <;> omega
  have n26:=of_decide_eq_false h
  refine br (t:=decide (op=27)) (fun h => ?_) (fun h => ?_)
  · have e:=of_decide_eq_true h
    subst e
    refine ld (hx.cell rfl) ?_
    refine cl (r3_in _ _ _ _) ?_
    rintro _ _ ⟨rfl,rfl⟩
    refine rt1 ⟨vb ?_,hn2⟩
    obtain ⟨-,g1,g2⟩:=vgood hg
    try (have hb:=g1 (by decide);subst hb)
    cases p <;> (rw [Bool.eq_iff_iff];simp [validI,inR,rngs,isPool,mosts]) <;> omega
  have n27:=of_decide_eq_false h
  refine br (t:=decide (op=28)) (fun h => ?_) (fun h => ?_)
  · have e:=of_decide_eq_true h
    subst e
    refine ld (hx.cell rfl) ?_
    refine cl (r3_in _ _ _ _) ?_
    rintro _ _ ⟨rfl,rfl⟩
    refine rt1 ⟨vb ?_,hn2⟩
    obtain ⟨-,g1,g2⟩:=vgood hg
    try (have hb:=g1 (by decide);subst hb)
    cases p <;> (rw [Bool.eq_iff_iff];simp [validI,inR,rngs,isPool,mosts]) <;> omega
  have n28:=of_decide_eq_false h
  refine br (t:=decide (op=30)) (fun h => ?_) (fun h => ?_)
  · have e:=of_decide_eq_true h
    subst e
    refine ld (hx.cell rfl) ?_
    refine cl (r3_in _ _ _ _) ?_
    rintro _ _ ⟨rfl,rfl⟩
    refine ldg (fun _=>hx.cell rfl) ?_
    refine sp (.bool false) (fun q => ?_) (fun q => ?_)
    · refine cl (r3_in _ _ _ _) ?_
      rintro _ _ ⟨rfl,rfl⟩
      refine rt1 ⟨vb ?_,hn2⟩
      simp only [Bool.and_eq_true,decide_eq_true_eq] at q
      cases p <;> (rw [Bool.eq_iff_iff];simp [validI,inR,rngs,isPool,mosts]) <;> omega
    · refine rt1 ⟨vb ?_,hn2⟩
      rw [q]
      simp only [Bool.not_true,Bool.and_eq_false_iff,decide_eq_false_iff_not] at q
      cases p <;> (rw [Bool.eq_iff_iff];simp [validI,inR,rngs,isPool,mosts]) <;> omega
  have n30:=of_decide_eq_false h
  refine br (t:=decide (op=31)) (fun h => ?_) (fun h => ?_)
  · have e:=of_decide_eq_true h
    subst e
    refine ld (hx.cell rfl) ?_
    refine cl (r3_in _ _ _ _) ?_
    rintro _ _ ⟨rfl,rfl⟩
    refine rt1 ⟨vb ?_,hn2⟩
    obtain ⟨-,g1,g2⟩:=vgood hg
    try (have hb:=g1 (by decide);subst hb)
    cases p <;> (rw [Bool.eq_iff_iff];simp [validI,inR,rngs,isPool,mosts]) <;> omega
  have n31:=of_decide_eq_false h
  refine br (t:=decide (op=32)) (fun h => ?_) (fun h => ?_)
  · have e:=of_decide_eq_true h
    subst e
    refine ld (hx.cell rfl) ?_
    refine cl (r3_in _ _ _ _) ?_
    rintro _ _ ⟨rfl,rfl⟩
    refine rt1 ⟨vb ?_,hn2⟩
    obtain ⟨-,g1,g2⟩:=vgood hg
    try (have hb:=g1 (by decide);subst hb)
    cases p <;> (rw [Bool.eq_iff_iff];simp [validI,inR,rngs,isPool,mosts]) <;> omega
  have n32:=of_decide_eq_false h
  refine rt1 ⟨vb ?_,hn2⟩
  obtain ⟨g0,g1,g2⟩:=vgood hg
  have hr:0≤op∧op≤35:=by
    unfold opE at g0
    by_cases hb:op<0∨35<op
    · rw [if_pos hb] at g0;omega
    · omega
  have hc:op=0∨op=4∨op=5∨op=6∨op=7∨op=8∨op=9∨op=10∨op=11∨op=13∨op=19∨op=20∨op=21∨op=29∨op=33∨op=34∨op=35:=by omega
  rcases hc with rfl | rfl | rfl | rfl | rfl | rfl | rfl | rfl | rfl | rfl | rfl | rfl | rfl | rfl | rfl | rfl | rfl <;>
    (have hb:=g1 (by decide);have ha:=g2 (by decide);subst hb;subst ha;cases p <;> decide)
end Go.Proofs.YtkmdfjpafkcleaaGreatDoor
namespace Go.Proofs.YtkmdfjpafkcleaaGreatDoor
open Eng Go.RowKit
theorem r3_Opens (op:Int) (w:World):Ret Tryz.prog 230 #[I op] w fun v w'=>v = .bool (opensB op)∧w'=w:=by
  refine entr (vs:=[I op]) [0,2] tabok Tryz.func230 (by kernel_rfl) ?_
  exact rt1 ⟨rfl,rfl⟩
theorem max_nat (a b:Nat):max (a:Int) (b:Int)=((max a b:Nat):Int):=by omega
def PartsC (l:List Ins) (a:Option Addr) (cap:Nat) (w:World) (i:Nat):Prop :=
  Ret Tryz.prog 178 #[.slice a l.length cap,I i] w fun v w'=>(∃ next deep,v = .tuple #[I next,I deep]∧partsOk (l.map (·.op)) i next deep)∧w'=w
def BracketC (l:List Ins) (a:Option Addr) (cap:Nat) (w:World) (i:Nat):Prop :=
  Ret Tryz.prog 231 #[.slice a l.length cap,I i] w fun v w'=>(∃ alt next deep,v = .tuple #[I alt,I next,I deep]∧bracketOk (l.map (·.op)) i next deep)∧w'=w
theorem drop_at {l:List Ins} {k:Nat} {x:Ins} (h:l[k]? = some x):(l.map (·.op)).drop k=x.op::(l.map (·.op)).drop (k+1):=by
  obtain ⟨hk,e⟩:=List.getElem?_eq_some_iff.1 h
  rw [List.drop_eq_getElem_cons (by rw [List.length_map];exact hk)]
  simp [e]
theorem r3_parts (l:List Ins) (a:Option Addr) (cap:Nat) (S:Nat→Prop) (w:World) (hS:Sl eIns S w a l) (i:Nat) (hi:i≤l.length)
    (hb:∀ j,i≤j→j<l.length→(∀ x,l[j]? = some x→opensB x.op=true)→BracketC l a cap w j):PartsC l a cap w i:=by
  unfold PartsC
  have hbig:=hS.big
  refine entr (vs:=[.slice a l.length cap,I i]) [0,1,4,5,6,8,9,29,36,47] tabok Tryz.func178 (by kernel_rfl) ?_
  refine lp [1,6] [(0,.slice a l.length cap)] (fun m vals w'=>∃ j k:Nat,m=l.length-j∧vals=[I j,I k]∧i≤j∧j≤l.length∧k≤j-i∧w=w'∧∀ s D,s.length≤D→runB ((l.map (·.op)).drop i) s D=runB ((l.map (·.op)).drop j) s (max D (s.length+k))) ⟨rfl,trivial⟩
    ⟨i,0,rfl,rfl,Nat.le_refl _,hi,Nat.zero_le _,rfl,fun s D h=>by rw [Nat.add_zero,Nat.max_eq_left h]⟩ ?_
  rintro m vals _ ⟨j,k,rfl,rfl,hij,hjl,hk,rfl,hrun⟩ ih
  by_cases hlt:j<l.length
  · obtain ⟨x,b,o,cs,hx,rfl,hSb,hAt,rfl⟩:=at_some hS hlt
    refine ixg (fun _=>hlt) ?_
    refine ldg (fun _=>hAt 0 _ rfl) ?_
    refine ixg (fun _=>hlt) ?_
    refine ldg (fun _=>hAt 0 _ rfl) ?_
    have hop:(l.map (·.op))[j]? = some x.op:=by rw [List.getElem?_map,hx];rfl
    have hd:=drop_at hx
    refine br (t:=(decide ((j:Int)<l.length)&&decide (¬x.op=34))&&decide (¬x.op=35)) (fun h => ?_) (fun h => ?_)
    · simp only [Bool.and_eq_true,decide_eq_true_eq] at h
      refine ix ?_
      refine ld (hAt 0 _ rfl) ?_
      refine cl (r3_Opens x.op _) ?_
      rintro _ _ ⟨rfl,rfl⟩
      refine br (t := !opensB x.op) (fun h2 => ?_) (fun h2 => ?_)
      · have h3:opensB x.op=false:=by simpa using h2
        refine again (ih _ _ _ _ ?_ ⟨rfl,trivial⟩ rfl ⟨j+1,k,rfl,lst2 (inc hlt) rfl,by omega,hlt,by omega,rfl,fun s D hs => ?_⟩)
        · omega
        · rw [hrun s D hs,hd,runB_plain h3 h.1.2 h.2]
      · have h3:opensB x.op=true:=by simpa using h2
        refine cl (hb j hij hlt (fun y hy=>by rw [hx] at hy;obtain rfl:=Option.some.inj hy;exact h3)) ?_
        rintro _ _ ⟨⟨alt,next,deep,rfl,hbo⟩,rfl⟩
        refine br (fun h4 => ?_) (fun h4 => ?_)
        · have h5:=of_decide_eq_true h4
          rcases hbo with ⟨rfl,hbad⟩ | ⟨n,k2,_,rfl,_⟩
          · refine rt2 ⟨⟨0,-1,rfl,.inl ⟨rfl,fun s D D' hs e => ?_⟩⟩,rfl⟩
            rw [hrun s D hs] at e
            exact hbad s _ D' (by omega) e
          · omega
        · have h5:=of_decide_eq_false h4
          rcases hbo with ⟨rfl,hbad⟩ | ⟨n,k2,rfl,rfl,hn1,hn2,hk2,hrun2⟩
          · omega
          · rw [List.length_map] at hn2
            refine mx ?_
            refine again (ih _ _ _ _ ?_ ⟨rfl,trivial⟩ rfl ⟨n+1,max k (k2+1),rfl,lst2 (inc (by omega)) (vi ?_),by omega,by omega,by omega,rfl,fun s D hs => ?_⟩)
            · omega
            · rw [wrap_fit (by omega) (by omega)];omega
            · rw [hrun s D hs,hrun2 s _ (by omega)]
              congr 1;omega
    · refine rt2 ⟨⟨j,k,rfl,.inr ⟨j,k,rfl,rfl,hij,by rw [List.length_map];exact hjl,hk,.inr ?_,hrun⟩⟩,rfl⟩
      rw [hop]
      simp only [Bool.and_eq_false_iff,decide_eq_false_iff_not] at h
      by_cases h6:x.op=34
      · exact .inl (by rw [h6])
      · exact .inr (by congr 1;omega)
  · refine sp (.pointer (some ⟨0,0,none⟩)) (fun q => ?_) (fun q => ?_)
    · have:=of_decide_eq_true q;omega
    refine ldg (v:=I 0) (fun e => ?_) ?_
    · have:=of_decide_eq_true e;omega
    refine sp (.pointer (some ⟨0,0,none⟩)) (fun q2 => ?_) (fun q2 => ?_)
    · simp only [Bool.and_eq_true,decide_eq_true_eq] at q2;omega
    refine ldg (v:=I 0) (fun e => ?_) ?_
    · simp only [Bool.and_eq_true,decide_eq_true_eq] at e;omega
    refine br (fun h => ?_) (fun h => ?_)
    · simp only [Bool.and_eq_true,decide_eq_true_eq] at h;omega
    · obtain rfl:j=l.length:=by omega
      exact rt2 ⟨⟨l.length,k,rfl,.inr ⟨l.length,k,rfl,rfl,hij,by rw [List.length_map];exact Nat.le_refl _,hk,.inl (by rw [List.length_map]),hrun⟩⟩,rfl⟩
theorem r3_bracket (l:List Ins) (a:Option Addr) (cap:Nat) (S:Nat→Prop) (w:World) (hS:Sl eIns S w a l) (i:Nat) (hi:i<l.length) (x:Ins) (hx:l[i]? = some x) (hox:opensB x.op=true)
    (hp:∀ j,i<j→j≤l.length→PartsC l a cap w j):BracketC l a cap w i:=by
  unfold BracketC
  have hbig:=hS.big
  have hp1:∀ j:Nat,i≤j→j<l.length→Ret Tryz.prog 178 #[.slice a l.length cap,.int .i64 (IntKind.i64.wrap ((j:Int)+1))] w fun v w'=>(∃ next deep,v = .tuple #[I next,I deep]∧partsOk (l.map (·.op)) (j+1) next deep)∧w'=w:=fun j h1 h2=>by
    rw [wrap_succ h2];exact hp (j+1) (by omega) h2
  refine entr (vs:=[.slice a l.length cap,I i]) [0,1,4,5,6,7,8,9,10,11,26,32,46,70,80] tabok Tryz.func231 (by kernel_rfl) ?_
  refine cl (hp1 i (Nat.le_refl _) hi) ?_
  rintro _ _ ⟨⟨next,deep,rfl,hpo⟩,rfl⟩
  have hd:=drop_at hx
  have bad:badB ((l.map (·.op)).drop (i+1))→badB ((l.map (·.op)).drop i):=fun hb s D D' hs e=>by
    rw [hd,runB_open hox] at e
    exact hb _ _ D' (by simp;omega) e
  refine br (fun h => ?_) (fun h => ?_)
  · refine rt3 ⟨⟨0,0,-1,rfl,.inl ⟨rfl,?_⟩⟩,rfl⟩
    simp only [Bool.or_eq_true,decide_eq_true_eq] at h
    rcases hpo with ⟨_,hb⟩ | ⟨n,k,rfl,rfl,_,hn,_,_,hrun⟩
    · exact bad hb
    · rw [List.length_map] at hn
      obtain rfl:n=l.length:=by omega
      intro s D D' hs e
      rw [hd,runB_open hox,hrun _ _ (by simp;omega),List.drop_of_length_le (by rw [List.length_map];exact Nat.le_refl _)] at e
      simp [runB] at e
  simp only [Bool.or_eq_false_iff,decide_eq_false_iff_not] at h
  rcases hpo with ⟨rfl,_⟩ | ⟨n,k,rfl,rfl,hin,hn,hk,hnx,hrun⟩
  · omega
  have hnl:n<l.length:=by omega
  obtain ⟨y,b,o,cs,hy,rfl,hSb,hAt,rfl⟩:=at_some hS hnl
  have hyop:(l.map (·.op))[n]? = some y.op:=by rw [List.getElem?_map,hy];rfl
  have hdy:=drop_at hy
  rw [hyop] at hnx
  have hnx':y.op=34∨y.op=35:=by
    rcases hnx with h1 | h1 | h1
    · rw [List.length_map] at h1;omega
    · exact .inl (Option.some.inj h1)
    · exact .inr (Option.some.inj h1)
  have hstep:∀ s D,s.length≤D→runB ((l.map (·.op)).drop i) s D=runB (y.op::(l.map (·.op)).drop (n+1)) ((x.op,false)::s) (max D (s.length+1+k)):=fun s D hs=>by
    rw [hd,runB_open hox,hrun _ _ (by simp;omega),hdy]
    congr 1;simp
  refine ix ?_
  refine ld (hAt 0 _ rfl) ?_
  refine br (fun h34 => ?_) (fun h34 => ?_)
  · have e34:=of_decide_eq_true h34
    obtain ⟨b',o',cs',e',hSb',hAt',rfl⟩:=hS.el i x hx
    simp only [Option.some.injEq,Addr.mk.injEq,and_true] at e'
    obtain ⟨rfl,rfl⟩:=e'
    refine ix ?_
    refine ld (hAt' 0 _ rfl) ?_
    refine ixg (fun _=>hi) ?_
    refine ldg (fun _=>hAt' 0 _ rfl) ?_
    refine br (t:=decide (¬x.op=29)&&decide (¬x.op=33)) (fun h2 => ?_) (fun h2 => ?_)
    · simp only [Bool.and_eq_true,decide_eq_true_eq] at h2
      refine rt3 ⟨⟨0,0,-1,rfl,.inl ⟨rfl,fun s D D' hs e => ?_⟩⟩,rfl⟩
      rw [hstep s D hs,e34,runB_else,if_neg (by omega)] at e;cases e
    have h2':x.op=29∨x.op=33:=by
      simp only [Bool.and_eq_false_iff,decide_eq_false_iff_not] at h2;omega
    have hst2:∀ s D,s.length≤D→runB ((l.map (·.op)).drop i) s D=runB ((l.map (·.op)).drop (n+1)) ((x.op,true)::s) (max D (s.length+1+k)):=fun s D hs=>by
      rw [hstep s D hs,e34,runB_else,if_pos ⟨rfl,h2'⟩]
    refine cl (hp1 n (by omega) hnl) ?_
    rintro _ _ ⟨⟨next2,deep2,rfl,hpo2⟩,rfl⟩
    refine sp (.pointer (some ⟨0,0,none⟩)) (fun q => ?_) (fun q => ?_)
    · simp only [Bool.or_eq_false_iff,decide_eq_false_iff_not] at q
      rcases hpo2 with ⟨rfl,_⟩ | ⟨n2,k2,rfl,rfl,hin2,hn2,hk2,hnx2,hrun2⟩
      · omega
      have hnl2:n2<l.length:=by omega
      obtain ⟨z,b3,o3,cs3,hz,e3,hSb3,hAt3,rfl⟩:=at_some hS hnl2
      simp only [Option.some.injEq,Addr.mk.injEq,and_true] at e3
      obtain ⟨rfl,rfl⟩:=e3
      refine ix ?_
      refine ldg (fun _=>hAt3 0 _ rfl) ?_
      have hdz:=drop_at hz
      have hst3:∀ s D,s.length≤D→runB ((l.map (·.op)).drop i) s D=runB (z.op::(l.map (·.op)).drop (n2+1)) ((x.op,true)::s) (max (max D (s.length+1+k)) (s.length+1+k2)):=fun s D hs=>by
        rw [hst2 s D hs,hrun2 _ _ (by simp;omega),hdz];rfl
      have hz':z.op=34∨z.op=35:=by
        rcases hnx2 with h1 | h1 | h1
        · rw [List.length_map] at h1;omega
        · rw [List.getElem?_map,hz] at h1;exact .inl (Option.some.inj h1)
        · rw [List.getElem?_map,hz] at h1;exact .inr (Option.some.inj h1)
      refine br (fun h3 => ?_) (fun h3 => ?_)
      · have h3':z.op=34:=by
          rcases hz' with h | h
          · exact h
          · rw [h] at h3;simp at h3
        refine rt3 ⟨⟨0,0,-1,rfl,.inl ⟨rfl,fun s D D' hs e => ?_⟩⟩,rfl⟩
        rw [hst3 s D hs,h3',runB_else,if_neg (by simp)] at e;cases e
      · have h3':z.op=35:=by
          rcases hz' with h | h
          · rw [h] at h3;simp at h3
          · exact h
        refine mx ?_
        rw [max_nat]
        refine rt3 ⟨⟨n,n2,(max k k2:Nat),rfl,.inr ⟨n2,max k k2,rfl,rfl,by omega,by rw [List.length_map];exact hnl2,by omega,fun s D hs => ?_⟩⟩,rfl⟩
        rw [hst3 s D hs,h3',runB_end,if_neg (by simp)]
        congr 1;omega
    · refine ldg (v:=I 0) (fun e => ?_) ?_
      · rw [q] at e;cases e
      refine br (fun h3 => ?_) (fun h3 => ?_)
      · refine rt3 ⟨⟨0,0,-1,rfl,.inl ⟨rfl,fun s D D' hs e => ?_⟩⟩,rfl⟩
        simp only [Bool.not_false,Bool.or_eq_true,decide_eq_true_eq] at q
        rcases hpo2 with ⟨_,hb⟩ | ⟨n2,k2,rfl,rfl,_,hn2,_,_,hrun2⟩
        · rw [hst2 s D hs] at e
          exact hb _ _ D' (by simp;omega) e
        · rw [List.length_map] at hn2
          obtain rfl:n2=l.length:=by omega
          rw [hst2 s D hs,hrun2 _ _ (by simp;omega),List.drop_of_length_le (by rw [List.length_map];exact Nat.le_refl _)] at e
          simp [runB] at e
      · rw [q] at h3;simp at h3
  · have e34:=of_decide_eq_false h34
    have e35:y.op=35:=by omega
    obtain ⟨b',o',cs',e',hSb',hAt',rfl⟩:=hS.el i x hx
    simp only [Option.some.injEq,Addr.mk.injEq,and_true] at e'
    obtain ⟨rfl,rfl⟩:=e'
    refine ix ?_
    refine ld (hAt' 0 _ rfl) ?_
    refine br (fun h33 => ?_) (fun h33 => ?_)
    · have e33:=of_decide_eq_true h33
      refine rt3 ⟨⟨0,0,-1,rfl,.inl ⟨rfl,fun s D D' hs e => ?_⟩⟩,rfl⟩
      rw [hstep s D hs,e35,runB_end,if_pos ⟨e33,rfl⟩] at e;cases e
    · have e33:=of_decide_eq_false h33
      refine rt3 ⟨⟨-1,n,k,rfl,.inr ⟨n,k,rfl,rfl,by omega,by rw [List.length_map];exact hnl,by omega,fun s D hs => ?_⟩⟩,rfl⟩
      rw [hstep s D hs,e35,runB_end,if_neg (fun hc=>e33 hc.1)]
      congr 1;omega
end Go.Proofs.YtkmdfjpafkcleaaGreatDoor
namespace Go.Proofs.YtkmdfjpafkcleaaGreatDoor
open Eng Go.RowKit
theorem r3_tie (l:List Ins) (a:Option Addr) (cap:Nat) (S:Nat→Prop) (w:World) (hS:Sl eIns S w a l):∀ N i,l.length-i≤N→i≤l.length→PartsC l a cap w i
  | 0,i,h,hi=>r3_parts l a cap S w hS i hi fun j h1 h2=>by omega
  | N+1,i,h,hi=>r3_parts l a cap S w hS i hi fun j h1 h2 ho=>by
    obtain ⟨x,hx⟩:=some_of_lt h2
    exact r3_bracket l a cap S w hS j h2 x hx (ho x hx) fun j' h3 h4=>r3_tie l a cap S w hS N j' (by omega) h4
def codeE (l:List Ins) (p:Bool):Int:=if 120<l.length then 2 else if l.all (fun i=>validI i p)=true then (if okB (l.map (·.op))=true then 0 else 7) else 1
theorem okB_parts {c:List Int} {next deep:Int} (h:partsOk c 0 next deep):okB c = !((decide (deep<0)||decide (next<c.length))||decide (deep > 6)):=by
  rcases h with ⟨rfl,hb⟩ | ⟨n,k,rfl,rfl,_,hn,_,hnx,hrun⟩
  · have:okB c=false:=by
      unfold okB
      have hb':=hb [] 0
      rw [List.drop_zero] at hb'
      split
      · rename_i d e;exact absurd e (hb' d (Nat.le_refl _))
      · rfl
    rw [this];rfl
  · have hr:=hrun [] 0 (Nat.le_refl _)
    rw [List.drop_zero] at hr
    unfold okB
    rw [hr]
    by_cases hl:n=c.length
    · rw [hl,List.drop_length]
      simp only [runB,List.length_nil]
      rw [decide_eq_false (p:=(k:Int)<0) (by omega),decide_eq_false (p:=(c.length:Int)<c.length) (by omega)]
      by_cases h6:k≤6
      · rw [decide_eq_true (by omega),decide_eq_false (by omega)];rfl
      · rw [decide_eq_false (by omega),decide_eq_true (by omega)];rfl
    · have hlt:n<c.length:=by omega
      have h34:c[n]=34∨c[n]=35:=by
        rcases hnx with h | h | h
        · exact absurd h hl
        · rw [List.getElem?_eq_getElem hlt] at h;exact .inl (Option.some.inj h)
        · rw [List.getElem?_eq_getElem hlt] at h;exact .inr (Option.some.inj h)
      rw [List.drop_eq_getElem_cons hlt,runB_top h34,decide_eq_true (p:=(n:Int)<c.length) (by omega)]
      simp
theorem r3_Check (l:List Ins) (a:Option Addr) (cap:Nat) (p:Bool) (S:Nat→Prop) (w:World) (hS:Sl eIns S w a l):Ret Tryz.prog 116 #[.slice a l.length cap,.bool p] w fun v w'=>v=I (codeE l p)∧Bl w w':=by
  have hbig:=hS.big
  refine entr (vs:=[.slice a l.length cap,.bool p]) [0,1,4,5,6,7,10,14,23,40] tabok Tryz.func116 (by kernel_rfl) ?_
  refine br (fun h => ?_) (fun h => ?_)
  · have h:=of_decide_eq_true h
    exact rt1 ⟨vi (by unfold codeE;rw [if_pos (by omega)]),Bl.refl _⟩
  have h120:=of_decide_eq_false h
  refine lpk l.length 5 [] [(0,.slice a l.length cap),(1,.bool p)] (fun k vals w'=>vals=[]∧((l.take k).all fun i=>validI i p)=true∧Bl w w') ⟨rfl,rfl,Bl.refl _⟩ ?_
  rintro k vals w1 hk ⟨rfl,ha,hB⟩ ih
  by_cases hlt:k<l.length
  · refine brT ?_
    obtain ⟨x,b,o,cs,hx,rfl,hSb,hAt,rfl⟩:=at_some (hS.bl hB) hlt
    refine ix ?_
    refine lda hAt ?_
    refine cl (r3_Valid x p _) ?_
    rintro _ w2 ⟨rfl,hB2⟩
    refine br (t := !validI x p) (fun h1 => ?_) (fun h1 => ?_)
    · refine rt1 ⟨vi ?_,hB.trans hB2⟩
      unfold codeE
      rw [if_neg (by omega),all_miss hx (p:=fun i=>validI i p) (by simpa using h1),if_neg (by simp)]
    · exact ih hlt ⟨rfl,all_snoc' hx ha (by simpa using h1),hB.trans hB2⟩
  refine brF ?_
  obtain rfl:k=l.length:=by omega
  have hall:=all_end ha
  have hc:codeE l p=if okB (l.map (·.op))=true then 0 else 7:=by unfold codeE;rw [if_neg (by omega),if_pos hall]
  refine cl (r3_tie l a cap S w1 (hS.bl hB) l.length 0 (by omega) (Nat.zero_le _)) ?_
  rintro _ _ ⟨⟨next,deep,rfl,hpo⟩,rfl⟩
  have hok:=okB_parts hpo
  rw [List.length_map] at hok
  refine br (t:=(decide (deep<0)||decide (next<l.length))||decide (deep > 6)) (fun h => ?_) (fun h => ?_)
  · refine rt1 ⟨vi ?_,hB⟩
    rw [hc,hok,h];rfl
  · refine rt1 ⟨vi ?_,hB⟩
    rw [hc,hok,h];rfl
end Go.Proofs.YtkmdfjpafkcleaaGreatDoor
namespace Go.Proofs.YtkmdfjpafkcleaaGreatDoor
open Eng Go.RowKit
def pathsOk (u:Unt):Bool:=u.pool.all fun s=>decide (¬(path s:Int)=0)
def refsOk (u:Unt):Bool:=(refs u).all fun r => !(decide (0≤r.at')&&decide (¬(path (nm u r.at'):Int)=r.parts))
def mErr (l:List Mth):Int:=match l with
  | []=>0
  | m::r=>if codeE m.code true=0 then mErr r else codeE m.code true
theorem mErr_hit {l:List Mth} {k:Nat} {m:Mth} (hm:l[k]? = some m) (h:∀ x∈l.take k,codeE x.code true=0) (h2:codeE m.code true≠0):mErr l=codeE m.code true:=by
  induction l generalizing k with
  | nil=>simp at hm
  | cons y l ih =>
    cases k with
    | zero=>simp at hm;subst hm;simp [mErr,h2]
    | succ k =>
      have h3:=h y (by simp)
      simp only [mErr,h3,if_true]
      exact ih (by simpa using hm) fun x hx=>h x (by simp [hx])
theorem mErr_none {l:List Mth} (h:∀ x∈l,codeE x.code true=0):mErr l=0:=by
  induction l with
  | nil=>rfl
  | cons y l ih=>simp only [mErr,h y (by simp),if_true];exact ih fun x hx=>h x (by simp [hx])
def checkE (u:Unt):Int :=
  if limits u=false then 2 else if simple u.name=false then 8 else if pathsOk u=false then 8 else if (kinds u&&places u)=false then 1 else if refsOk u=false then 8 else if doubled u=true then 9
  else if mErr u.methods≠0 then mErr u.methods else if codesOk u=false then 8 else 0
theorem operand_ge (i:Ins) (hv:validI i true=true) (h:0<(operand i).2):0≤(operand i).1:=by
  obtain ⟨op,a,b⟩:=i
  have hr:0≤op∧op<36:=by
    unfold validI at hv
    simp only [Bool.and_eq_true,decide_eq_true_eq] at hv
    exact ⟨hv.1.1.1.1,hv.1.1.1.2⟩
  have hc:op=0∨op=1∨op=2∨op=3∨op=4∨op=5∨op=6∨op=7∨op=8∨op=9∨op=10∨op=11∨op=12∨op=13∨op=14∨op=15∨op=16∨op=17∨op=18∨op=19∨op=20∨op=21∨op=22∨op=23∨op=24∨op=25∨op=26∨op=27∨op=28∨op=29∨op=30∨op=31∨op=32∨op=33∨op=34∨op=35:=by omega
  rcases hc with rfl | rfl | rfl | rfl | rfl | rfl | rfl | rfl | rfl | rfl | rfl | rfl | rfl | rfl | rfl | rfl | rfl | rfl | rfl | rfl | rfl | rfl | rfl | rfl | rfl | rfl | rfl | rfl | rfl | rfl | rfl | rfl | rfl | rfl | rfl | rfl <;> first
    | (exfalso;revert h;simp [operand,named];done)
    | (simp [operand,named];simp [validI,inR,rngs,isPool,mosts] at hv;omega)
    | (by_cases h2:a=2∨a=4
       · simp [operand,named,h2];simp [validI,inR,rngs,isPool] at hv;omega
       · exfalso;revert h;simp [operand,named,h2])
end Go.Proofs.YtkmdfjpafkcleaaGreatDoor
namespace Go.Proofs.YtkmdfjpafkcleaaGreatDoor
open Eng Go.RowKit
structure CkU (u:Unt):Prop where
  lim:limits u=true
  nm:simple u.name=true
  ps:pathsOk u=true
  kd:kinds u=true
  pl:(refs u).all (refOk u.pool.length)=true
  cl:classless u=true
  rf:refsOk u=true
  db:doubled u=false
  me:mErr u.methods=0
  cd:codesOk u=true
theorem ckU_iff (u:Unt):checkE u=0↔CkU u:=by
  constructor
  · intro h
    unfold checkE at h
    split at h;· cases h
    rename_i h1
    split at h;· cases h
    rename_i h2
    split at h;· cases h
    rename_i h3
    split at h;· cases h
    rename_i h4
    split at h;· cases h
    rename_i h5
    split at h;· cases h
    rename_i h6
    split at h;· rename_i h7;exact absurd h h7
    rename_i h7
    split at h;· cases h
    rename_i h8
    simp only [places,Bool.not_eq_false,Bool.and_eq_true] at h1 h2 h3 h4 h5 h8
    exact ⟨h1,h2,h3,h4.1,h4.2.1,h4.2.2,h5,by simpa using h6,by simpa using h7,h8⟩
  · rintro ⟨h1,h2,h3,h4,h5,h5',h6,h7,h8,h9⟩
    unfold checkE places
    rw [h1,h2,h3,h4,h5,h5',h6,h7,h8,h9]
    rfl
theorem mErr_zero {l:List Mth} (h:mErr l=0):∀ m∈l,codeE m.code true=0:=by
  induction l with
  | nil=>intro m hm;cases hm
  | cons x l ih =>
    unfold mErr at h
    split at h
    · rename_i h1
      intro m hm
      rcases List.mem_cons.1 hm with rfl | hm
      · exact h1
      · exact ih h m hm
    · rename_i h1;exact absurd h h1
theorem ref_in {u:Unt} (hC:CkU u) {r:Rf} (hr:r∈refs u):r.at' = -1∧r.opt=true∨(0≤r.at'∧r.at'<u.pool.length∧(path (nm u r.at'):Int)=r.parts):=by
  have h:=List.all_eq_true.1 hC.pl r hr
  have h2:=List.all_eq_true.1 hC.rf r hr
  simp only [refOk,Bool.or_eq_true,Bool.and_eq_true,decide_eq_true_eq,Bool.not_eq_true',Bool.or_eq_false_iff,decide_eq_false_iff_not] at h
  rcases h with h | h
  · exact .inl h
  · refine .inr ⟨by omega,by omega,?_⟩
    have h3:0≤r.at':=by omega
    rw [decide_eq_true h3] at h2
    simpa using h2
theorem op_in {u:Unt} (hC:CkU u) {m:Mth} (hm:m∈u.methods) {i:Ins} (hi:i∈m.code) (h:0<(operand i).2):0≤(operand i).1∧(operand i).1<u.pool.length∧(path (nm u (operand i).1):Int)=(operand i).2:=by
  have h1:=mErr_zero hC.me m hm
  have hv:validI i true=true:=by
    unfold codeE at h1
    split at h1
    · cases h1
    · split at h1
      · rename_i hv;exact List.all_eq_true.1 hv i hi
      · cases h1
  have h0:=operand_ge i hv h
  have h2:=List.all_eq_true.1 (List.all_eq_true.1 hC.cd m hm) i hi
  unfold insOk at h2
  rw [decide_eq_true h] at h2
  simp only [Bool.true_and,Bool.not_eq_true',Bool.or_eq_false_iff,decide_eq_false_iff_not] at h2
  refine ⟨h0,by omega,?_⟩
  have:=h2.2
  simpa using this
end Go.Proofs.YtkmdfjpafkcleaaGreatDoor
namespace Go.Proofs.YtkmdfjpafkcleaaGreatDoor
open Go.RowKit
def foldI {α β:Type} (f:β→α→Nat→β) (l:List α) (b:β):β:=l.zipIdx.foldl (fun b p=>f b p.1 p.2) b
theorem foldI_snoc {α β:Type} {f:β→α→Nat→β} {l:List α} {b:β} {k:Nat} {x:α} (h:l[k]? = some x):foldI f (l.take (k+1)) b=f (foldI f (l.take k) b) x k:=by
  have hk:k<l.length:=(List.getElem?_eq_some_iff.1 h).1
  unfold foldI
  rw [take_succ_some h,List.zipIdx_append,List.foldl_append]
  simp only [List.zipIdx_cons,List.zipIdx_nil,List.foldl_cons,List.foldl_nil,List.length_take,Nat.min_eq_left (Nat.le_of_lt hk),Nat.zero_add]
theorem foldI_end {α β:Type} {f:β→α→Nat→β} {l:List α} {b:β}:foldI f (l.take l.length) b=foldI f l b:=by rw [List.take_length]
structure Dcl where
  classes:Mp (Nat×Nat)
  statics:Mp (Nat×Nat)
  calls:Mp (Nat×Nat)
  sends:Mp (Nat×Nat)
  named:Mp (List ByteArray)
  fields:Mp Bool
def dcl0:Dcl:=⟨[],[],[],[],[],[]⟩
def dFld (u:Unt) (p:ByteArray) (D:Dcl) (f:Fld):Dcl:={ D with fields:=putM D.fields (dots p (nm u f.name)) true }
def dCls (u:Unt) (n:Nat) (D:Dcl) (c:Cls) (k:Nat):Dcl :=
  c.fields.foldl (dFld u (dots u.name (nm u c.name))) { D with classes:=putM D.classes (dots u.name (nm u c.name)) (n,k) }
def dSta (u:Unt) (n:Nat) (D:Dcl) (s:Fld) (k:Nat):Dcl:={ D with statics:=putM D.statics (dots u.name (nm u s.name)) (n,k) }
def dMth (u:Unt) (n:Nat) (D:Dcl) (m:Mth) (k:Nat):Dcl :=
  if m.cls<0 then { D with calls:=putM D.calls (dots u.name (nm u m.name)) (n,k) }
  else { D with sends:=putM D.sends (dots (nm u m.cls) (nm u m.name)) (n,k),named:=putM D.named (nm u m.name) ((getM D.named (nm u m.name)).getD []++[dots (nm u m.cls) (nm u m.name)]) }
def dUnt (D:Dcl) (u:Unt) (n:Nat):Dcl:=foldI (dMth u n) u.methods (foldI (dSta u n) u.statics (foldI (dCls u n) u.classes D))
def decl (us:List Unt):Dcl:=foldI dUnt us dcl0
def isTypeL (D:Dcl) (u:Unt) (t:Ty):Bool:=decide (t.cls<0)||hasM D.classes (nm u t.cls)
def operL (D:Dcl) (u:Unt) (i:Ins):Bool :=
  if i.op=14∨i.op=24 then hasM D.classes (nm u i.a)
  else if i.op=16 then hasM D.classes (nm u i.b)
  else if i.op=12 then decide (i.a=3)||hasM D.classes (nm u i.b)
  else if i.op=17∨i.op=18 then (getM D.fields (nm u i.a)).getD false
  else if i.op=22∨i.op=23 then hasM D.statics (nm u i.a)
  else if i.op=25 then hasM D.calls (nm u i.a)
  else if i.op=26 then hasM D.named (nm u i.a)
  else true
def preL (n p:ByteArray):Bool:=(n.data.toList++[46]).isPrefixOf p.data.toList
def defC (D:Dcl) (u:Unt) (c:Cls):Bool:=(decide (c.super<0)||hasM D.classes (nm u c.super))&&c.fields.all fun f=>isTypeL D u f.ty
def defM (D:Dcl) (u:Unt) (m:Mth):Bool :=
  (decide (m.cls<0)||(hasM D.classes (nm u m.cls)&&preL u.name (nm u m.cls)))&&((m.params++m.locals++[m.result]).all (isTypeL D u)&&m.code.all (operL D u))
def defU (D:Dcl) (u:Unt):Bool:=u.classes.all (defC D u)&&((u.statics.all fun f=>isTypeL D u f.ty)&&u.methods.all (defM D u))
def definedL (us:List Unt) (D:Dcl):Bool:=us.all (defU D)
abbrev nost:ByteArray:=⟨#[]⟩
def clsAt (us:List Unt) (d:Nat×Nat):Option (Unt×Cls):=(us[d.1]?).bind fun u=>(u.classes[d.2]?).map fun c=>(u,c)
def mthAt (us:List Unt) (d:Nat×Nat):Option (Unt×Mth):=(us[d.1]?).bind fun u=>(u.methods[d.2]?).map fun c=>(u,c)
def clsOf (us:List Unt) (D:Dcl) (p:ByteArray):Option (Unt×Cls):=(getM D.classes p).bind (clsAt us)
def supL (us:List Unt) (D:Dcl) (p:ByteArray):ByteArray:=match clsOf us D p with
  | some (u,c)=>if 0≤c.super then nm u c.super else nost
  | none=>nost
def ownL (us:List Unt) (D:Dcl) (p:ByteArray):List ByteArray:=match clsOf us D p with
  | some (u,c)=>c.fields.map fun f=>nm u f.name
  | none=>[]
def layL (us:List Unt) (D:Dcl):Nat→ByteArray→List ByteArray
  | 0,_=>[]
  | n+1,p=>(if supL us D p=nost then [] else layL us D n (supL us D p))++ownL us D p
def mthD (D:Dcl) (p:ByteArray):Option (Nat×Nat):=match getM D.calls p with
  | some d=>some d
  | none=>getM D.sends p
def mthOf (us:List Unt) (D:Dcl) (p:ByteArray):Option (Unt×Mth):=(mthD D p).bind (mthAt us)
def calI (D:Dcl) (u:Unt) (i:Ins):List ByteArray:=if i.op=25 then [nm u i.a] else if i.op=26 then (getM D.named (nm u i.a)).getD [] else []
def calL (us:List Unt) (D:Dcl) (p:ByteArray):List ByteArray:=match mthOf us D p with
  | some (u,m)=>m.code.flatMap (calI D u)
  | none=>[]
def neeC (us:List Unt) (D:Dcl) (p:ByteArray):List ByteArray:=if supL us D p=nost then [] else [supL us D p]
def placeL (needs:ByteArray→List ByteArray):Nat→List ByteArray→List ByteArray→Option (List ByteArray)
  | 0,_,out=>some out
  | n+1,left,out=>match left.findIdx? fun x=>(needs x).all fun y=>hasB out y with
    | none=>none
    | some k=>placeL needs n (left.eraseIdx k) (out++[left.getD k nost])
def sortL (l:List ByteArray):List ByteArray:=((l.map fun s=>s.data.toList).mergeSort fun x y=>decide (x≤y)).map ofL
def orderL (needs:ByteArray→List ByteArray) (names:List ByteArray):Option (List ByteArray):=placeL needs names.length (sortL names) []
def dig (k:Int):ByteArray:=⟨#[UInt8.ofNat (48+k).toNat]⟩
def shownL (u:Unt) (t:Ty):ByteArray:=if 0≤t.cls then dig t.kind++nm u t.cls else dig t.kind
def sigL (u:Unt) (m:Mth):ByteArray:=m.params.foldl (fun s t=>s++(⟨#[44]⟩++shownL u t)) (shownL u m.result)
def sigD (us:List Unt) (D:Dcl) (p:ByteArray):ByteArray:=match (getM D.sends p).bind (mthAt us) with
  | some (u,m)=>sigL u m
  | none=>nost
def unlikeL (us:List Unt) (D:Dcl):Bool:=D.named.any fun q=>q.2.any fun p => !decide (sigD us D p=sigD us D (q.2.getD 0 nost))
def chkE:List Unt→Int
  | []=>0
  | u::us=>if checkE u=0 then chkE us else checkE u
def ordC (us:List Unt):Option (List ByteArray):=orderL (neeC us (decl us)) (keysM (decl us).classes)
def ordM (us:List Unt):Option (List ByteArray):=orderL (calL us (decl us)) (keysM (decl us).calls++keysM (decl us).sends)
def lay (us:List Unt) (p:ByteArray):List ByteArray:=layL us (decl us) ((keysM (decl us).classes).length) p
def bigD (D:Dcl):Bool:=decide (10<D.classes.length)||(decide (10<D.statics.length)||decide (16<D.calls.length+D.sends.length))
def runE (us:List Unt):Int :=
  if 5<us.length then 2
  else if chkE us≠0 then chkE us
  else if dup (us.map (·.name))=true then 9
  else if definedL us (decl us)=false then 8
  else match ordC us with
    | none=>10
    | some oc =>
      if bigD (decl us)=true then 2
      else if (oc.any fun p=>decide (7<(lay us p).length))=true then 2
      else if (oc.any fun p=>dup (lay us p))=true then 9
      else if unlikeL us (decl us)=true then 11
      else match ordM us with
        | none=>10
        | some _=>0
end Go.Proofs.YtkmdfjpafkcleaaGreatDoor
namespace Go.Proofs.YtkmdfjpafkcleaaGreatDoor
open Go.RowKit
theorem inP_at {u:Unt} {i:Int} (h:inP u i):∃ k:Nat,i=k∧u.pool[k]? = some (nm u i):=by
  obtain ⟨h1,h2⟩:=h
  refine ⟨i.toNat,by omega,?_⟩
  unfold nm
  rw [List.getD_eq_getElem?_getD,List.getElem?_eq_getElem (by omega)];rfl
def optP (u:Unt) (i:Int):Prop:=i = -1∨inP u i
theorem optP.inP {u:Unt} {i:Int} (h:optP u i) (h0:¬i<0):inP u i:=by
  rcases h with rfl | h
  · omega
  · exact h
theorem ref_opt {u:Unt} (hC:CkU u) {r:Rf} (hr:r∈refs u):optP u r.at':=by
  rcases ref_in hC hr with ⟨q,_⟩ | ⟨q,q2,_⟩
  · exact .inl q
  · exact .inr ⟨q,q2⟩
structure Ixs (u:Unt):Prop where
  plc:Plc u
  sup:∀ c∈u.classes,optP u c.super
  fty:∀ c∈u.classes,∀ f∈c.fields,optP u f.ty.cls
  sty:∀ f∈u.statics,optP u f.ty.cls
  mty:∀ m∈u.methods,∀ t∈m.params++m.locals++[m.result],optP u t.cls
  opa:∀ m∈u.methods,∀ i∈m.code,(i.op=14∨i.op=24∨i.op=17∨i.op=18∨i.op=22∨i.op=23∨i.op=25∨i.op=26)→inP u i.a
  opb:∀ m∈u.methods,∀ i∈m.code,(i.op=16∨i.op=12∧¬i.a=3)→inP u i.b
theorem valid_of {u:Unt} (hC:CkU u) {m:Mth} (hm:m∈u.methods) {i:Ins} (hi:i∈m.code):validI i true=true:=by
  have h1:=mErr_zero hC.me m hm
  unfold codeE at h1
  split at h1
  · cases h1
  · split at h1
    · rename_i hv;exact List.all_eq_true.1 hv i hi
    · cases h1
theorem null_a {i:Ins} (hv:validI i true=true) (h:i.op=12):i.a=2∨i.a=3∨i.a=4:=by
  unfold validI at hv
  simp only [Bool.and_eq_true,h] at hv
  have h2:=hv.1.1.2
  have e:(rngs.getD (12:Int).toNat (0,0)).1=3:=by decide
  rw [e] at h2
  unfold inR at h2
  simp at h2
  omega
theorem ixs_of {u:Unt} (hC:CkU u):Ixs u:=by
  have mc:∀ c∈u.classes,∀ r∈cref c,r∈refs u:=fun c hc r hr=>List.mem_append_left _ (List.mem_append_left _ (List.mem_flatMap.2 ⟨c,hc,hr⟩))
  have ms:∀ f∈u.statics,∀ r∈fref f,r∈refs u:=fun c hc r hr=>List.mem_append_left _ (List.mem_append_right _ (List.mem_flatMap.2 ⟨c,hc,hr⟩))
  have mm:∀ m∈u.methods,∀ r∈mref m,r∈refs u:=fun c hc r hr=>List.mem_append_right _ (List.mem_flatMap.2 ⟨c,hc,hr⟩)
  refine ⟨plc_of hC.pl,fun c hc=>ref_opt hC (mc c hc ⟨c.super,2,true⟩ (by simp [cref])),fun c hc f hf=>ref_opt hC (mc c hc (typed f.ty) ?_),fun f hf=>ref_opt hC (ms f hf (typed f.ty) (by simp [fref])),
    fun m hm t ht=>ref_opt hC (mm m hm (typed t) ?_),fun m hm i hi h => ?_,fun m hm i hi h => ?_⟩
  · simp only [cref,List.mem_append,List.mem_flatMap]
    exact .inr ⟨f,hf,by simp [fref]⟩
  · simp only [mref,List.mem_append,List.mem_map,List.mem_singleton]
    simp only [List.mem_append,List.mem_singleton] at ht
    rcases ht with (ht | ht) | rfl
    · exact .inl (.inl (.inr ⟨t,ht,rfl⟩))
    · exact .inl (.inr ⟨t,ht,rfl⟩)
    · exact .inr rfl
  · have hn:(named i).1=1:=by
      unfold named
      rcases h with h | h | h | h | h | h | h | h <;> simp [h]
    have h2:0<(named i).2:=by
      unfold named
      rcases h with h | h | h | h | h | h | h | h <;> simp [h]
    have ho:operand i=(i.a,(named i).2):=by unfold operand;rw [if_pos hn]
    have:=op_in hC hm hi (by rw [ho];exact h2)
    rw [ho] at this
    exact ⟨this.1,this.2.1⟩
  · have hv:=valid_of hC hm hi
    have hn:named i=(2,2):=by
      unfold named
      rcases h with h | ⟨h,h3⟩
      · simp [h]
      · rcases null_a hv h with q | q | q
        · simp [h,q]
        · exact absurd q h3
        · simp [h,q]
    have ho:operand i=(i.b,2):=by unfold operand;rw [hn];rfl
    have:=op_in hC hm hi (by rw [ho];exact (by decide:(0:Int)<2))
    rw [ho] at this
    exact ⟨this.1,this.2.1⟩
end Go.Proofs.YtkmdfjpafkcleaaGreatDoor
namespace Go.Proofs.YtkmdfjpafkcleaaGreatDoor
open Go.RowKit
theorem foldI_ind {α β:Type} {f:β→α→Nat→β} {l:List α} {b:β} (P:Nat→β→Prop) (h0:P 0 b) (hs:∀ k x b,l[k]? = some x→P k b→P (k+1) (f b x k)):P l.length (foldI f l b):=by
  have key:∀ k,k≤l.length→P k (foldI f (l.take k) b):=by
    intro k
    induction k with
    | zero=>intro _;exact h0
    | succ k ih =>
      intro hk
      obtain ⟨x,hx⟩:=some_of_lt (l:=l) (k:=k) (by omega)
      rw [foldI_snoc hx]
      exact hs k x _ hx (ih (by omega))
  have:=key l.length (Nat.le_refl _)
  rwa [foldI_end] at this
structure DOk (us:List Unt) (c s m:Nat) (D:Dcl):Prop where
  cl:∀ p d,getM D.classes p=some d→∃ x,clsAt us d=some x
  st:∀ p d,getM D.statics p=some d→∃ u x,us[d.1]? = some u∧u.statics[d.2]? = some x
  ca:∀ p d,getM D.calls p=some d→∃ x,mthAt us d=some x
  se:∀ p d,getM D.sends p=some d→∃ x,mthAt us d=some x
  na:∀ q∈D.named,∀ p∈q.2,hasM D.sends p=true
  lc:D.classes.length≤c
  ls:D.statics.length≤s
  lm:D.calls.length+D.sends.length≤m
  ln:D.named.length≤m
  zc:∀ p∈D.classes,p.1.size≤200
  zs:∀ p∈D.statics,p.1.size≤200
  za:∀ p∈D.calls,p.1.size≤200
  ze:∀ p∈D.sends,p.1.size≤200
  zn:∀ p∈D.named,p.1.size≤200
theorem putM_in {α:Type}:∀ {m:Mp α} {k:ByteArray} {v:α} {p:ByteArray×α},p∈putM m k v→p=(k,v)∨p∈m
  | [],_,_,_,h => .inl (by simpa [putM] using h)
  | (k0,v0)::m,k,v,p,h=>by
    simp only [putM] at h
    split at h
    · rcases List.mem_cons.1 h with e | h
      · exact .inl e
      · exact .inr (List.mem_cons_of_mem _ h)
    · rcases List.mem_cons.1 h with e | h
      · exact .inr (by rw [e];exact List.mem_cons_self ..)
      · rcases putM_in h with e | e
        · exact .inl e
        · exact .inr (List.mem_cons_of_mem _ e)
theorem putM_sz {α:Type} {m:Mp α} {k:ByteArray} {v:α} {B:Nat} (h:∀ p∈m,p.1.size≤B) (hk:k.size≤B):∀ p∈putM m k v,p.1.size≤B:=fun p hp=>by
  rcases putM_in hp with rfl | hp
  · exact hk
  · exact h p hp
theorem hasM_put {α:Type} {m:Mp α} {k k':ByteArray} {v:α} (h:hasM m k'=true):hasM (putM m k v) k'=true:=by
  unfold hasM at *
  rw [putM_get]
  split
  · rfl
  · exact h
theorem hasM_self {α:Type} {m:Mp α} {k:ByteArray} {v:α}:hasM (putM m k v) k=true:=by
  unfold hasM
  rw [putM_get,if_pos rfl];rfl
theorem getM_in {α:Type}:∀ {m:Mp α} {k:ByteArray} {v:α},getM m k=some v→(k,v)∈m
  | [],_,_,h=>by cases h
  | (k0,v0)::m,k,v,h=>by
    simp only [getM] at h
    split at h
    · rename_i e;subst e;obtain rfl:=Option.some.inj h;exact List.mem_cons_self ..
    · exact List.mem_cons_of_mem _ (getM_in h)
theorem ck_small {u:Unt} (hC:CkU u):u.name.size≤12∧∀ i,inP u i→(nm u i).size≤38:=by
  constructor
  · have:=hC.nm
    rcases Nat.lt_or_ge 12 u.name.size with h | h
    · rw [simple_long _ h] at this;cases this
    · exact h
  · intro i hi
    obtain ⟨k,rfl,hk⟩:=inP_at hi
    have:=List.all_eq_true.1 hC.ps _ (List.mem_of_getElem? hk)
    rcases Nat.lt_or_ge 38 (nm u k).size with h | h
    · have h2:=path_long h
      have:=of_decide_eq_true this
      omega
    · exact h
theorem dots_sz (x y:ByteArray):(dots x y).size=x.size+1+y.size:=by
  unfold dots
  rw [ByteArray.size_append,ByteArray.size_append];rfl
theorem dfld_fold (u:Unt) (p:ByteArray):∀ (l:List Fld) (D:Dcl),∃ f,l.foldl (dFld u p) D={ D with fields:=f }
  | [],D=>⟨D.fields,rfl⟩
  | x::l,D=>by
    obtain ⟨f,hf⟩:=dfld_fold u p l (dFld u p D x)
    exact ⟨f,by rw [List.foldl_cons,hf];rfl⟩
theorem dok_cls {us:List Unt} {n k c s m:Nat} {u:Unt} {x:Cls} {D:Dcl} (hC:CkU u) (hu:us[n]? = some u) (hx:u.classes[k]? = some x) (h:DOk us c s m D):DOk us (c+1) s m (dCls u n D x k):=by
  obtain ⟨hn,hp⟩:=ck_small hC
  have hI:=(ixs_of hC).plc.cn x (List.mem_of_getElem? hx)
  unfold dCls
  obtain ⟨f,hf⟩:=dfld_fold u (dots u.name (nm u x.name)) x.fields { D with classes:=putM D.classes (dots u.name (nm u x.name)) (n,k) }
  rw [hf]
  refine ⟨fun p d hd => ?_,h.st,h.ca,h.se,h.na,Nat.le_trans (putM_len ..) (by have:=h.lc;omega),h.ls,h.lm,h.ln,putM_sz h.zc (by have:=hp _ hI;rw [dots_sz];omega),h.zs,h.za,h.ze,h.zn⟩
  simp only at hd
  rw [putM_get] at hd
  split at hd
  · obtain rfl:=Option.some.inj hd
    exact ⟨(u,x),by unfold clsAt;simp [hu,hx]⟩
  · exact h.cl p d hd
theorem dok_sta {us:List Unt} {n k c s m:Nat} {u:Unt} {x:Fld} {D:Dcl} (hC:CkU u) (hu:us[n]? = some u) (hx:u.statics[k]? = some x) (h:DOk us c s m D):DOk us c (s+1) m (dSta u n D x k):=by
  obtain ⟨hn,hp⟩:=ck_small hC
  have hI:=(ixs_of hC).plc.sn x (List.mem_of_getElem? hx)
  refine ⟨h.cl,fun p d hd => ?_,h.ca,h.se,h.na,h.lc,Nat.le_trans (putM_len ..) (by have:=h.ls;omega),h.lm,h.ln,h.zc,putM_sz h.zs (by have:=hp _ hI;rw [dots_sz];omega),h.za,h.ze,h.zn⟩
  simp only [dSta] at hd
  rw [putM_get] at hd
  split at hd
  · obtain rfl:=Option.some.inj hd
    exact ⟨u,x,hu,hx⟩
  · exact h.st p d hd
theorem dok_mth {us:List Unt} {n k c s m:Nat} {u:Unt} {x:Mth} {D:Dcl} (hC:CkU u) (hu:us[n]? = some u) (hx:u.methods[k]? = some x) (h:DOk us c s m D):DOk us c s (m+1) (dMth u n D x k):=by
  obtain ⟨hn,hp⟩:=ck_small hC
  have hpl:=(ixs_of hC).plc
  have hI:=hpl.mn x (List.mem_of_getElem? hx)
  have hat:mthAt us (n,k)=some (u,x):=by unfold mthAt;simp [hu,hx]
  unfold dMth
  split
  · refine ⟨h.cl,h.st,fun p d hd => ?_,h.se,h.na,h.lc,h.ls,?_,by have:=h.ln;simp only;omega,h.zc,h.zs,putM_sz h.za (by have:=hp _ hI;rw [dots_sz];omega),h.ze,h.zn⟩
    · simp only at hd
      rw [putM_get] at hd
      split at hd
      · obtain rfl:=Option.some.inj hd;exact ⟨_,hat⟩
      · exact h.ca p d hd
    · have:=putM_len D.calls (dots u.name (nm u x.name)) (n,k)
      have:=h.lm
      simp only;omega
  · rename_i h0
    have hci:inP u x.cls:=(hpl.mc x (List.mem_of_getElem? hx)).resolve_left fun e=>h0 (by omega)
    refine ⟨h.cl,h.st,h.ca,fun p d hd => ?_,fun q hq p hp' => ?_,h.lc,h.ls,?_,?_,h.zc,h.zs,h.za,putM_sz h.ze (by have:=hp _ hI;have:=hp _ hci;rw [dots_sz];omega),putM_sz h.zn (by have:=hp _ hI;omega)⟩
    · simp only at hd
      rw [putM_get] at hd
      split at hd
      · obtain rfl:=Option.some.inj hd;exact ⟨_,hat⟩
      · exact h.se p d hd
    · simp only at hq ⊢
      rcases putM_in hq with rfl | hq
      · simp only [List.mem_append,List.mem_singleton] at hp'
        rcases hp' with hp' | rfl
        · cases hg:getM D.named (nm u x.name) with
          | none=>rw [hg] at hp';cases hp'
          | some l=>rw [hg] at hp';exact hasM_put (h.na _ (getM_in hg) p hp')
        · exact hasM_self
      · exact hasM_put (h.na q hq p hp')
    · have:=putM_len D.sends (dots (nm u x.cls) (nm u x.name)) (n,k)
      have:=h.lm
      simp only;omega
    · have:=putM_len D.named (nm u x.name) ((getM D.named (nm u x.name)).getD []++[dots (nm u x.cls) (nm u x.name)])
      have:=h.ln
      simp only;omega
theorem DOk.mono {us:List Unt} {c s m c' s' m':Nat} {D:Dcl} (h:DOk us c s m D) (h1:c≤c') (h2:s≤s') (h3:m≤m'):DOk us c' s' m' D :=
  ⟨h.cl,h.st,h.ca,h.se,h.na,Nat.le_trans h.lc h1,Nat.le_trans h.ls h2,Nat.le_trans h.lm h3,Nat.le_trans h.ln h3,h.zc,h.zs,h.za,h.ze,h.zn⟩
theorem dok_decl {us:List Unt} (hC:∀ u∈us,CkU u):DOk us (10*us.length) (10*us.length) (16*us.length) (decl us):=by
  refine foldI_ind (fun n D=>DOk us (10*n) (10*n) (16*n) D) ⟨fun _ _ h=>(by cases h),fun _ _ h=>(by cases h),fun _ _ h=>(by cases h),fun _ _ h=>(by cases h),fun _ h=>(by cases h),Nat.le_refl _,Nat.le_refl _,Nat.le_refl _,Nat.le_refl _,fun _ h=>(by cases h),fun _ h=>(by cases h),fun _ h=>(by cases h),fun _ h=>(by cases h),fun _ h=>(by cases h)⟩ fun n u D hu h => ?_
  have hCu:=hC u (List.mem_of_getElem? hu)
  have hL:=lim_of hCu.lim
  have h1:=foldI_ind (f:=dCls u n) (l:=u.classes) (fun k D=>DOk us (10*n+k) (10*n) (16*n) D) h fun k x D hx h=>dok_cls hCu hu hx h
  have h2:=foldI_ind (f:=dSta u n) (l:=u.statics) (fun k D=>DOk us (10*n+u.classes.length) (10*n+k) (16*n) D) h1 fun k x D hx h=>dok_sta hCu hu hx h
  have h3:=foldI_ind (f:=dMth u n) (l:=u.methods) (fun k D=>DOk us (10*n+u.classes.length) (10*n+u.statics.length) (16*n+k) D) h2 fun k x D hx h=>dok_mth hCu hu hx h
  exact h3.mono (by have:=hL.cls;omega) (by have:=hL.sta;omega) (by have:=hL.mth;omega)
end Go.Proofs.YtkmdfjpafkcleaaGreatDoor
namespace Go.Proofs.YtkmdfjpafkcleaaGreatDoor
open Go Go.RowKit Eng
theorem Eng.spt {C:Cx} {s:St} {w:World} {md:Option Md} {ops:Array Oper} {o:Oper} {rest:List Oper} {k:List Item} {l:Env} {c:CEnv} {gs:Nat} {gb gt:Bool} {d:Nat} (u:Value)
    (h1:Wk C (.opn md ops o rest k (bools [(gs,gb)] (settleL [(gs,gb)] c l)) (settleC [(gs,gb)] c) []) w)
    (hs:adv C.tab C.n C.ks 400 s = .opn md ops o rest k l c [(gs,gb)]:=by rfl) (hg:evc l c [] (.tmp gs)=some (.bool gt):=by rfl) (hd:o.dst=some d:=by rfl) (hf:fresh d l c [(gs,gb)]=true:=by rfl) (hb:gt=gb:=by first | rfl | simp):Wk C s w :=
  sp u (fun _=>h1) (fun q=>by rw [hb] at q;cases gb <;> cases q) hs hg hd hf
theorem Eng.spn {C:Cx} {s:St} {w:World} {md:Option Md} {ops:Array Oper} {o:Oper} {rest:List Oper} {k:List Item} {l:Env} {c:CEnv} {gs:Nat} {gb gt:Bool} {d:Nat} (u:Value)
    (h2:Wk C (.reg md ops rest k l ((d,[(gs,gb)],u)::c)) w)
    (hs:adv C.tab C.n C.ks 400 s = .opn md ops o rest k l c [(gs,gb)]:=by rfl) (hg:evc l c [] (.tmp gs)=some (.bool gt):=by rfl) (hd:o.dst=some d:=by rfl) (hf:fresh d l c [(gs,gb)]=true:=by rfl) (hb:gt=(!gb):=by first | rfl | simp_all):Wk C s w :=
  sp u (fun q=>by rw [q] at hb;cases gb <;> cases hb) (fun _=>h2) hs hg hd hf
theorem Eng.spn2 {C:Cx} {s:St} {w:World} {md:Option Md} {ops:Array Oper} {o:Oper} {rest:List Oper} {k:List Item} {l:Env} {c:CEnv} {gs gs':Nat} {gb gt gb' gt':Bool} {d:Nat} (u:Value)
    (h2:Wk C (.reg md ops rest k l ((d,[(gs,gb),(gs',gb')],u)::c)) w)
    (hs:adv C.tab C.n C.ks 400 s = .opn md ops o rest k l c [(gs,gb),(gs',gb')]:=by rfl) (hg':evc l c [] (.tmp gs')=some (.bool gt'):=by rfl) (hg:evc l c [(gs',gb')] (.tmp gs)=some (.bool gt):=by rfl) (hd:o.dst=some d:=by rfl) (hf:fresh d l c [(gs,gb),(gs',gb')]=true:=by rfl) (hn:¬(gt'=gb'∧gt=gb):=by simp_all):Wk C s w :=
  sp2 u (fun a b=>absurd ⟨a,b⟩ hn) (fun _=>h2) hs hg' hg hd hf
theorem Eng.spt2 {C:Cx} {s:St} {w:World} {md:Option Md} {ops:Array Oper} {o:Oper} {rest:List Oper} {k:List Item} {l:Env} {c:CEnv} {gs gs':Nat} {gb gt gb' gt':Bool} {d:Nat} (u:Value)
    (h1:Wk C (.opn md ops o rest k (bools [(gs,gb),(gs',gb')] (settleL [(gs,gb),(gs',gb')] c l)) (settleC [(gs,gb),(gs',gb')] c) []) w)
    (hs:adv C.tab C.n C.ks 400 s = .opn md ops o rest k l c [(gs,gb),(gs',gb')]:=by rfl) (hg':evc l c [] (.tmp gs')=some (.bool gt'):=by rfl) (hg:evc l c [(gs',gb')] (.tmp gs)=some (.bool gt):=by rfl) (hd:o.dst=some d:=by rfl) (hf:fresh d l c [(gs,gb),(gs',gb')]=true:=by rfl) (hy:gt'=gb'∧gt=gb:=by simp_all):Wk C s w :=
  sp2 u (fun _ _=>h1) (fun q=>absurd hy q) hs hg' hg hd hf
end Go.Proofs.YtkmdfjpafkcleaaGreatDoor
namespace Go.Proofs.YtkmdfjpafkcleaaGreatDoor
open Eng Go.RowKit
def eUnt:El Unt :=
  { sz:=5,rel:=fun S w cs u=>∃ ua,cs=ucells u ua∧UnR S w u ua
    len:=fun ⟨_,e,_⟩=>by rw [e];rfl
    kp:=fun k ⟨a,e,h⟩=>⟨a,e,h.kp k⟩
    sub:=fun k ⟨a,e,h⟩=>⟨a,e,h.sub k⟩ }
abbrev encD:Nat×Nat→Value:=fun d => .agg #[I (d.1:Nat),I (d.2:Nat)]
theorem tD:MapT Tryz.prog 83 151 (encD (0,0)):=⟨⟨9,Tryz.underlying83,Tryz.underlying9⟩,Tryz.zeroValue151⟩
structure Rs where
  a:Option Addr
  c:Nat
  l:List ByteArray
abbrev encR:Rs→Value:=fun r => .slice r.a r.l.length r.c
theorem tN:MapT Tryz.prog 84 33 (encR ⟨none,0,[]⟩):=⟨⟨9,Tryz.underlying84,Tryz.underlying9⟩,Tryz.zeroValue33⟩
theorem tB:MapT Tryz.prog 85 4 (.bool false):=⟨⟨9,Tryz.underlying85,Tryz.underlying9⟩,Tryz.zeroValue4⟩
def mapV {α β:Type} (f:α→β) (m:Mp α):Mp β:=m.map fun p=>(p.1,f p.2)
theorem getM_mapV {α β:Type} (f:α→β) (m:Mp α) (k:ByteArray):getM (mapV f m) k=(getM m k).map f:=by
  induction m with
  | nil=>rfl
  | cons p m ih =>
    obtain ⟨k0,v0⟩:=p
    show (if k0=k then some (f v0) else getM (mapV f m) k)=_
    rw [ih]
    simp only [getM]
    split <;> rfl
theorem putM_mapV {α β:Type} (f:α→β) (m:Mp α) (k:ByteArray) (v:α):putM (mapV f m) k (f v)=mapV f (putM m k v):=by
  induction m with
  | nil=>rfl
  | cons p m ih =>
    obtain ⟨k0,v0⟩:=p
    show (if k0=k then (k,f v)::mapV f m else (k0,f v0)::putM (mapV f m) k (f v))=_
    rw [ih]
    simp only [putM]
    split <;> rfl
theorem At.sub {w:World} {b o:Nat} {cs:List Value} (h:At w b o cs) (i n:Nat):At w b (o+i) ((cs.drop i).take n):=fun j v hj=>by
  rw [List.getElem?_take] at hj
  split at hj
  · rw [List.getElem?_drop] at hj
    rw [Nat.add_assoc];exact h _ _ hj
  · cases hj
theorem Eng.Ow.nbox {w:World} {base e esz n cap:Nat} {a:Option Addr} {xs:List Value} (h:Ow w base e esz a n cap xs) {g:Nat} {t:TypeId} {cs:List Value} (hb:Box w g t cs) (hne:e≠t):a≠some ⟨g,0,none⟩:=by
  rintro rfl
  obtain ⟨cur,h1,_⟩:=h.box
  unfold Box at h1 hb
  rw [h1] at hb
  simp only [Option.some.injEq,Obj.cells.injEq] at hb
  exact hne hb.2.1
theorem keys_mapV {α β:Type} (f:α→β) (m:Mp α):keysM (mapV f m)=keysM m:=by
  unfold keysM mapV
  rw [List.map_map];rfl
theorem getD_enc {α:Type} (enc:α→Value) (o:Option α) (z:α):(o.map enc).getD (enc z)=enc (o.getD z):=by cases o <;> rfl
structure Lnk (w:World) (b:Nat) (us:List Unt) (D:Dcl):Prop where
  us:∃ a c,w.cell? ⟨b,0,none⟩=some (.slice a us.length c)∧Sl eUnt (· ≠ b) w a us
  cl:∃ m,w.cell? ⟨b,1,none⟩=some (.map (some m))∧MapIs encD w m D.classes
  st:∃ m,w.cell? ⟨b,2,none⟩=some (.map (some m))∧MapIs encD w m D.statics
  ca:∃ m,w.cell? ⟨b,3,none⟩=some (.map (some m))∧MapIs encD w m D.calls
  se:∃ m,w.cell? ⟨b,4,none⟩=some (.map (some m))∧MapIs encD w m D.sends
  na:∃ m M,w.cell? ⟨b,5,none⟩=some (.map (some m))∧MapIs encR w m M∧mapV Rs.l M=D.named∧∀ p∈M,Sl eStr (· ≠ b) w p.2.a p.2.l
  fi:∃ m,w.cell? ⟨b,6,none⟩=some (.map (some m))∧MapIs Value.bool w m D.fields
structure Nb (b:Nat) (w w':World):Prop where
  size:w.heap.size≤w'.heap.size
  blk:∀ i,i<w.heap.size→i≠b→w'.heap[i]? = w.heap[i]?
theorem Nb.of_bl {b:Nat} {w w':World} (h:Bl w w'):Nb b w w':=⟨h.size,fun i hi _=>h.block i hi⟩
theorem Nb.kp {b:Nat} {w w':World} (h:Nb b w w'):Kp (· ≠ b) w w':=fun i o v s x=>by
  rw [World.cell?_of_block (w:=w) (h.blk i (cell_lt x) s)];exact x
theorem cell_map_ne {α:Type} {enc:α→Value} {w:World} {m b o:Nat} {M:Mp α} {v:Value} (h:MapIs enc w m M) (hc:w.cell? ⟨b,o,none⟩=some v):m≠b:=by
  rintro rfl
  obtain ⟨es,clock,h1,_⟩:=h.is
  simp [World.cell?,h1] at hc
theorem MapIs.nb {α:Type} {enc:α→Value} {w w':World} {m b:Nat} {M:Mp α} (h:MapIs enc w m M) (k:Nb b w w') (hne:m≠b):MapIs enc w' m M:=h.same (k.blk m h.lt hne)
theorem Lnk.nb {w w':World} {b:Nat} {us:List Unt} {D:Dcl} (h:Lnk w b us D) (k:Nb b w w') (hc:∀ o,o<7→w'.cell? ⟨b,o,none⟩=w.cell? ⟨b,o,none⟩):Lnk w' b us D:=by
  obtain ⟨⟨a,c,h1,h2⟩,⟨m1,h3,h4⟩,⟨m2,h5,h6⟩,⟨m3,h7,h8⟩,⟨m4,h9,h10⟩,⟨m5,M,h11,h12,h13,h14⟩,⟨m6,h15,h16⟩⟩:=h
  exact ⟨⟨a,c,(hc 0 (by omega)).trans h1,h2.kp k.kp⟩,⟨m1,(hc 1 (by omega)).trans h3,h4.nb k (cell_map_ne h4 h3)⟩,⟨m2,(hc 2 (by omega)).trans h5,h6.nb k (cell_map_ne h6 h5)⟩,⟨m3,(hc 3 (by omega)).trans h7,h8.nb k (cell_map_ne h8 h7)⟩,
    ⟨m4,(hc 4 (by omega)).trans h9,h10.nb k (cell_map_ne h10 h9)⟩,⟨m5,M,(hc 5 (by omega)).trans h11,h12.nb k (cell_map_ne h12 h11),h13,fun p hp=>(h14 p hp).kp k.kp⟩,⟨m6,(hc 6 (by omega)).trans h15,h16.nb k (cell_map_ne h16 h15)⟩⟩
theorem Lnk.lt {w:World} {b:Nat} {us:List Unt} {D:Dcl} (h:Lnk w b us D):b<w.heap.size:=by
  obtain ⟨a,c,h1,_⟩:=h.us
  exact cell_lt h1
theorem Lnk.bl {w w':World} {b:Nat} {us:List Unt} {D:Dcl} (h:Lnk w b us D) (k:Bl w w'):Lnk w' b us D :=
  h.nb (Nb.of_bl k) fun _ _=>World.cell?_of_block (w:=w) (k.block b h.lt)
theorem Bl.cl {w w':World} (k:Bl w w') {b o:Nat} {v:Value} (h:w.cell? ⟨b,o,none⟩=some v):w'.cell? ⟨b,o,none⟩=some v:=(k.kp T) _ _ _ trivial h
theorem k_path {w:World} {b:Nat} {us:List Unt} {D:Dcl} (hL:Lnk w b us D) {n:Nat} {u:Unt} (hu:us[n]? = some u) {i:Int} (hi:inP u i) :
    Ret Tryz.prog 108 #[.pointer (some ⟨b,0,none⟩),I n,I i] w fun v w'=>v = .string (nm u i)∧w'=w:=by
  obtain ⟨a,c,h0,hS⟩:=hL.us
  obtain ⟨k,rfl,hk⟩:=inP_at hi
  obtain ⟨b1,o1,cs1,rfl,_,hAt,ua,rfl,hU⟩:=hS.el n u hu
  obtain ⟨b2,o2,cs2,e2,_,hAt2,rfl⟩:=hU.pool.el k _ hk
  have hn:n<us.length:=(List.getElem?_eq_some_iff.1 hu).1
  have hkl:k<u.pool.length:=(List.getElem?_eq_some_iff.1 hk).1
  refine entr (vs:=[.pointer (some ⟨b,0,none⟩),I n,I k]) [0,1,2,6] tabok Tryz.func108 (by kernel_rfl) ?_
  refine ld h0 ?_
  refine ix ?_
  refine ld (hAt 1 _ rfl) ?_
  rw [e2]
  refine ix ?_
  refine ld (hAt2 0 _ rfl) ?_
  exact rt1 ⟨rfl,rfl⟩
theorem k_has {w:World} {m:Nat} {M:Mp (Nat×Nat)} (hM:MapIs encD w m M) (key:ByteArray):Ret Tryz.prog 153 #[.map (some m),.string key] w fun v w'=>v = .bool (hasM M key)∧Bl w w':=by
  refine entr (vs:=[.map (some m),.string key]) [0,1,4,6] tabok Tryz.func153 (by kernel_rfl) ?_
  refine lko tD hM ?_
  rw [getD_enc]
  refine al fun b1 w1 h1 => ?_
  refine sta h1.box fun w2 k2 x2 => ?_
  exact rt1 ⟨rfl,h1.wr k2⟩
theorem k_hasN {w:World} {m:Nat} {M:Mp Rs} (hM:MapIs encR w m M) (key:ByteArray):Ret Tryz.prog 217 #[.map (some m),.string key] w fun v w'=>v = .bool (hasM M key)∧Bl w w':=by
  refine entr (vs:=[.map (some m),.string key]) [0,1,4,6] tabok Tryz.func217 (by kernel_rfl) ?_
  refine lko tN hM ?_
  exact rt1 ⟨rfl,Bl.refl _⟩
end Go.Proofs.YtkmdfjpafkcleaaGreatDoor
namespace Go.Proofs.YtkmdfjpafkcleaaGreatDoor
open Eng Go.RowKit
theorem k_isType {w:World} {b:Nat} {us:List Unt} {D:Dcl} (hL:Lnk w b us D) {n:Nat} {u:Unt} (hu:us[n]? = some u) {t:Ty} (ht:optP u t.cls) :
    Ret Tryz.prog 154 #[.pointer (some ⟨b,0,none⟩),I n,.agg (encTy t).toArray] w fun v w'=>v = .bool (isTypeL D u t)∧Bl w w':=by
  refine entr (vs:=[.pointer (some ⟨b,0,none⟩),I n,.agg (encTy t).toArray]) [0,1,2,5,6] tabok Tryz.func154 (by kernel_rfl) ?_
  refine bx (cs:=encTy t) fun b1 w1 k1 => ?_
  refine dh T (List.range 16) fun w2 k2 => ?_
  have B:=k1.bl.trans k2.bl
  have x2:=k2.box k1.box
  have L2:=hL.bl B
  obtain ⟨m,h1,hm⟩:=L2.cl
  refine ld (x2.cell rfl) ?_ (hm:=trivial)
  by_cases h0:t.cls<0
  · refine spn (.map none) ?_
    refine spn (I 0) ?_
    refine spn (.string nost) ?_
    refine spn (.bool false) ?_
    refine rt1 ⟨vb ?_,B⟩
    unfold isTypeL
    rw [decide_eq_true h0];rfl
  · refine spt (.map none) ?_ (hb:=decide_eq_false h0)
    refine ld h1 ?_ (hm:=trivial)
    refine spt (I 0) ?_
    refine ld (x2.cell rfl) ?_ (hm:=trivial)
    refine spt (.string nost) ?_
    refine cl (k_path L2 hu (ht.inP h0)) ?_
    rintro _ _ ⟨rfl,rfl⟩
    refine spt (.bool false) ?_
    refine cl (k_has hm _) ?_
    rintro _ w3 ⟨rfl,B3⟩
    refine rt1 ⟨vb ?_,B.trans B3⟩
    unfold isTypeL
    rw [decide_eq_false h0]
theorem k_operand {w:World} {b:Nat} {us:List Unt} {D:Dcl} (hL:Lnk w b us D) {n:Nat} {u:Unt} (hu:us[n]? = some u) {i:Ins}
    (ha:(i.op=14∨i.op=24∨i.op=17∨i.op=18∨i.op=22∨i.op=23∨i.op=25∨i.op=26)→inP u i.a) (hb:(i.op=16∨i.op=12∧¬i.a=3)→inP u i.b) :
    Ret Tryz.prog 157 #[.pointer (some ⟨b,0,none⟩),I n,.agg (encIns i).toArray] w fun v w'=>v = .bool (operL D u i)∧Bl w w':=by
  refine entr (vs:=[.pointer (some ⟨b,0,none⟩),I n,.agg (encIns i).toArray]) [0,1,2,5,6,8,9,22,34,51,64,77,89] tabok Tryz.func157 (by kernel_rfl) ?_
  refine bx (cs:=encIns i) fun b1 w1 k1 => ?_
  have B1:=k1.bl
  refine ld (k1.box.cell rfl) ?_
  by_cases e1:i.op=14∨i.op=24
  · have eq:operL D u i=hasM D.classes (nm u i.a):=by unfold operL;rw [if_pos e1]
    have hi:=ha (by omega)
    rw [eq]
    obtain ⟨m,h1,hm⟩:=(hL.bl B1).cl
    by_cases e2:i.op=14
    · refine brT ?_ (hp:=e2)
      refine brT ?_ (hp:=e2)
      refine dh T (List.range 11) fun w2 k2 => ?_
      have B2:=B1.trans k2.bl
      refine ld (k2.bl.cl h1) ?_ (hm:=trivial)
      refine ld ((k2.box k1.box).cell rfl) ?_ (hm:=trivial)
      refine cl (k_path (hL.bl B2) hu hi) ?_
      rintro _ _ ⟨rfl,rfl⟩
      refine cl (k_has (hm.bl k2.bl) _) ?_
      rintro _ w3 ⟨rfl,B3⟩
      exact rt1 ⟨rfl,B2.trans B3⟩
    · refine brF ?_ (hp:=e2)
      refine brT ?_ (hp:=by omega)
      refine dh T (List.range 11) fun w2 k2 => ?_
      have B2:=B1.trans k2.bl
      refine ld (k2.bl.cl h1) ?_ (hm:=trivial)
      refine ld ((k2.box k1.box).cell rfl) ?_ (hm:=trivial)
      refine cl (k_path (hL.bl B2) hu hi) ?_
      rintro _ _ ⟨rfl,rfl⟩
      refine cl (k_has (hm.bl k2.bl) _) ?_
      rintro _ w3 ⟨rfl,B3⟩
      exact rt1 ⟨rfl,B2.trans B3⟩
  refine brF ?_ (hp:=by omega)
  refine brF ?_ (hp:=by omega)
  by_cases e2:i.op=16
  · have eq:operL D u i=hasM D.classes (nm u i.b):=by unfold operL;rw [if_neg e1,if_pos e2]
    have hi:=hb (.inl e2)
    rw [eq]
    obtain ⟨m,h1,hm⟩:=(hL.bl B1).cl
    refine brT ?_ (hp:=e2)
    refine dh T (List.range 11) fun w2 k2 => ?_
    have B2:=B1.trans k2.bl
    refine ld (k2.bl.cl h1) ?_ (hm:=trivial)
    refine ld ((k2.box k1.box).cell rfl) ?_ (hm:=trivial)
    refine cl (k_path (hL.bl B2) hu hi) ?_
    rintro _ _ ⟨rfl,rfl⟩
    refine cl (k_has (hm.bl k2.bl) _) ?_
    rintro _ w3 ⟨rfl,B3⟩
    exact rt1 ⟨rfl,B2.trans B3⟩
  refine brF ?_ (hp:=e2)
  by_cases e3:i.op=12
  · have eq:operL D u i=(decide (i.a=3)||hasM D.classes (nm u i.b)):=by unfold operL;rw [if_neg e1,if_neg e2,if_pos e3]
    rw [eq]
    obtain ⟨m,h1,hm⟩:=(hL.bl B1).cl
    refine brT ?_ (hp:=e3)
    refine dh T (List.range 16) fun w2 k2 => ?_
    have B2:=B1.trans k2.bl
    refine ld ((k2.box k1.box).cell rfl) ?_ (hm:=trivial)
    by_cases h3:i.a=3
    · refine spn (.map none) ?_
      refine spn (I 0) ?_
      refine spn (.string nost) ?_
      refine spn (.bool false) ?_
      refine rt1 ⟨vb ?_,B2⟩
      simp [h3]
    · have hi:=hb (.inr ⟨e3,h3⟩)
      refine spt (.map none) ?_ (hb:=decide_eq_false h3)
      refine ld (k2.bl.cl h1) ?_ (hm:=trivial)
      refine spt (I 0) ?_
      refine ld ((k2.box k1.box).cell rfl) ?_ (hm:=trivial)
      refine spt (.string nost) ?_
      refine cl (k_path (hL.bl B2) hu hi) ?_
      rintro _ _ ⟨rfl,rfl⟩
      refine spt (.bool false) ?_
      refine cl (k_has (hm.bl k2.bl) _) ?_
      rintro _ w3 ⟨rfl,B3⟩
      refine rt1 ⟨vb ?_,B2.trans B3⟩
      simp [h3]
  refine brF ?_ (hp:=e3)
  by_cases e4:i.op=17∨i.op=18
  · have eq:operL D u i=(getM D.fields (nm u i.a)).getD false:=by unfold operL;rw [if_neg e1,if_neg e2,if_neg e3,if_pos e4]
    have hi:=ha (by omega)
    rw [eq]
    obtain ⟨m,h1,hm⟩:=(hL.bl B1).fi
    by_cases e5:i.op=17
    · refine brT ?_ (hp:=e5)
      refine brT ?_ (hp:=e5)
      refine ds fun w2 k2 => ?_
      have B2:=B1.trans k2.bl
      refine ld (k2.bl.cl h1) ?_
      refine ld ((k2.box k1.box).cell rfl) ?_
      refine clq (k_path (hL.bl B2) hu hi) ?_
      refine lk tB (hm.bl k2.bl) ?_
      exact rt1 ⟨getD_enc Value.bool _ false,B2⟩
    · refine brF ?_ (hp:=e5)
      refine brT ?_ (hp:=by omega)
      refine ds fun w2 k2 => ?_
      have B2:=B1.trans k2.bl
      refine ld (k2.bl.cl h1) ?_
      refine ld ((k2.box k1.box).cell rfl) ?_
      refine clq (k_path (hL.bl B2) hu hi) ?_
      refine lk tB (hm.bl k2.bl) ?_
      exact rt1 ⟨getD_enc Value.bool _ false,B2⟩
  refine brF ?_ (hp:=by omega)
  refine brF ?_ (hp:=by omega)
  by_cases e5:i.op=22∨i.op=23
  · have eq:operL D u i=hasM D.statics (nm u i.a):=by unfold operL;rw [if_neg e1,if_neg e2,if_neg e3,if_neg e4,if_pos e5]
    have hi:=ha (by omega)
    rw [eq]
    obtain ⟨m,h1,hm⟩:=(hL.bl B1).st
    by_cases e6:i.op=22
    · refine brT ?_ (hp:=e6)
      refine brT ?_ (hp:=e6)
      refine dh T (List.range 11) fun w2 k2 => ?_
      have B2:=B1.trans k2.bl
      refine ld (k2.bl.cl h1) ?_ (hm:=trivial)
      refine ld ((k2.box k1.box).cell rfl) ?_ (hm:=trivial)
      refine cl (k_path (hL.bl B2) hu hi) ?_
      rintro _ _ ⟨rfl,rfl⟩
      refine cl (k_has (hm.bl k2.bl) _) ?_
      rintro _ w3 ⟨rfl,B3⟩
      exact rt1 ⟨rfl,B2.trans B3⟩
    · refine brF ?_ (hp:=e6)
      refine brT ?_ (hp:=by omega)
      refine dh T (List.range 11) fun w2 k2 => ?_
      have B2:=B1.trans k2.bl
      refine ld (k2.bl.cl h1) ?_ (hm:=trivial)
      refine ld ((k2.box k1.box).cell rfl) ?_ (hm:=trivial)
      refine cl (k_path (hL.bl B2) hu hi) ?_
      rintro _ _ ⟨rfl,rfl⟩
      refine cl (k_has (hm.bl k2.bl) _) ?_
      rintro _ w3 ⟨rfl,B3⟩
      exact rt1 ⟨rfl,B2.trans B3⟩
  refine brF ?_ (hp:=by omega)
  refine brF ?_ (hp:=by omega)
  by_cases e6:i.op=25
  · have eq:operL D u i=hasM D.calls (nm u i.a):=by unfold operL;rw [if_neg e1,if_neg e2,if_neg e3,if_neg e4,if_neg e5,if_pos e6]
    have hi:=ha (by omega)
    rw [eq]
    obtain ⟨m,h1,hm⟩:=(hL.bl B1).ca
    refine brT ?_ (hp:=e6)
    refine dh T (List.range 11) fun w2 k2 => ?_
    have B2:=B1.trans k2.bl
    refine ld (k2.bl.cl h1) ?_ (hm:=trivial)
    refine ld ((k2.box k1.box).cell rfl) ?_ (hm:=trivial)
    refine cl (k_path (hL.bl B2) hu hi) ?_
    rintro _ _ ⟨rfl,rfl⟩
    refine cl (k_has (hm.bl k2.bl) _) ?_
    rintro _ w3 ⟨rfl,B3⟩
    exact rt1 ⟨rfl,B2.trans B3⟩
  refine brF ?_ (hp:=e6)
  by_cases e7:i.op=26
  · have eq:operL D u i=hasM D.named (nm u i.a):=by unfold operL;rw [if_neg e1,if_neg e2,if_neg e3,if_neg e4,if_neg e5,if_neg e6,if_pos e7]
    have hi:=ha (by omega)
    rw [eq]
    obtain ⟨m,M,h1,hm,hN,_⟩:=(hL.bl B1).na
    refine brT ?_ (hp:=e7)
    refine dh T (List.range 11) fun w2 k2 => ?_
    have B2:=B1.trans k2.bl
    refine ld (k2.bl.cl h1) ?_ (hm:=trivial)
    refine ld ((k2.box k1.box).cell rfl) ?_ (hm:=trivial)
    refine cl (k_path (hL.bl B2) hu hi) ?_
    rintro _ _ ⟨rfl,rfl⟩
    refine cl (k_hasN (hm.bl k2.bl) _) ?_
    rintro _ w3 ⟨rfl,B3⟩
    refine rt1 ⟨vb ?_,B2.trans B3⟩
    rw [←hN];unfold hasM;rw [getM_mapV];simp
  refine brF ?_ (hp:=e7)
  have eq:operL D u i=true:=by unfold operL;rw [if_neg e1,if_neg e2,if_neg e3,if_neg e4,if_neg e5,if_neg e6,if_neg e7]
  rw [eq]
  exact rt1 ⟨rfl,B1⟩
end Go.Proofs.YtkmdfjpafkcleaaGreatDoor
namespace Go.Proofs.YtkmdfjpafkcleaaGreatDoor
open Go Go.RowKit Eng
theorem utf8_one {n:Int} (h0:0≤n) (h1:n<128):Utf8.encode n=⟨#[UInt8.ofNat n.toNat]⟩:=by
  unfold Utf8.encode
  have hv:Utf8.valid n=true:=by unfold Utf8.valid;simp;omega
  simp only [hv,if_true]
  rw [if_pos (by omega)]
theorem range_run {P:Program} {T et:TypeId} {z:Value} (ht:MapT P T et z) {w:World} {b:Nat} {es:Array MapEntry} {clock:Nat} (hb:w.heap[b]? = some (.map es clock)) :
    (Instr.range T (.map (some b))).run P w = .ok (.pointer (some ⟨w.heap.size,0,none⟩)) (w.alloc (.mapIter (some b) clock #[] clock)):=by
  obtain ⟨kt,h1,_⟩:=ht.kt
  exact run_range_map w T kt et b es clock h1 hb
theorem next_run {P:Program} {ty:TypeId} {w:World} {it b:Nat} {es:Array MapEntry} {clock:Nat} {seen:Array Nat} (hb:w.heap[b]? = some (.map es clock)) (hi:w.heap[it]? = some (.mapIter (some b) clock seen clock)) (hs:MapKept.Stamped es clock) :
    ((leftOf es seen).size=0∧(Instr.next (.pointer (some ⟨it,0,none⟩)) false ty).run P w = .ok (.tuple #[.bool false]) w) ∨
    ∃ e∈(leftOf es seen).toList,∃ w',Wr w it w'∧w'.heap[it]? = some (.mapIter (some b) clock (seen.push e.born) clock)∧(Instr.next (.pointer (some ⟨it,0,none⟩)) false ty).run P w = .ok (.tuple #[.bool true,e.key,e.val]) w':=by
  have hold:=hs.1
  have hlt:it<w.heap.size:=(Array.getElem?_eq_some_iff.1 hi).1
  simp only [Instr.next,getObj,Sem.run_bind,Sem.run,hb,hi,Result.andThen,next_test_false seen es clock clock hold (Nat.le_refl _),Bool.false_eq_true,if_false]
  unfold leftOf
  have hmem:∀ x∈(Array.filter (fun e => !seen.contains e.born) es).toList,x.born<clock:=fun x hx=>hold x (by simp at hx ⊢;exact hx.1)
  generalize Array.filter (fun e => !seen.contains e.born) es=L at hmem ⊢
  have e1:L.filter (fun x=>decide (x.born<clock))=L:=Array.filter_eq_self.2 (fun x hx=>by simpa using hmem x (by simpa using hx))
  have e2:L.filter (fun x=>decide (x.born≥clock))=#[]:=by
    rw [Array.filter_eq_empty_iff]
    intro x hx
    have:=hmem x (by simpa using hx)
    simp
    omega
  simp only [e1,e2,Array.append_empty]
  by_cases h0:L.size=0
  · left
    have:L=#[]:=Array.eq_empty_of_size_eq_zero h0
    subst this
    refine ⟨rfl,?_⟩
    simp [choose,Sem.run,Question.forced]
  · right
    have hne:L.isEmpty=false:=by simp [Array.isEmpty,h0]
    have hne':(if L.isEmpty=true then #[none] else #[]:Array (Option MapEntry))=#[]:=by rw [hne];rfl
    have hcs:∀ n:Nat,∃ e,n % (L.map some).size<L.size∧(L.map some)[n % (L.map some).size]? = some (some e)∧e∈L.toList:=fun n=>by
      have h1:n % (L.map some).size<L.size:=by rw [Array.size_map];exact Nat.mod_lt _ (by omega)
      exact ⟨L[n % (L.map some).size],h1,by rw [Array.getElem?_map,Array.getElem?_eq_getElem h1];rfl,by simp⟩
    simp only [hne',Array.empty_append]
    by_cases hf:(Question.mapNext (L.map some).size).forced=true
    · have hsz:L.size=1:=by simp [Question.forced] at hf;omega
      have hL:∃ e,L[0]? = some e∧e∈L.toList:=⟨L[0]'(by omega),Array.getElem?_eq_getElem (by omega),by simp⟩
      obtain ⟨e,he,hm⟩:=hL
      refine ⟨e,hm,{ w with heap:=w.heap.setIfInBounds it (.mapIter (some b) clock (seen.push e.born) clock) },setMap_wr ..,by simp [hlt],?_⟩
      have hf':(Question.mapNext L.size).forced=true:=by rw [Array.size_map] at hf;exact hf
      simp [choose,Sem.run,hf',Array.getElem?_map,he,setObj,hi,Result.andThen]
    · obtain ⟨e,_,he,hm⟩:=hcs (w.tape w.drawn (Question.mapNext (L.map some).size))
      refine ⟨e,hm,{ w with drawn:=w.drawn+1,heap:=w.heap.setIfInBounds it (.mapIter (some b) clock (seen.push e.born) clock) },?_,by simp [hlt],?_⟩
      · have h:=setMap_wr w it (.mapIter (some b) clock (seen.push e.born) clock)
        exact ⟨h.os,h.tape,h.output,h.size,h.block⟩
      · simp only [choose,Sem.run,hf,Question.cut,Sem.run_bind,Result.andThen,he,Bool.false_eq_true,if_false]
        have hd:w.drew.heap[it]? = some (.mapIter (some b) clock seen clock):=hi
        simp [setObj,Sem.run,hd]
        exact ⟨rfl,rfl,rfl⟩
theorem entry_run {P:Program} {w:World} {it b:Nat} {es:Array MapEntry} {clock:Nat} {seen:Array Nat} {e:MapEntry} (hb:w.heap[b]? = some (.map es clock)) (hi:w.heap[it]? = some (.mapIter (some b) clock (seen.push e.born) clock)) (hs:MapKept.Stamped es clock) (he:e∈es.toList) :
    (Instr.entry (.pointer (some ⟨it,0,none⟩))).run P w = .ok (.tuple #[e.key,e.val]) w:=by
  have hf:es.find? (fun x=>x.born == e.born)=some e:=by
    rw [←Array.find?_toList]
    have hn:=hs.2.1
    generalize es.toList=L at he hn
    induction L with
    | nil=>cases he
    | cons x L ih =>
      rw [List.map_cons,List.nodup_cons] at hn
      rw [List.find?_cons]
      by_cases hx:x.born=e.born
      · rw [show (x.born == e.born)=true by simpa using hx]
        rcases List.mem_cons.1 he with rfl | he
        · rfl
        · exact absurd (List.mem_map.2 ⟨e,he,hx.symm⟩) hn.1
      · rw [show (x.born == e.born)=false by simpa using hx]
        rcases List.mem_cons.1 he with rfl | he
        · exact absurd rfl hx
        · exact ih he hn.2
  simp only [Instr.entry,getObj,Sem.run_bind,Sem.run,hi,hb,Result.andThen,Array.back?_push]
  simp [hf]
theorem fsize (es:Array MapEntry) (p:MapEntry→Bool):(es.filter p).size=(es.toList.filter p).length:=by rw [←Array.length_toList,Array.toList_filter]
theorem left_lt {es:Array MapEntry} {seen:Array Nat} {e:MapEntry} (he:e∈(leftOf es seen).toList):(leftOf es (seen.push e.born)).size<(leftOf es seen).size:=by
  unfold leftOf at *
  rw [fsize,fsize]
  rw [Array.toList_filter] at he
  generalize es.toList=L at he
  induction L with
  | nil=>simp at he
  | cons x L ih =>
    have mono:(List.filter (fun y => !(seen.push e.born).contains y.born) L).length≤(List.filter (fun y => !seen.contains y.born) L).length:=by
      rw [←List.countP_eq_length_filter,←List.countP_eq_length_filter]
      refine List.countP_mono_left fun y _ hy => ?_
      simp at hy ⊢
      exact hy.1
    by_cases hx:x=e
    · subst hx
      rw [List.mem_filter] at he
      have h1:(!seen.contains x.born)=true:=he.2
      rw [List.filter_cons_of_pos (p:=fun y:MapEntry => !seen.contains y.born) h1,List.filter_cons_of_neg (p:=fun y:MapEntry => !(seen.push x.born).contains y.born) (by simp)]
      simp only [List.length_cons];omega
    · have he':e∈List.filter (fun e => !seen.contains e.born) L:=by
        rw [List.mem_filter] at he ⊢
        exact ⟨(List.mem_cons.1 he.1).resolve_left (fun q=>hx q.symm),he.2⟩
      have:=ih he'
      by_cases h1:(!seen.contains x.born)=true
      · rw [List.filter_cons_of_pos (p:=fun y:MapEntry => !seen.contains y.born) (by simpa using h1)]
        by_cases h2:(!(seen.push e.born).contains x.born)=true
        · rw [List.filter_cons_of_pos (by simpa using h2)];simp only [List.length_cons];omega
        · rw [List.filter_cons_of_neg (by simpa using h2)];simp only [List.length_cons];omega
      · rw [List.filter_cons_of_neg (p:=fun y:MapEntry => !seen.contains y.born) (by simpa using h1)]
        by_cases h2:(!(seen.push e.born).contains x.born)=true
        · simp at h1 h2
          exact absurd h1 h2.1
        · rw [List.filter_cons_of_neg (by simpa using h2)];exact this
namespace Eng
variable {C:Cx} {s:St} {w:World}
theorem rg {ops:Array Oper} {T et:TypeId} {z:Value} {x:Operand} {d:Nat} {ty:TypeId} {pos:String} {af:Array Edge} {g:Option (Nat×Bool)} {rest:List Oper} {k:List Item} {l:Env} {c:CEnv} {b:Nat} {es:Array MapEntry} {clock:Nat}
    (ht:MapT C.P T et z) (hM:w.heap[b]? = some (.map es clock)) (h:∀ it w',it=w.heap.size→Bl w w'→w'.heap[it]? = some (.mapIter (some b) clock #[] clock)→Wk C (.reg none ops rest k ((d,.pointer (some ⟨it,0,none⟩))::l) c) w')
    (hs:adv C.tab C.n C.ks 400 s = .opn none ops ⟨some d,.range T x,ty,pos,af,g⟩ rest k l c []:=by rfl) (hx:evc l c [] x=some (.map (some b)):=by rfl) (hf:fresh d l c []=true:=by rfl):Wk C s w :=
  op_val (md:=none) (v := .pointer (some ⟨w.heap.size,0,none⟩)) (w':=w.alloc (.mapIter (some b) clock #[] clock)) rfl (show True from trivial) (fun _ a hA=>by
    simp only [execOp,evc_ok hA.k hA.kc.c (p:=[]) trivial hx]
    exact (run_bind_ok (range_run ht hM)).trans rfl) (h _ _ rfl ((Below.refl _ _).alloc (Nat.le_refl _) _) (by show (w.heap.push _)[w.heap.size]? = _;simp)) hs rfl hf
theorem nx {ops:Array Oper} {x:Operand} {d:Nat} {ty:TypeId} {pos:String} {af:Array Edge} {g:Option (Nat×Bool)} {rest:List Oper} {k:List Item} {l:Env} {c:CEnv} {it b:Nat} {es:Array MapEntry} {clock:Nat} {seen:Array Nat}
    (hb:w.heap[b]? = some (.map es clock)) (hi:w.heap[it]? = some (.mapIter (some b) clock seen clock)) (hst:MapKept.Stamped es clock)
    (h0:(leftOf es seen).size=0→Wk C (.reg none ops rest k ((d,.tuple #[.bool false])::l) c) w)
    (h1:∀ e w',e∈(leftOf es seen).toList→Wr w it w'→w'.heap[it]? = some (.mapIter (some b) clock (seen.push e.born) clock)→Wk C (.reg none ops rest k ((d,.tuple #[.bool true,e.key,e.val])::l) c) w')
    (hs:adv C.tab C.n C.ks 400 s = .opn none ops ⟨some d,.next x false,ty,pos,af,g⟩ rest k l c []:=by rfl) (hx:evc l c [] x=some (.pointer (some ⟨it,0,none⟩)):=by rfl) (hf:fresh d l c []=true:=by rfl):Wk C s w:=by
  rcases next_run (P:=C.P) (ty:=ty) hb hi hst with ⟨q,hr⟩ | ⟨e,he,w',hw,hi',hr⟩
  · exact op_val (md:=none) rfl (show True from trivial) (fun _ a hA=>by
      simp only [execOp,evc_ok hA.k hA.kc.c (p:=[]) trivial hx]
      exact (run_bind_ok hr).trans rfl) (h0 q) hs rfl hf
  · exact op_val (md:=none) rfl (show True from trivial) (fun _ a hA=>by
      simp only [execOp,evc_ok hA.k hA.kc.c (p:=[]) trivial hx]
      exact (run_bind_ok hr).trans rfl) (h1 e w' he hw hi') hs rfl hf
theorem ety {md:Option Md} {ops:Array Oper} {x:Operand} {d:Nat} {ty:TypeId} {pos:String} {af:Array Edge} {g:Option (Nat×Bool)} {rest:List Oper} {k:List Item} {l:Env} {c:CEnv} {it b:Nat} {es:Array MapEntry} {clock:Nat} {seen:Array Nat} {e:MapEntry}
    (hb:w.heap[b]? = some (.map es clock)) (hi:w.heap[it]? = some (.mapIter (some b) clock (seen.push e.born) clock)) (hst:MapKept.Stamped es clock) (he:e∈es.toList)
    (h:Wk C (.reg md ops rest k ((d,.tuple #[e.key,e.val])::l) c) w)
    (hs:adv C.tab C.n C.ks 400 s = .opn md ops ⟨some d,.entry x,ty,pos,af,g⟩ rest k l c []:=by rfl) (hx:evc l c [] x=some (.pointer (some ⟨it,0,none⟩)):=by rfl) (hf:fresh d l c []=true:=by rfl) (hnh:notH md=true:=by rfl):Wk C s w :=
  rd (p:=[]) (fun _ _ hA hp _ hk=>by
    rw [mdR_eq hnh hk]
    simp only [execOp,evc_ok hA.k hA.kc.c hp hx]
    exact (run_bind_ok (entry_run hb hi hst he)).trans rfl) h hs rfl hf (okR_no rfl)
theorem sln {md:Option Md} {ops:Array Oper} {T T':TypeId} {x y:Operand} {d:Nat} {ty:TypeId} {pos:String} {af:Array Edge} {g:Option (Nat×Bool)} {rest:List Oper} {k:List Item} {l:Env} {c:CEnv} {e esz by' sz:Nat} {ag:Bool} {zr:List Value} {a:Option Addr} {n cap:Nat}
    (h:Wk C (.reg md ops rest k ((d,.bool a.isNone)::l) c) w)
    (hs:adv C.tab C.n C.ks 400 s = .opn md ops ⟨some d,.binOp .eql T x y T',ty,pos,af,g⟩ rest k l c []:=by rfl) (ht:C.tab.at T=some ⟨.slice e esz by',sz,ag,zr⟩:=by rfl)
    (hx:evc l c [] x=some (.slice a n cap):=by rfl) (hy:evc l c [] y=some (.slice none 0 0):=by rfl) (hf:fresh d l c []=true:=by rfl):Wk C s w :=
  rd (p:=[]) (fun hT _ hA hp w' _=>by
    obtain ⟨dd,xx,zz,hT'⟩:=tiOk_und (tab_at hT ht)
    obtain ⟨rfl,_⟩:=hT'.sl _ _ _ rfl
    have hu:=hT'.und
    simp only [execOp,evc_ok hA.k hA.kc.c hp hx,evc_ok hA.k hA.kc.c hp hy]
    have hb:(binOp .eql T (.slice a n cap) (.slice none 0 0)).run C.P w' = .ok (.bool a.isNone) w':=by
      show (Sem.bind (Op.equal T (.slice a n cap) (.slice none 0 0)) _).run C.P w'=_
      refine (run_bind_ok (P:=C.P) (x:=a.isNone) (w':=w') ?_).trans rfl
      unfold Op.equal
      show (Op.equalIn (9999+1) T _ _).run C.P w'=_
      unfold Op.equalIn
      rw [run_bind_ok (und_run hu w')]
      cases a <;> rfl
    exact run_bind_ok (run_bind_ok (P:=C.P) (x:=()) (w':=w') rfl |>.trans hb) |>.trans rfl) h hs rfl hf (okR_no rfl)
theorem cvs {md:Option Md} {ops:Array Oper} {S T:TypeId} {x:Operand} {d:Nat} {ty:TypeId} {pos:String} {af:Array Edge} {g:Option (Nat×Bool)} {rest:List Oper} {k:List Item} {l:Env} {c:CEnv} {ka ks:IntKind} {a:Int}
    (hS:C.P.underlying S=some (.int ks)) (hT:C.P.underlying T=some .string) (h:Wk C (.reg md ops rest k ((d,.string (Utf8.encode a))::l) c) w)
    (hs:adv C.tab C.n C.ks 400 s = .opn md ops ⟨some d,.convert S T x,ty,pos,af,g⟩ rest k l c []:=by rfl) (hx:evc l c [] x=some (.int ka a):=by rfl) (hf:fresh d l c []=true:=by rfl):Wk C s w :=
  rd (p:=[]) (fun _ _ hA hp w' _=>by
    simp only [execOp,evc_ok hA.k hA.kc.c hp hx]
    refine (run_bind_ok (P:=C.P) (x := .string (Utf8.encode a)) (w':=w') ?_).trans rfl
    unfold convert
    rw [run_bind_ok (und_run hS w'),run_bind_ok (und_run hT w')]
    rfl) h hs rfl hf (okR_no rfl)
def advN (tab:Tab) (n:Nat) (ks:List Nat) (len:Nat):Nat→St→St
  | 0,s=>s
  | m+1,s=>match s with
    | .code k l=>match Nat.beq k.length len with
      | true => .code k l
      | false=>match adv1 tab n ks (.code k l) with
        | some s'=>advN tab n ks len m s'
        | none => .code k l
    | s=>match adv1 tab n ks s with
      | some s'=>advN tab n ks len m s'
      | none=>s
theorem advN_ok {len:Nat}:∀ (m:Nat) {s:St},Wk C (advN C.tab C.n C.ks len m s) w→Wk C s w
  | 0,_,h=>h
  | m+1,s,h=>by
    have key:∀ s:St,Wk C (match adv1 C.tab C.n C.ks s with | some s'=>advN C.tab C.n C.ks len m s' | none=>s) w→Wk C s w:=fun s h=>by
      cases hs:adv1 C.tab C.n C.ks s with
      | none=>rw [hs] at h;exact h
      | some s'=>rw [hs] at h;exact adv1_ok hs (advN_ok m h)
    cases s with
    | code k l =>
      simp only [advN] at h
      cases hb:Nat.beq k.length len with
      | true=>rw [hb] at h;exact h
      | false=>rw [hb] at h;exact key _ h
    | reg md ops rest k l c=>exact key _ h
    | opn md ops o rest k l c p=>exact key _ h
theorem jn {c:Operand} {x y:Code} {t:Bool} {k:List Item} {l:Env} (sel:List Nat) (keep:Env) (Mid:List Value→World→Prop)
    (h1:t=true→(∀ {s':St} {l'':Env} {vals:List Value} {w'':World},Mid vals w''→(hs':advN C.tab C.n C.ks k.length 400 s' = .code k l'':=by rfl)→(hsub:Sub keep l'':=by repeat (first | exact True.intro | (refine ⟨rfl,?_⟩)))→(hv:lookAll l'' sel=some vals:=by rfl)→Wk C s' w'')→Wk C (.code (.code x::k) l) w)
    (h2:t=false→(∀ {s':St} {l'':Env} {vals:List Value} {w'':World},Mid vals w''→(hs':advN C.tab C.n C.ks k.length 400 s' = .code k l'':=by rfl)→(hsub:Sub keep l'':=by repeat (first | exact True.intro | (refine ⟨rfl,?_⟩)))→(hv:lookAll l'' sel=some vals:=by rfl)→Wk C s' w'')→Wk C (.code (.code y::k) l) w)
    (h3:∀ vals w'',Mid vals w''→Wk C (.code k (pair sel vals keep)) w'')
    (hs:adv C.tab C.n C.ks 400 s = .code (.code (.cond c x y)::k) l:=by rfl) (hc:evq l c=some (.bool t):=by rfl):Wk C s w:=by
  have go:∀ {s':St} {l'':Env} {vals:List Value} {w'':World},Mid vals w''→advN C.tab C.n C.ks k.length 400 s' = .code k l''→Sub keep l''→lookAll l'' sel=some vals→Wk C s' w'':=fun hm hs' hsub hv =>
    advN_ok (len:=k.length) 400 (by rw [hs'];exact wk_forget (look_pair hsub hv) (h3 _ _ hm))
  exact br (fun h=>h1 h (fun hm hs' hsub hv=>go hm hs' hsub hv)) (fun h=>h2 h (fun hm hs' hsub hv=>go hm hs' hsub hv)) hs hc
theorem cut {c0:Item} {k:List Item} {l:Env} (sel:List Nat) (keep:Env) (Mid:List Value→World→Prop)
    (h1:(∀ {s':St} {l'':Env} {vals:List Value} {w'':World},Mid vals w''→(hs':advN C.tab C.n C.ks k.length 400 s' = .code k l'':=by rfl)→(hsub:Sub keep l'':=by repeat (first | exact True.intro | (refine ⟨rfl,?_⟩)))→(hv:lookAll l'' sel=some vals:=by rfl)→Wk C s' w'')→Wk C (.code (c0::k) l) w)
    (h3:∀ vals w'',Mid vals w''→Wk C (.code k (pair sel vals keep)) w'')
    (hs:adv C.tab C.n C.ks 400 s = .code (c0::k) l:=by rfl):Wk C s w :=
  by_adv hs (h1 fun hm hs' hsub hv=>advN_ok (len:=k.length) 400 (by rw [hs'];exact wk_forget (look_pair hsub hv) (h3 _ _ hm)))
end Eng
end Go.Proofs.YtkmdfjpafkcleaaGreatDoor
namespace Go.Proofs.YtkmdfjpafkcleaaGreatDoor.Eng
open Go Go.RowKit
def fpV:Value→Option Nat
  | .pointer (some a)=>some a.block
  | .slice (some a) _ _=>some a.block
  | _=>none
structure Pr where
  rd:List Nat
  nw:Bool
  sp:(Nat→Value)→World→Prop
structure PrOk (p:Pr) (d:Nat):Prop where
  mono:∀ {g w w'},Bl w w'→p.sp g w→p.sp g w'
  loc:∀ {g g' w},(∀ j∈p.rd,g j=g' j)→p.sp g w→p.sp g' w
  lt:∀ {g w b},p.nw=true→p.sp g w→fpV (g d)=some b→b<w.heap.size
def valsOf (a:Act):Nat→Value:=fun d=>a.tmps.getD d undef
def Pr.cst (d:Nat) (v:Value):Pr:=⟨[d],false,fun g _=>g d=v⟩
theorem Pr.cst_ok (d:Nat) (v:Value):PrOk (Pr.cst d v) d:=⟨fun _ h=>h,fun h k=>(h d (List.mem_singleton.2 rfl)).symm.trans k,fun h=>by cases h⟩
def Pr.box (d:Nat) (f:Nat→Value) (t:TypeId) (cs:List Value):Pr:=⟨[d],true,fun g w=>∃ b,g d=f b∧Box w b t cs⟩
theorem Pr.box_ok (d:Nat) (f:Nat→Value) (t:TypeId) (cs:List Value) (hf:∀ b,fpV (f b)=some b):PrOk (Pr.box d f t cs) d :=
  ⟨fun h ⟨b,e,k⟩=>⟨b,e,Bl.box h k⟩,fun h ⟨b,e,k⟩=>⟨b,(h d (List.mem_singleton.2 rfl)).symm.trans e,k⟩,fun _ ⟨b,e,k⟩ hb=>by
    rw [e,hf] at hb;cases hb;exact k.lt⟩
def Pr.fn (d:Nat) (rs:List Nat) (f:List Value→Value):Pr:=⟨d::rs,false,fun g _=>g d=f (rs.map g)⟩
theorem Pr.fn_ok (d:Nat) (rs:List Nat) (f:List Value→Value):PrOk (Pr.fn d rs f) d :=
  ⟨fun _ h=>h,fun {g g' w} h k=>by
    have e:rs.map g=rs.map g':=List.map_congr_left fun j hj=>h j (List.mem_cons_of_mem _ hj)
    show g' d=f (rs.map g')
    rw [←e,←h d (List.mem_cons_self ..)];exact k,fun h=>by cases h⟩
def nthD (ops:List Oper) (i:Nat):Option Nat:=match ops[i]? with
  | some o=>o.dst
  | none=>none
def memN (d:Nat):List Nat→Bool
  | []=>false
  | j::r=>Nat.beq j d||memN d r
theorem memN_iff {d:Nat}:∀ {l:List Nat},memN d l=true↔d∈l
  | []=>by simp [memN]
  | j::r=>by
    simp only [memN,Bool.or_eq_true,List.mem_cons,memN_iff (l:=r)]
    constructor
    · rintro (h | h)
      · exact .inl (Nat.eq_of_beq_eq_true h).symm
      · exact .inr h
    · rintro (h | h)
      · exact .inl (by rw [h];exact Nat.beq_refl _)
      · exact .inr h
def dstIs (ops:Array Oper) (j r:Nat):Bool:=match ops.toList[j]? with
  | some oj=>(match oj.dst with | some dj=>Nat.beq dj r | none=>false)
  | none=>false
theorem dstIs_of {ops:Array Oper} {j r:Nat} (h:dstIs ops j r=true):∃ o,ops[j]? = some o∧o.dst=some r:=by
  unfold dstIs at h
  split at h
  · rename_i o ho
    split at h
    · rename_i d hd
      exact ⟨o,by rw [←Array.getElem?_toList];exact ho,by rw [hd,Nat.eq_of_beq_eq_true h]⟩
    · cases h
  · cases h
def parOp (n:Nat) (l:Env) (ops:Array Oper) (i:Nat) (o:Oper) (p:Pr):Bool:=match o.dst with
  | none=>false
  | some d=>Nat.blt d n&&isNone (look l d)&&o.guard.isNone&&(match o.op with | .select .. => false | _=>true) &&
    (o.after.all fun e => !Region.binds .any e||Nat.blt e.on i) &&
    (p.rd.all fun r=>Nat.beq r d||(o.after.any fun e=>Region.binds .any e&&dstIs ops e.on r))
def parB (n:Nat) (l:Env) (ops:Array Oper):Nat→List Pr→List Oper→Bool
  | _,[],_=>true
  | i,p::ps,o::os=>parOp n l ops i o p&&parB n l ops (i+1) ps os
  | _,_,_=>false
def waitB (m:Nat) (os:List Oper):Bool:=os.all fun o=>(List.range m).all fun j=>o.after.any fun e=>Region.binds .any e&&Nat.beq e.on j
def distB:List Nat→Bool
  | []=>true
  | d::r => !memN d r&&distB r
def dsts:List Oper→List Nat
  | []=>[]
  | o::os=>match o.dst with
    | some d=>d::dsts os
    | none=>dsts os
def penv:List Oper→(Nat→Value)→Env→Env
  | [],_,l=>l
  | o::os,g,l=>match o.dst with
    | some d=>(d,g d)::penv os g l
    | none=>penv os g l
theorem penv_knows {a:Act} {l:Env} (hk:Knows l a):∀ os:List Oper,Knows (penv os (valsOf a) l) a
  | []=>hk
  | o::os=>by
    simp only [penv]
    cases o.dst with
    | none=>exact penv_knows hk os
    | some d =>
      intro j v hj
      simp only [look] at hj
      cases hb:Nat.beq d j with
      | true=>simp only [hb,cond_true,Option.some.injEq] at hj;have:=Nat.eq_of_beq_eq_true hb;subst this;exact hj
      | false=>simp only [hb,cond_false] at hj;exact penv_knows hk os j v hj
theorem parB_at {n:Nat} {l:Env} {ops:Array Oper}:∀ {ps:List Pr} {os:List Oper} {i:Nat},parB n l ops i ps os=true→∀ {j:Nat} {p:Pr},ps[j]? = some p→∃ o,os[j]? = some o∧parOp n l ops (i+j) o p=true
  | [],_,_,_,j,p,hp=>by simp at hp
  | p::ps,[],_,h,_,_,_=>by simp [parB] at h
  | p::ps,o::os,i,h,0,q,hq=>by
    simp only [parB,Bool.and_eq_true] at h
    simp at hq;subst hq;exact ⟨o,rfl,h.1⟩
  | p::ps,o::os,i,h,j+1,q,hq=>by
    simp only [parB,Bool.and_eq_true] at h
    obtain ⟨o',h1,h2⟩:=parB_at h.2 (j:=j) (by simpa using hq)
    exact ⟨o',by simpa using h1,by rw [show i+(j+1)=i+1+j by omega];exact h2⟩
theorem dsts_ne:∀ {os:List Oper},distB (dsts os)=true→∀ {i j:Nat} {oi oj:Oper} {d:Nat},os[i]? = some oi→os[j]? = some oj→oi.dst=some d→oj.dst=some d→i=j
  | [],_,i,_,_,_,_,h,_,_,_=>by simp at h
  | o::os,h,i,j,oi,oj,d,hi,hj,di,dj=>by
    have mem:∀ {k:Nat} {ok:Oper},os[k]? = some ok→ok.dst=some d→d∈dsts os:=fun {k ok} hk dk=>by
      have:=List.mem_of_getElem? hk
      clear hk h hi hj
      induction os with
      | nil=>cases this
      | cons x os ih =>
        cases this with
        | head=>simp [dsts,dk]
        | tail _ hm =>
          simp only [dsts]
          split
          · exact List.mem_cons_of_mem _ (ih hm)
          · exact ih hm
    have h':distB (dsts os)=true:=by
      simp only [dsts] at h
      split at h
      · simp only [distB,Bool.and_eq_true] at h;exact h.2
      · exact h
    cases i with
    | zero =>
      simp at hi;subst hi
      cases j with
      | zero=>rfl
      | succ j =>
        exfalso
        simp only [dsts,di,distB,Bool.and_eq_true,Bool.not_eq_true'] at h
        have:=memN_iff.2 (mem (k:=j) (by simpa using hj) dj)
        rw [this] at h;exact absurd h.1 (by simp)
    | succ i =>
      cases j with
      | zero =>
        exfalso
        simp at hj;subst hj
        simp only [dsts,dj,distB,Bool.and_eq_true,Bool.not_eq_true'] at h
        have:=memN_iff.2 (mem (k:=i) (by simpa using hi) di)
        rw [this] at h;exact absurd h.1 (by simp)
      | succ j=>rw [dsts_ne h' (i:=i) (j:=j) (by simpa using hi) (by simpa using hj) di dj]
def StepOk (C:Cx) (l:Env) (w0:World) (o:Oper) (p:Pr) (deps:(Nat→Value)→World→Prop):Prop :=
  ∀ (a:Act) (w:World),Bl w0 w→Knows l a→deps (valsOf a) w→∃ v w',(execOp a.eval o).run C.P w = .ok (.value v) w'∧(∀ d,o.dst=some d→∀ g,(∀ j,j≠d→g j=valsOf a j)→g d=v→p.sp g w')∧Bl w w'∧(p.nw=true→∀ b,fpV v=some b→w.heap.size≤b)
def depsOf (prs:List Pr) (o:Oper) (g:Nat→Value) (w:World):Prop:=∀ e∈o.after,Region.binds .any e=true→∀ p,prs[e.on]? = some p→p.sp g w
theorem getD_ones (m k j:Nat):((List.replicate m true++List.replicate k false).toArray.getD j true)=decide (j<m∨m+k≤j):=by
  rw [Array.getD_eq_getD_getElem?,List.getElem?_toArray]
  by_cases h:j<m
  · rw [List.getElem?_append_left (by simpa using h)];simp [h]
  · rw [List.getElem?_append_right (by simpa using h),List.getElem?_replicate]
    simp only [List.length_replicate]
    by_cases h2:j-m<k
    · rw [if_pos h2];simp;omega
    · rw [if_neg h2];simp;omega
section
variable {C:Cx} {ops:Array Oper} {prs:List Pr} {l:Env} {w0:World} {k:List Item} {S:Nat→Prop}
structure PInv (C:Cx) (ops:Array Oper) (prs:List Pr) (l:Env) (w0:World) (listed:Array Bool) (a:Act) (w:World):Prop where
  ok:OkA C a l []
  bl:Bl w0 w
  sz:listed.size=ops.size
  hi:∀ j,prs.length≤j→j<ops.size→listed.getD j true=false
  sp:∀ j p,prs[j]? = some p→listed.getD j true=true→p.sp (valsOf a) w
  dep:∀ j o e,j<prs.length→ops[j]? = some o→listed.getD j true=true→e∈o.after→Region.binds .any e=true→listed.getD e.on true=true
  ge:∀ (i:Nat) (p:Pr) (o:Oper) (d b:Nat),prs[i]? = some p→ops[i]? = some o→o.dst=some d→listed.getD i true=true→p.nw=true→fpV (valsOf a d)=some b→w0.heap.size≤b
  dist:∀ (i j:Nat) (pi pj:Pr) (oi oj:Oper) (di dj bi bj:Nat),i≠j→prs[i]? = some pi→prs[j]? = some pj→ops[i]? = some oi→ops[j]? = some oj→oi.dst=some di→oj.dst=some dj→listed.getD i true=true→listed.getD j true=true→pi.nw=true→pj.nw=true→fpV (valsOf a di)=some bi→fpV (valsOf a dj)=some bj→bi≠bj
theorem valsOf_put {a:Act} {d:Nat} {v:Value} (hd:d<a.tmps.size) (j:Nat):valsOf (a.put (some d) v) j=if j=d then v else valsOf a j:=get_put hd
def unl (m:Nat) (listed:Array Bool):Nat:=((List.range m).filter fun j => !listed.getD j true).length
theorem unl_set {m i:Nat} {listed:Array Bool} (hi:i<m) (h:listed.getD i true=false):unl m (listed.setIfInBounds i true)+1=unl m listed:=by
  unfold unl
  have hil:i<listed.size:=by
    rcases Nat.lt_or_ge i listed.size with h' | h'
    · exact h'
    · rw [Array.getD_eq_getD_getElem?,Array.getElem?_eq_none h'] at h;cases h
  have key:∀ L:List Nat,L.Nodup→i∈L→(L.filter fun j => !(listed.setIfInBounds i true).getD j true).length+1=(L.filter fun j => !listed.getD j true).length:=by
    intro L
    induction L with
    | nil=>intro _ h;cases h
    | cons x L ih =>
      intro hn hm
      rw [List.nodup_cons] at hn
      by_cases hx:x=i
      · subst hx
        have e1:(!(listed.setIfInBounds x true).getD x true)=false:=by
          rw [Array.getD_eq_getD_getElem?,Array.getElem?_setIfInBounds_self_of_lt hil];rfl
        have e2:(!listed.getD x true)=true:=by rw [h];rfl
        rw [List.filter_cons,if_neg (by rw [e1];simp),List.filter_cons,if_pos e2,List.length_cons]
        congr 1
        congr 1
        apply List.filter_congr
        intro y hy
        have hne:x≠y:=fun e=>hn.1 (e▸hy)
        rw [getD_set_ne true hne]
      · have hm':i∈L:=by
          cases hm with
          | head=>exact absurd rfl hx
          | tail _ h=>exact h
        have e1:(listed.setIfInBounds i true).getD x true=listed.getD x true:=getD_set_ne true (Ne.symm hx)
        have:=ih hn.2 hm'
        rw [List.filter_cons,List.filter_cons,e1]
        split
        · simp only [List.length_cons];omega
        · exact this
  exact key _ List.nodup_range (List.mem_range.2 hi)
theorem unl_zero {m:Nat} {listed:Array Bool} (h:unl m listed=0) {j:Nat} (hj:j<m):listed.getD j true=true:=by
  unfold unl at h
  have:=List.eq_nil_of_length_eq_zero h
  by_cases hc:listed.getD j true=true
  · exact hc
  · exfalso
    have hm:j∈((List.range m).filter fun j => !listed.getD j true):=List.mem_filter.2 ⟨List.mem_range.2 hj,by simpa using hc⟩
    rw [this] at hm;cases hm
theorem par_run (hlen:prs.length≤ops.size) (hB:parB C.n l ops 0 prs (ops.toList.take prs.length)=true) (hd:distB (dsts (ops.toList.take prs.length))=true) (hwt:waitB prs.length (ops.toList.drop prs.length)=true)
    (hok:∀ (i:Nat) (o:Oper) (p:Pr) (d:Nat),ops[i]? = some o→prs[i]? = some p→o.dst=some d→PrOk p d) (hstep:∀ (i:Nat) (o:Oper) (p:Pr),ops[i]? = some o→prs[i]? = some p→StepOk C l w0 o p (depsOf prs o))
    (fuel0:Nat) {Q:Exit→Act→World→Prop}
    (hend:∀ a w,PInv C ops prs l w0 (List.replicate prs.length true++List.replicate (ops.size-prs.length) false).toArray a w→wpM C.P .any ops Q S (ops.size-0) fuel0 (List.replicate prs.length true++List.replicate (ops.size-prs.length) false).toArray a w) :
    ∀ (u:Nat) (listed:Array Bool) (a:Act) (w:World),unl prs.length listed=u→PInv C ops prs l w0 listed a w→wpM C.P .any ops Q S (ops.size-0) (fuel0+u) listed a w:=by
  have opOf:∀ {i:Nat} {p:Pr},prs[i]? = some p→∃ o,ops[i]? = some o∧parOp C.n l ops i o p=true:=fun {i p} hp=>by
    obtain ⟨o,h1,h2⟩:=parB_at hB hp
    rw [Nat.zero_add] at h2
    have hi:=(List.getElem?_eq_some_iff.1 hp).1
    rw [List.getElem?_take,if_pos hi,Array.getElem?_toList] at h1
    exact ⟨o,h1,h2⟩
  intro u
  induction u with
  | zero =>
    intro listed a w hu hI
    have e:listed=(List.replicate prs.length true++List.replicate (ops.size-prs.length) false).toArray:=by
      apply Array.ext
      · rw [hI.sz];simp;omega
      · intro j h1 h2
        have e1:listed[j]=listed.getD j true:=by simp [Array.getD,h1]
        have e2:(List.replicate prs.length true++List.replicate (ops.size-prs.length) false).toArray[j]=(List.replicate prs.length true++List.replicate (ops.size-prs.length) false).toArray.getD j true:=by unfold Array.getD;rw [dif_pos h2];rfl
        rw [e1,e2,getD_ones]
        by_cases hj:j<prs.length
        · rw [unl_zero hu hj,decide_eq_true (.inl hj)]
        · rw [hI.hi j (by omega) (by rw [←hI.sz];exact h1),decide_eq_false]
          rw [hI.sz] at h1;omega
    rw [e] at hI ⊢
    exact hend a w hI
  | succ u ih =>
    intro listed a w hu hI
    have hun:∃ i,i<prs.length∧listed.getD i true=false∧∀ j,j<i→listed.getD j true=true:=by
      have hex:∃ i,i<prs.length∧listed.getD i true=false:=by
        unfold unl at hu
        obtain ⟨i,hi⟩:=List.exists_mem_of_ne_nil (l:=(List.range prs.length).filter fun j => !listed.getD j true) (by intro h0;rw [h0] at hu;cases hu)
        rw [List.mem_filter,List.mem_range] at hi
        exact ⟨i,hi.1,by simpa using hi.2⟩
      obtain ⟨i,h1,h2⟩:=hex
      induction i using Nat.strongRecOn with
      | _ i ihi =>
        by_cases hall:∀ j,j<i→listed.getD j true=true
        · exact ⟨i,h1,h2,hall⟩
        · have ⟨j,hj⟩:=Classical.not_forall.1 hall
          have ⟨hj1,hj2⟩:=Classical.not_imp.1 hj
          exact ihi j hj1 (by omega) (by simpa using hj2)
    refine ⟨fun h0 => ?_,fun i hi => ?_⟩
    · exfalso
      obtain ⟨i,h1,h2,h3⟩:=hun
      obtain ⟨p,hp⟩:=some_of_lt h1
      obtain ⟨o,ho,hpo⟩:=opOf hp
      have:i∈Region.ready .any ops listed:=by
        rw [mem_ready]
        refine ⟨h2,o,ho,fun e he hb => ?_⟩
        unfold parOp at hpo
        cases hdst:o.dst with
        | none=>rw [hdst] at hpo;cases hpo
        | some d =>
          rw [hdst] at hpo
          simp only [Bool.and_eq_true] at hpo
          have:=Array.all_eq_true_iff_forall_mem.1 hpo.1.2 e he
          rw [hb] at this
          have hlt:e.on<i:=blt_lt (by simpa using this)
          have:=h3 e.on hlt
          have hsz:e.on<listed.size:=by rw [hI.sz];omega
          simpa [Array.getD,hsz] using this
      rw [h0] at this;cases this
    · obtain ⟨hil,o,ho,hall⟩:=mem_ready.1 hi
      have hisz:i<ops.size:=(Array.getElem?_eq_some_iff.1 ho).1
      have him:i<prs.length:=by
        rcases Nat.lt_or_ge i prs.length with h | h
        · exact h
        · exfalso
          obtain ⟨i1,h1,h2,_⟩:=hun
          have hm:o∈ops.toList.drop prs.length:=by
            rw [List.mem_iff_getElem?]
            exact ⟨i-prs.length,by rw [List.getElem?_drop,show prs.length+(i-prs.length)=i by omega,Array.getElem?_toList];exact ho⟩
          have:=List.all_eq_true.1 (List.all_eq_true.1 hwt o hm) i1 (List.mem_range.2 h1)
          obtain ⟨e,he,hb⟩:=Array.any_eq_true'.1 this
          simp only [Bool.and_eq_true] at hb
          have e1:=hall e he hb.1
          rw [Nat.eq_of_beq_eq_true hb.2] at e1
          have hsz:i1<listed.size:=by rw [hI.sz];omega
          simp [Array.getD,hsz] at e1 h2
          rw [h2] at e1;cases e1
      obtain ⟨p,hp⟩:=some_of_lt him
      obtain ⟨o',ho',hpo⟩:=opOf hp
      rw [ho] at ho'
      obtain rfl:=Option.some.inj ho'
      unfold parOp at hpo
      cases hdst:o.dst with
      | none=>rw [hdst] at hpo;cases hpo
      | some d =>
        rw [hdst] at hpo
        simp only [Bool.and_eq_true] at hpo
        obtain ⟨⟨⟨⟨⟨g1,g2⟩,g3⟩,g4⟩,g5⟩,g6⟩:=hpo
        have hdn:d<a.tmps.size:=by rw [hI.ok.size];exact blt_lt g1
        have hdeps:depsOf prs o (valsOf a) w:=fun e he hb q hq=>by
          refine hI.sp e.on q hq ?_
          have:=hall e he hb
          have hsz:e.on<listed.size:=by
            rcases Nat.lt_or_ge e.on listed.size with h | h
            · exact h
            · rw [Array.getD_eq_getD_getElem?,Array.getElem?_eq_none h] at this;cases this
          simpa [Array.getD,hsz] using this
        obtain ⟨v,w',hr,hsp,hbl,hfp⟩:=hstep i o p ho hp a w hI.bl hI.ok.k hdeps
        have hwanted:Region.wanted o (yielded ops a.tmps)=true:=by
          unfold Region.wanted
          cases hg:o.guard with
          | none=>rfl
          | some x=>rw [hg] at g3;cases g3
        unfold wpOp
        simp only [ho,hwanted,if_true]
        left
        unfold Oper.wp
        rw [hr]
        show (_→Kb S w w')∧wpM C.P .any ops Q S (ops.size-0) (fuel0+u) (listed.setIfInBounds i true) (a.put o.dst v) w'
        rw [hdst]
        refine ⟨fun _=>hbl.kb S,ih _ _ _ ?_ ?_⟩
        · have:=unl_set him hil;omega
        have hne:∀ j,j≠i→(listed.setIfInBounds i true).getD j true=listed.getD j true:=fun j hj=>getD_set_ne true (Ne.symm hj)
        have hpv:∀ j,j≠d→valsOf (a.put (some d) v) j=valsOf a j:=fun j hj=>by rw [valsOf_put hdn,if_neg hj]
        have hpd:valsOf (a.put (some d) v) d=v:=by rw [valsOf_put hdn,if_pos rfl]
        have hdne:∀ {j oj dj},j≠i→j<prs.length→ops[j]? = some oj→oj.dst=some dj→dj≠d:=fun {j oj dj} hj hjm hoj hdj e=>by
          subst e
          refine hj (dsts_ne hd (i:=j) (j:=i) ?_ ?_ hdj hdst)
          · rw [List.getElem?_take,if_pos hjm,Array.getElem?_toList];exact hoj
          · rw [List.getElem?_take,if_pos him,Array.getElem?_toList];exact ho
        have hspj:∀ j q,j≠i→prs[j]? = some q→listed.getD j true=true→q.sp (valsOf (a.put (some d) v)) w':=fun j q hj hq hl=>by
          have hjm:=(List.getElem?_eq_some_iff.1 hq).1
          obtain ⟨oj,hoj,hpj⟩:=opOf hq
          unfold parOp at hpj
          cases hdj:oj.dst with
          | none=>rw [hdj] at hpj;cases hpj
          | some dj =>
            have hq':=hok j oj q dj hoj hq hdj
            refine hq'.mono hbl (hq'.loc (fun r hr => ?_) (hI.sp j q hq hl))
            rw [hdj] at hpj
            simp only [Bool.and_eq_true] at hpj
            have hr':=List.all_eq_true.1 hpj.2 r hr
            rw [Bool.or_eq_true] at hr'
            refine (hpv r ?_).symm
            rcases hr' with hr' | hr'
            · rw [Nat.eq_of_beq_eq_true hr'];exact hdne hj hjm hoj hdj
            · obtain ⟨e,he,hb⟩:=Array.any_eq_true'.1 hr'
              rw [Bool.and_eq_true] at hb
              have hlt:e.on<j:=by
                have:=Array.all_eq_true_iff_forall_mem.1 hpj.1.2 e he
                rw [hb.1] at this
                exact blt_lt (by simpa using this)
              intro hrd
              subst hrd
              obtain ⟨oe,hoe,hde⟩:=dstIs_of hb.2
              have hei:e.on≠i:=fun hei=>by
                have:=hI.dep j oj e hjm hoj hl he hb.1
                rw [hei,hil] at this;cases this
              exact hdne hei (by omega) hoe hde rfl
        have hspi:p.sp (valsOf (a.put (some d) v)) w':=hsp d hdst _ hpv hpd
        have hIok:=hI.ok
        refine ⟨⟨by simp [Act.put,hIok.size],by simpa [Act.put] using hIok.defers,fun j x hx => ?_,knows_nil _⟩,Below.trans hI.bl (hbl.mono hI.bl.size),by simp [hI.sz],fun j h1 h2 => ?_,fun j q hq hl => ?_,fun j oj e hjm hoj hl he hb => ?_,fun j q oj dj b hq hoj hdj hl hm hb => ?_,fun i1 j1 pi pj oi oj di dj bi bj hij hpi hpj hoi hoj hdi hdj hli hlj hmi hmj hbi hbj => ?_⟩
        · have hjd:j≠d:=fun e=>by
            subst e
            rw [hx] at g2;cases g2
          have:=hI.ok.k j x hx
          exact (hpv j hjd).trans this
        · rw [hne j (by omega)];exact hI.hi j h1 h2
        · by_cases hj:j=i
          · subst hj;rw [hp] at hq;obtain rfl:=Option.some.inj hq;exact hspi
          · rw [hne j hj] at hl;exact hspj j q hj hq hl
        · have hlist:listed.getD e.on true=true:=by
            by_cases hj:j=i
            · subst hj
              rw [ho] at hoj;obtain rfl:=Option.some.inj hoj
              have:=hall e he hb
              have hsz:e.on<listed.size:=by
                rcases Nat.lt_or_ge e.on listed.size with h | h
                · exact h
                · rw [Array.getD_eq_getD_getElem?,Array.getElem?_eq_none h] at this;cases this
              simpa [Array.getD,hsz] using this
            · rw [hne j hj] at hl;exact hI.dep j oj e hjm hoj hl he hb
          by_cases he2:e.on=i
          · rw [he2,hil] at hlist;cases hlist
          · rw [hne _ he2];exact hlist
        · by_cases hj:j=i
          · subst hj
            rw [ho] at hoj;obtain rfl:=Option.some.inj hoj
            rw [hp] at hq;obtain rfl:=Option.some.inj hq
            rw [hdst] at hdj;obtain rfl:=Option.some.inj hdj
            rw [hpd] at hb
            exact Nat.le_trans hI.bl.size (hfp hm b hb)
          · rw [hne j hj] at hl
            rw [hpv dj (hdne hj (List.getElem?_eq_some_iff.1 hq).1 hoj hdj)] at hb
            exact hI.ge j q oj dj b hq hoj hdj hl hm hb
        · have old:∀ {j q oj dj b},j≠i→prs[j]? = some q→ops[j]? = some oj→oj.dst=some dj→listed.getD j true=true→q.nw=true→fpV (valsOf a dj)=some b→b<w.heap.size:=fun {j q oj dj b} hj hq hoj hdj hl hm hb=>(hok j oj q dj hoj hq hdj).lt hm (hI.sp j q hq hl) hb
          by_cases h1:i1=i
          · subst h1
            have h2:j1≠i1:=Ne.symm hij
            rw [ho] at hoi;obtain rfl:=Option.some.inj hoi
            rw [hp] at hpi;obtain rfl:=Option.some.inj hpi
            rw [hdst] at hdi;obtain rfl:=Option.some.inj hdi
            rw [hpd] at hbi
            rw [hpv dj (hdne h2 (List.getElem?_eq_some_iff.1 hpj).1 hoj hdj)] at hbj
            rw [hne j1 h2] at hlj
            have:=hfp hmi bi hbi
            have:=old h2 hpj hoj hdj hlj hmj hbj
            omega
          · rw [hne i1 h1] at hli
            rw [hpv di (hdne h1 (List.getElem?_eq_some_iff.1 hpi).1 hoi hdi)] at hbi
            by_cases h2:j1=i
            · subst h2
              rw [ho] at hoj;obtain rfl:=Option.some.inj hoj
              rw [hp] at hpj;obtain rfl:=Option.some.inj hpj
              rw [hdst] at hdj;obtain rfl:=Option.some.inj hdj
              rw [hpd] at hbj
              have:=hfp hmj bj hbj
              have:=old h1 hpi hoi hdi hli hmi hbi
              omega
            · rw [hne j1 h2] at hlj
              rw [hpv dj (hdne h2 (List.getElem?_eq_some_iff.1 hpj).1 hoj hdj)] at hbj
              exact hI.dist i1 j1 pi pj oi oj di dj bi bj hij hpi hpj hoi hoj hdi hdj hli hlj hmi hmj hbi hbj
def StepsOk (C:Cx) (l:Env) (w0:World) (prs:List Pr):List Oper→List Pr→Prop
  | o::os,p::ps=>StepOk C l w0 o p (depsOf prs o)∧StepsOk C l w0 prs os ps
  | _,_=>True
def PrsOk:List Oper→List Pr→Prop
  | o::os,p::ps=>(∀ d,o.dst=some d→PrOk p d)∧PrsOk os ps
  | _,_=>True
theorem stepsOk_at {C:Cx} {l:Env} {w0:World} {prs:List Pr}:∀ {os:List Oper} {ps:List Pr},StepsOk C l w0 prs os ps→∀ {i:Nat} {o:Oper} {p:Pr},os[i]? = some o→ps[i]? = some p→StepOk C l w0 o p (depsOf prs o)
  | o::os,p::ps,h,0,_,_,ho,hp=>by simp at ho hp;subst ho;subst hp;exact h.1
  | o::os,p::ps,h,i+1,_,_,ho,hp=>stepsOk_at h.2 (i:=i) (by simpa using ho) (by simpa using hp)
  | [],_,_,i,_,_,ho,_=>by simp at ho
  | _::_,[],_,i,_,_,_,hp=>by simp at hp
theorem prsOk_at:∀ {os:List Oper} {ps:List Pr},PrsOk os ps→∀ {i:Nat} {o:Oper} {p:Pr} {d:Nat},os[i]? = some o→ps[i]? = some p→o.dst=some d→PrOk p d
  | o::os,p::ps,h,0,_,_,d,ho,hp,hd=>by simp at ho hp;subst ho;subst hp;exact h.1 d hd
  | o::os,p::ps,h,i+1,_,_,d,ho,hp,hd=>prsOk_at h.2 (i:=i) (by simpa using ho) (by simpa using hp) hd
  | [],_,_,i,_,_,_,ho,_,_=>by simp at ho
  | _::_,[],_,i,_,_,_,_,hp,_=>by simp at hp
def distP:List Oper→List Pr→(Nat→Value)→Prop:=fun os ps g=>∀ (i j:Nat) (pi pj:Pr) (oi oj:Oper) (di dj bi bj:Nat),i≠j→ps[i]? = some pi→ps[j]? = some pj→os[i]? = some oi→os[j]? = some oj→oi.dst=some di→oj.dst=some dj→pi.nw=true→pj.nw=true→fpV (g di)=some bi→fpV (g dj)=some bj→bi≠bj
theorem dpar (prs:List Pr) (S:Nat→Prop) (ord:List Nat) {s:St} {w:World} {i:Nat} {ops:Array Oper} {k:List Item} {l:Env}
    (hs:adv C.tab C.n C.ks 400 s = .code (.code (.region i ops true)::k) l)
    (hok:PrsOk ops.toList prs) (hstep:tabOk C.P C.tab=true→∀ w0,Dr w w0→StepsOk C l w0 prs ops.toList prs)
    (h:∀ w0 w' g,Dr w w0→Bl w0 w'→(∀ (i:Nat) (p:Pr),prs[i]? = some p→p.sp g w')→(∀ (i:Nat) (p:Pr) (o:Oper) (d b:Nat),prs[i]? = some p→ops.toList[i]? = some o→o.dst=some d→p.nw=true→fpV (g d)=some b→w0.heap.size≤b)→distP ops.toList prs g →
      ∃ l',Sub l' (penv (ops.toList.take prs.length) g l)∧Wk C (.reg (some (.h S 0)) ops (pickO ops.toList ord) k l' []) w')
    (hlen:Nat.ble prs.length ops.size=true:=by kernel_rfl) (hB:parB C.n l ops 0 prs (ops.toList.take prs.length)=true:=by kernel_rfl) (hd:distB (dsts (ops.toList.take prs.length))=true:=by kernel_rfl) (hwt:waitB prs.length (ops.toList.drop prs.length)=true:=by kernel_rfl)
    (hsel:Region.noSelect ops=true:=by kernel_rfl) (hn:Nat.beq (prs.length+ord.length) ops.size=true:=by kernel_rfl) (hH:heldB ops (ops.size-0) ord (List.replicate prs.length true++List.replicate (ops.size-prs.length) false).toArray=true:=by kernel_rfl):Wk C s w:=by
  refine by_adv hs ⟨fun ht hfn a hA=>runs_wp (wp_region_any (tab_mixed ht) ?_)⟩
  have hlen':=Nat.le_of_ble_eq_true hlen
  have hn':=Nat.eq_of_beq_eq_true hn
  have toL:∀ {j:Nat} {o:Oper},ops[j]? = some o→ops.toList[j]? = some o:=fun hj=>by rw [Array.getElem?_toList];exact hj
  refine wpAny_of_M (S:=S) (m:=ops.size-0) _ _ _ _ ?_
  have hun:unl prs.length (Array.replicate ops.size false)=prs.length:=by
    unfold unl
    rw [List.filter_eq_self.2,List.length_range]
    intro j hj
    have:=List.mem_range.1 hj
    simp [Array.getD,show j<ops.size by omega]
  have:=par_run (C:=C) (ops:=ops) (prs:=prs) (l:=l) (w0:=w.drew) (S:=S) hlen' hB hd hwt (fun i o p d ho hp hd=>prsOk_at hok (toL ho) hp hd) (fun i o p ho hp=>stepsOk_at (hstep ht _ ⟨rfl⟩) (toL ho) hp) (ord.length+(ops.size-(ops.size-0))) (Q:=nq C k) (fun a w' hI=>heldS_ok (Nat.sub_le ..) hsel (fun c a w hq=>by cases hq.1) ord _ a w' hH ?_) prs.length (Array.replicate ops.size false) a w.drew hun ?_
  · rw [show ord.length+(ops.size-(ops.size-0))+prs.length=ops.size by omega] at this;exact this
  · have ones:∀ j,j<prs.length→(List.replicate prs.length true++List.replicate (ops.size-prs.length) false).toArray.getD j true=true:=fun j hj=>by rw [getD_ones,decide_eq_true (.inl hj)]
    obtain ⟨l',hsub,hw⟩:=h w.drew w' (valsOf a) ⟨rfl⟩ hI.bl (fun i p hp=>hI.sp i p hp (ones i (List.getElem?_eq_some_iff.1 hp).1)) (fun i p o d b hp ho hd hm hb=>hI.ge i p o d b hp (by rw [←Array.getElem?_toList];exact ho) hd (ones i (List.getElem?_eq_some_iff.1 hp).1) hm hb) (fun i j pi pj oi oj di dj bi bj hij hpi hpj hoi hoj hdi hdj hmi hmj hbi hbj =>
      hI.dist i j pi pj oi oj di dj bi bj hij hpi hpj (by rw [←Array.getElem?_toList];exact hoi) (by rw [←Array.getElem?_toList];exact hoj) hdi hdj (ones i (List.getElem?_eq_some_iff.1 hpi).1) (ones j (List.getElem?_eq_some_iff.1 hpj).1) hmi hmj hbi hbj)
    exact hw.run ht hfn a ⟨hI.ok.size,hI.ok.defers,fun j v hj=>penv_knows hI.ok.k _ j v (sub_look hsub hj),knows_nil a⟩
  · have nof:∀ j,(Array.replicate ops.size false).getD j true=true→ops.size≤j:=fun j hj=>by
      rcases Nat.lt_or_ge j ops.size with h | h
      · simp [Array.getD,h] at hj
      · exact h
    refine ⟨hA,Bl.refl _,by simp,fun j _ h2=>by simp [Array.getD,h2],fun j p hp hl => ?_,fun j o e hj ho hl _ _ => ?_,fun i p _ _ _ hp _ _ hl _ _ => ?_,fun i j pi pj oi oj di dj bi bj _ hpi _ _ _ _ _ hl _ _ _ _ _ => ?_⟩
    · have:=nof j hl;have:=(List.getElem?_eq_some_iff.1 hp).1;omega
    · have:=nof j hl;omega
    · have:=nof i hl;have:=(List.getElem?_eq_some_iff.1 hp).1;omega
    · have:=nof i hl;have:=(List.getElem?_eq_some_iff.1 hpi).1;omega
theorem so_move {C:Cx} {l:Env} {w0:World} {d:Nat} {x:Operand} {ty:TypeId} {pos:String} {af:Array Edge} {g:Option (Nat×Bool)} {v:Value} {D:(Nat→Value)→World→Prop} (hx:evq l x=some v):StepOk C l w0 ⟨some d,.move x,ty,pos,af,g⟩ (Pr.cst d v) D :=
  fun a w _ hk _=>⟨v,w,by simp only [execOp,evq_ok hk hx];rfl,fun d' hd g _ hg=>by cases hd;exact hg,Bl.refl _,fun h=>by cases h⟩
theorem so_mk {C:Cx} (hT:tabOk C.P C.tab=true) {l:Env} {w0:World} {d:Nat} {T:TypeId} {x y:Operand} {ty:TypeId} {pos:String} {af:Array Edge} {g:Option (Nat×Bool)} {D:(Nat→Value)→World→Prop} {e esz by' sz m n:Nat} {ag:Bool} {zr:List Value} {tk:TK} {ag':Bool} {zr':List Value}
    (hx:∀ a w,Knows l a→D (valsOf a) w→a.eval x=I m) (hy:∀ a w,Knows l a→D (valsOf a) w→a.eval y=I n) (ht:C.tab.at T=some ⟨.slice e esz by',sz,ag,zr⟩:=by rfl) (he:C.tab.at e=some ⟨tk,esz,ag',zr'⟩:=by rfl) (hmn:m≤n:=by omega) (hn:n≤8388608:=by omega) (hb:Nat.ble by' 4096=true:=by rfl) :
    StepOk C l w0 ⟨some d,.makeSlice T x y,ty,pos,af,g⟩ (Pr.box d (fun b => .slice (some ⟨b,0,none⟩) m n) e (rep n zr')) D :=
  fun a w _ hk hD=>by
    refine ⟨_,_,exec_mk rfl (tab_at hT ht) (tab_at hT he) (hx a w hk hD) (hy a w hk hD) hmn hn hb,fun d' hd g _ hg => ?_,New.bl ⟨rfl,rfl⟩,fun _ b hb => ?_⟩
    · cases hd;exact ⟨_,hg,New.box ⟨rfl,rfl⟩⟩
    · simp only [fpV,Option.some.injEq] at hb;omega
theorem so_al {C:Cx} (hT:tabOk C.P C.tab=true) {l:Env} {w0:World} {d:Nat} {T:TypeId} {ty:TypeId} {pos:String} {af:Array Edge} {g:Option (Nat×Bool)} {D:(Nat→Value)→World→Prop} {tk:TK} {sz:Nat} {ag:Bool} {zr:List Value}
    (ht:C.tab.at T=some ⟨tk,sz,ag,zr⟩:=by rfl):StepOk C l w0 ⟨some d,.alloc T,ty,pos,af,g⟩ (Pr.box d (fun b => .pointer (some ⟨b,0,none⟩)) T zr) D :=
  fun a w _ hk hD=>by
    obtain ⟨z,hz,hc⟩:=zero_run (tab_at hT ht) w
    refine ⟨.pointer (some ⟨w.heap.size,0,none⟩),w.alloc (.cells zr.toArray T),?_,fun d' hd g _ hg => ?_,New.bl ⟨rfl,rfl⟩,fun _ b hb => ?_⟩
    · simp only [execOp]
      refine (run_bind_ok (P:=C.P) (x := .pointer (some ⟨w.heap.size,0,none⟩)) (w':=w.alloc (.cells zr.toArray T)) ?_).trans rfl
      unfold Instr.alloc
      rw [run_bind_ok hz]
      simp only [newVar,newRow,hc];rfl
    · cases hd;exact ⟨_,hg,New.box ⟨rfl,rfl⟩⟩
    · simp only [fpV,Option.some.injEq] at hb;omega
end
end Go.Proofs.YtkmdfjpafkcleaaGreatDoor.Eng
namespace Go.Proofs.YtkmdfjpafkcleaaGreatDoor.Eng
open Go Go.RowKit
def fieldOne (P:Program) (T i o:Nat):Bool:=match P.underlying T with
  | some (.struct fs)=>match fs[i]? with
    | some f=>Nat.beq f.offset o&&(match P.underlying f.type with
      | some d => !isAggD d
      | none=>false)
    | none=>false
  | _=>false
theorem isAgg_run {P:Program} {t:TypeId} {d:TypeDesc} (h:P.underlying t=some d) (w:World):(isAgg t).run P w = .ok (isAggD d) w:=by
  unfold isAgg
  rw [run_bind_ok (und_run h w)]
  cases d <;> rfl
section
variable {C:Cx} {s:St} {w:World}
theorem exec_fld {P:Program} {ρ:Operand→Value} {w:World} {o:Oper} {T i off:Nat} {x:Operand} {cs:List Value} {v:Value} (ho:o.op = .field T x i) (hF:fieldOne P T i off=true) (hx:ρ x = .agg cs.toArray) (hv:cs[off]? = some v) :
    (execOp ρ o).run P w = .ok (.value v) w:=by
  unfold fieldOne at hF
  split at hF
  · rename_i fs hu
    split at hF
    · rename_i f hf
      rw [Bool.and_eq_true] at hF
      split at hF
      · rename_i d hd
        unfold execOp
        simp only [ho,hx]
        refine (run_bind_ok (P:=P) (x:=v) (w':=w) ?_).trans rfl
        unfold Instr.field
        rw [run_bind_ok (und_run hu w)]
        simp only [hf]
        rw [run_bind_ok (show (asAgg (.agg cs.toArray)).run P w = .ok cs.toArray w from rfl)]
        unfold part
        have ha:isAggD d=false:=by simpa using hF.2
        rw [run_bind_ok (isAgg_run hd w),ha,if_neg (by simp),Nat.eq_of_beq_eq_true hF.1]
        simp only [List.getElem?_toArray,hv]
        rfl
      · cases hF.2
    · cases hF
  · cases hF
theorem fd {md:Option Md} {ops:Array Oper} {T i:Nat} {x:Operand} {d:Nat} {ty:TypeId} {pos:String} {af:Array Edge} {g:Option (Nat×Bool)} {rest:List Oper} {k:List Item} {l:Env} {c:CEnv} {cs:List Value} {v:Value} (off:Nat)
    (h:Wk C (.reg md ops rest k ((d,v)::l) c) w)
    (hs:adv C.tab C.n C.ks 400 s = .opn md ops ⟨some d,.field T x i,ty,pos,af,g⟩ rest k l c []:=by rfl) (hF:fieldOne C.P T i off=true:=by kernel_rfl) (hx:evc l c [] x=some (.agg cs.toArray):=by rfl) (hv:cs[off]? = some v:=by rfl) (hf:fresh d l c []=true:=by rfl):Wk C s w :=
  rd (p:=[]) (fun _ _ hA hp _ _=>exec_fld rfl hF (evc_ok hA.k hA.kc.c hp hx) hv) h hs rfl hf (okR_no rfl)
theorem cp {md:Option Md} {ops:Array Oper} {x:Operand} {T:TypeId} {d:Nat} {ty:TypeId} {pos:String} {af:Array Edge} {g:Option (Nat×Bool)} {rest:List Oper} {k:List Item} {l:Env} {c:CEnv} {e esz by' sz:Nat} {ag:Bool} {zr:List Value} {a:Option Addr} {n cap:Nat}
    (h:Wk C (.reg md ops rest k ((d,I cap)::l) c) w)
    (hs:adv C.tab C.n C.ks 400 s = .opn md ops ⟨some d,.call ⟨.builtin .cap,#[x],#[T]⟩,ty,pos,af,g⟩ rest k l c []:=by rfl) (ht:C.tab.at T=some ⟨.slice e esz by',sz,ag,zr⟩:=by rfl) (hx:evc l c [] x=some (.slice a n cap):=by rfl) (hf:fresh d l c []=true:=by rfl):Wk C s w :=
  rd (p:=[]) (fun hT _ hA hp w' _=>by
    obtain ⟨dd,xx,zz,hTi⟩:=tiOk_und (tab_at hT ht)
    obtain ⟨rfl,_⟩:=hTi.sl _ _ _ rfl
    simp only [execOp,resolve,List.map_toArray,List.map_cons,List.map_nil,evc_ok hA.k hA.kc.c hp hx]
    show (Sem.bind (Builtin.cap_ _ ty #[_]) _).run C.P w'=_
    refine (run_bind_ok (P:=C.P) (x:=I cap) (w':=w') ?_).trans rfl
    simp [Builtin.cap_,run_underlying hTi.und]
    rfl) h hs rfl hf (okR_no rfl)
theorem apz {md:Option Md} {ops:Array Oper} {T U:TypeId} {x y:Operand} {d:Nat} {ty:TypeId} {pos:String} {af:Array Edge} {g:Option (Nat×Bool)} {rest:List Oper} {k:List Item} {l:Env} {c:CEnv} {e esz by' sz:Nat} {ag:Bool} {zr:List Value} {kd:IntKind} {n:Nat}
    (hn0:0<n) (hn:n≤8388608)
    (h:∀ cap w',Ow w' w.heap.size e esz (some ⟨w.heap.size,0,none⟩) 0 cap []→n≤cap→Bl w w'→Wk C (.reg md ops rest k ((d,.slice (some ⟨w.heap.size,0,none⟩) n cap)::l) c) w')
    (hs:adv C.tab C.n C.ks 400 s = .opn md ops ⟨some d,.call ⟨.builtin .append,#[x,y],#[T,U]⟩,ty,pos,af,g⟩ rest k l c []:=by rfl) (ht:C.tab.at T=some ⟨.slice e esz by',sz,ag,zr⟩:=by rfl)
    (hx:evc l c [] x=some (.slice none 0 0):=by rfl) (hy:evc l c [] y=some (I n):=by rfl) (hU:C.P.underlying U=some (.int kd):=by kernel_rfl) (hb:n*by'≤140737488355328:=by omega) (hsz:Nat.blt 0 esz=true:=by rfl) (hf:fresh d l c []=true:=by rfl) (hnt:notT md=true:=by rfl):Wk C s w:=by
  refine by_adv hs ⟨fun hT hfn => ?_⟩
  obtain ⟨dd,xx,zz,hTi⟩:=tiOk_und (tab_at hT ht)
  obtain ⟨rfl,hel⟩:=hTi.sl _ _ _ rfl
  obtain ⟨yi,zy,hyi,hys,hyb,hyz,hzc⟩:=elemOk_of hel
  have hpos:=blt_lt hsz
  have hns:Builtin.nextslicecap n 0=n:=nextslicecap_zero hn0
  have hrun:=Lib.run_append_grow_zeros (P:=C.P) w T U ty e yi zy .i64 kd hTi.und hU hyi hyz none 0 0 [] (by simp [Builtin.firstCells]) n hn0 (by rw [hys];exact hpos) (by omega) (by omega) (by rw [hyb];omega) (by rw [Nat.zero_add,hns,hyb];omega)
  rw [Nat.zero_add] at hrun
  have hge:=grownCap_ge w n 0 e
  have hcm:=grownCap_le_maxLen w n 0 e (by unfold maxLen;omega)
  obtain ⟨W',hW'⟩:∃ W',w.drew.alloc (.cells ([].toArray++Builtin.zeroCells zy.cells n++Builtin.zeroCells zy.cells (grownCap w n 0 e-n)) e)=W':=⟨_,rfl⟩
  rw [hW'] at hrun
  have hB:Bl w W':=by rw [←hW'];exact ((Below.refl _ _).drew).alloc (Nat.le_refl _) _
  have hO:Ow W' w.heap.size e esz (some ⟨w.heap.size,0,none⟩) 0 (grownCap w n 0 e) []:=by
    refine ⟨⟨by simp,.inr ⟨w.heap.size,_,[].toArray++Builtin.zeroCells zy.cells n++Builtin.zeroCells zy.cells (grownCap w n 0 e-n),rfl,Nat.le_refl _,?_,Nat.zero_le _,hcm,?_,by simp⟩⟩⟩
    · rw [←hW'];show (w.heap.push _)[w.heap.size]? = _;simp
    · have hz:zy.cells.size=esz:=hzc
      simp only [Array.size_append,size_zeroCells,hz]
      show 0+n*esz+_=_
      rw [Nat.zero_add,←Nat.add_mul];congr 1;omega
  refine (op_val0 (okW_of rfl hnt) (mdW_bl hB) (fun _ a hA => ?_) (h _ W' hO hge hB) rfl hf).run hT hfn
  simp only [execOp,resolve,List.map_toArray,List.map_cons,List.map_nil,evc_ok hA.k hA.kc.c (p:=[]) trivial hx,evc_ok hA.k hA.kc.c (p:=[]) trivial hy]
  show (Sem.bind (Sem.pure _) _).run C.P w=_
  simp only [Sem.bind,invoke,builtin]
  exact (run_bind_ok hrun).trans rfl
end
end Go.Proofs.YtkmdfjpafkcleaaGreatDoor.Eng
