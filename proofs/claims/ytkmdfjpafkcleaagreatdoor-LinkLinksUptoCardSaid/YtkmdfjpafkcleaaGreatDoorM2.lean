import Derived.Test.YtkmdfjpafkcleaaGreatDoorM1
import Derived.Lib.SplitLaws
import Derived.Lib.IndexBytes
import Derived.Lib.Split
import Derived.Test.YtkmdfjpafkcleaaGreatDoorShelf
import Derived.Test.YtkmdfjpafkcleaaGreatDoorCards
import Derived.Test.YtkmdfjpafkcleaaGreatDoorTie
import Derived.ProofKit
import Derived.OpenShut
import Derived.ShutString
import Derived.Deep.DeepHandedRow
import Derived.Lib.LaidTab
import Derived.Shelf.Vars
import Derived.Deep.Slices
import Derived.MapKept
/- strings.Split at a point is the cutting at points. No program stands here. -/
namespace Go.Proofs.YtkmdfjpafkcleaaGreatDoor
open Go
theorem ib_nat (l:List UInt8) (c:UInt8):Lib.indexByte l c = -1∨∃ i:Nat,Lib.indexByte l c=i:=by
 have:=Lib.indexByte_ge l c
 by_cases h:Lib.indexByte l c = -1
 ·exact .inl h
 ·exact .inr ⟨(Lib.indexByte l c).toNat,by omega⟩
theorem cut_miss:∀ (l:List UInt8),Lib.indexByte l 46 = -1->cutDot l=[l]/\l.count 46=0
 | [],_=>⟨rfl,rfl⟩
 | b::l,h=>by
  unfold Lib.indexByte at h
  by_cases hb:b=46
  ·subst hb;simp at h
  ·have hb':(b == 46)=false:=by simpa using hb
   rw [hb'] at h
   have h2:Lib.indexByte l 46 = -1:=by
    have:=Lib.indexByte_ge l 46
    by_cases h3:Lib.indexByte l 46 = -1
    ·exact h3
    ·have:(Lib.indexByte l 46 == -1)=false:=by simpa using h3
     rw [this] at h;simp at h;omega
   obtain ⟨e1,e2⟩:=cut_miss l h2
   exact ⟨by simp [cutDot,hb,e1],by rw [List.count_cons_of_ne (by simpa using hb),e2]⟩
theorem cut_hit:∀ (l:List UInt8) (i:Nat),Lib.indexByte l 46=i->cutDot l=l.take i::cutDot (l.drop (i+1))/\l.count 46=1+(l.drop (i+1)).count 46
 | [],i,h=>by simp [Lib.indexByte] at h
 | b::l,i,h=>by
  unfold Lib.indexByte at h
  by_cases hb:b=46
  ·subst hb
   simp at h
   have:i=0:=by omega
   subst this
   simp [cutDot];omega
  ·have hb':(b == 46)=false:=by simpa using hb
   rw [hb'] at h
   rcases ib_nat l 46 with h2 | ⟨j,h2⟩
   ·rw [h2] at h;simp at h
   ·have hne:(Lib.indexByte l 46 == -1)=false:=by rw [h2];simp
    rw [hne] at h
    simp only [Bool.false_eq_true,if_false] at h
    have:i=j+1:=by omega
    subst this
    obtain ⟨e1,e2⟩:=cut_hit l j h2
    refine ⟨?_,?_⟩
    ·simp only [cutDot,if_neg hb,e1,List.take_succ_cons,List.drop_succ_cons]
    ·rw [List.count_cons_of_ne (by simpa using hb),e2,List.drop_succ_cons]
theorem splitK_cut:∀ (k:Nat) (l:List UInt8),l.count 46=k->Lib.splitK [46] 0 k l=cutDot l
 | 0,l,h=>by
  rcases ib_nat l 46 with h2 | ⟨j,h2⟩
  ·rw [(cut_miss l h2).1];rfl
  ·have:=(cut_hit l j h2).2;omega
 | k+1,l,h=>by
  unfold Lib.splitK
  rw [Lib.index_one]
  rcases ib_nat l 46 with h2 | ⟨j,h2⟩
  ·have:=(cut_miss l h2).2;omega
  ·obtain ⟨e1,e2⟩:=cut_hit l j h2
   rw [h2,if_neg (by simp),e1,splitK_cut k _ (by simp at e2 ⊢;omega)]
   simp
def dotB:ByteArray:=⟨#[46]⟩
theorem split_parts (s:ByteArray):Lib.splitB dotB 0 (Lib.countB s dotB) s=partsB s/\Lib.countB s dotB+1=(partsB s).length:=by
 have hc:Lib.countB s dotB=s.data.toList.count 46:=Lib.count_one 46 s.data.toList
 have h:=Lib.splitB_data dotB 0 (Lib.countB s dotB) s
 have h2:Lib.splitK dotB.data.toList 0 (Lib.countB s dotB) s.data.toList=cutDot s.data.toList:=splitK_cut _ _ hc.symm
 rw [h2] at h
 have e:Lib.splitB dotB 0 (Lib.countB s dotB) s=partsB s:=by
  unfold partsB
  rw [<-h,List.map_map]
  have:(ofL ∘ fun x:ByteArray=>x.data.toList)=id:=funext fun x=>ofL_toL x
  rw [this,List.map_id]
 refine ⟨e,?_⟩
 have:∀ (k:Nat) (l:List UInt8),l.count 46=k->(cutDot l).length=k+1:=by
  intro k
  induction k with
  | zero =>
   intro l hl
   rcases ib_nat l 46 with h2 | ⟨j,h2⟩
   ·rw [(cut_miss l h2).1];rfl
   ·have:=(cut_hit l j h2).2;omega
  | succ k ih =>
   intro l hl
   rcases ib_nat l 46 with h2 | ⟨j,h2⟩
   ·have:=(cut_miss l h2).2;omega
   ·obtain ⟨e1,e2⟩:=cut_hit l j h2
    rw [e1,List.length_cons,ih _ (by omega)]
 rw [partsB_length,this _ _ rfl,hc]
end Go.Proofs.YtkmdfjpafkcleaaGreatDoor
namespace Go.Proofs.YtkmdfjpafkcleaaGreatDoor
open Eng Go.RowKit
def Gl (w:World):Prop:=∃ m,w.cell? ⟨0,0,none⟩=some (.int .i64 m)
theorem Gl.bl {w w':World} (h:Gl w) (k:Bl w w'):Gl w':=let ⟨m,hm⟩:=h;⟨m,k.kp T _ _ _ trivial hm⟩
theorem Gl.kp {w w':World} {S:Nat->Prop} (h:Gl w) (k:Kp S w w') (hs:S 0):Gl w':=let ⟨m,hm⟩:=h;⟨m,k _ _ _ hs hm⟩
theorem c_Split (s:ByteArray) (w:World) (hs:s.size<=1048576) (hG:Gl w):Ret Tryz.prog 196 #[.string s,.string dotB] w fun v w'=>∃ b n,v = .slice (some ⟨b,0,none⟩) (partsB s).length n/\(partsB s).length<=n/\Sl eStr T w' (some ⟨b,0,none⟩) (partsB s)/\Bl w w':=by
 obtain ⟨m,hm⟩:=hG
 refine ⟨by kernel_rfl,(Tryz.strings_Split s dotB m w (by omega) hm (by decide)).mono ?_⟩
 rintro e w' ⟨rfl,rfl⟩
 obtain ⟨e1,e2⟩:=split_parts s
 rw [e1,e2]
 have hl:=partsB_length s
 have hn:=cutDot_length s.data.toList
 rw [ba_len] at hn
 have hnew:New w w.heap.size 9 ((partsB s).map Value.string) (w.alloc (.cells ((partsB s).map Value.string).toArray 9)):=⟨rfl,rfl⟩
 refine ⟨_,_,rfl,Nat.le_refl _,?_,hnew.bl⟩
 have hO:=Ow.made (n:=(partsB s).length) (esz:=1) hnew (by simp) (by omega)
 exact hO.strs rfl (by omega) (fun _ _=>trivial)
theorem u_Path1 (s:ByteArray) (w:World) (hs:s.size<=1048576):Ret Tryz.prog 197 #[.string s] w fun v w'=>v = .bool (!simple s)/\Bl w w':=by
 refine entr (vs:=[.string s]) [0,2] tabok Tryz.func197 (by kernel_rfl) ?_
 refine cl (u_Simple s w hs) ?_
 rintro _ _ ⟨rfl,rfl⟩
 exact rt1 ⟨rfl,Bl.refl _⟩
theorem u_Path (s:ByteArray) (w:World) (hs:s.size<=1048576) (hG:Gl w):Ret Tryz.prog 141 #[.string s] w fun v w'=>v=I (path s)/\Bl w w':=by
 refine entr (vs:=[.string s]) [0,2,3,12] tabok Tryz.func141 (by kernel_rfl) ?_
 refine cl (c_Split s w hs hG) ?_
 rintro _ w1 ⟨b,n,rfl,hn,hS,hB⟩
 refine sp (.bool true) (fun h1 => ?_) (fun h1 => ?_)
 ·refine cl (ContainsFunc_str (partsB s) _ n 197 [] (fun x => !simple x) T w1 hS ?_) ?_
  ·rintro x _ hx w' _ rfl
   exact u_Path1 x w' (by have:=partsB_mem hx;omega)
  rintro _ w2 ⟨rfl,hB2⟩
  have h3:(partsB s).length<=3:=by have:=of_decide_eq_false h1;omega
  refine br (t:=(partsB s).any fun x => !simple x) (fun h => ?_) (fun h => ?_)
  ·refine rt1 ⟨?_,hB.trans hB2⟩
   rw [path_parts,if_neg]
   ·rfl
   rintro ⟨_,h2⟩
   obtain ⟨x,hx,h3⟩:=List.any_eq_true.1 h
   rw [List.all_eq_true.1 h2 x hx] at h3;cases h3
  ·refine rt1 ⟨?_,hB.trans hB2⟩
   rw [path_parts,if_pos]
   refine ⟨h3,List.all_eq_true.2 fun x hx => ?_⟩
   have:=List.any_eq_false.1 h x hx
   simpa using this
 ·refine brt ?_
  have h3:3<(partsB s).length:=by have:=of_decide_eq_true h1;omega
  refine rt1 ⟨?_,hB⟩
  rw [path_parts,if_neg (by omega)];rfl
end Go.Proofs.YtkmdfjpafkcleaaGreatDoor
namespace Go.Proofs.YtkmdfjpafkcleaaGreatDoor
open Eng Go.ChangeShapes Go.WideShapes Go.ChangeAt Go.RowKit
theorem own:ownKnob Tryz.prog.godebug=none:=by kernel_rfl
theorem kept_of_bl {W W':World} (h:Bl W W') (may:MemPlace->Prop):W.keptBut W' may:=by
 refine ⟨h.os,h.output,fun i hi => ?_⟩
 rw [h.block i hi]
 cases hw:W.heap[i]? with
 | none=>trivial
 | some o=>cases o <;> first | exact ⟨rfl,rfl,rfl,fun _ _=>rfl⟩ | exact .inr ⟨rfl,rfl⟩ | rfl | trivial
theorem frozen_bl {W W':World} (h:Bl W W') {b off:Nat} (hb:b<W.heap.size):W'.frozen? ⟨b,off,none⟩=W.frozen? ⟨b,off,none⟩:=by simp only [World.frozen?,h.block b hb]
variable {H:Type} {enc:TypeId×Value->H} {P:Program}
theorem post_of_bl {f:Func} {s:ChangeSpec} {apart fresh handsOn again:Bool} {W W':World} {args:Array Value} {v:Value} {ds gs:List (DataW H)} {before pa pv:List MemPlace}
  (hW:DataW.Whole enc P f.params.toList s.vars apart W args.toList ds gs before)
  (hres:∀ (b:Nat) (sp:Nat->Bool) (hd:Bool),DataW.TrodAll enc P W' b sp hd f.resultTypes.toList (v.resultList f.resultTypes.size) (s.fn H (ds++gs)).results [])
  (hargs:∀ sp:Nat->Bool,(∀ p∈before,sp p.block=true)->DataW.TrodAll enc P W' 0 sp true f.params.toList args.toList (s.fn H (ds++gs)).args pa)
  (hvars:∀ sp:Nat->Bool,(∀ p∈before,sp p.block=true)->DataW.TrodVars enc P W' sp s.vars (s.fn H (ds++gs)).vars pv)
  (hps:before=pa++pv) (hB:Bl W W')
  (hok:∀ (j:Nat) (t:TypeId) (r:Value),f.resultTypes[j]? = some t->(v.resultList f.resultTypes.size)[j]? = some r->Value.okWide P W' .any 0 t r) :
  s.post enc P f apart fresh handsOn again W args v W':=by
 have hlt:=hW.lt
 have hold:∀ p∈before,(fun b=>decide (b<W.heap.size)) p.block=true:=fun p hp=>by simpa using hlt p hp
 refine ⟨ds,gs,before,[],pa,pv,hW,hres _ _ _,hargs _ hold,hvars _ hold,World.keptBut_mono (fun p hp=>⟨hp,?_⟩) (kept_of_bl hB (· ∈ before)),fun _ => ?_⟩
 ·rw [hps,List.mem_append] at hp
  exact Or.inr hp
 ·obtain ⟨_,_,_,_,_,hz,hn⟩:=hW
  refine ⟨hok,_,_,([]++pa)++pv,⟨[]++pa,pv,trodAll_append (hargs _ (fun _ _=>rfl)) (hres _ _ _),hvars _ (fun _ _=>rfl),rfl,?_,?_⟩,?_⟩
  ·intro b off hp
   have hp':MemPlace.cell b off∈before:=by rw [hps];simpa using hp
   rw [frozen_bl hB (b:=b) (show b<W.heap.size from hlt _ hp')]
   exact hz b off hp'
  ·intro ha
   have:=hn ha
   rw [hps] at this
   simpa using this
  ·intro p hp _
   rw [hps]
   simpa using hp
theorem calls_of_ret {f:FuncId} {args:Array Value} {w:World} {Q:Value->World->Prop} (h:Ret P f args w Q):Calls P f args w fun e w'=>∃ v,e = .returned v/\Q v w':=h.run.mono fun e w' r=>by
 cases e with
 | returned v=>exact ⟨v,rfl,r⟩
 | panicked ch=>exact r.elim
 | outgrown=>exact r.elim
theorem gl_of {W:World} (h:W.ShapedOpen Tryz.prog):Gl W :=
 cell_of_shapedOpen_int (P:=Tryz.prog) (g:=0) (t:=3) (zero:=#[.int .i64 0]) h (of_decide_eq_true (by kernel_rfl)) (by kernel_rfl) rfl (by kernel_rfl) (by kernel_rfl) Tryz.underlying3
def fillO (cs:List Nat):Obj->Obj
 | .cells _ t frozen => .cells (cs.map fun n:Nat=>Value.int .u8 (n:Int)).toArray t frozen
 | o=>o
noncomputable def laidWorld (os:Os):World :=
 {World.holding Tryz.prog os ⟨#[],#[],[]⟩ with
  heap:=((World.holding Tryz.prog os ⟨#[],#[],[]⟩).heap.modify 1 (fillO Pinned.utf8FirstZ)).modify 2 (fillO [128,191,160,191,128,159,144,191,128,143,0,0,0,0,0,0,0,0,0,0,0,0,0,0,0,0,0,0,0,0,0,0]) }
theorem small_le {H:Type} {ds:List (DataW H)} (h:Rows.uptoSmall H ds=true):Rows.uptoBulkAll ds<=1048576:=of_decide_eq_true h
end Go.Proofs.YtkmdfjpafkcleaaGreatDoor
namespace Go.Proofs.YtkmdfjpafkcleaaGreatDoor
open Eng Go.ChangeShapes Go.WideShapes Go.ChangeAt Go.RowKit
theorem bulk_one {H:Type} (d:DataW H):1<=Rows.uptoBulk d:=by
 cases d with
 | lit l=>cases l <;> simp [Rows.uptoBulk]
 | nil=>simp [Rows.uptoBulk]
 | ptr d=>simp [Rows.uptoBulk]
 | slice elems spare=>simp [Rows.uptoBulk]
 | agg parts=>simp [Rows.uptoBulk]
 | iface t d=>simp [Rows.uptoBulk]
 | map entries=>simp [Rows.uptoBulk]
 | held h=>simp [Rows.uptoBulk]
theorem bulk_part {H:Type} {d:DataW H} {l:List (DataW H)} (h:d∈l):Rows.uptoBulk d<=Rows.uptoBulkAll l:=by
 induction l with
 | nil=>cases h
 | cons x r ih =>
  simp only [Rows.uptoBulkAll]
  cases List.mem_cons.1 h with
  | inl e=>subst e;omega
  | inr e=>have:=ih e;omega
theorem bulk_len {H:Type} (l:List (DataW H)):l.length<=Rows.uptoBulkAll l:=by
 induction l with
 | nil=>simp [Rows.uptoBulkAll]
 | cons x r ih=>have:=bulk_one x;simp only [Rows.uptoBulkAll,List.length_cons];omega
theorem list_of {α:Type} {p:Nat->α->Prop}:∀ {n:Nat},(∀ i,i<n->∃ x,p i x)->∃ l:List α,l.length=n/\∀ i x,l[i]? = some x->p i x
 | 0,_=>⟨[],rfl,fun i x h=>by simp at h⟩
 | n+1,hel=>by
  obtain ⟨l,e1,e2⟩:=list_of (n:=n) fun i hi=>hel i (by omega)
  obtain ⟨x,h1⟩:=hel n (by omega)
  refine ⟨l++[x],by simp [e1],fun i y hy => ?_⟩
  rcases Nat.lt_or_ge i l.length with q | q
  ·rw [List.getElem?_append_left q] at hy
   exact e2 i y hy
  ·rw [List.getElem?_append_right q] at hy
   rcases Nat.eq_zero_or_pos (i-l.length) with h0 | h0
   ·rw [h0] at hy
    simp at hy
    subst hy
    obtain rfl:i=n:=by omega
    exact h1
   ·rw [List.getElem?_eq_none (by simp;omega)] at hy
    cases hy
section
variable {H:Type} {enc:TypeId×Value->H} {P:Program} {w:World} {base:Nat} {sp:Nat->Bool} {hd:Bool}
def Reads (enc:TypeId×Value->H) (P:Program) (w:World) (base:Nat) (sp:Nat->Bool) (hd:Bool) (t:TypeId) (R:List Value->Prop):Prop :=
 ∀ (n:Nat) (cs:List Value) (y:DataW H×List MemPlace),DataW.trod enc P w base sp hd n t cs=some y->Rows.uptoBulk y.1<=1048576->R cs
theorem reads_int {t:TypeId} (ht:P.underlying t=some (.int .i64)):Reads enc P w base sp hd t fun cs=>∃ n,cs=[I n]:=fun n cs y h _=>by
 obtain ⟨n,rfl,_⟩:=DataW.trod_int ht h
 exact ⟨n,rfl⟩
theorem reads_str {t:TypeId} (ht:P.underlying t=some .string):Reads enc P w base sp hd t fun cs=>∃ s:ByteArray,cs=[.string s]/\s.size<=1048576:=fun n cs y h hb=>by
 obtain ⟨s,rfl,rfl,_⟩:=DataW.trod_string ht h
 refine ⟨s,rfl,?_⟩
 simp only [Rows.uptoBulk] at hb
 have:=ba_len s
 omega
theorem reads_fields {t:TypeId} {L:List (TypeId×Nat)} (ht:P.underlying t=some (.struct (P.fieldsOf t))) (hm:((P.fieldsOf t).toList.map fun f=>(f.type,f.offset))=L) {n:Nat} {cs:List Value} {y:DataW H×List MemPlace}
  (h:DataW.trod enc P w base sp hd n t cs=some y) (hb:Rows.uptoBulk y.1<=1048576):cs.length=P.cellsOf t/\∀ q∈L,∀ R:List Value->Prop,Reads enc P w base sp hd q.1 R->R ((cs.drop q.2).take (P.cellsOf q.1)):=by
 obtain ⟨xs,m,rfl,rfl,h1,h2,h3⟩:=DataW.trod_struct ht h
 refine ⟨h1,fun q hq R hR => ?_⟩
 rw [<-hm] at hq
 obtain ⟨f,hf,rfl⟩:=List.mem_map.1 hq
 obtain ⟨i,hi⟩:=List.mem_iff_getElem?.1 hf
 rw [Array.getElem?_toList] at hi
 have h4:=h3 i f hi
 have hlt:i<xs.length:=by
  rw [h2]
  rcases Nat.lt_or_ge i (P.fieldsOf t).size with h5 | h5
  ·exact h5
  ·rw [Array.getElem?_eq_none h5] at hi;cases hi
 rw [List.getElem?_eq_getElem hlt] at h4
 refine hR m _ _ h4 ?_
 have:xs[i].1∈xs.map (·.1):=List.mem_map_of_mem (List.getElem_mem hlt)
 have:=bulk_part this
 simp only [Rows.uptoBulk] at hb
 omega
theorem reads_sliceC {α:Type} {E:El α} {t e:TypeId} (ht:P.underlying t=some (.slice e)) (hc:P.cellsOf e=E.sz) (hpos:0<E.sz) (hE:Reads enc P w base sp hd e fun cs=>∃ x,E.rel T w cs x) :
  Reads enc P w base sp hd t fun cs=>∃ (a:Option Addr) (l:List α) (cap:Nat),cs=[.slice a l.length cap]/\Sl E T w a l/\l.length<=cap:=fun n cs y h hb=>by
 rcases Deep.open_slice ht h with ⟨rfl,rfl⟩ | ⟨a,len,cap,m,k,D,Pl,rfl,_,hl,_,hm,rfl,hx⟩
 ·exact ⟨none,[],0,rfl,Sl.nil ..,Nat.le_refl _⟩
 ·have hle:len<=m:=by rw [hm];split <;> omega
  simp only [Rows.uptoBulk] at hb
  have hlen:len<=1048576:=by
   have:=bulk_len ((List.range len).map D)
   rw [List.length_map,List.length_range] at this
   omega
  obtain ⟨l,hl2,hl3⟩:=list_of (n:=len) (p:=fun i (x:α)=>∃ cs',w.cells? base (a.add (i*E.sz)) E.sz=some cs'/\E.rel T w cs' x) fun i hi=>by
   obtain ⟨cs',h1,h2⟩:=hx i (by omega)
   rw [hc] at h1
   obtain ⟨x,hr⟩:=hE k cs' _ h2 (by
    have:D i∈(List.range len).map D:=List.mem_map_of_mem (List.mem_range.2 hi)
    have:=bulk_part this
    show Rows.uptoBulk (D i)<=1048576
    omega)
   exact ⟨x,cs',h1,hr⟩
  obtain ⟨b,o,s⟩:=a
  refine ⟨some ⟨b,o,s⟩,l,cap,by rw [hl2],⟨by omega,fun i x hx => ?_⟩,by omega⟩
  obtain ⟨cs',h1,h2⟩:=hl3 i x hx
  obtain ⟨_,h3,h4⟩:=World.cells?_some h1
  have hs:s=none:=by
   obtain ⟨x0,e0⟩:=some_of_lt (l:=l) (k:=0) (by have:=(List.getElem?_eq_some_iff.1 hx).1;omega)
   obtain ⟨cs0,g1,_⟩:=hl3 0 x0 e0
   obtain ⟨_,g3,g4⟩:=World.cells?_some g1
   have h5:=g4 0 hpos
   rw [List.getElem?_eq_getElem (by omega)] at h5
   have:=World.cell?_spot h5
   simpa [Addr.add] using this
  subst hs
  refine ⟨b,o,cs',rfl,trivial,fun j v hj => ?_,h2⟩
  have hj':j<E.sz:=by rw [<-h3];exact (List.getElem?_eq_some_iff.1 hj).1
  have:=h4 j hj'
  rw [hj] at this
  rw [<-this,Deep.add_add]
  congr 1
  simp only [Addr.add]
  split <;> simp <;> omega
theorem reads_slice {α:Type} {E:El α} {t e:TypeId} (ht:P.underlying t=some (.slice e)) (hc:P.cellsOf e=E.sz) (hpos:0<E.sz) (hE:Reads enc P w base sp hd e fun cs=>∃ x,E.rel T w cs x) :
  Reads enc P w base sp hd t fun cs=>∃ (a:Option Addr) (l:List α) (cap:Nat),cs=[.slice a l.length cap]/\Sl E T w a l:=fun n cs y h hb=>by
 obtain ⟨a,l,cap,h1,h2,_⟩:=reads_sliceC ht hc hpos hE n cs y h hb
 exact ⟨a,l,cap,h1,h2⟩
end
section
variable {H:Type} {enc:TypeId×Value->H} {w:World} {base:Nat} {sp:Nat->Bool} {hd:Bool}
set_option maxRecDepth 100000 in
theorem rd_ty:Reads enc Tryz.prog w base sp hd 77 fun cs=>∃ x,eTy.rel T w cs x:=fun n cs y h hb=>by
 obtain ⟨h1,h2⟩:=reads_fields (L:=[(3,0),(3,1)]) (by kernel_rfl) (by kernel_rfl) h hb
 rw [show Tryz.prog.cellsOf 77=2 by kernel_rfl] at h1
 match cs,h1 with
 | [c0,c1],_ =>
  obtain ⟨a,ea⟩:=h2 (3,0) (by simp) _ (reads_int (by kernel_rfl))
  obtain ⟨b,eb⟩:=h2 (3,1) (by simp) _ (reads_int (by kernel_rfl))
  simp only [show Tryz.prog.cellsOf 3=1 by kernel_rfl,List.drop,List.take,List.cons.injEq,and_true] at ea eb
  subst ea eb
  exact ⟨⟨a,b⟩,rfl⟩
set_option maxRecDepth 100000 in
theorem rd_ins:Reads enc Tryz.prog w base sp hd 120 fun cs=>∃ x,eIns.rel T w cs x:=fun n cs y h hb=>by
 obtain ⟨h1,h2⟩:=reads_fields (L:=[(3,0),(3,1),(3,2)]) (by kernel_rfl) (by kernel_rfl) h hb
 rw [show Tryz.prog.cellsOf 120=3 by kernel_rfl] at h1
 match cs,h1 with
 | [c0,c1,c2],_ =>
  obtain ⟨a,ea⟩:=h2 (3,0) (by simp) _ (reads_int (by kernel_rfl))
  obtain ⟨b,eb⟩:=h2 (3,1) (by simp) _ (reads_int (by kernel_rfl))
  obtain ⟨c,ec⟩:=h2 (3,2) (by simp) _ (reads_int (by kernel_rfl))
  simp only [show Tryz.prog.cellsOf 3=1 by kernel_rfl,List.drop,List.take,List.cons.injEq,and_true] at ea eb ec
  subst ea eb ec
  exact ⟨⟨a,b,c⟩,rfl⟩
set_option maxRecDepth 100000 in
theorem rd_fld:Reads enc Tryz.prog w base sp hd 81 fun cs=>∃ x,eFld.rel T w cs x:=fun n cs y h hb=>by
 obtain ⟨h1,h2⟩:=reads_fields (L:=[(3,0),(77,1)]) (by kernel_rfl) (by kernel_rfl) h hb
 rw [show Tryz.prog.cellsOf 81=3 by kernel_rfl] at h1
 match cs,h1 with
 | [c0,c1,c2],_ =>
  obtain ⟨a,ea⟩:=h2 (3,0) (by simp) _ (reads_int (by kernel_rfl))
  obtain ⟨t,et⟩:=h2 (77,1) (by simp) _ rd_ty
  simp only [show Tryz.prog.cellsOf 3=1 by kernel_rfl,show Tryz.prog.cellsOf 77=2 by kernel_rfl,List.drop,List.take,List.cons.injEq,and_true] at ea et
  subst ea
  simp only [eTy,plainEl,encTy,List.cons.injEq,and_true] at et
  obtain ⟨rfl,rfl⟩:=et
  exact ⟨⟨a,t⟩,rfl⟩
theorem rd_str:Reads enc Tryz.prog w base sp hd 9 fun cs=>∃ x:ByteArray,(cs=encStr x/\x.size<=1048576):=fun n cs y h hb=>by
 obtain ⟨s,rfl,hs⟩:=reads_str (by kernel_rfl) n cs y h hb
 exact ⟨s,rfl,hs⟩
set_option maxRecDepth 100000 in
theorem rd_cls:Reads enc Tryz.prog w base sp hd 75 fun cs=>∃ x,eCls.rel T w cs x:=fun n cs y h hb=>by
 obtain ⟨h1,h2⟩:=reads_fields (L:=[(3,0),(3,1),(35,2)]) (by kernel_rfl) (by kernel_rfl) h hb
 rw [show Tryz.prog.cellsOf 75=3 by kernel_rfl] at h1
 match cs,h1 with
 | [c0,c1,c2],_ =>
  obtain ⟨a,ea⟩:=h2 (3,0) (by simp) _ (reads_int (by kernel_rfl))
  obtain ⟨b,eb⟩:=h2 (3,1) (by simp) _ (reads_int (by kernel_rfl))
  obtain ⟨ad,l,cap,ec,hl⟩:=h2 (35,2) (by simp) _ (reads_slice (by kernel_rfl) (by kernel_rfl) (by decide) rd_fld)
  simp only [show Tryz.prog.cellsOf 3=1 by kernel_rfl,show Tryz.prog.cellsOf 35=1 by kernel_rfl,List.drop,List.take,List.cons.injEq,and_true] at ea eb ec
  subst ea eb ec
  exact ⟨⟨a,b,l⟩,ad,cap,rfl,hl⟩
set_option maxRecDepth 100000 in
theorem rd_mth:Reads enc Tryz.prog w base sp hd 79 fun cs=>∃ x,eMth.rel T w cs x:=fun n cs y h hb=>by
 obtain ⟨h1,h2⟩:=reads_fields (L:=[(3,0),(3,1),(76,2),(76,3),(77,4),(52,6)]) (by kernel_rfl) (by kernel_rfl) h hb
 rw [show Tryz.prog.cellsOf 79=7 by kernel_rfl] at h1
 match cs,h1 with
 | [c0,c1,c2,c3,c4,c5,c6],_ =>
  obtain ⟨a,ea⟩:=h2 (3,0) (by simp) _ (reads_int (by kernel_rfl))
  obtain ⟨b,eb⟩:=h2 (3,1) (by simp) _ (reads_int (by kernel_rfl))
  obtain ⟨a1,l1,k1,e1,s1⟩:=h2 (76,2) (by simp) _ (reads_slice (by kernel_rfl) (by kernel_rfl) (by decide) rd_ty)
  obtain ⟨a2,l2,k2,e2,s2⟩:=h2 (76,3) (by simp) _ (reads_slice (by kernel_rfl) (by kernel_rfl) (by decide) rd_ty)
  obtain ⟨t,et⟩:=h2 (77,4) (by simp) _ rd_ty
  obtain ⟨a3,l3,k3,e3,s3⟩:=h2 (52,6) (by simp) _ (reads_slice (by kernel_rfl) (by kernel_rfl) (by decide) rd_ins)
  simp only [show Tryz.prog.cellsOf 3=1 by kernel_rfl,show Tryz.prog.cellsOf 77=2 by kernel_rfl,show Tryz.prog.cellsOf 76=1 by kernel_rfl,show Tryz.prog.cellsOf 52=1 by kernel_rfl,List.drop,List.take,List.cons.injEq,and_true] at ea eb e1 e2 e3 et
  subst ea eb e1 e2 e3
  simp only [eTy,plainEl,encTy,List.cons.injEq,and_true] at et
  obtain ⟨rfl,rfl⟩:=et
  exact ⟨⟨a,b,l1,l2,t,l3⟩,a1,k1,a2,k2,a3,k3,rfl,s1,s2,s3⟩
def eStr':El ByteArray :=
 {sz:=1,rel:=fun _ _ cs x=>cs=encStr x/\x.size<=1048576,len:=fun e=>by rw [e.1];rfl,kp:=fun _ e=>e,sub:=fun _ e=>e }
set_option maxRecDepth 100000 in
theorem rd_strs:Reads enc Tryz.prog w base sp hd 33 fun cs=>∃ (a:Option Addr) (l:List ByteArray) (cap:Nat),cs=[.slice a l.length cap]/\Sl eStr T w a l/\∀ s∈l,s.size<=1048576:=fun n cs y h hb=>by
 obtain ⟨a,l,cap,e,hl⟩:=reads_slice (E:=eStr') (by kernel_rfl) (by kernel_rfl) (by decide) rd_str n cs y h hb
 refine ⟨a,l,cap,e,⟨hl.big,fun i x hx => ?_⟩,fun s hs => ?_⟩
 ·obtain ⟨b,o,cs,e,hb,hat,hr⟩:=hl.el i x hx
  exact ⟨b,o,cs,e,hb,hat,hr.1⟩
 ·obtain ⟨i,hi⟩:=List.mem_iff_getElem?.1 hs
  obtain ⟨b,o,cs,e,hb,hat,hr⟩:=hl.el i s hi
  exact hr.2
set_option maxRecDepth 100000 in
theorem rd_unit:Reads enc Tryz.prog w base sp hd 38 fun cs=>∃ (u:Unt) (a:UA),cs=ucells u a/\UnR T w u a:=fun n cs y h hb=>by
 obtain ⟨h1,h2⟩:=reads_fields (L:=[(9,0),(33,1),(34,2),(35,3),(36,4)]) (by kernel_rfl) (by kernel_rfl) h hb
 rw [show Tryz.prog.cellsOf 38=5 by kernel_rfl] at h1
 match cs,h1 with
 | [c0,c1,c2,c3,c4],_ =>
  obtain ⟨s,es,hs⟩:=h2 (9,0) (by simp) _ rd_str
  obtain ⟨a1,l1,k1,e1,s1,p1⟩:=h2 (33,1) (by simp) _ rd_strs
  obtain ⟨a2,l2,k2,e2,s2⟩:=h2 (34,2) (by simp) _ (reads_slice (by kernel_rfl) (by kernel_rfl) (by decide) rd_cls)
  obtain ⟨a3,l3,k3,e3,s3⟩:=h2 (35,3) (by simp) _ (reads_slice (by kernel_rfl) (by kernel_rfl) (by decide) rd_fld)
  obtain ⟨a4,l4,k4,e4,s4⟩:=h2 (36,4) (by simp) _ (reads_slice (by kernel_rfl) (by kernel_rfl) (by decide) rd_mth)
  simp only [show Tryz.prog.cellsOf 9=1 by kernel_rfl,show Tryz.prog.cellsOf 33=1 by kernel_rfl,show Tryz.prog.cellsOf 34=1 by kernel_rfl,show Tryz.prog.cellsOf 35=1 by kernel_rfl,show Tryz.prog.cellsOf 36=1 by kernel_rfl,List.drop,List.take,List.cons.injEq,and_true] at es e1 e2 e3 e4
  subst es e1 e2 e3 e4
  exact ⟨⟨s,l1,l2,l3,l4⟩,⟨a1,k1,a2,k2,a3,k3,a4,k4⟩,rfl,⟨hs,p1,s1,s2,s3,s4⟩⟩
end
theorem prog_kids:Kids Tryz.prog (· < Tryz.prog.types.size):=kids_rows (by kernel_rfl) (by kernel_rfl)
theorem prog_full:∀ t e,t<Tryz.prog.types.size->Tryz.prog.underlying t=some (.slice e)->0<Tryz.prog.cellsOf e:=slices_full_of Tryz.prog (by kernel_rfl)
theorem same_bl {W W':World} (h:Bl W W') {p:MemPlace} (hp:p.block<W.heap.size):W.sameAt W' p:=by
 cases p with
 | cell b o=>exact World.cell?_of_block (w:=W) (h.block b hp)
 | map b=>exact h.block b hp
theorem all_bl {H:Type} {enc:TypeId×Value->H} {P:Program} {W W':World} {base:Nat} {sp:Nat->Bool} {hd:Bool} (h:Bl W W'):∀ {ts:List TypeId} {vs:List Value} {ds:List (DataW H)} {ps:List MemPlace},(∀ p∈ps,p.block<W.heap.size) ->
  DataW.TrodAll enc P W base sp hd ts vs ds ps->DataW.TrodAll enc P W' base sp hd ts vs ds ps
 | [],[],[],_,_,h1=>h1
 | _::_,_::_,_::_,_,hp,⟨p,q,⟨n,h1⟩,h2,e⟩ =>
  ⟨p,q,⟨n,DataW.trod_carry n _ _ _ h1 fun x hx=>same_bl h (hp x (by rw [e];exact List.mem_append_left _ hx))⟩,all_bl h (fun x hx=>hp x (by rw [e];exact List.mem_append_right _ hx)) h2,e⟩
set_option maxRecDepth 100000 in
theorem post_law {H:Type} {enc:TypeId×Value->H} {f:Func} {s:ChangeSpec} {W W':World} {args:Array Value} {ds gs:List (DataW H)} {before:List MemPlace} (hW:DataW.Whole enc Tryz.prog f.params.toList s.vars false W args.toList ds gs before)
  (hv:s.vars=[]) (hs:∀ gs',gs'=[]->(s.fn H (ds++gs')).results=[.lit (.bool true)]/\(s.fn H (ds++gs')).args=ds/\(s.fn H (ds++gs')).vars=[]) (hpar:∀ t∈f.params.toList,t<Tryz.prog.types.size) (hr:f.resultTypes=#[4]) (hB:Bl W W') :
  s.post enc Tryz.prog f false true false false W args (.bool true) W':=by
 have hW0:=hW
 have hlt:=hW.lt
 obtain ⟨p,q,hA,hV,rfl,_⟩:=hW
 rw [hv] at hV
 obtain ⟨rfl,rfl⟩:=trodVars_none hV
 obtain ⟨h1,h2,h3⟩:=hs [] rfl
 have hA':=all_bl hB (fun x hx=>hlt x (List.mem_append_left _ hx)) hA
 refine post_of_bl (pa:=p) (pv:=[]) hW0 (fun _ _ _ => ?_) (fun sp hsp => ?_) (fun _ _ => ?_) rfl hB (ok_one hr rfl (okWide_bool_mk Tryz.underlying4 _))
 ·rw [h1,hr]
  exact trodAll_cons_mk (shut_bool Tryz.underlying4 _) trodAll_mk0
 ·rw [h2]
  exact DataW.TrodAll.respare prog_kids prog_full hpar hA' (fun x hx=>hsp x (List.mem_append_left _ hx))
 ·rw [h3,hv];rfl
end Go.Proofs.YtkmdfjpafkcleaaGreatDoor
namespace Go.Proofs.YtkmdfjpafkcleaaGreatDoor
open Go Go.RowKit Eng
abbrev Mp (α:Type):=List (ByteArray×α)
def getM {α:Type}:Mp α->ByteArray->Option α
 | [],_=>none
 | (k',v)::m,k=>if k'=k then some v else getM m k
def putM {α:Type}:Mp α->ByteArray->α->Mp α
 | [],k,v=>[(k,v)]
 | (k',v')::m,k,v=>if k'=k then (k,v)::m else (k',v')::putM m k v
def hasM {α:Type} (m:Mp α) (k:ByteArray):Bool:=(getM m k).isSome
def keysM {α:Type} (m:Mp α):List ByteArray:=m.map (·.1)
abbrev kv (e:MapEntry):Value×Value:=(e.key,e.val)
abbrev kvm {α:Type} (enc:α->Value) (p:ByteArray×α):Value×Value:=(.string p.1,enc p.2)
structure MapIs {α:Type} (enc:α->Value) (w:World) (b:Nat) (m:Mp α):Prop where
 is:∃ es clock,w.heap[b]? = some (.map es clock)/\es.toList.map kv=m.map (kvm enc)/\MapKept.Stamped es clock
theorem MapIs.lt {α:Type} {enc:α->Value} {w:World} {b:Nat} {m:Mp α} (h:MapIs enc w b m):b<w.heap.size:=by
 obtain ⟨es,clock,h1,_⟩:=h.is
 exact (Array.getElem?_eq_some_iff.1 h1).1
theorem MapIs.same {α:Type} {enc:α->Value} {w w':World} {b:Nat} {m:Mp α} (h:MapIs enc w b m) (hs:w'.heap[b]? = w.heap[b]?):MapIs enc w' b m:=by
 obtain ⟨es,clock,h1,h2⟩:=h.is
 exact ⟨⟨es,clock,hs.trans h1,h2⟩⟩
theorem MapIs.bl {α:Type} {enc:α->Value} {w w':World} {b:Nat} {m:Mp α} (h:MapIs enc w b m) (k:Bl w w'):MapIs enc w' b m:=h.same (k.block b h.lt)
theorem MapIs.wr {α:Type} {enc:α->Value} {w w':World} {b c:Nat} {m:Mp α} (h:MapIs enc w b m) (k:Wr w c w') (hb:b≠c):MapIs enc w' b m:=h.same (k.block b hb)
theorem MapIs.ap {α:Type} {enc:α->Value} {w w':World} {b:Nat} {a:Option Addr} {m:Mp α} (h:MapIs enc w b m) (k:Ap w a w') (hb:a≠some ⟨b,0,none⟩):MapIs enc w' b m:=h.same (k.block b h.lt hb)
theorem MapIs.ne {α:Type} {enc:α->Value} {w:World} {b c:Nat} {m:Mp α} {t:TypeId} {cs:List Value} (h:MapIs enc w b m) (hb:Box w c t cs):b≠c:=by
 rintro rfl
 obtain ⟨es,clock,h1,_⟩:=h.is
 unfold Box at hb
 rw [h1] at hb;cases hb
theorem MapIs.ow {α:Type} {enc:α->Value} {w:World} {b base e esz n cap:Nat} {a:Option Addr} {xs:List Value} {m:Mp α} (h:MapIs enc w b m) (hO:Ow w base e esz a n cap xs):a≠some ⟨b,0,none⟩:=by
 rintro rfl
 obtain ⟨cur,hb,_⟩:=hO.box
 exact h.ne hb rfl
theorem keys_nodup {α:Type} {enc:α->Value} {w:World} {b:Nat} {m:Mp α} (h:MapIs enc w b m):(keysM m).Nodup:=by
 obtain ⟨es,clock,_,h2,h3⟩:=h.is
 have e:es.toList.map (·.key)=(keysM m).map Value.string:=by
  have:=congrArg (List.map Prod.fst) h2
  simp only [List.map_map] at this
  unfold keysM
  rw [List.map_map];exact this
 have:=h3.2.2
 rw [e] at this
 exact List.Pairwise.of_map (f:=Value.string) (fun a b hab e=>hab (congrArg _ e)) this
theorem MapIs.len {α:Type} {enc:α->Value} {w:World} {b:Nat} {m:Mp α} (h:MapIs enc w b m):∃ es clock,w.heap[b]? = some (.map es clock)/\es.size=m.length:=by
 obtain ⟨es,clock,h1,h2,_⟩:=h.is
 refine ⟨es,clock,h1,?_⟩
 have:=congrArg List.length h2
 simpa using this
theorem same_str (a b:ByteArray):Instr.sameNow .string (.string a) (.string b)=some (decide (a=b)):=by
 have:(a == b)=decide (a=b):=by
  by_cases h:a=b
  ·rw [decide_eq_true h];exact (MapKept.bytes_beq _ _).2 h
  ·rw [decide_eq_false h,<-Bool.not_eq_true];exact fun q=>h ((MapKept.bytes_beq _ _).1 q)
 exact congrArg some this
theorem findNow_ok {α:Type} {enc:α->Value} (k:ByteArray):∀ (L:List MapEntry) (m:Mp α) (i:Nat),L.map kv=m.map (kvm enc) ->
  (getM m k=none/\Instr.findNow .string (.string k) L i=some none/\(∀ x∈L,x.key ≠ .string k)/\∀ v,putM m k v=m++[(k,v)]) ∨
  ∃ v j,getM m k=some v/\Instr.findNow .string (.string k) L i=some (some (i+j,enc v))/\(∃ e,L[j]? = some e/\e.key = .string k) /\
   ∀ v',(L.modify j fun e=>{ e with key := .string k,val:=enc v' }).map kv=(putM m k v').map (kvm enc)
 | [],[],i,_ => .inl ⟨rfl,rfl,by simp,fun v=>rfl⟩
 | [],_::_,i,h=>by simp at h
 | _::_,[],i,h=>by simp at h
 | e::L,(k',v0)::m,i,h=>by
  simp only [List.map_cons,List.cons.injEq,Prod.mk.injEq] at h
  obtain ⟨⟨hk,hv⟩,hr⟩:=h
  simp only [getM,putM,Instr.findNow,hk,same_str]
  by_cases hkk:k'=k
  ·subst hkk
   refine .inr ⟨v0,0,by simp,by simp [hv],⟨e,rfl,hk⟩,fun v' => ?_⟩
   simp [hr]
  ·have hkk':¬k=k':=fun e=>hkk e.symm
   simp only [if_neg hkk,decide_eq_false hkk']
   rcases findNow_ok k L m (i+1) hr with ⟨h1,h2,h3,h4⟩ | ⟨v,j,h1,h2,⟨e',h3,h3'⟩,h4⟩
   ·refine .inl ⟨h1,h2,fun x hx => ?_,fun v=>by rw [h4];rfl⟩
    rcases List.mem_cons.1 hx with rfl | hx
    ·rw [hk];intro q;exact hkk (Value.string.inj q)
    ·exact h3 x hx
   ·refine .inr ⟨v,j+1,h1,by rw [h2];congr 3;omega,⟨e',by simpa using h3,h3'⟩,fun v' => ?_⟩
    rw [List.modify_succ_cons,List.map_cons,h4]
    simp [hk,hv]
structure MapT (P:Program) (T et:TypeId) (z:Value):Prop where
 kt:∃ kt,P.underlying T=some (.map kt et)/\P.underlying kt=some .string
 zero:∀ w,(zeroValue et).run P w = .ok z w
theorem getObj_run {P:Program} {w:World} {b:Nat} {es:Array MapEntry} {clock:Nat} (h:w.heap[b]? = some (.map es clock)):(getObj b).run P w = .ok (.map es clock) w:=by
 simp only [getObj,Sem.run,h]
theorem setObj_run {P:Program} {w:World} {b:Nat} {es es':Array MapEntry} {clock clock':Nat} (h:w.heap[b]? = some (.map es clock)):(setObj b (.map es' clock')).run P w = .ok () { w with heap:=w.heap.setIfInBounds b (.map es' clock') }:=by
 simp only [setObj,Sem.run,h]
theorem checkKey_run {P:Program} {w:World} {kt:TypeId} {e:Bool} {n:Nat} {s:ByteArray} (h:P.underlying kt=some .string):(Instr.checkKey e (n+1) kt (.string s)).run P w = .ok () w:=by
 unfold Instr.checkKey
 rw [run_bind_ok (und_run h w)];rfl
theorem look_run {P:Program} {T et:TypeId} {z:Value} (ht:MapT P T et z) {α:Type} {enc:α->Value} {w:World} {b:Nat} {m:Mp α} (h:MapIs enc w b m) (k:ByteArray) (ok:Bool) :
  (Instr.lookup T (.map (some b)) (.string k) ok).run P w = .ok (if ok then .tuple #[((getM m k).map enc).getD z,.bool (hasM m k)] else ((getM m k).map enc).getD z) w:=by
 obtain ⟨kt,h1,h2⟩:=ht.kt
 obtain ⟨es,clock,h3,h4,h5⟩:=h.is
 have e2:∀ r,Instr.findNow .string (.string k) es.toList 0=some r->(Instr.findKey kt (.string k) es.toList).run P w = .ok r w:=fun r q=>by
  unfold Instr.findKey
  rw [run_bind_ok (und_run h2 w),q];rfl
 have e4:=ht.zero w
 rcases findNow_ok k es.toList m 0 h4 with ⟨g,q,_⟩ | ⟨v,j,g,q,_⟩
 ·have e5:=e2 _ q
  have e6:((getM m k).map enc).getD z=z:=by rw [g];rfl
  have e7:hasM m k=false:=by unfold hasM;rw [g];rfl
  rw [e6,e7]
  simp [Instr.lookup,run_underlying h1,MapKept.run_getObj_map h3,checkKey_run h2,e5,e4,Result.andThen]
 ·have e5:=e2 _ q
  have e6:((getM m k).map enc).getD z=enc v:=by rw [g];rfl
  have e7:hasM m k=true:=by unfold hasM;rw [g];rfl
  rw [e6,e7]
  simp [Instr.lookup,run_underlying h1,MapKept.run_getObj_map h3,checkKey_run h2,e5,Result.andThen]
theorem setMap_wr (w:World) (b:Nat) (o:Obj):Wr w b { w with heap:=w.heap.setIfInBounds b o } :=
 ⟨rfl,rfl,rfl,by simp,fun k hk=>by simp only [Array.getElem?_setIfInBounds];rw [if_neg (fun e=>hk e.symm)]⟩
theorem put_run {P:Program} {T et:TypeId} {z:Value} (ht:MapT P T et z) {α:Type} {enc:α->Value} {w:World} {b:Nat} {m:Mp α} (h:MapIs enc w b m) (k:ByteArray) (v:α) :
  ∃ w',(Instr.mapUpdate T (.map (some b)) (.string k) (enc v)).run P w = .ok () w'/\Wr w b w'/\MapIs enc w' b (putM m k v):=by
 obtain ⟨kt,h1,h2⟩:=ht.kt
 obtain ⟨es,clock,h3,h4,h5⟩:=h.is
 have hlt:=h.lt
 have upd:∀ o:Obj,(w.heap.setIfInBounds b o)[b]? = some o:=fun o=>by simp [hlt]
 have e2:∀ r,Instr.findNow .string (.string k) es.toList 0=some r->(Instr.findKey kt (.string k) es.toList).run P w = .ok r w:=fun r q=>by
  unfold Instr.findKey
  rw [run_bind_ok (und_run h2 w),q];rfl
 rcases findNow_ok k es.toList m 0 h4 with ⟨_,q,q3,q4⟩ | ⟨u,j,_,q,⟨e,hj,hek⟩,q4⟩
 ·refine ⟨{ w with heap:=w.heap.setIfInBounds b (.map (es.push { key := .string k,val:=enc v,born:=clock }) (clock+1)) },?_,setMap_wr ..,⟨_,_,upd _,?_,MapKept.stamped_push h5 q3⟩⟩
  ·unfold Instr.mapUpdate
   rw [run_bind_ok (und_run h1 w)]
   simp only
   rw [run_bind_ok (getObj_run h3)]
   simp only
   rw [run_bind_ok (checkKey_run h2),run_bind_ok (e2 _ q)]
   exact setObj_run h3
  ·rw [Array.toList_push,List.map_append,h4,q4,List.map_append];rfl
 ·have hj':es[j]? = some e:=by rw [<-Array.getElem?_toList];exact hj
  refine ⟨{ w with heap:=w.heap.setIfInBounds b (.map (es.modify j fun e=>{ e with key := .string k,val:=enc v }) clock) },?_,setMap_wr ..,⟨_,_,upd _,?_,?_⟩⟩
  ·unfold Instr.mapUpdate
   rw [run_bind_ok (und_run h1 w)]
   simp only
   rw [run_bind_ok (getObj_run h3)]
   simp only
   rw [run_bind_ok (checkKey_run h2),run_bind_ok (e2 _ q)]
   simp only
   have e3:(Instr.keyThatStays (((es[0+j]?).map (·.key)).getD (.string k)) (.string k)).run P w = .ok (.string k) w:=by
    rw [Nat.zero_add,hj']
    simp only [Option.map_some,Option.getD_some,hek]
    unfold Instr.keyThatStays
    have:Instr.sameBits 10000 (.string k) (.string k)=true:=by unfold Instr.sameBits;exact (MapKept.bytes_beq _ _).2 rfl
    rw [this];rfl
   rw [run_bind_ok e3,Nat.zero_add]
   exact setObj_run h3
  ·rw [Array.toList_modify,q4]
  ·refine MapKept.stamped_modify h5 j _ (fun _ _=>rfl) fun e' _ he' => ?_
   rw [hj'] at he'
   obtain rfl:=Option.some.inj he'
   exact hek.symm
theorem putM_get {α:Type} (m:Mp α) (k k':ByteArray) (v:α):getM (putM m k v) k'=if k=k' then some v else getM m k':=by
 induction m with
 | nil=>simp [putM,getM]
 | cons p m ih =>
  obtain ⟨k0,v0⟩:=p
  simp only [putM,getM]
  by_cases h:k0=k
  ·subst h
   simp only [if_true,getM]
   by_cases h1:k0=k'
   ·simp [h1]
   ·simp [h1]
  ·simp only [if_neg h,getM,ih]
   by_cases h1:k=k'
   ·subst h1;simp [h]
   ·simp [h1]
theorem putM_len {α:Type} (m:Mp α) (k:ByteArray) (v:α):(putM m k v).length<=m.length+1:=by
 induction m with
 | nil=>simp [putM]
 | cons p m ih =>
  obtain ⟨k0,v0⟩:=p
  simp only [putM]
  split
  ·simp
  ·simp;omega
theorem mdR_map {α:Type} {enc:α->Value} {md:Option Md} {w w':World} {b:Nat} {m:Mp α} (hb:mdB md b) (h:mdR md w w') (hM:MapIs enc w b m):MapIs enc w' b m:=by
 cases md with
 | none=>have e:w'=w:=h;rw [e];exact hM
 | some m=>cases m with
  | t n=>have e:w'=w:=h;rw [e];exact hM
  | h S t=>exact hM.same (Kb.blk h b hb hM.lt)
  | b S t=>exact hM.same (Kb.blk h b hb hM.lt)
def notH (md:Option Md):Bool:=match md with
 | some (.h _ _)=>false
 | some (.b _ _)=>false
 | _=>true
theorem mdR_eq {md:Option Md} {w w':World} (h:notH md=true) (k:mdR md w w'):w'=w:=by
 cases md with
 | none=>exact k
 | some m=>cases m with
  | t n=>exact k
  | h S t=>simp [notH] at h
  | b S t=>simp [notH] at h
namespace Eng
variable {C:Cx} {s:St} {w:World}
theorem lk {md:Option Md} {ops:Array Oper} {T et:TypeId} {z:Value} {x i:Operand} {d:Nat} {ty:TypeId} {pos:String} {af:Array Edge} {g:Option (Nat×Bool)} {rest:List Oper} {k:List Item} {l:Env} {c:CEnv} {α:Type} {enc:α->Value} {b:Nat} {m:Mp α} {key:ByteArray}
  (ht:MapT C.P T et z) (hM:MapIs enc w b m) (h:Wk C (.reg md ops rest k ((d,((getM m key).map enc).getD z)::l) c) w)
  (hs:adv C.tab C.n C.ks 400 s = .opn md ops ⟨some d,.lookup T x i false,ty,pos,af,g⟩ rest k l c []:=by rfl)
  (hx:evc l c [] x=some (.map (some b)):=by rfl) (hi:evc l c [] i=some (.string key):=by rfl) (hf:fresh d l c []=true:=by rfl) (hm:mdB md b:=by first | exact True.intro | assumption | (simp only [mdB];omega)):Wk C s w :=
 rd (p:=[]) (fun _ _ hA hp _ hk=>by
  have hM':=mdR_map hm hk hM
  simp only [execOp,evc_ok hA.k hA.kc.c hp hx,evc_ok hA.k hA.kc.c hp hi]
  exact (run_bind_ok (look_run ht hM' key false)).trans rfl) h hs rfl hf (okR_no rfl)
theorem lko {md:Option Md} {ops:Array Oper} {T et:TypeId} {z:Value} {x i:Operand} {d:Nat} {ty:TypeId} {pos:String} {af:Array Edge} {g:Option (Nat×Bool)} {rest:List Oper} {k:List Item} {l:Env} {c:CEnv} {α:Type} {enc:α->Value} {b:Nat} {m:Mp α} {key:ByteArray}
  (ht:MapT C.P T et z) (hM:MapIs enc w b m) (h:Wk C (.reg md ops rest k ((d,.tuple #[((getM m key).map enc).getD z,.bool (hasM m key)])::l) c) w)
  (hs:adv C.tab C.n C.ks 400 s = .opn md ops ⟨some d,.lookup T x i true,ty,pos,af,g⟩ rest k l c []:=by rfl)
  (hx:evc l c [] x=some (.map (some b)):=by rfl) (hi:evc l c [] i=some (.string key):=by rfl) (hf:fresh d l c []=true:=by rfl) (hm:mdB md b:=by first | exact True.intro | assumption | (simp only [mdB];omega)):Wk C s w :=
 rd (p:=[]) (fun _ _ hA hp _ hk=>by
  have hM':=mdR_map hm hk hM
  simp only [execOp,evc_ok hA.k hA.kc.c hp hx,evc_ok hA.k hA.kc.c hp hi]
  exact (run_bind_ok (look_run ht hM' key true)).trans rfl) h hs rfl hf (okR_no rfl)
theorem len_map {P:Program} {T kt et:TypeId} {ty:TypeId} (ht:P.underlying T=some (.map kt et)) {es:Array MapEntry} {clock:Nat} {b:Nat} (h:w.heap[b]? = some (.map es clock)):(Builtin.len_ #[T] ty #[.map (some b)]).run P w = .ok (.int .i64 es.size) w:=by
 simp only [Builtin.len_,List.getElem?_toArray,List.getElem?_cons_zero]
 rw [run_bind_ok (und_run ht w)]
 simp only
 rw [run_bind_ok (getObj_run h)];rfl
theorem lnm {md:Option Md} {ops:Array Oper} {T et:TypeId} {z:Value} {x:Operand} {d:Nat} {ty:TypeId} {pos:String} {af:Array Edge} {g:Option (Nat×Bool)} {rest:List Oper} {k:List Item} {l:Env} {c:CEnv} {α:Type} {enc:α->Value} {b:Nat} {m:Mp α}
  (ht:MapT C.P T et z) (hM:MapIs enc w b m) (h:Wk C (.reg md ops rest k ((d,I (m.length:Nat))::l) c) w)
  (hs:adv C.tab C.n C.ks 400 s = .opn md ops ⟨some d,.call ⟨.builtin .len,#[x],#[T]⟩,ty,pos,af,g⟩ rest k l c []:=by rfl)
  (hx:evc l c [] x=some (.map (some b)):=by rfl) (hf:fresh d l c []=true:=by rfl) (hm:mdB md b:=by first | exact True.intro | assumption | (simp only [mdB];omega)):Wk C s w :=
 rd (p:=[]) (fun _ _ hA hp w' hk=>by
  have hM':=mdR_map hm hk hM
  obtain ⟨kt,h1,_⟩:=ht.kt
  obtain ⟨es,clock,h3,h4⟩:=hM'.len
  simp only [execOp,resolve,List.map_toArray,List.map_cons,List.map_nil,evc_ok hA.k hA.kc.c hp hx]
  show (Sem.bind (Builtin.len_ #[T] ty #[_]) _).run C.P w'=_
  rw [<-h4]
  exact (run_bind_ok (len_map h1 h3)).trans rfl) h hs rfl hf (okR_no rfl)
theorem mu {md:Option Md} {ops:Array Oper} {T et:TypeId} {z:Value} {x i y:Operand} {ty:TypeId} {pos:String} {af:Array Edge} {g:Option (Nat×Bool)} {rest:List Oper} {k:List Item} {l:Env} {c:CEnv} {α:Type} {enc:α->Value} {b:Nat} {m:Mp α} {key:ByteArray} (v:α)
  (ht:MapT C.P T et z) (hM:MapIs enc w b m) (h:∀ w',Wr w b w'->MapIs enc w' b (putM m key v)->Wk C (.reg md ops rest k l c) w')
  (hs:adv C.tab C.n C.ks 400 s = .opn md ops ⟨none,.mapUpdate T x i y,ty,pos,af,g⟩ rest k l c []:=by rfl)
  (hx:evc l c [] x=some (.map (some b)):=by rfl) (hi:evc l c [] i=some (.string key):=by rfl) (hy:evc l c [] y=some (enc v):=by rfl) (hm:∀ w',Wr w b w'->mdW md w w':=by intros;exact True.intro) (hnt:notT md=true:=by rfl):Wk C s w:=by
 obtain ⟨w',hr,hw,hM'⟩:=put_run ht hM key v
 exact op_unit (okW_of rfl hnt) (hm _ hw) (fun _ a hA=>by
  simp only [execOp,evc_ok hA.k hA.kc.c (p:=[]) trivial hx,evc_ok hA.k hA.kc.c (p:=[]) trivial hi,evc_ok hA.k hA.kc.c (p:=[]) trivial hy]
  exact (run_bind_ok hr).trans rfl) (h w' hw hM') hs rfl
structure NewM (w:World) (b:Nat) (w':World):Prop where
 blk:b=w.heap.size
 eq:w'=w.alloc (.map #[] 0)
theorem NewM.bl {w w':World} {b:Nat} (h:NewM w b w'):Bl w w':=by rw [h.eq];exact (Below.refl _ _).alloc (Nat.le_refl _) _
theorem NewM.size {w w':World} {b:Nat} (h:NewM w b w'):w'.heap.size=w.heap.size+1:=by rw [h.eq];show (w.heap.push _).size=_;simp
theorem NewM.is {w w':World} {b:Nat} (h:NewM w b w') {α:Type} (enc:α->Value):MapIs enc w' b []:=by
 refine ⟨⟨#[],0,?_,rfl,MapKept.stamped_empty 0⟩⟩
 rw [h.eq,h.blk];show (w.heap.push _)[w.heap.size]? = _;simp
theorem mm {md:Option Md} {ops:Array Oper} {T:TypeId} {d:Nat} {ty:TypeId} {pos:String} {af:Array Edge} {g:Option (Nat×Bool)} {rest:List Oper} {k:List Item} {l:Env} {c:CEnv}
  (h:∀ b w',NewM w b w'->Wk C (.reg md ops rest k ((d,.map (some b))::l) c) w')
  (hs:adv C.tab C.n C.ks 400 s = .opn md ops ⟨some d,.makeMap T none,ty,pos,af,g⟩ rest k l c []:=by rfl) (hf:fresh d l c []=true:=by rfl) (hnt:notT md=true:=by rfl):Wk C s w :=
 op_val (v := .map (some w.heap.size)) (w':=w.alloc (.map #[] 0)) (okW_of rfl hnt) (mdW_bl (NewM.bl ⟨rfl,rfl⟩)) (fun _ a hA=>by
  simp only [execOp,Option.map_none]
  exact (run_bind_ok (show (Instr.makeMap T none).run C.P w = .ok (.map (some w.heap.size)) (w.alloc (.map #[] 0)) from rfl)).trans rfl) (h _ _ ⟨rfl,rfl⟩) hs rfl hf
end Eng
end Go.Proofs.YtkmdfjpafkcleaaGreatDoor
namespace Go.Proofs.YtkmdfjpafkcleaaGreatDoor
open Eng Go.RowKit
theorem Eng.New.wr {w w3 w4:World} {b:Nat} {t:TypeId} {cs:List Value} (h5:New w b t cs w3) (h6:Wr w3 b w4):Bl w w4:=Below.trans h5.bl (h6.below (by have:=h5.blk;omega))
abbrev mcells (m:Mth) (a1:Option Addr) (c1:Nat) (a2:Option Addr) (c2:Nat) (a3:Option Addr) (c3:Nat):List Value:=[I m.name,I m.cls,.slice a1 m.params.length c1,.slice a2 m.locals.length c2,I m.result.kind,I m.result.cls,.slice a3 m.code.length c3]
abbrev ccells (c:Cls) (a:Option Addr) (q:Nat):List Value:=[I c.name,I c.super,.slice a c.fields.length q]
def lcls (c:Cls):Bool:=decide (c.fields.length<=7)
def mslots (m:Mth):Int:=(m.params.length:Int)+m.locals.length+(if m.cls = -1 then 0 else 1)
def lmth (m:Mth):Bool:=decide (m.params.length<=4)&&decide (mslots m<=10)
def limits (u:Unt):Bool:=decide (u.pool.length<=60)&&decide (u.classes.length<=10)&&decide (u.statics.length<=10)&&decide (u.methods.length<=16)&&u.classes.all lcls&&u.methods.all lmth
structure Lim (u:Unt):Prop where
 pool:u.pool.length<=60
 cls:u.classes.length<=10
 sta:u.statics.length<=10
 mth:u.methods.length<=16
 flds:∀ c∈u.classes,c.fields.length<=7
 pars:∀ m∈u.methods,m.params.length<=4
 locs:∀ m∈u.methods,m.params.length+m.locals.length<=10
theorem lim_of {u:Unt} (h:limits u=true):Lim u:=by
 unfold limits at h
 simp only [Bool.and_eq_true,decide_eq_true_eq] at h
 obtain ⟨⟨⟨⟨⟨h1,h2⟩,h3⟩,h4⟩,h5⟩,h6⟩:=h
 refine ⟨h1,h2,h3,h4,fun c hc => ?_,fun m hm => ?_,fun m hm => ?_⟩
 ·have:=List.all_eq_true.1 h5 c hc
  simpa [lcls] using this
 ·have:=List.all_eq_true.1 h6 m hm
  simp only [lmth,Bool.and_eq_true,decide_eq_true_eq] at this;exact this.1
 ·have:=List.all_eq_true.1 h6 m hm
  simp only [lmth,Bool.and_eq_true,decide_eq_true_eq] at this
  have h7:mslots m<=10:=this.2
  unfold mslots at h7
  by_cases hc:m.cls = -1
  ·rw [if_pos hc] at h7;omega
  ·rw [if_neg hc] at h7;omega
def kin (t:Ty):Bool:=decide (1<=t.kind)&&decide (t.kind<=4)
def kout (t:Ty):Bool:=decide (0<=t.kind)&&decide (t.kind<=4)
def kcls (c:Cls):Bool:=c.fields.all fun f=>kin f.ty
def kmth (m:Mth):Bool:=m.params.all kin&&m.locals.all kin&&kout m.result
def kinds (u:Unt):Bool:=u.classes.all kcls&&(u.statics.all fun f=>kin f.ty)&&u.methods.all kmth
def tcls (t:Ty):Bool:=decide (t.kind=2)||decide (t.kind=4)
def bare (t:Ty):Bool:=tcls t||decide (t.cls = -1)
def bcls (c:Cls):Bool:=c.fields.all fun f=>bare f.ty
def bmth (m:Mth):Bool:=bare m.result&&m.params.all bare&&m.locals.all bare
def classless (u:Unt):Bool:=u.classes.all bcls&&(u.statics.all fun f=>bare f.ty)&&u.methods.all bmth
structure Rf where
 at':Int
 parts:Int
 opt:Bool
abbrev encRf:Rf->List Value:=fun r=>[I r.at',I r.parts,.bool r.opt]
def eRf:El Rf:=plainEl 3 encRf (fun _=>rfl)
def typed (t:Ty):Rf:=⟨t.cls,2,!tcls t⟩
def fref (f:Fld):List Rf:=[⟨f.name,1,false⟩,typed f.ty]
def cref (c:Cls):List Rf:=[⟨c.name,1,false⟩,⟨c.super,2,true⟩]++c.fields.flatMap fref
def mref (m:Mth):List Rf:=[⟨m.name,1,false⟩,⟨m.cls,2,true⟩]++m.params.map typed++m.locals.map typed++[typed m.result]
def refs (u:Unt):List Rf:=u.classes.flatMap cref++u.statics.flatMap fref++u.methods.flatMap mref
def refOk (n:Nat) (r:Rf):Bool:=(decide (r.at' = -1)&&r.opt) || !(decide (r.at'<0)||decide (r.at'≥n))
def places (u:Unt):Bool:=(refs u).all (refOk u.pool.length)&&classless u
theorem all_snoc' {α:Type} {p:α->Bool} {l:List α} {k:Nat} {x:α} (hx:l[k]? = some x) (h:(l.take k).all p=true) (h2:p x=true):(l.take (k+1)).all p=true:=by
 rw [take_succ_some hx,List.all_append,h];simp [h2]
theorem all_end {α:Type} {p:α->Bool} {l:List α} (h:(l.take l.length).all p=true):l.all p=true:=by rwa [List.take_length] at h
theorem all_miss {α:Type} {p:α->Bool} {l:List α} {k:Nat} {x:α} (hx:l[k]? = some x) (h:p x=false):l.all p=false:=by
 rw [<-Bool.not_eq_true];intro ht
 rw [List.all_eq_true.1 ht _ (List.mem_of_getElem? hx)] at h;cases h
def hasB (l:List ByteArray) (x:ByteArray):Bool:=l.any fun y=>decide (y=x)
theorem hasB_iff {l:List ByteArray} {x:ByteArray}:hasB l x=true↔x∈l:=by
 unfold hasB
 rw [List.any_eq_true]
 exact ⟨fun ⟨y,h,e⟩=>(of_decide_eq_true e)▸h,fun h=>⟨x,h,decide_eq_true rfl⟩⟩
def dup:List ByteArray->Bool
 | []=>false
 | x::r=>hasB r x||dup r
theorem dup_iff:∀ {l:List ByteArray},dup l=true↔∃ i j:Nat,j<i/\∃ x,l[i]? = some x/\l[j]? = some x
 | []=>by simp [dup]
 | y::r=>by
  simp only [dup,Bool.or_eq_true,hasB_iff,dup_iff (l:=r)]
  constructor
  ·rintro (h | ⟨i,j,hij,x,h1,h2⟩)
   ·obtain ⟨i,hi⟩:=List.getElem?_of_mem h
    exact ⟨i+1,0,by omega,y,by simpa using hi,rfl⟩
   ·exact ⟨i+1,j+1,by omega,x,by simpa using h1,by simpa using h2⟩
  ·rintro ⟨i,j,hij,x,h1,h2⟩
   cases i with
   | zero=>omega
   | succ i =>
    cases j with
    | zero=>simp at h1 h2;subst h2;exact .inl (List.mem_of_getElem? h1)
    | succ j=>exact .inr ⟨i,j,by omega,x,by simpa using h1,by simpa using h2⟩
def nm (u:Unt) (i:Int):ByteArray:=u.pool.getD i.toNat ⟨#[]⟩
def named (i:Ins):Int×Int :=
 if i.op=17∨i.op=18 then (1,3) else if i.op=14∨i.op=24∨i.op=22∨i.op=23∨i.op=25 then (1,2) else if i.op=26 then (1,1) else if i.op=16 then (2,2) else if i.op=12/\(i.a=2∨i.a=4) then (2,2) else (0,0)
def operand (i:Ins):Int×Int:=if (named i).1=1 then (i.a,(named i).2) else if (named i).1=2 then (i.b,(named i).2) else (-1,0)
def insOk (u:Unt) (i:Ins):Bool := !(decide (0<(operand i).2)&&(decide ((operand i).1≥u.pool.length)||decide ((path (nm u (operand i).1):Int)≠(operand i).2)))
def codesOk (u:Unt):Bool:=u.methods.all fun m=>m.code.all (insOk u)
def cdup (u:Unt) (c:Cls):Bool:=dup (c.fields.map fun f=>nm u f.name)
def dots (x y:ByteArray):ByteArray:=x++⟨#[46]⟩++y
def heads (u:Unt):List ByteArray:=(u.classes.map fun c=>nm u c.name)++(u.statics.map fun f=>nm u f.name)++(u.methods.filter fun m=>decide (m.cls = -1)).map fun m=>nm u m.name
def fulls (u:Unt):List ByteArray:=(u.methods.filter fun m => !decide (m.cls = -1)).map fun m=>dots (nm u m.cls) (nm u m.name)
def doubled (u:Unt):Bool:=dup u.pool||u.classes.any (cdup u)||dup (heads u)||dup (fulls u)
def inP (u:Unt) (i:Int):Prop:=0<=i/\i<u.pool.length
structure Plc (u:Unt):Prop where
 cn:∀ c∈u.classes,inP u c.name
 fn:∀ c∈u.classes,∀ f∈c.fields,inP u f.name
 sn:∀ f∈u.statics,inP u f.name
 mn:∀ m∈u.methods,inP u m.name
 mc:∀ m∈u.methods,m.cls = -1∨inP u m.cls
theorem plc_of {u:Unt} (h:(refs u).all (refOk u.pool.length)=true):Plc u:=by
 have key:∀ r∈refs u,(r.at' = -1/\r.opt=true)∨inP u r.at':=fun r hr=>by
  have:=List.all_eq_true.1 h r hr
  simp only [refOk,Bool.or_eq_true,Bool.and_eq_true,decide_eq_true_eq,Bool.not_eq_true',Bool.or_eq_false_iff,decide_eq_false_iff_not] at this
  rcases this with h | h
  ·exact .inl h
  ·exact .inr ⟨by omega,by omega⟩
 have one:∀ i:Int,⟨i,1,false⟩∈refs u->inP u i:=fun i hi=>by
  rcases key _ hi with ⟨_,h⟩ | h
  ·cases h
  ·exact h
 have mc:∀ c∈u.classes,∀ r∈cref c,r∈refs u:=fun c hc r hr=>List.mem_append_left _ (List.mem_append_left _ (List.mem_flatMap.2 ⟨c,hc,hr⟩))
 have ms:∀ f∈u.statics,∀ r∈fref f,r∈refs u:=fun c hc r hr=>List.mem_append_left _ (List.mem_append_right _ (List.mem_flatMap.2 ⟨c,hc,hr⟩))
 have mm:∀ m∈u.methods,∀ r∈mref m,r∈refs u:=fun c hc r hr=>List.mem_append_right _ (List.mem_flatMap.2 ⟨c,hc,hr⟩)
 refine ⟨fun c hc=>one _ (mc c hc _ (by simp [cref])),fun c hc f hf=>one _ (mc c hc _ ?_),fun f hf=>one _ (ms f hf _ (by simp [fref])),fun m hm=>one _ (mm m hm _ (by simp [mref])),fun m hm => ?_⟩
 ·simp only [cref,List.mem_append,List.mem_flatMap]
  exact .inr ⟨f,hf,by simp [fref]⟩
 ·rcases key ⟨m.cls,2,true⟩ (mm m hm _ (by simp [mref])) with h | h
  ·exact .inl h.1
  ·exact .inr h
end Go.Proofs.YtkmdfjpafkcleaaGreatDoor
namespace Go.Proofs.YtkmdfjpafkcleaaGreatDoor
open Eng Go.RowKit
theorem r_limits (u:Unt) (a:UA) (w:World) (hU:UnR T w u a):Ret Tryz.prog 179 #[.agg (ucells u a).toArray] w fun v w'=>v = .bool (limits u)/\Bl w w':=by
 refine entr (vs:=[.agg (ucells u a).toArray]) [0,1,2,3,4,5,6,28,33,43,48,65,75] tabok Tryz.func179 (by kernel_rfl) ?_
 have hbc:=hU.cls.big
 have hbm:=hU.mth.big
 refine bx (cs:=ucells u a) fun b w1 hn => ?_
 refine ld (hn.box.cell rfl) ?_
 refine ldg (fun _=>hn.box.cell rfl) ?_
 refine ldg (fun _=>hn.box.cell rfl) ?_
 refine ldg (fun _=>hn.box.cell rfl) ?_
 refine br (fun h => ?_) (fun h => ?_)
 ·refine rt1 ⟨vb ?_,hn.bl⟩
  simp only [Bool.or_eq_true,decide_eq_true_eq] at h
  symm
  simp only [limits,Bool.and_eq_false_iff,decide_eq_false_iff_not]
  omega
 simp only [Bool.or_eq_false_iff,decide_eq_false_iff_not] at h
 have hl:limits u=(u.classes.all lcls&&u.methods.all lmth):=by
  unfold limits
  rw [decide_eq_true (by omega),decide_eq_true (by omega),decide_eq_true (by omega),decide_eq_true (by omega)];rfl
 refine lpk u.classes.length 3 [] [(1,.pointer (some ⟨b,0,none⟩))] (fun k vals w'=>vals=[]/\(u.classes.take k).all lcls=true/\w1=w') ⟨rfl,rfl,rfl⟩ ?_
 rintro k vals _ hk ⟨rfl,ha,rfl⟩ ih
 refine ld (hn.box.cell rfl) ?_
 by_cases hlt:k<u.classes.length
 ·refine brT ?_
  obtain ⟨c,b2,o2,cs,hc,e2,_,hAt,ac,cap,rfl,hf⟩:=at_some (hU.bl hn.bl).cls hlt
  refine ld (hn.box.cell rfl) ?_
  rw [e2]
  refine ix ?_
  refine ld (hAt 2 _ rfl) ?_
  refine br (fun h1 => ?_) (fun h1 => ?_)
  ·have:=of_decide_eq_true h1
   refine rt1 ⟨vb ?_,hn.bl⟩
   rw [hl,all_miss hc (decide_eq_false (by omega))];rfl
  ·have:=of_decide_eq_false h1
   exact ih hlt ⟨rfl,all_snoc' hc ha (decide_eq_true (by omega)),rfl⟩
 refine brF ?_
 obtain rfl:k=u.classes.length:=by omega
 rw [all_end ha,Bool.true_and] at hl
 refine lpk u.methods.length 4 [] [(1,.pointer (some ⟨b,0,none⟩))] (fun k vals w'=>vals=[]/\(u.methods.take k).all lmth=true/\Bl w1 w') ⟨rfl,rfl,Bl.refl _⟩ ?_
 rintro k vals w2 hk ⟨rfl,ha,hB⟩ ih
 have hx:=Bl.box hB hn.box
 refine ld (hx.cell rfl) ?_
 by_cases hlt:k<u.methods.length
 ·refine brT ?_
  refine ld (hx.cell rfl) ?_
  obtain ⟨m,b2,o2,cs,hm,e2,_,hAt,a1,c1,a2,c2,a3,c3,rfl,h1,h2,h3⟩:=at_some (hU.bl (hn.bl.trans hB)).mth hlt
  have hb1:=h1.big
  have hb2:=h2.big
  rw [e2]
  refine ix ?_
  refine lda hAt ?_
  refine al fun b5 w3 h5 => ?_
  refine sta h5.box fun w4 h6 hbx => ?_
  refine ld (hbx.cell rfl) ?_
  refine ld (hbx.cell rfl) ?_
  refine ld (hbx.cell rfl) ?_
  have hB4:Bl w2 w4:=h5.wr h6
  have hslots:IntKind.i64.wrap ((m.params.length:Int)+m.locals.length)=(m.params.length:Int)+m.locals.length:=wrap_fit (by omega) (by omega)
  have hslots1:IntKind.i64.wrap ((m.params.length:Int)+m.locals.length+1)=(m.params.length:Int)+m.locals.length+1:=wrap_fit (by omega) (by omega)
  have fin:∀ {x y:Int},x=m.params.length->y=mslots m->lmth m = !(decide (x > 4)||decide (y > 10)):=by
   rintro x y rfl rfl
   unfold lmth
   by_cases h1:m.params.length<=4 <;> by_cases h2:mslots m<=10 <;> simp [h1,h2] <;> omega
  refine br (fun hc => ?_) (fun hc => ?_)
  ·have hc':=of_decide_eq_true hc
   have hy:IntKind.i64.wrap (IntKind.i64.wrap ((m.params.length:Int)+m.locals.length)+1)=mslots m:=by rw [hslots,hslots1];simp [mslots,hc']
   refine ld (hbx.cell rfl) ?_
   refine br (fun h => ?_) (fun h => ?_)
   ·exact rt1 ⟨vb (by rw [hl,all_miss hm (by rw [fin rfl hy];exact congrArg (fun x => !x) h)]),hn.bl.trans (hB.trans hB4)⟩
   ·exact ih hlt ⟨rfl,all_snoc' hm ha (by rw [fin rfl hy];exact congrArg (fun x => !x) h),hB.trans hB4⟩
  ·have hc':=of_decide_eq_false hc
   have hy:IntKind.i64.wrap ((m.params.length:Int)+m.locals.length)=mslots m:=by rw [hslots];simp only [mslots];rw [if_pos (Classical.not_not.1 hc')];omega
   refine ld (hbx.cell rfl) ?_
   refine br (fun h => ?_) (fun h => ?_)
   ·exact rt1 ⟨vb (by rw [hl,all_miss hm (by rw [fin rfl hy];exact congrArg (fun x => !x) h)]),hn.bl.trans (hB.trans hB4)⟩
   ·exact ih hlt ⟨rfl,all_snoc' hm ha (by rw [fin rfl hy];exact congrArg (fun x => !x) h),hB.trans hB4⟩
 refine brF ?_
 obtain rfl:k=u.methods.length:=by omega
 rw [all_end ha] at hl
 exact rt1 ⟨vb hl.symm,hn.bl.trans hB⟩
theorem u_long1 (c:Cls) (cs:List Value) (S:Nat->Prop) (w:World) (hr:eCls.rel S w cs c):Ret Tryz.prog 198 #[asV cs] w fun v w'=>v = .bool (!lcls c)/\Bl w w':=by
 obtain ⟨a,cap,rfl,hf⟩:=hr
 refine entr (vs:=[asV [I c.name,I c.super,.slice a c.fields.length cap]]) [0,1,2] tabok Tryz.func198 (by kernel_rfl) ?_
 refine bx (cs:=[I c.name,I c.super,.slice a c.fields.length cap]) fun b w1 hn => ?_
 refine ld (hn.box.cell rfl) ?_
 refine rt1 ⟨vb ?_,hn.bl⟩
 unfold lcls
 by_cases h:c.fields.length<=7 <;> simp [h] <;> omega
theorem u_long2 (m:Mth) (cs:List Value) (S:Nat->Prop) (w:World) (hr:eMth.rel S w cs m):Ret Tryz.prog 199 #[asV cs] w fun v w'=>v = .bool (!lmth m)/\Bl w w':=by
 obtain ⟨a1,c1,a2,c2,a3,c3,rfl,h1,h2,h3⟩:=hr
 have hb1:=h1.big
 have hb2:=h2.big
 refine entr (vs:=[asV [I m.name,I m.cls,.slice a1 m.params.length c1,.slice a2 m.locals.length c2,I m.result.kind,I m.result.cls,.slice a3 m.code.length c3]]) [0,1,2,3,13] tabok Tryz.func199 (by kernel_rfl) ?_
 refine bx (cs:=[I m.name,I m.cls,.slice a1 m.params.length c1,.slice a2 m.locals.length c2,I m.result.kind,I m.result.cls,.slice a3 m.code.length c3]) fun b w1 hn => ?_
 have hslots:IntKind.i64.wrap ((m.params.length:Int)+m.locals.length)=(m.params.length:Int)+m.locals.length:=wrap_fit (by omega) (by omega)
 have hslots1:IntKind.i64.wrap ((m.params.length:Int)+m.locals.length+1)=(m.params.length:Int)+m.locals.length+1:=wrap_fit (by omega) (by omega)
 have fin:∀ {x y:Int},x=m.params.length->y=mslots m->lmth m = !(decide (x > 4)||decide (y > 10)):=by
  rintro x y rfl rfl
  unfold lmth
  by_cases h1:m.params.length<=4 <;> by_cases h2:mslots m<=10 <;> simp [h1,h2] <;> omega
 refine ld (hn.box.cell rfl) ?_
 refine ld (hn.box.cell rfl) ?_
 refine ld (hn.box.cell rfl) ?_
 refine br (fun hc => ?_) (fun hc => ?_)
 ·have hc':=of_decide_eq_true hc
  have hy:IntKind.i64.wrap (IntKind.i64.wrap ((m.params.length:Int)+m.locals.length)+1)=mslots m:=by rw [hslots,hslots1];simp [mslots,hc']
  refine ld (hn.box.cell rfl) ?_
  exact rt1 ⟨vb (by rw [fin rfl hy,Bool.not_not]),hn.bl⟩
 ·have hc':=of_decide_eq_false hc
  have hy:IntKind.i64.wrap ((m.params.length:Int)+m.locals.length)=mslots m:=by rw [hslots];simp only [mslots];rw [if_pos (Classical.not_not.1 hc')];omega
  refine ld (hn.box.cell rfl) ?_
  exact rt1 ⟨vb (by rw [fin rfl hy,Bool.not_not]),hn.bl⟩
theorem any_not {α:Type} (p:α->Bool) (l:List α):(l.any fun x => !p x) = !(l.all p):=by induction l with
 | nil=>rfl
 | cons x l ih=>simp [ih]
theorem limits_not (u:Unt):limits u=(!(decide (60<(u.pool.length:Int))||decide (10<(u.classes.length:Int))||decide (10<(u.statics.length:Int))||decide (16<(u.methods.length:Int)))&&u.classes.all lcls&&u.methods.all lmth):=by
 unfold limits
 have e:∀ n k:Nat,decide (n<=k) = !decide ((k:Int)<n):=fun n k=>by by_cases h:n<=k <;> simp [h] <;> omega
 rw [e,e,e,e]
 simp only [Bool.not_or];rfl
theorem u_long (u:Unt) (a:UA) (b:Nat) (w:World) (hx:At w b 0 (ucells u a)) (hU:UnR T w u a):Ret Tryz.prog 142 #[.pointer (some ⟨b,0,none⟩)] w fun v w'=>v = .bool (!limits u)/\Bl w w':=by
 refine entr (vs:=[.pointer (some ⟨b,0,none⟩)]) [0,2,3,4] tabok Tryz.func142 (by kernel_rfl) ?_
 have c1:=hx 1 _ rfl
 have c2:=hx 2 _ rfl
 have c3:=hx 3 _ rfl
 have c4:=hx 4 _ rfl
 rw [Nat.zero_add] at c1 c2 c3 c4
 refine ld c1 ?_
 refine ldg (fun _=>c2) ?_
 refine ldg (fun _=>c3) ?_
 refine ldg (fun _=>c4) ?_
 refine ldg (fun _=>c2) ?_
 refine sp (.bool true) (fun h1 => ?_) (fun h1 => ?_)
 ·refine cl (ContainsFunc_cls u.classes _ _ 198 [] (fun x => !lcls x) T w hU.cls ?_) ?_
  ·exact fun x cs _ w' _ hr=>u_long1 x cs T w' hr
  rintro _ w1 ⟨rfl,hB⟩
  have c4':=hB.kp T _ _ _ trivial c4
  refine ldg (fun _=>c4') ?_
  refine sp (.bool true) (fun h2 => ?_) (fun h2 => ?_)
  ·refine cl (ContainsFunc_mth u.methods _ _ 199 [] (fun x => !lmth x) T w1 (hU.bl hB).mth ?_) ?_
   ·exact fun x cs _ w' _ hr=>u_long2 x cs T w' hr
   rintro _ w2 ⟨rfl,hB2⟩
   refine rt1 ⟨vb ?_,hB.trans hB2⟩
   rw [any_not,Bool.false_or] at h2 ⊢
   rw [limits_not,h1];revert h2;cases u.classes.all lcls <;> cases u.methods.all lmth <;> simp
  ·refine rt1 ⟨vb ?_,hB⟩
   rw [any_not,Bool.false_or] at h2
   rw [limits_not,h1];revert h2;cases u.classes.all lcls <;> simp
 ·refine ldg (fun _=>c4) ?_
  refine sp (.bool true) (fun h2 => ?_) (fun h2 => ?_)
  ·rw [h1] at h2;cases h2
  refine rt1 ⟨vb ?_,Bl.refl _⟩
  rw [limits_not,h1];simp
end Go.Proofs.YtkmdfjpafkcleaaGreatDoor
namespace Go.Proofs.YtkmdfjpafkcleaaGreatDoor
open Eng Go.RowKit
theorem r_bare (t:Ty) (w:World):Ret Tryz.prog 268 #[.agg #[I t.kind,I t.cls]] w fun v w'=>v = .bool (bare t)/\Bl w w':=by
 refine entr (vs:=[.agg #[I t.kind,I t.cls]]) [0,1,2] tabok Tryz.func268 (by kernel_rfl) ?_
 refine bx (cs:=[I t.kind,I t.cls]) fun b w1 hn => ?_
 refine ld (hn.box.cell rfl) ?_
 refine ldg (fun _=>hn.box.cell rfl) ?_
 refine ldg (fun _=>hn.box.cell rfl) ?_
 exact rt1 ⟨rfl,hn.bl⟩
theorem kin_not (t:Ty):(decide (t.kind<1)||decide (4<t.kind)) = !kin t:=by
 unfold kin
 by_cases h1:1<=t.kind <;> by_cases h2:t.kind<=4 <;> simp [h1,h2] <;> omega
theorem kout_not (t:Ty):(decide (t.kind<0)||decide (4<t.kind)) = !kout t:=by
 unfold kout
 by_cases h1:0<=t.kind <;> by_cases h2:t.kind<=4 <;> simp [h1,h2] <;> omega
theorem r_kinds (u:Unt) (a:UA) (w:World) (hU:UnR T w u a) (hL:Lim u):Ret Tryz.prog 183 #[.agg (ucells u a).toArray] w fun v w'=>v = .bool (kinds u)/\Bl w w':=by
 refine entr (vs:=[.agg (ucells u a).toArray]) [0,1,2,3,4,5,6,7,8,9,10,11,16,27,46,51,66,71,88,104,114] tabok Tryz.func183 (by kernel_rfl) ?_
 have hbc:=hU.cls.big
 have hbm:=hU.mth.big
 have hbs:=hU.sta.big
 refine bx (cs:=ucells u a) fun b w1 hn => ?_
 refine lpk u.classes.length 3 [] [(1,.pointer (some ⟨b,0,none⟩))] (fun k vals w'=>vals=[]/\(u.classes.take k).all kcls=true/\w1=w') ⟨rfl,rfl,rfl⟩ ?_
 rintro k vals _ hk ⟨rfl,ha,rfl⟩ ih
 refine ld (hn.box.cell rfl) ?_
 by_cases hlt:k<u.classes.length
 ·refine brT ?_
  obtain ⟨c,b2,o2,cs,hc,e2,_,hAt,ac,cap,rfl,hf⟩:=at_some (hU.bl hn.bl).cls hlt
  have hbf:=hf.big
  refine lpk c.fields.length 4 [] [(1,.pointer (some ⟨b,0,none⟩)),(3,I k)] (fun k vals w'=>vals=[]/\((c.fields.take k).all fun f=>kin f.ty)=true/\w1=w') ⟨rfl,rfl,rfl⟩ ?_
  rintro j vals _ hj ⟨rfl,hb,rfl⟩ ih2
  refine ld (hn.box.cell rfl) ?_
  rw [e2]
  refine ix ?_
  refine ld (hAt 2 _ rfl) ?_
  by_cases hlt2:j<c.fields.length
  ·refine brT ?_
   obtain ⟨f,b3,o3,cs3,hf3,e3,_,hAt3,rfl⟩:=at_some hf hlt2
   refine ld (hn.box.cell rfl) ?_
   rw [e2]
   refine ix ?_
   refine ld (hAt 2 _ rfl) ?_
   rw [e3]
   refine ix ?_
   refine ld (hAt3 1 _ rfl) ?_
   refine br (t:=decide (f.ty.kind<1)||decide (4<f.ty.kind)) (fun h1 => ?_) (fun h1 => ?_)
   ·rw [kin_not] at h1
    refine rt1 ⟨vb ?_,hn.bl⟩
    unfold kinds
    rw [all_miss hc (all_miss hf3 (by simpa using h1))];rfl
   ·rw [kin_not] at h1
    exact ih2 hlt2 ⟨rfl,all_snoc' hf3 hb (by simpa using h1),rfl⟩
  ·refine brF ?_
   obtain rfl:j=c.fields.length:=by omega
   exact ih hlt ⟨rfl,all_snoc' hc ha (all_end hb),rfl⟩
 refine brF ?_
 obtain rfl:k=u.classes.length:=by omega
 have hk1:=all_end ha
 refine lpk u.statics.length 6 [] [(1,.pointer (some ⟨b,0,none⟩))] (fun k vals w'=>vals=[]/\((u.statics.take k).all fun f=>kin f.ty)=true/\w1=w') ⟨rfl,rfl,rfl⟩ ?_
 rintro k vals _ hk ⟨rfl,ha2,rfl⟩ ih2
 refine ld (hn.box.cell rfl) ?_
 by_cases hlt2:k<u.statics.length
 ·refine brT ?_
  obtain ⟨f,b3,o3,cs3,hf3,e3,_,hAt3,rfl⟩:=at_some (hU.bl hn.bl).sta hlt2
  refine ld (hn.box.cell rfl) ?_
  rw [e3]
  refine ix ?_
  refine ld (hAt3 1 _ rfl) ?_
  refine br (t:=decide (f.ty.kind<1)||decide (4<f.ty.kind)) (fun h1 => ?_) (fun h1 => ?_)
  ·rw [kin_not] at h1
   refine rt1 ⟨vb ?_,hn.bl⟩
   unfold kinds
   rw [all_miss hf3 (p:=fun f=>kin f.ty) (by simpa using h1)];simp
  ·rw [kin_not] at h1
   exact ih2 hlt2 ⟨rfl,all_snoc' hf3 ha2 (by simpa using h1),rfl⟩
 refine brF ?_
 obtain rfl:k=u.statics.length:=by omega
 have hk2:=all_end ha2
 have hk3:kinds u=u.methods.all kmth:=by unfold kinds;rw [hk1,hk2];rfl
 refine lpk u.methods.length 8 [] [(1,.pointer (some ⟨b,0,none⟩))] (fun k vals w'=>vals=[]/\(u.methods.take k).all kmth=true/\Bl w1 w') ⟨rfl,rfl,Bl.refl _⟩ ?_
 rintro k vals w2 hk ⟨rfl,ha3,hB⟩ ih3
 have hx:=Bl.box hB hn.box
 refine ld (hx.cell rfl) ?_
 by_cases hlt3:k<u.methods.length
 ·refine brT ?_
  refine ld (hx.cell rfl) ?_
  obtain ⟨m,b2,o2,cs,hm,e2,_,hAt,a1,c1,a2,c2,a3,c3,rfl,h1,h2,h3⟩:=at_some (hU.bl (hn.bl.trans hB)).mth hlt3
  have hb1:=h1.big
  have hb2:=h2.big
  rw [e2]
  refine ix ?_
  refine lda hAt ?_
  refine al fun b5 w3 h5 => ?_
  refine sta h5.box fun w4 h6 hbx => ?_
  have hB4:Bl w2 w4:=h5.wr h6
  refine dh (fun i=>i<w4.heap.size) [0,1,3,4,2,5,6] fun w5 h7 => ?_
  have hB5:=hB4.trans h7.bl
  have hbx5:=h7.box hbx
  have hl4:=hbx.lt
  have hz:w5.heap.size=w4.heap.size:=by rw [h7.heap]
  refine ld (hbx5.cell rfl) ?_
  refine ld (hbx5.cell rfl) ?_
  have h15:=h1.bl hB5
  have h25:=h2.bl hB5
  refine apl (enc:=encTy) (l0:=[]) (Ow.nil w5 w4.heap.size 77 2) (src_of h15) (by omega) (fun a6 cap6 w6 hO6 hA6 hf6 => ?_) (hm:=apS (fun g hg=>by cases hg))
  have hl6:∀ g,a6=some ⟨g,0,none⟩->¬g<w4.heap.size:=fun g hg=>by
   rcases hf6 g hg with h | h
   ·cases h
   ·omega
  have hB6:Bl w2 w6:=Below.trans hB5 (hA6.below (by have:=hB5.size;omega) fun g hg=>by cases hg)
  have hz6:w5.heap.size<=w6.heap.size:=hA6.size
  have h26:=h25.kp (hA6.kp.sub (S':=T) fun i _ e=>by cases e)
  refine apl (enc:=encTy) (l0:=[]++m.params) hO6 (src_of h26) (by omega) (fun a7 cap7 w7 hO7 hA7 hf7 => ?_) (hm:=apS hl6)
  have hB7:Bl w2 w7:=Below.trans hB6 (hA7.below (by have:=hB4.size;omega) fun g hg=>by have:=hl6 g hg;have:=hB4.size;omega)
  have hbx7:Box w7 b5 79 [I m.name,I m.cls,.slice a1 m.params.length c1,.slice a2 m.locals.length c2,I m.result.kind,I m.result.cls,.slice a3 m.code.length c3]:=hA7.box (hA6.box hbx5 (by simp)) fun e=>hl6 _ e hl4
  have hml:=hL.locs m (List.mem_of_getElem? hm)
  have hS7:Sl eTy T w7 a7 (([]++m.params)++m.locals):=owp_sl hO7 (by simp;omega) (fun _ _=>trivial)
  have hbn:=hS7.big
  have hall:(([]++m.params)++m.locals).all kin=(m.params.all kin&&m.locals.all kin):=by rw [List.nil_append,List.all_append]
  generalize ([]++m.params)++m.locals=ts at hS7 hbn hall
  refine lpk ts.length 11 [] [(1,.pointer (some ⟨b,0,none⟩)),(8,I k),(9,.pointer (some ⟨b5,0,none⟩)),(10,.slice a7 ts.length cap7)] (fun k vals w'=>vals=[]/\(ts.take k).all kin=true/\w7=w') ⟨rfl,rfl,rfl⟩ ?_
  rintro j vals _ hj ⟨rfl,hb,rfl⟩ ih4
  by_cases hlt4:j<ts.length
  ·refine brT ?_
   obtain ⟨t,b8,o8,cs8,ht,rfl,_,hAt8,rfl⟩:=at_some hS7 hlt4
   refine ix ?_
   refine ld (hAt8 0 _ rfl) ?_
   refine ixg (fun _=>hlt4) ?_
   refine ldg (fun _=>hAt8 0 _ rfl) ?_
   refine br (t:=decide (t.kind<1)||decide (4<t.kind)) (fun h1 => ?_) (fun h1 => ?_)
   ·rw [kin_not] at h1
    refine rt1 ⟨vb ?_,hn.bl.trans (hB.trans hB7)⟩
    rw [hk3,all_miss hm]
    unfold kmth
    rw [<-hall,all_miss ht (by simpa using h1)];rfl
   ·rw [kin_not] at h1
    exact ih4 hlt4 ⟨rfl,all_snoc' ht hb (by simpa using h1),rfl⟩
  refine brF ?_
  obtain rfl:j=ts.length:=by omega
  rw [all_end hb] at hall
  refine ld (hbx7.cell rfl) ?_
  refine ldg (fun _=>hbx7.cell rfl) ?_
  refine br (t:=decide (m.result.kind<0)||decide (4<m.result.kind)) (fun h1 => ?_) (fun h1 => ?_)
  ·rw [kout_not] at h1
   refine rt1 ⟨vb ?_,hn.bl.trans (hB.trans hB7)⟩
   rw [hk3,all_miss hm]
   unfold kmth
   rw [<-hall];simpa using h1
  ·rw [kout_not] at h1
   refine ih3 hlt3 ⟨rfl,all_snoc' hm ha3 ?_,hB.trans hB7⟩
   unfold kmth
   rw [<-hall];simpa using h1
 refine brF ?_
 obtain rfl:k=u.methods.length:=by omega
 rw [all_end ha3] at hk3
 exact rt1 ⟨vb hk3.symm,hn.bl.trans hB⟩
end Go.Proofs.YtkmdfjpafkcleaaGreatDoor
namespace Go.Proofs.YtkmdfjpafkcleaaGreatDoor
open Eng Go.RowKit
theorem r_typed (t:Ty) (w:World):Ret Tryz.prog 233 #[.agg #[I t.kind,I t.cls]] w fun v w'=>v = .agg (encRf (typed t)).toArray/\Bl w w':=by
 refine entr (vs:=[.agg #[I t.kind,I t.cls]]) [0,1,2] tabok Tryz.func233 (by kernel_rfl) ?_
 refine bx (cs:=[I t.kind,I t.cls]) fun b w1 hn => ?_
 refine al fun b2 w2 h2 => ?_
 have hb:=Bl.box h2.bl hn.box
 refine ld (hb.cell rfl) ?_
 refine ld (hb.cell rfl) ?_
 refine ldg (fun _=>hb.cell rfl) ?_
 refine bd ?_
 refine sta h2.box fun w3 h3 hb3 => ?_
 refine rtc hb3.at ⟨?_,hn.bl.trans (h2.wr h3)⟩
 unfold typed tcls
 by_cases h1:t.kind=2 <;> by_cases h2:t.kind=4 <;> simp [h1,h2,encRf]
theorem cref_len {u:Unt} (hL:Lim u):∀ c∈u.classes,(cref c).length<=16:=fun c hc=>by
 have:=hL.flds c hc
 have h2:=flatMap_le (f:=fref) (B:=2) (l:=c.fields) fun f _=>Nat.le_refl _
 simp only [cref,List.length_append,List.length_cons,List.length_nil];omega
theorem mref_len {u:Unt} (hL:Lim u):∀ m∈u.methods,(mref m).length<=13:=fun m hm=>by
 have:=hL.locs m hm
 simp only [mref,List.length_append,List.length_cons,List.length_nil,List.length_map];omega
theorem r_Refs (u:Unt) (a:UA) (w:World) (hU:UnR T w u a) (hL:Lim u):Ret Tryz.prog 182 #[.agg (ucells u a).toArray] w fun v w'=>∃ a' cap,v = .slice a' (refs u).length cap/\Sl eRf (fun b=>w.heap.size<=b) w' a' (refs u)/\Bl w w':=by
 have hU0:=hU.lt
 have hl1:=hL.cls
 have hl2:=hL.sta
 have hl3:=hL.mth
 refine entr (vs:=[.agg (ucells u a).toArray]) [0,1,2,3,4,5,6,7,8,9,10,11,16,37,61,85,106,122] tabok Tryz.func182 (by kernel_rfl) ?_
 refine bx (cs:=ucells u a) fun b w1 hn => ?_
 refine lpk u.classes.length 4 [3] [(1,.pointer (some ⟨b,0,none⟩))] (fun k vals w'=>∃ a1 n cap,vals=[.slice a1 n cap]/\n=((u.classes.take k).flatMap cref).length/\OwP 3 encRf w' w1.heap.size 218 a1 cap ((u.classes.take k).flatMap cref)/\Bl w1 w') ⟨none,0,0,rfl,rfl,Ow.nil ..,Bl.refl _⟩ ?_
 rintro k vals w2 hk ⟨a1,_,cap1,rfl,rfl,hO,hB⟩ ih
 have hlen:=flatMap_take_le (cref_len hL) hk
 have hx:=Bl.box hB hn.box
 refine ld (hx.cell rfl) ?_
 by_cases hlt:k<u.classes.length
 ·refine brT ?_
  obtain ⟨c,b2,o2,cs,hc,e2,_,hAt,ac,cap,rfl,hf⟩:=at_some (hU0.below (hn.bl.trans hB)).cls hlt
  refine ld (hx.cell rfl) ?_
  rw [e2]
  refine ix ?_
  refine lda hAt ?_
  refine al fun b5 w3 h5 => ?_
  refine sta h5.box fun w4 h6 hbx => ?_
  have hB4:=hB.trans (h5.wr h6)
  refine ld (hbx.cell rfl) ?_
  refine bd ?_
  refine ld (hbx.cell rfl) ?_
  refine bd ?_
  refine bs fun b7 w5 h7 => ?_
  have hsz:w1.heap.size<=w5.heap.size:=by have:=hB4.size;have:=h7.bl.size;omega
  refine apl (enc:=encRf) (l1:=[⟨c.name,1,false⟩,⟨c.super,2,true⟩]) (hO.bl ((h5.wr h6).trans h7.bl)) (.inr ⟨b7,0,rfl,h7.box.at⟩) hsz (fun a6 cap6 w6 hO6 hA6 hf6 => ?_)
  have hB6:=hB4.trans (h7.bl)
  have hne6:a6≠some ⟨b5,0,none⟩:=fun e=>by
   rcases hf6 _ e with h | h
   ·have:=(hO.lt h).2;have:=h5.blk;omega
   ·have:=hbx.lt;have:=h7.bl.size;omega
  have hB6':Bl w1 w6:=(hO.bl ((h5.wr h6).trans h7.bl)).below hA6 hB6 hsz
  have hB26:Below w1.heap.size w2 w6:=(hO.bl ((h5.wr h6).trans h7.bl)).below hA6 (((h5.wr h6).trans h7.bl).mono hB.size) hsz
  have hx6:Box w6 b5 75 [I c.name,I c.super,.slice ac c.fields.length cap]:=hA6.box (Bl.box h7.bl hbx) fun e=>by have:=(hO.lt e).2;have:=h5.blk;omega
  have hlc:=hL.flds c (List.mem_of_getElem? hc)
  generalize hLL:(u.classes.take k).flatMap cref++[⟨c.name,1,false⟩,⟨c.super,2,true⟩]=LL at hO6
  have hLlen:LL.length<=u.classes.length*16+2:=by rw [<-hLL];simp only [List.length_append,List.length_cons,List.length_nil];omega
  refine lpk c.fields.length 6 [3] [(1,.pointer (some ⟨b,0,none⟩)),(4,I k),(5,.pointer (some ⟨b5,0,none⟩))] (fun j vals w'=>∃ a1 n q,vals=[.slice a1 n q]/\n=(LL++(c.fields.take j).flatMap fref).length /\
   OwP 3 encRf w' w1.heap.size 218 a1 q (LL++(c.fields.take j).flatMap fref)/\Below w1.heap.size w2 w'/\Box w' b5 75 [I c.name,I c.super,.slice ac c.fields.length cap]/\a1≠some ⟨b5,0,none⟩) ⟨a6,LL.length,cap6,rfl,by simp,by simpa using hO6,hB26,hx6,hne6⟩ ?_
  rintro j vals w7 hj ⟨a8,_,cap8,rfl,rfl,hO8,hB27,hx8,hne8⟩ ih2
  have hB8':Below w1.heap.size w1 w7:=Below.trans hB hB27
  refine ld (hx8.cell rfl) ?_
  by_cases hlt2:j<c.fields.length
  ·refine brT ?_
   have hlen2:=flatMap_take_le (f:=fref) (B:=2) (fun f _=>Nat.le_refl _) hj
   have hnj:(LL++(c.fields.take j).flatMap fref).length<=200:=by rw [List.length_append];omega
   obtain ⟨f,b3,o3,cs3,hf3,e3,hS3,hAt3,rfl⟩:=at_some (hf.kp (Below.kp (hB27.mono (by have:=hn.bl.size;have:=hB.size;omega)))) hlt2
   have hne3:a8≠some ⟨b3,0,none⟩:=fun e=>by have:=(hO8.lt e).1;have:=hn.bl.size;omega
   refine dh (fun i=>a8≠some ⟨i,0,none⟩) (List.range 18) fun w8 h8 => ?_
   have hx9:=h8.box hx8
   refine ld (hx9.cell rfl) ?_
   rw [e3]
   refine ix ?_
   have hAt8:=hAt3.bl h8.bl
   refine ld (hAt8 0 _ rfl) ?_
   refine bd ?_
   refine ld (hx9.cell rfl) ?_
   rw [e3]
   refine ix ?_
   refine lda hAt8.tail ?_
   refine cl (r_typed f.ty _) ?_
   rintro _ w9 ⟨rfl,h9⟩
   refine bs fun b10 w10 h10 => ?_
   have hB10:=(h8.bl.trans h9).trans h10.bl
   have hsz10:w1.heap.size<=w10.heap.size:=by have:=hB8'.size;have:=hB10.size;omega
   have hff:(fref f).length=2:=rfl
   refine apl (enc:=encRf) (l1:=fref f) (hO8.bl hB10) (.inr ⟨b10,0,rfl,h10.box.at⟩) hsz10 (fun a11 cap11 w11 hO11 hA11 hf11 => ?_) (hm:=apS (S:=fun i=>a8≠some ⟨i,0,none⟩) fun g hg h=>h hg)
   have e:(LL++(c.fields.take j).flatMap fref)++fref f=LL++(c.fields.take (j+1)).flatMap fref:=by rw [flatMap_snoc hf3,List.append_assoc]
   rw [e] at hO11
   refine ih2 hlt2 ⟨a11,_,cap11,rfl,congrArg List.length e,hO11,?_,?_,?_⟩
   ·exact (hO8.bl hB10).below hA11 (Below.trans hB27 (hB10.mono hB8'.size)) hsz10
   ·exact hA11.box (Bl.box h10.bl (Bl.box h9 hx9)) hne8
   ·intro e
    rcases hf11 _ e with h | h
    ·exact hne8 h
    ·have:=hx9.lt;have:=h9.size;have:=h10.bl.size;omega
  ·refine brF ?_
   obtain rfl:j=c.fields.length:=by omega
   have e:LL++(c.fields.take c.fields.length).flatMap fref=(u.classes.take (k+1)).flatMap cref:=by rw [flatMap_snoc hc,<-hLL,List.take_length,cref,List.append_assoc]
   rw [e] at hO8
   exact ih hlt ⟨a8,_,cap8,rfl,congrArg List.length e,hO8,hB8'⟩
 refine brF ?_
 obtain rfl:k=u.classes.length:=by omega
 rw [List.take_length] at hO hlen ⊢
 clear ih hx
 refine lpk u.statics.length 7 [3] [(1,.pointer (some ⟨b,0,none⟩))] (fun k vals w'=>∃ a1 n q,vals=[.slice a1 n q]/\n=(u.classes.flatMap cref++(u.statics.take k).flatMap fref).length/\OwP 3 encRf w' w1.heap.size 218 a1 q (u.classes.flatMap cref++(u.statics.take k).flatMap fref)/\Bl w1 w') ⟨a1,(u.classes.flatMap cref).length,cap1,rfl,by simp,by simpa using hO,hB⟩ ?_
 clear hO hB
 rintro k vals w2 hk ⟨a1,_,cap1,rfl,rfl,hO,hB⟩ ih
 have hlen2:=flatMap_take_le (f:=fref) (B:=2) (fun f _=>Nat.le_refl _) hk
 have hx:=Bl.box hB hn.box
 refine ld (hx.cell rfl) ?_
 by_cases hlt:k<u.statics.length
 ·refine brT ?_
  have hnj:(u.classes.flatMap cref++(u.statics.take k).flatMap fref).length<=200:=by rw [List.length_append];omega
  obtain ⟨f,b3,o3,cs3,hf3,e3,hS3,hAt3,rfl⟩:=at_some (hU0.below (hn.bl.trans hB)).sta hlt
  have hne3:a1≠some ⟨b3,0,none⟩:=fun e=>by have:=(hO.lt e).1;have:=hn.bl.size;omega
  have hneb:a1≠some ⟨b,0,none⟩:=fun e=>by have:=(hO.lt e).1;have:=hn.box.lt;omega
  refine dh (fun i=>a1≠some ⟨i,0,none⟩) (List.range 18) fun w8 h8 => ?_
  have hx9:=h8.box hx
  refine ld (hx9.cell rfl) ?_
  rw [e3]
  refine ix ?_
  have hAt8:=hAt3.bl h8.bl
  refine ld (hAt8 0 _ rfl) ?_
  refine bd ?_
  refine ld (hx9.cell rfl) ?_
  rw [e3]
  refine ix ?_
  refine lda hAt8.tail ?_
  refine cl (r_typed f.ty _) ?_
  rintro _ w9 ⟨rfl,h9⟩
  refine bs fun b10 w10 h10 => ?_
  have hB10:=(h8.bl.trans h9).trans h10.bl
  have hsz10:w1.heap.size<=w10.heap.size:=by have:=hB.size;have:=hB10.size;omega
  have hff:(fref f).length=2:=rfl
  refine apl (enc:=encRf) (l1:=fref f) (hO.bl hB10) (.inr ⟨b10,0,rfl,h10.box.at⟩) hsz10 (fun a11 cap11 w11 hO11 hA11 hf11 => ?_) (hm:=apS (S:=fun i=>a1≠some ⟨i,0,none⟩) fun g hg h=>h hg)
  have e:(u.classes.flatMap cref++(u.statics.take k).flatMap fref)++fref f=u.classes.flatMap cref++(u.statics.take (k+1)).flatMap fref:=by rw [flatMap_snoc hf3,List.append_assoc]
  rw [e] at hO11
  exact ih hlt ⟨a11,_,cap11,rfl,congrArg List.length e,hO11,(hO.bl hB10).below hA11 (hB.trans hB10) hsz10⟩
 refine brF ?_
 obtain rfl:k=u.statics.length:=by omega
 rw [List.take_length] at hO hlen2 ⊢
 clear ih hx
 generalize hQ:u.classes.flatMap cref++u.statics.flatMap fref=Q at hO ⊢
 have hQl:Q.length<=200:=by rw [<-hQ,List.length_append];omega
 refine lpk u.methods.length 8 [3] [(1,.pointer (some ⟨b,0,none⟩))] (fun k vals w'=>∃ a1 n q,vals=[.slice a1 n q]/\n=(Q++(u.methods.take k).flatMap mref).length/\OwP 3 encRf w' w1.heap.size 218 a1 q (Q++(u.methods.take k).flatMap mref)/\Bl w1 w') ⟨a1,Q.length,cap1,rfl,by simp,by simpa using hO,hB⟩ ?_
 clear hO hB
 rintro k vals w2 hk ⟨a1,_,cap1,rfl,rfl,hO,hB⟩ ih
 have hlen3:=flatMap_take_le (mref_len hL) hk
 have hx:=Bl.box hB hn.box
 refine ld (hx.cell rfl) ?_
 by_cases hlt:k<u.methods.length
 ·refine brT ?_
  obtain ⟨m,b2,o2,cs,hm,e2,_,hAt,am1,cm1,am2,cm2,am3,cm3,rfl,h1,h2,h3⟩:=at_some (hU0.below (hn.bl.trans hB)).mth hlt
  refine ld (hx.cell rfl) ?_
  rw [e2]
  refine ix ?_
  refine lda hAt ?_
  refine al fun b5 w3 h5 => ?_
  refine sta h5.box fun w4 h6 hbx => ?_
  have hB4:=hB.trans (h5.wr h6)
  refine ld (hbx.cell rfl) ?_
  refine bd ?_
  refine ld (hbx.cell rfl) ?_
  refine bd ?_
  refine bs fun b7 w5 h7 => ?_
  have hsz:w1.heap.size<=w5.heap.size:=by have:=hB4.size;have:=h7.bl.size;omega
  have hnk:(Q++(u.methods.take k).flatMap mref).length<=500:=by rw [List.length_append];omega
  refine apl (enc:=encRf) (l1:=[⟨m.name,1,false⟩,⟨m.cls,2,true⟩]) (hO.bl ((h5.wr h6).trans h7.bl)) (.inr ⟨b7,0,rfl,h7.box.at⟩) hsz (fun a6 cap6 w6 hO6 hA6 hf6 => ?_)
  have hB6:=hB4.trans (h7.bl)
  have hne6:a6≠some ⟨b5,0,none⟩:=fun e=>by
   rcases hf6 _ e with h | h
   ·have:=(hO.lt h).2;have:=h5.blk;omega
   ·have:=hbx.lt;have:=h7.bl.size;omega
  have hB26:Below w1.heap.size w2 w6:=(hO.bl ((h5.wr h6).trans h7.bl)).below hA6 (((h5.wr h6).trans h7.bl).mono hB.size) hsz
  have hx6:Box w6 b5 79 (mcells m am1 cm1 am2 cm2 am3 cm3):=hA6.box (Bl.box h7.bl hbx) fun e=>by have:=(hO.lt e).2;have:=h5.blk;omega
  have hlc:=hL.locs m (List.mem_of_getElem? hm)
  generalize hLL:(Q++(u.methods.take k).flatMap mref)++[⟨m.name,1,false⟩,⟨m.cls,2,true⟩]=LL at hO6
  have hLlen:LL.length<=502:=by rw [<-hLL];simp only [List.length_append,List.length_cons,List.length_nil] at hnk ⊢;omega
  refine lpk m.params.length 10 [3] [(1,.pointer (some ⟨b,0,none⟩)),(8,I k),(9,.pointer (some ⟨b5,0,none⟩))] (fun j vals w'=>∃ a1 n q,vals=[.slice a1 n q]/\n=(LL++(m.params.take j).map typed).length /\
   OwP 3 encRf w' w1.heap.size 218 a1 q (LL++(m.params.take j).map typed)/\Below w1.heap.size w2 w'/\Box w' b5 79 (mcells m am1 cm1 am2 cm2 am3 cm3)/\a1≠some ⟨b5,0,none⟩) ⟨a6,LL.length,cap6,rfl,by simp,by simpa using hO6,hB26,hx6,hne6⟩ ?_
  rintro j vals w7 hj ⟨a8,_,cap8,rfl,rfl,hO8,hB27,hx8,hne8⟩ ih2
  have hB8':Below w1.heap.size w1 w7:=Below.trans hB hB27
  refine ld (hx8.cell rfl) ?_
  by_cases hlt2:j<m.params.length
  ·refine brT ?_
   have hnj:(LL++(m.params.take j).map typed).length<=600:=by rw [List.length_append,List.length_map,List.length_take];omega
   obtain ⟨t,b3,o3,cs3,hf3,e3,hS3,hAt3,rfl⟩:=at_some (h1.kp (Below.kp (hB27.mono (by have:=hn.bl.size;have:=hB.size;omega)))) hlt2
   refine ld (hx8.cell rfl) ?_
   rw [e3]
   refine ix ?_
   refine lda hAt3 ?_
   refine cl (r_typed t _) ?_
   rintro _ w9 ⟨rfl,h9⟩
   refine bs fun b10 w10 h10 => ?_
   have hB10:=h9.trans h10.bl
   have hsz10:w1.heap.size<=w10.heap.size:=by have:=hB8'.size;have:=hB10.size;omega
   have h1l:([typed t]:List Rf).length=1:=rfl
   refine apl (enc:=encRf) (l1:=[typed t]) (hO8.bl hB10) (.inr ⟨b10,0,rfl,h10.box.at⟩) hsz10 (fun a11 cap11 w11 hO11 hA11 hf11 => ?_)
   have e:(LL++(m.params.take j).map typed)++[typed t]=LL++(m.params.take (j+1)).map typed:=by rw [map_snoc hf3,List.append_assoc]
   rw [e] at hO11
   refine ih2 hlt2 ⟨a11,_,cap11,rfl,congrArg List.length e,hO11,?_,?_,?_⟩
   ·exact (hO8.bl hB10).below hA11 (Below.trans hB27 (hB10.mono hB8'.size)) hsz10
   ·exact hA11.box (Bl.box hB10 hx8) hne8
   ·intro e
    rcases hf11 _ e with h | h
    ·exact hne8 h
    ·have:=hx8.lt;have:=h9.size;have:=h10.bl.size;omega
  refine brF ?_
  obtain rfl:j=m.params.length:=by omega
  rw [List.take_length] at hO8
  rw [List.take_length]
  clear ih2
  have hLlen2:(LL++m.params.map typed).length<=520:=by rw [List.length_append,List.length_map];omega
  generalize hL2:LL++m.params.map typed=LM at hO8 hLlen2 ⊢
  refine lpk m.locals.length 11 [3] [(1,.pointer (some ⟨b,0,none⟩)),(8,I k),(9,.pointer (some ⟨b5,0,none⟩))] (fun j vals w'=>∃ a1 n q,vals=[.slice a1 n q]/\n=(LM++(m.locals.take j).map typed).length /\
   OwP 3 encRf w' w1.heap.size 218 a1 q (LM++(m.locals.take j).map typed)/\Below w1.heap.size w2 w'/\Box w' b5 79 (mcells m am1 cm1 am2 cm2 am3 cm3)/\a1≠some ⟨b5,0,none⟩) ⟨a8,LM.length,cap8,rfl,by simp,by simpa using hO8,hB27,hx8,hne8⟩ ?_
  clear hO8 hB27 hx8 hne8 hB8'
  rintro j vals w7 hj ⟨a8,_,cap8,rfl,rfl,hO8,hB27,hx8,hne8⟩ ih2
  have hB8':Below w1.heap.size w1 w7:=Below.trans hB hB27
  refine ld (hx8.cell rfl) ?_
  by_cases hlt2:j<m.locals.length
  ·refine brT ?_
   have hnj:(LM++(m.locals.take j).map typed).length<=600:=by rw [List.length_append,List.length_map,List.length_take];omega
   obtain ⟨t,b3,o3,cs3,hf3,e3,hS3,hAt3,rfl⟩:=at_some (h2.kp (Below.kp (hB27.mono (by have:=hn.bl.size;have:=hB.size;omega)))) hlt2
   refine ld (hx8.cell rfl) ?_
   rw [e3]
   refine ix ?_
   refine lda hAt3 ?_
   refine cl (r_typed t _) ?_
   rintro _ w9 ⟨rfl,h9⟩
   refine bs fun b10 w10 h10 => ?_
   have hB10:=h9.trans h10.bl
   have hsz10:w1.heap.size<=w10.heap.size:=by have:=hB8'.size;have:=hB10.size;omega
   have h1l:([typed t]:List Rf).length=1:=rfl
   refine apl (enc:=encRf) (l1:=[typed t]) (hO8.bl hB10) (.inr ⟨b10,0,rfl,h10.box.at⟩) hsz10 (fun a11 cap11 w11 hO11 hA11 hf11 => ?_)
   have e:(LM++(m.locals.take j).map typed)++[typed t]=LM++(m.locals.take (j+1)).map typed:=by rw [map_snoc hf3,List.append_assoc]
   rw [e] at hO11
   refine ih2 hlt2 ⟨a11,_,cap11,rfl,congrArg List.length e,hO11,?_,?_,?_⟩
   ·exact (hO8.bl hB10).below hA11 (Below.trans hB27 (hB10.mono hB8'.size)) hsz10
   ·exact hA11.box (Bl.box hB10 hx8) hne8
   ·intro e
    rcases hf11 _ e with h | h
    ·exact hne8 h
    ·have:=hx8.lt;have:=h9.size;have:=h10.bl.size;omega
  refine brF ?_
  obtain rfl:j=m.locals.length:=by omega
  rw [List.take_length] at hO8
  rw [List.take_length]
  clear ih2
  have hLlen3:(LM++m.locals.map typed).length<=540:=by rw [List.length_append,List.length_map];omega
  refine lda (At.left (cs:=[I m.result.kind,I m.result.cls]) hx8.at.tail.tail.tail.tail) ?_
  refine cl (r_typed m.result _) ?_
  rintro _ w9 ⟨rfl,h9⟩
  refine bs fun b10 w10 h10 => ?_
  have hB10:=h9.trans h10.bl
  have hsz10:w1.heap.size<=w10.heap.size:=by have:=hB8'.size;have:=hB10.size;omega
  have h1l:([typed m.result]:List Rf).length=1:=rfl
  refine apl (enc:=encRf) (l1:=[typed m.result]) (hO8.bl hB10) (.inr ⟨b10,0,rfl,h10.box.at⟩) hsz10 (fun a11 cap11 w11 hO11 hA11 hf11 => ?_)
  have e:(LM++m.locals.map typed)++[typed m.result]=Q++(u.methods.take (k+1)).flatMap mref:=by
   rw [flatMap_snoc hm,<-hL2,<-hLL];simp only [mref,List.append_assoc]
  rw [e] at hO11
  exact ih hlt ⟨a11,_,cap11,rfl,congrArg List.length e,hO11,Below.trans hB ((hO8.bl hB10).below hA11 (Below.trans hB27 (hB10.mono hB8'.size)) hsz10)⟩
 refine brF ?_
 obtain rfl:k=u.methods.length:=by omega
 rw [List.take_length] at hO hlen3
 rw [List.take_length]
 have e:Q++u.methods.flatMap mref=refs u:=by rw [<-hQ];rfl
 rw [e] at hO ⊢
 refine rt1 ⟨a1,cap1,rfl,owp_sl hO ?_ (fun g hg=>by have:=(hO.lt hg).1;have:=hn.size;omega),hn.bl.trans hB⟩
 rw [<-e,List.length_append];omega
end Go.Proofs.YtkmdfjpafkcleaaGreatDoor
namespace Go.Proofs.YtkmdfjpafkcleaaGreatDoor
open Eng Go.RowKit
theorem r_classless (u:Unt) (a:UA) (w:World) (hU:UnR T w u a) (hL:Lim u):Ret Tryz.prog 234 #[.agg (ucells u a).toArray] w fun v w'=>v = .bool (classless u)/\Bl w w':=by
 refine entr (vs:=[.agg (ucells u a).toArray]) [0,1,2,3,4,5,6,7,8,9,14,25,39,44,54,59,79,87] tabok Tryz.func234 (by kernel_rfl) ?_
 have hbc:=hU.cls.big
 have hbm:=hU.mth.big
 have hbs:=hU.sta.big
 refine bx (cs:=ucells u a) fun b w1 hn => ?_
 refine lpk u.classes.length 3 [] [(1,.pointer (some ⟨b,0,none⟩))] (fun k vals w'=>vals=[]/\(u.classes.take k).all bcls=true/\Bl w1 w') ⟨rfl,rfl,Bl.refl _⟩ ?_
 rintro k vals w2 hk ⟨rfl,ha,hB⟩ ih
 have hx:=Bl.box hB hn.box
 refine ld (hx.cell rfl) ?_
 by_cases hlt:k<u.classes.length
 ·refine brT ?_
  obtain ⟨c,b2,o2,cs,hc,e2,_,hAt,ac,cap,rfl,hf⟩:=at_some (hU.bl (hn.bl.trans hB)).cls hlt
  have hbf:=hf.big
  refine lpk c.fields.length 4 [] [(1,.pointer (some ⟨b,0,none⟩)),(3,I k)] (fun k vals w'=>vals=[]/\((c.fields.take k).all fun f=>bare f.ty)=true/\Bl w2 w') ⟨rfl,rfl,Bl.refl _⟩ ?_
  rintro j vals w3 hj ⟨rfl,hb,hB3⟩ ih2
  have hx3:=Bl.box hB3 hx
  have hAt3:=hAt.bl hB3
  refine ld (hx3.cell rfl) ?_
  rw [e2]
  refine ix ?_
  refine ld (hAt3 2 _ rfl) ?_
  by_cases hlt2:j<c.fields.length
  ·refine brT ?_
   obtain ⟨f,b3,o3,cs3,hf3,e3,_,hAt4,rfl⟩:=at_some (hf.bl hB3) hlt2
   refine ld (hx3.cell rfl) ?_
   rw [e2]
   refine ix ?_
   refine ld (hAt3 2 _ rfl) ?_
   rw [e3]
   refine ix ?_
   refine lda hAt4.tail ?_
   refine cl (r_bare f.ty _) ?_
   rintro _ w4 ⟨rfl,hB4⟩
   refine br (t := !bare f.ty) (fun h1 => ?_) (fun h1 => ?_)
   ·refine rt1 ⟨vb ?_,hn.bl.trans (hB.trans (hB3.trans hB4))⟩
    unfold classless
    rw [all_miss hc (all_miss hf3 (p:=fun f=>bare f.ty) (by simpa using h1))];rfl
   ·exact ih2 hlt2 ⟨rfl,all_snoc' hf3 hb (by simpa using h1),hB3.trans hB4⟩
  ·refine brF ?_
   obtain rfl:j=c.fields.length:=by omega
   exact ih hlt ⟨rfl,all_snoc' hc ha (all_end hb),hB.trans hB3⟩
 refine brF ?_
 obtain rfl:k=u.classes.length:=by omega
 have hk1:=all_end ha
 have hB1:=hB
 clear ih
 refine lpk u.statics.length 5 [] [(1,.pointer (some ⟨b,0,none⟩))] (fun k vals w'=>vals=[]/\((u.statics.take k).all fun f=>bare f.ty)=true/\Bl w1 w') ⟨rfl,rfl,hB⟩ ?_
 rintro k vals w3 hk ⟨rfl,ha2,hB⟩ ih2
 have hx:=Bl.box hB hn.box
 refine ld (hx.cell rfl) ?_
 by_cases hlt2:k<u.statics.length
 ·refine brT ?_
  obtain ⟨f,b3,o3,cs3,hf3,e3,_,hAt3,rfl⟩:=at_some (hU.bl (hn.bl.trans hB)).sta hlt2
  refine ld (hx.cell rfl) ?_
  rw [e3]
  refine ix ?_
  refine lda hAt3.tail ?_
  refine cl (r_bare f.ty _) ?_
  rintro _ w4 ⟨rfl,hB4⟩
  refine br (t := !bare f.ty) (fun h1 => ?_) (fun h1 => ?_)
  ·refine rt1 ⟨vb ?_,hn.bl.trans (hB.trans hB4)⟩
   unfold classless
   rw [all_miss hf3 (p:=fun f=>bare f.ty) (by simpa using h1)];simp
  ·exact ih2 hlt2 ⟨rfl,all_snoc' hf3 ha2 (by simpa using h1),hB.trans hB4⟩
 refine brF ?_
 obtain rfl:k=u.statics.length:=by omega
 have hk2:=all_end ha2
 have hk3:classless u=u.methods.all bmth:=by unfold classless;rw [hk1,hk2];rfl
 clear ih2
 refine lpk u.methods.length 6 [] [(1,.pointer (some ⟨b,0,none⟩))] (fun k vals w'=>vals=[]/\(u.methods.take k).all bmth=true/\Bl w1 w') ⟨rfl,rfl,hB⟩ ?_
 rintro k vals w2 hk ⟨rfl,ha3,hB⟩ ih3
 have hx:=Bl.box hB hn.box
 refine ld (hx.cell rfl) ?_
 by_cases hlt3:k<u.methods.length
 ·refine brT ?_
  refine ld (hx.cell rfl) ?_
  obtain ⟨m,b2,o2,cs,hm,e2,_,hAt,a1,c1,a2,c2,a3,c3,rfl,h1,h2,h3⟩:=at_some (hU.bl (hn.bl.trans hB)).mth hlt3
  have hml:=hL.locs m (List.mem_of_getElem? hm)
  rw [e2]
  refine ix ?_
  refine lda hAt ?_
  refine al fun b5 w3 h5 => ?_
  refine sta h5.box fun w4 h6 hbx => ?_
  have hB4:Bl w2 w4:=h5.wr h6
  refine dh (fun i=>i<w4.heap.size) [0,1,3,4,6,7,2,5,8,9] fun w5 h7 => ?_
  have hB5:=hB4.trans h7.bl
  have hbx5:Box w5 b5 79 (mcells m a1 c1 a2 c2 a3 c3):=h7.box hbx
  have hl4:=hbx.lt
  have hz:w5.heap.size=w4.heap.size:=by rw [h7.heap]
  refine lda (At.left (cs:=[I m.result.kind,I m.result.cls]) hbx5.at.tail.tail.tail.tail) ?_
  refine ld (hbx5.cell rfl) ?_
  refine ld (hbx5.cell rfl) ?_
  refine bs fun b6 w6 h8 => ?_
  have hb6:=h8.blk
  have hB6:=hB5.trans h8.bl
  have hO6:OwP 2 encTy w6 b6 77 (some ⟨b6,0,none⟩) 1 [m.result]:=Ow.made (n:=1) h8 rfl (by omega)
  refine apl (enc:=encTy) (l0:=[m.result]) hO6 (src_of (h1.bl hB6)) (by have:=h8.size;omega) (fun a7 cap7 w7 hO7 hA7 hf7 => ?_) (hm:=apS fun g hg=>by simp at hg;subst hg;show ¬b6<_;omega)
  have hB7:Bl w2 w7:=Below.trans hB6 (hA7.below (by have:=hB6.size;omega) fun g hg=>by simp at hg;subst hg;have:=hB5.size;omega)
  have hz7:=hA7.size
  have hl7:∀ g,a7=some ⟨g,0,none⟩->w4.heap.size<=g:=fun g hg=>by
   rcases hf7 g hg with h | h
   ·simp at h;omega
   ·have:=h8.size;omega
  refine apl (enc:=encTy) (l0:=[m.result]++m.params) hO7 (src_of (h2.bl hB7)) (by have:=h8.size;omega) (fun a8 cap8 w8 hO8 hA8 hf8 => ?_) (hm:=apS fun g hg=>by have:=hl7 g hg;show ¬g<_;omega)
  have hB8:Bl w2 w8:=Below.trans hB7 (hA8.below hB7.size fun g hg=>by have:=hl7 g hg;have:=hB4.size;omega)
  have hS7:Sl eTy T w8 a8 (([m.result]++m.params)++m.locals):=owp_sl hO8 (by simp;omega) (fun _ _=>trivial)
  have hbn:=hS7.big
  have hall:(([m.result]++m.params)++m.locals).all bare=bmth m:=by rw [List.all_append,List.all_append];simp [bmth]
  generalize ([m.result]++m.params)++m.locals=ts at hS7 hbn hall
  refine lpk ts.length 9 [] [(1,.pointer (some ⟨b,0,none⟩)),(6,I k),(8,.slice a8 ts.length cap8)] (fun k vals w'=>vals=[]/\(ts.take k).all bare=true/\Bl w8 w') ⟨rfl,rfl,Bl.refl _⟩ ?_
  rintro j vals w9 hj ⟨rfl,hb,hB9⟩ ih4
  by_cases hlt4:j<ts.length
  ·refine brT ?_
   obtain ⟨t,b8,o8,cs8,ht,rfl,_,hAt8,rfl⟩:=at_some (hS7.bl hB9) hlt4
   refine ix ?_
   refine lda hAt8 ?_
   refine cl (r_bare t _) ?_
   rintro _ w10 ⟨rfl,hB10⟩
   refine br (t := !bare t) (fun h1 => ?_) (fun h1 => ?_)
   ·refine rt1 ⟨vb ?_,hn.bl.trans (hB.trans (hB8.trans (hB9.trans hB10)))⟩
    rw [hk3,all_miss hm]
    rw [<-hall,all_miss ht (by simpa using h1)]
   ·exact ih4 hlt4 ⟨rfl,all_snoc' ht hb (by simpa using h1),hB9.trans hB10⟩
  refine brF ?_
  obtain rfl:j=ts.length:=by omega
  rw [all_end hb] at hall
  exact ih3 hlt3 ⟨rfl,all_snoc' hm ha3 hall.symm,hB.trans (hB8.trans hB9)⟩
 refine brF ?_
 obtain rfl:k=u.methods.length:=by omega
 rw [all_end ha3] at hk3
 exact rt1 ⟨vb hk3.symm,hn.bl.trans hB⟩
theorem r_places (u:Unt) (a:UA) (rs:List Rf) (ar:Option Addr) (cr:Nat) (w:World) (hU:UnR T w u a) (hL:Lim u) (hR:Sl eRf T w ar rs):Ret Tryz.prog 184 #[.agg (ucells u a).toArray,.slice ar rs.length cr] w fun v w'=>v = .bool (rs.all (refOk u.pool.length)&&classless u)/\Bl w w':=by
 refine entr (vs:=[.agg (ucells u a).toArray,.slice ar rs.length cr]) [0,1,2,4,5,6,10,26,35] tabok Tryz.func184 (by kernel_rfl) ?_
 have hbr:=hR.big
 refine bx (cs:=ucells u a) fun b w1 hn => ?_
 refine lpk rs.length 5 [] [(1,.slice ar rs.length cr),(2,.pointer (some ⟨b,0,none⟩))] (fun k vals w'=>vals=[]/\(rs.take k).all (refOk u.pool.length)=true/\w1=w') ⟨rfl,rfl,rfl⟩ ?_
 rintro k vals _ hk ⟨rfl,ha,rfl⟩ ih
 by_cases hlt:k<rs.length
 ·refine brT ?_
  obtain ⟨r,b2,o2,cs,hr,rfl,_,hAt,rfl⟩:=at_some (hR.bl hn.bl) hlt
  refine ix ?_
  refine ld (hAt 0 _ rfl) ?_
  refine ixg (fun _=>hlt) ?_
  refine ldg (fun _=>hAt 2 _ rfl) ?_
  refine br (t:=decide (r.at' = -1)&&r.opt) (fun h1 => ?_) (fun h1 => ?_)
  ·exact ih hlt ⟨rfl,all_snoc' hr ha (by unfold refOk;rw [h1];rfl),rfl⟩
  ·refine ldg (fun _=>hn.box.cell rfl) ?_
   refine br (t:=decide (r.at'<0)||decide (r.at'≥u.pool.length)) (fun h2 => ?_) (fun h2 => ?_)
   ·refine rt1 ⟨vb ?_,hn.bl⟩
    rw [all_miss hr (by unfold refOk;rw [h1,h2];rfl)];rfl
   ·exact ih hlt ⟨rfl,all_snoc' hr ha (by unfold refOk;rw [h1,h2];rfl),rfl⟩
 refine brF ?_
 obtain rfl:k=rs.length:=by omega
 refine lda hn.box.at ?_
 refine cl (r_classless u a _ (hU.bl hn.bl) hL) ?_
 rintro _ w2 ⟨rfl,hB⟩
 exact rt1 ⟨vb (by rw [all_end ha,Bool.true_and]),hn.bl.trans hB⟩
end Go.Proofs.YtkmdfjpafkcleaaGreatDoor
namespace Go.Proofs.YtkmdfjpafkcleaaGreatDoor
open Eng Go.RowKit
theorem r_twice (l:List ByteArray) (a:Option Addr) (cap:Nat) (S:Nat->Prop) (w:World) (hS:Sl eStr S w a l):Ret Tryz.prog 235 #[.slice a l.length cap] w fun v w'=>v = .bool (dup l)/\Bl w w':=by
 refine entr (vs:=[.slice a l.length cap]) [0,2,3,4,8,13,24] tabok Tryz.func235 (by kernel_rfl) ?_
 have hbig:=hS.big
 refine lpk l.length 3 [] [(0,.slice a l.length cap)] (fun k vals w'=>vals=[]/\(∀ i j x,j<i->i<k->l[i]? = some x->l[j]? ≠ some x)/\Bl w w') ⟨rfl,by omega,Bl.refl _⟩ ?_
 rintro k vals w1 hk ⟨rfl,ha,hB⟩ ih
 by_cases hlt:k<l.length
 ·refine brT ?_
  obtain ⟨x,b,o,cs,hx,rfl,hSb,hAt,rfl⟩:=at_some (hS.bl hB) hlt
  refine lpk k 4 [] [(0,.slice (some ⟨b,o,none⟩) l.length cap),(3,I k)] (fun k2 vals w'=>vals=[]/\(∀ j,j<k2->l[j]? ≠ some x)/\Bl w1 w') ⟨rfl,by omega,Bl.refl _⟩ ?_
  rintro j vals w2 hj ⟨rfl,hb,hB2⟩ ih2
  by_cases hlt2:j<k
  ·refine brT ?_
   refine ds fun w3 h3 => ?_
   obtain ⟨y,b2,o2,cs2,hy,e2,hSb2,hAt2,rfl⟩:=at_some (hS.bl ((hB.trans hB2).trans h3.bl)) (show j<l.length by omega)
   simp only [Option.some.injEq,Addr.mk.injEq,and_true] at e2
   obtain ⟨rfl,rfl⟩:=e2
   refine ix ?_
   refine ld (hAt.bl (hB2.trans h3.bl) 0 _ rfl) ?_
   refine ix ?_
   refine ld (hAt2 0 _ rfl) ?_
   refine br (fun h => ?_) (fun h => ?_)
   ·have e:=of_decide_eq_true h
    subst e
    exact rt1 ⟨vb (dup_iff.2 ⟨k,j,hlt2,x,hx,hy⟩).symm,hB.trans (hB2.trans h3.bl)⟩
   ·have e:=of_decide_eq_false h
    refine ih2 hlt2 ⟨rfl,fun j' hj' => ?_,hB2.trans h3.bl⟩
    by_cases h5:j'=j
    ·subst h5;rw [hy];exact fun h6=>e (Option.some.inj h6).symm
    ·exact hb j' (by omega)
  refine brF ?_
  obtain rfl:j=k:=by omega
  refine ih hlt ⟨rfl,fun i' j' x' h1 h2 h3 => ?_,hB.trans hB2⟩
  by_cases h5:i'=j
  ·subst h5;rw [hx] at h3;simp only [Option.some.injEq] at h3;subst h3;exact hb j' h1
  ·exact ha i' j' x' h1 (by omega) h3
 refine brF ?_
 obtain rfl:k=l.length:=by omega
 refine rt1 ⟨vb ?_,hB⟩
 symm;rw [<-Bool.not_eq_true]
 intro h
 obtain ⟨i,j,hij,x,h1,h2⟩:=dup_iff.1 h
 exact ha i j x hij (List.getElem?_eq_some_iff.1 h1).1 h1 h2
theorem r_Named (i:Ins) (w:World):Ret Tryz.prog 269 #[.agg #[I i.op,I i.a,I i.b]] w fun v w'=>v = .tuple #[I (named i).1,I (named i).2]/\Bl w w':=by
 refine entr (vs:=[.agg #[I i.op,I i.a,I i.b]]) [0,1,2,3,5,6,9,15,17,19,28] tabok Tryz.func269 (by kernel_rfl) ?_
 refine bx (cs:=[I i.op,I i.a,I i.b]) fun b w1 hn => ?_
 refine ld (hn.box.cell rfl) ?_
 have fin:∀ {p:Int×Int},named i=p->Value.tuple #[I p.1,I p.2] = .tuple #[I (named i).1,I (named i).2]:=fun e=>by rw [e]
 refine br (t:=decide (i.op=17)) (fun h17 => ?_) (fun h17 => ?_)
 ·refine brt ?_ (hp:=h17)
  have:=of_decide_eq_true h17
  exact rt2 ⟨fin (p:=(1,3)) (by simp [named,this]),hn.bl⟩
 have n17:=of_decide_eq_false h17
 refine br (t:=decide (i.op=18)) (fun h => ?_) (fun h => ?_)
 ·have:=of_decide_eq_true h
  exact rt2 ⟨fin (p:=(1,3)) (by simp [named,this]),hn.bl⟩
 have n18:=of_decide_eq_false h
 refine br (t:=decide (i.op=14)) (fun h => ?_) (fun h => ?_)
 ·refine brt ?_ (hp:=h)
  have:=of_decide_eq_true h
  exact rt2 ⟨fin (p:=(1,2)) (by simp [named,this]),hn.bl⟩
 have n14:=of_decide_eq_false h
 refine br (t:=decide (i.op=24)) (fun h => ?_) (fun h => ?_)
 ·refine brt ?_ (hp:=h)
  have:=of_decide_eq_true h
  exact rt2 ⟨fin (p:=(1,2)) (by simp [named,this]),hn.bl⟩
 have n24:=of_decide_eq_false h
 refine br (t:=decide (i.op=22)) (fun h => ?_) (fun h => ?_)
 ·refine brt ?_ (hp:=h)
  have:=of_decide_eq_true h
  exact rt2 ⟨fin (p:=(1,2)) (by simp [named,this]),hn.bl⟩
 have n22:=of_decide_eq_false h
 refine br (t:=decide (i.op=23)) (fun h => ?_) (fun h => ?_)
 ·refine brt ?_ (hp:=h)
  have:=of_decide_eq_true h
  exact rt2 ⟨fin (p:=(1,2)) (by simp [named,this]),hn.bl⟩
 have n23:=of_decide_eq_false h
 refine br (t:=decide (i.op=25)) (fun h => ?_) (fun h => ?_)
 ·have:=of_decide_eq_true h
  exact rt2 ⟨fin (p:=(1,2)) (by simp [named,this]),hn.bl⟩
 have n25:=of_decide_eq_false h
 refine br (t:=decide (i.op=26)) (fun h => ?_) (fun h => ?_)
 ·have:=of_decide_eq_true h
  exact rt2 ⟨fin (p:=(1,1)) (by simp [named,this]),hn.bl⟩
 have n26:=of_decide_eq_false h
 refine br (t:=decide (i.op=16)) (fun h => ?_) (fun h => ?_)
 ·have:=of_decide_eq_true h
  exact rt2 ⟨fin (p:=(2,2)) (by simp [named,this]),hn.bl⟩
 have n16:=of_decide_eq_false h
 refine br (t:=decide (i.op=12)) (fun h => ?_) (fun h => ?_)
 ·have h12:=of_decide_eq_true h
  refine ld (hn.box.cell rfl) ?_
  refine ldg (fun _=>hn.box.cell rfl) ?_
  refine br (t:=decide (i.a=2)||decide (i.a=4)) (fun h => ?_) (fun h => ?_)
  ·simp only [Bool.or_eq_true,decide_eq_true_eq] at h
   exact rt2 ⟨fin (p:=(2,2)) (by simp [named,h12,h]),hn.bl⟩
  ·simp only [Bool.or_eq_false_iff,decide_eq_false_iff_not] at h
   exact rt2 ⟨fin (p:=(0,0)) (by simp [named,h12,h]),hn.bl⟩
 ·have n12:=of_decide_eq_false h
  exact rt2 ⟨fin (p:=(0,0)) (by simp [named,n17,n18,n14,n24,n22,n23,n25,n26,n16,n12]),hn.bl⟩
theorem r_Operand (i:Ins) (w:World):Ret Tryz.prog 236 #[.agg #[I i.op,I i.a,I i.b]] w fun v w'=>v = .tuple #[I (operand i).1,I (operand i).2]/\Bl w w':=by
 refine entr (vs:=[.agg #[I i.op,I i.a,I i.b]]) [0,1,2,3,4,5,12,17] tabok Tryz.func236 (by kernel_rfl) ?_
 refine bx (cs:=[I i.op,I i.a,I i.b]) fun b w1 hn => ?_
 refine lda hn.box.at ?_
 refine cl (r_Named i _) ?_
 rintro _ w2 ⟨rfl,hB⟩
 have hx:=Bl.box hB hn.box
 refine br (fun h => ?_) (fun h => ?_)
 ·have:=of_decide_eq_true h
  refine ld (hx.cell rfl) ?_
  exact rt2 ⟨by unfold operand;rw [if_pos this],hn.bl.trans hB⟩
 have h1:=of_decide_eq_false h
 refine br (fun h => ?_) (fun h => ?_)
 ·have:=of_decide_eq_true h
  refine ld (hx.cell rfl) ?_
  exact rt2 ⟨by unfold operand;rw [if_neg h1,if_pos this],hn.bl.trans hB⟩
 ·have h2:=of_decide_eq_false h
  exact rt2 ⟨by unfold operand;rw [if_neg h1,if_neg h2],hn.bl.trans hB⟩
end Go.Proofs.YtkmdfjpafkcleaaGreatDoor
namespace Go.Proofs.YtkmdfjpafkcleaaGreatDoor
open Eng Go.RowKit
theorem nm_at {u:Unt} {i:Int} {x:ByteArray} (h:u.pool[i.toNat]? = some x):nm u i=x:=by unfold nm;rw [List.getD_eq_getElem?_getD,h];rfl
theorem int_nat {i:Int} (h:0<=i):i=((i.toNat:Nat):Int):=by omega
theorem r_codes (u:Unt) (a:UA) (w:World) (hU:UnR T w u a) (hV:∀ m∈u.methods,∀ i∈m.code,0<(operand i).2->0<=(operand i).1):Ret Tryz.prog 186 #[.agg (ucells u a).toArray] w fun v w'=>v = .bool (codesOk u)/\Bl w w':=by
 refine entr (vs:=[.agg (ucells u a).toArray]) [0,1,2,3,4,5,6,11,22,56] tabok Tryz.func186 (by kernel_rfl) ?_
 have hbm:=hU.mth.big
 refine bx (cs:=ucells u a) fun b w1 hn => ?_
 refine lpk u.methods.length 3 [] [(1,.pointer (some ⟨b,0,none⟩))] (fun k vals w'=>vals=[]/\((u.methods.take k).all fun m=>m.code.all (insOk u))=true/\Bl w1 w') ⟨rfl,rfl,Bl.refl _⟩ ?_
 rintro k vals w2 hk ⟨rfl,ha,hB⟩ ih
 have hx:=Bl.box hB hn.box
 refine ld (hx.cell rfl) ?_
 by_cases hlt:k<u.methods.length
 ·refine brT ?_
  obtain ⟨m,b2,o2,cs,hm,e2,_,hAt,a1,c1,a2,c2,a3,c3,rfl,h1,h2,h3⟩:=at_some (hU.bl (hn.bl.trans hB)).mth hlt
  have hbk:=h3.big
  refine lpk m.code.length 4 [] [(1,.pointer (some ⟨b,0,none⟩)),(3,I k)] (fun k vals w'=>vals=[]/\(m.code.take k).all (insOk u)=true/\Bl w2 w') ⟨rfl,rfl,Bl.refl _⟩ ?_
  rintro j vals w3 hj ⟨rfl,hb,hB3⟩ ih2
  have hx3:=Bl.box hB3 hx
  refine ld (hx3.cell rfl) ?_
  rw [e2]
  refine ix ?_
  refine ld (hAt.bl hB3 6 _ rfl) ?_
  by_cases hlt2:j<m.code.length
  ·refine brT ?_
   obtain ⟨i,b3,o3,cs3,hi,e3,_,hAt3,rfl⟩:=at_some (h3.bl hB3) hlt2
   refine ld (hx3.cell rfl) ?_
   rw [e2]
   refine ix ?_
   refine ld (hAt.bl hB3 6 _ rfl) ?_
   rw [e3]
   refine ix ?_
   refine lda hAt3 ?_
   refine cl (r_Operand i _) ?_
   rintro _ w4 ⟨rfl,hB4⟩
   have hx4:=Bl.box hB4 hx3
   refine ldg (fun _=>hx4.cell rfl) ?_
   refine ldg2 (fun _ _=>hx4.cell rfl) ?_
   have hv:=hV m (List.mem_of_getElem? hm) i (List.mem_of_getElem? hi)
   have hB24:=hB.trans (hB3.trans hB4)
   refine sp2 (.pointer (some ⟨0,0,none⟩)) (fun p1 p2 => ?_) (fun p1 => ?_)
   ·have q1:=of_decide_eq_true p1
    have q2:=of_decide_eq_false p2
    have q0:=hv q1
    obtain ⟨s,b5,o5,cs5,hs,e5,_,hAt5,rfl⟩:=at_some (hU.bl (hn.bl.trans hB24)).pool (show (operand i).1.toNat<u.pool.length by omega)
    rw [e5]
    refine ix (hij:=int_nat q0) ?_
    refine ldg (fun _=>hAt5 0 _ rfl) ?_
    refine sp (I 0) (fun _ => ?_) (fun p => ?_)
    ·refine cl (r_Path s _ (hU.ps s (List.mem_of_getElem? hs))) ?_
     rintro _ w5 ⟨rfl,hB5⟩
     refine br (t:=decide ((path s:Int)≠(operand i).2)) (fun h => ?_) (fun h => ?_)
     ·have e:insOk u i=false:=by unfold insOk;rw [nm_at hs,p1,p2,h];rfl
      refine rt1 ⟨vb ?_,hn.bl.trans (hB24.trans hB5)⟩
      unfold codesOk
      rw [all_miss hm (all_miss hi e)]
     ·have e:insOk u i=true:=by unfold insOk;rw [nm_at hs,p1,p2,h];rfl
      exact ih2 hlt2 ⟨rfl,all_snoc' hi hb e,hB3.trans (hB4.trans hB5)⟩
    ·cases p
   ·refine ldg2 (v := .string ⟨#[]⟩) (fun e1 e2=>(p1 ⟨e1,e2⟩).elim) ?_
    refine sp2 (I 0) (fun e1 e2=>(p1 ⟨e1,e2⟩).elim) (fun _ => ?_)
    have hB4':=hn.bl.trans hB24
    refine br (t:=decide (0<(operand i).2)&&(decide ((u.pool.length:Int)<=(operand i).1)||decide (¬(0:Int)=(operand i).2))) (fun h => ?_) (fun h => ?_)
    ·have e:insOk u i=false:=by
      unfold insOk
      revert p1 h
      simp only [ge_iff_le]
      cases decide (0<(operand i).2) <;> cases decide ((u.pool.length:Int)<=(operand i).1) <;> simp
     refine rt1 ⟨vb ?_,hB4'⟩
     unfold codesOk
     rw [all_miss hm (all_miss hi e)]
    ·have e:insOk u i=true:=by
      unfold insOk
      revert p1 h
      simp only [ge_iff_le]
      cases decide (0<(operand i).2) <;> cases decide ((u.pool.length:Int)<=(operand i).1) <;> simp
     exact ih2 hlt2 ⟨rfl,all_snoc' hi hb e,hB3.trans hB4⟩
  ·refine brF ?_
   obtain rfl:j=m.code.length:=by omega
   exact ih hlt ⟨rfl,all_snoc' hm ha (all_end hb),hB.trans hB3⟩
 refine brF ?_
 obtain rfl:k=u.methods.length:=by omega
 exact rt1 ⟨vb (all_end ha).symm,hn.bl.trans hB⟩
end Go.Proofs.YtkmdfjpafkcleaaGreatDoor
namespace Go.Proofs.YtkmdfjpafkcleaaGreatDoor
open Eng Go.RowKit
theorem pool_at {S:Nat->Prop} {w:World} {u:Unt} {a:UA} (h:UnR S w u a) {i:Int} (hi:inP u i):∃ b o,a.a1=some ⟨b,o,none⟩/\S b/\w.cell? ⟨b,o+i.toNat*1,none⟩=some (.string (nm u i))/\(nm u i).size<=1048576/\i=((i.toNat:Nat):Int)/\i.toNat<u.pool.length:=by
 obtain ⟨h1,h2⟩:=hi
 have h3:i.toNat<u.pool.length:=by omega
 obtain ⟨s,b,o,cs,hs,e,hS,hAt,rfl⟩:=at_some h.pool h3
 refine ⟨b,o,e,hS,?_,?_,by omega,h3⟩
 ·rw [nm_at hs];exact hAt 0 _ rfl
 ·rw [nm_at hs];exact h.ps s (List.mem_of_getElem? hs)
theorem r_doubled (u:Unt) (a:UA) (w:World) (hU:UnR T w u a) (hL:Lim u) (hP:Plc u):Ret Tryz.prog 185 #[.agg (ucells u a).toArray] w fun v w'=>v = .bool (doubled u)/\Bl w w':=by
 refine entr (vs:=[.agg (ucells u a).toArray]) [0,1,2,3,4,5,6,7,8,9,10,13,18,42,63,68,88,107] tabok Tryz.func185 (by kernel_rfl) ?_
 have hU0:=hU.lt
 have hl1:=hL.cls
 have hl2:=hL.sta
 have hl3:=hL.mth
 refine bx (cs:=ucells u a) fun b w1 hn => ?_
 have hbl:=hn.box.lt
 have hww:w.heap.size<=w1.heap.size:=hn.bl.size
 refine ld (hn.box.cell rfl) ?_
 refine cl (r_twice u.pool _ _ T _ (hU.bl hn.bl).pool) ?_
 rintro _ w2 ⟨rfl,hB⟩
 refine br (fun h => ?_) (fun hd => ?_)
 ·exact rt1 (v := .bool true) ⟨vb (by unfold doubled;simp [h]),hn.bl.trans hB⟩
 refine lpk u.classes.length 5 [3] [(1,.pointer (some ⟨b,0,none⟩)),(4,.slice none 0 0)] (fun k vals w'=>∃ a1 n q,vals=[.slice a1 n q]/\n=((u.classes.take k).map fun c=>nm u c.name).length/\OwP 1 encStr w' w1.heap.size 9 a1 q ((u.classes.take k).map fun c=>nm u c.name)/\(u.classes.take k).any (cdup u)=false/\Bl w1 w') ⟨none,0,0,rfl,rfl,Ow.nil ..,rfl,hB⟩ ?_
 clear hB
 rintro k vals w2 hk ⟨a1,_,cap1,rfl,rfl,hO,hc0,hB⟩ ih
 have hx:=Bl.box hB hn.box
 have hBs:w1.heap.size<=w2.heap.size:=hB.size
 refine ld (hx.cell rfl) ?_
 by_cases hlt:k<u.classes.length
 ·refine brT ?_
  have hUk:=hU0.below (hn.bl.trans hB)
  obtain ⟨c,b2,o2,cs,hc,e2,hS2,hAt,ac,cap,rfl,hf⟩:=at_some hUk.cls hlt
  obtain ⟨b3,o3,e3,hS3,hc3,hz3,hi3,hp3⟩:=pool_at hUk (hP.cn c (List.mem_of_getElem? hc))
  have hkl:((u.classes.take k).map fun c=>nm u c.name).length<=10:=by rw [List.length_map,List.length_take];omega
  refine dh (fun i=>i<w1.heap.size) (List.range 14) fun w3 h3 => ?_
  have hx3:=h3.box hx
  refine ld (hx3.cell rfl) ?_
  refine ld (hx3.cell rfl) ?_
  rw [e2]
  refine ix ?_
  refine ld (hAt.bl h3.bl 0 _ rfl) ?_
  rw [e3]
  refine ix (hij:=hi3) ?_
  refine ld (h3.bl.kp T _ _ _ trivial hc3) ?_
  refine bs fun b4 w4 h4 => ?_
  have hB24:=h3.bl.trans h4.bl
  have hsz4:w1.heap.size<=w4.heap.size:=by have:=hB24.size;omega
  have h1l:([nm u c.name]:List ByteArray).length=1:=rfl
  refine apl (enc:=encStr) (l1:=[nm u c.name]) (hO.bl hB24) (.inr ⟨b4,0,rfl,h4.box.at⟩) hsz4 (fun a5 cap5 w5 hO5 hA5 hf5 => ?_) (hm:=apS (S:=fun i=>i<w1.heap.size) fun g hg=>by have:=(hO.lt hg).1;omega)
  have e:((u.classes.take k).map fun c=>nm u c.name)++[nm u c.name]=(u.classes.take (k+1)).map fun c=>nm u c.name:=(map_snoc (f:=fun c=>nm u c.name) hc).symm
  rw [e] at hO5 ⊢
  have hB15:Bl w1 w5:=(hO.bl hB24).below hA5 (hB.trans hB24) hsz4
  have hx5:=Bl.box hB15 hn.box
  have hlc:=hL.flds c (List.mem_of_getElem? hc)
  refine lpk c.fields.length 7 [6] [(1,.pointer (some ⟨b,0,none⟩)),(3,.slice a5 ((u.classes.take (k+1)).map fun c=>nm u c.name).length cap5),(4,.slice none 0 0),(5,I k)] (fun j vals w'=>∃ a1 n q,vals=[.slice a1 n q]/\n=((c.fields.take j).map fun f=>nm u f.name).length/\OwP 1 encStr w' w5.heap.size 9 a1 q ((c.fields.take j).map fun f=>nm u f.name)/\Bl w5 w') ⟨none,0,0,rfl,rfl,Ow.nil ..,Bl.refl _⟩ ?_
  rintro j vals w6 hj ⟨a6,_,cap6,rfl,rfl,hO6,hB6⟩ ih2
  have hx6:=Bl.box hB6 hx5
  have hB16:=hB15.trans hB6
  have hs56:w5.heap.size<=w6.heap.size:=hB6.size
  have hs15:w1.heap.size<=w5.heap.size:=hB15.size
  have hU6:=hU0.below (hn.bl.trans hB16)
  obtain ⟨c',b2',o2',cs',hc',e2',hS2',hAt',ac',cap',rfl,hf'⟩:=at_some hU6.cls hlt
  rw [hc] at hc'
  obtain rfl:=Option.some.inj hc'
  refine ld (hx6.cell rfl) ?_
  rw [e2']
  refine ix ?_
  refine ld (hAt' 2 _ rfl) ?_
  by_cases hlt2:j<c.fields.length
  ·refine brT ?_
   obtain ⟨f,b7,o7,cs7,hf7,e7,hS7,hAt7,rfl⟩:=at_some hf' hlt2
   obtain ⟨b8,o8,e8,hS8,hc8,hz8,hi8,hp8⟩:=pool_at hU6 (hP.fn c (List.mem_of_getElem? hc) f (List.mem_of_getElem? hf7))
   have hjl:((c.fields.take j).map fun f=>nm u f.name).length<=10:=by rw [List.length_map,List.length_take];omega
   refine dh (fun i=>i<w1.heap.size) (List.range 18) fun w7 h7 => ?_
   have hx7:=h7.box hx6
   refine ld (hx7.cell rfl) ?_
   refine ld (hx7.cell rfl) ?_
   rw [e2']
   refine ix ?_
   refine ld (hAt'.bl h7.bl 2 _ rfl) ?_
   rw [e7]
   refine ix ?_
   refine ld (hAt7.bl h7.bl 0 _ rfl) ?_
   rw [e8]
   refine ix (hij:=hi8) ?_
   refine ld (h7.bl.kp T _ _ _ trivial hc8) ?_
   refine bs fun b9 w9 h9 => ?_
   have hB79:=h7.bl.trans h9.bl
   have hsz9:w5.heap.size<=w9.heap.size:=by have:=hB79.size;omega
   have h1l:([nm u f.name]:List ByteArray).length=1:=rfl
   refine apl (enc:=encStr) (l1:=[nm u f.name]) (hO6.bl hB79) (.inr ⟨b9,0,rfl,h9.box.at⟩) hsz9 (fun a10 cap10 w10 hO10 hA10 hf10 => ?_) (hm:=apS (S:=fun i=>i<w1.heap.size) fun g hg=>by have:=(hO6.lt hg).1;omega)
   have e':((c.fields.take j).map fun f=>nm u f.name)++[nm u f.name]=(c.fields.take (j+1)).map fun f=>nm u f.name:=(map_snoc (f:=fun f=>nm u f.name) hf7).symm
   rw [e'] at hO10
   exact ih2 hlt2 ⟨a10,_,cap10,rfl,congrArg List.length e',hO10,(hO6.bl hB79).below hA10 (hB6.trans hB79) hsz9⟩
  refine brF ?_
  obtain rfl:j=c.fields.length:=by omega
  rw [List.take_length] at hO6 ⊢
  have hS6:Sl eStr T w6 a6 (c.fields.map fun f=>nm u f.name):=owp_sl hO6 (by rw [List.length_map];omega) (fun _ _=>trivial)
  refine cl (r_twice _ _ _ T _ hS6) ?_
  rintro _ w11 ⟨rfl,hB11⟩
  refine br (fun h => ?_) (fun h => ?_)
  ·refine rt1 ⟨vb ?_,hn.bl.trans (hB16.trans hB11)⟩
   unfold doubled
   rw [any_hit hc (p:=cdup u) h];simp
  ·exact ih hlt ⟨a5,_,cap5,rfl,rfl,hO5.bl (hB6.trans hB11),any_snoc hc hc0 h,hB16.trans hB11⟩
 refine brF ?_
 obtain rfl:k=u.classes.length:=by omega
 have hdc:=any_end hc0
 clear ih hx hc0
 rw [List.take_length] at hO ⊢
 generalize hM:(u.classes.map fun c=>nm u c.name)=M at hO ⊢
 have hMl:M.length<=10:=by rw [<-hM,List.length_map];exact hl1
 refine lpk u.statics.length 8 [3] [(1,.pointer (some ⟨b,0,none⟩)),(4,.slice none 0 0)] (fun k vals w'=>∃ a1 n q,vals=[.slice a1 n q]/\n=(M++(u.statics.take k).map fun c=>nm u c.name).length/\OwP 1 encStr w' w1.heap.size 9 a1 q (M++(u.statics.take k).map fun c=>nm u c.name)/\Bl w1 w') ⟨a1,M.length,cap1,rfl,by simp,by simpa using hO,hB⟩ ?_
 clear hO hB hBs
 rintro k vals w2 hk ⟨a1,_,cap1,rfl,rfl,hO,hB⟩ ih
 have hx:=Bl.box hB hn.box
 have hBs:w1.heap.size<=w2.heap.size:=hB.size
 refine ld (hx.cell rfl) ?_
 by_cases hlt:k<u.statics.length
 ·refine brT ?_
  have hUk:=hU0.below (hn.bl.trans hB)
  obtain ⟨c,b2,o2,cs,hc,e2,hS2,hAt,rfl⟩:=at_some hUk.sta hlt
  obtain ⟨b3,o3,e3,hS3,hc3,hz3,hi3,hp3⟩:=pool_at hUk (hP.sn c (List.mem_of_getElem? hc))
  have hkl:(M++(u.statics.take k).map fun c=>nm u c.name).length<=20:=by rw [List.length_append,List.length_map,List.length_take];omega
  refine dh (fun i=>i<w1.heap.size) (List.range 14) fun w3 h3 => ?_
  have hx3:=h3.box hx
  refine ld (hx3.cell rfl) ?_
  refine ld (hx3.cell rfl) ?_
  rw [e2]
  refine ix ?_
  refine ld (hAt.bl h3.bl 0 _ rfl) ?_
  rw [e3]
  refine ix (hij:=hi3) ?_
  refine ld (h3.bl.kp T _ _ _ trivial hc3) ?_
  refine bs fun b4 w4 h4 => ?_
  have hB24:=h3.bl.trans h4.bl
  have hsz4:w1.heap.size<=w4.heap.size:=by have:=hB24.size;omega
  have h1l:([nm u c.name]:List ByteArray).length=1:=rfl
  refine apl (enc:=encStr) (l1:=[nm u c.name]) (hO.bl hB24) (.inr ⟨b4,0,rfl,h4.box.at⟩) hsz4 (fun a5 cap5 w5 hO5 hA5 hf5 => ?_) (hm:=apS (S:=fun i=>i<w1.heap.size) fun g hg=>by have:=(hO.lt hg).1;omega)
  have e:(M++(u.statics.take k).map fun c=>nm u c.name)++[nm u c.name]=M++(u.statics.take (k+1)).map fun c=>nm u c.name:=by rw [map_snoc (f:=fun c=>nm u c.name) hc,List.append_assoc]
  rw [e] at hO5
  exact ih hlt ⟨a5,_,cap5,rfl,congrArg List.length e,hO5,(hO.bl hB24).below hA5 (hB.trans hB24) hsz4⟩
 refine brF ?_
 obtain rfl:k=u.statics.length:=by omega
 clear ih hx
 rw [List.take_length] at hO ⊢
 generalize hM2:(M++u.statics.map fun c=>nm u c.name)=M2 at hO ⊢
 have hMl2:M2.length<=20:=by rw [<-hM2,List.length_append,List.length_map];omega
 let hf:List Mth->List ByteArray:=fun l=>(l.filter fun m=>decide (m.cls = -1)).map fun m=>nm u m.name
 let ff:List Mth->List ByteArray:=fun l=>(l.filter fun m => !decide (m.cls = -1)).map fun m=>dots (nm u m.cls) (nm u m.name)
 have hfl:∀ l,(hf l).length<=l.length:=fun l=>by simp only [hf,List.length_map];exact List.length_filter_le _ _
 have ffl:∀ l,(ff l).length<=l.length:=fun l=>by simp only [ff,List.length_map];exact List.length_filter_le _ _
 refine lpk u.methods.length 9 [3,4] [(1,.pointer (some ⟨b,0,none⟩))] (fun k vals w'=>∃ a1 n q a2 n2 q2,vals=[.slice a1 n q,.slice a2 n2 q2]/\n=(M2++hf (u.methods.take k)).length/\n2=(ff (u.methods.take k)).length /\
  OwP 1 encStr w' w1.heap.size 9 a1 q (M2++hf (u.methods.take k))/\OwP 1 encStr w' w1.heap.size 9 a2 q2 (ff (u.methods.take k))/\(∀ g,a1=some ⟨g,0,none⟩->a2≠some ⟨g,0,none⟩)/\Bl w1 w') ⟨a1,M2.length,cap1,none,0,0,rfl,by simp [hf],rfl,by simpa [hf] using hO,Ow.nil ..,fun _ _=>by simp,hB⟩ ?_
 clear hO hB hBs
 rintro k vals w2 hk ⟨a1,_,cap1,a2,_,cap2,rfl,rfl,rfl,hO,hO2,hd12,hB⟩ ih
 have hx:=Bl.box hB hn.box
 have hBs:w1.heap.size<=w2.heap.size:=hB.size
 refine ld (hx.cell rfl) ?_
 by_cases hlt:k<u.methods.length
 ·refine brT ?_
  have hUk:=hU0.below (hn.bl.trans hB)
  obtain ⟨m,b2,o2,cs,hm,e2,hS2,hAt,am1,cm1,am2,cm2,am3,cm3,rfl,h1,h2,h3⟩:=at_some hUk.mth hlt
  obtain ⟨b3,o3,e3,hS3,hc3,hz3,hi3,hp3⟩:=pool_at hUk (hP.mn m (List.mem_of_getElem? hm))
  have hkl:(M2++hf (u.methods.take k)).length<=40:=by have:=hfl (u.methods.take k);rw [List.length_append];rw [List.length_take] at this;omega
  have hkl2:(ff (u.methods.take k)).length<=20:=by have:=ffl (u.methods.take k);rw [List.length_take] at this;omega
  refine ds fun w3 h3 => ?_
  have hx3:=h3.box hx
  refine ld (hx3.cell rfl) ?_
  refine ld (hx3.cell rfl) ?_
  rw [e2]
  refine ix ?_
  refine ld (hAt.bl h3.bl 0 _ rfl) ?_
  rw [e3]
  refine ix (hij:=hi3) ?_
  refine ld (h3.bl.kp T _ _ _ trivial hc3) ?_
  refine ld (hx3.cell rfl) ?_
  rw [e2]
  refine ix ?_
  refine ld (hAt.bl h3.bl 1 _ rfl) ?_
  refine br (fun h => ?_) (fun h => ?_)
  ·have hcl:=of_decide_eq_true h
   have ef:ff (u.methods.take (k+1))=ff (u.methods.take k):=by simp [ff,take_succ_some hm,hcl]
   have eh:(M2++hf (u.methods.take k))++[nm u m.name]=M2++hf (u.methods.take (k+1)):=by simp [hf,take_succ_some hm,hcl]
   refine bs fun b4 w4 h4 => ?_
   have hB24:=h3.bl.trans h4.bl
   have hsz4:w1.heap.size<=w4.heap.size:=by have:=hB24.size;omega
   have h1l:([nm u m.name]:List ByteArray).length=1:=rfl
   refine apl (enc:=encStr) (l1:=[nm u m.name]) (hO.bl hB24) (.inr ⟨b4,0,rfl,h4.box.at⟩) hsz4 (fun a5 cap5 w5 hO5 hA5 hf5 => ?_)
   rw [eh] at hO5
   have hO25:OwP 1 encStr w5 w1.heap.size 9 a2 cap2 (ff (u.methods.take k)):=(hO2.bl hB24).same fun g hg=>hA5.block g ((hO2.bl hB24).lt hg).2 fun e=>hd12 g e hg
   refine ih hlt ⟨a5,_,cap5,a2,_,cap2,rfl,congrArg List.length eh,by rw [ef],hO5,by rw [ef];exact hO25,fun g hg e => ?_,(hO.bl hB24).below hA5 (hB.trans hB24) hsz4⟩
   rcases hf5 g hg with h6 | h6
   ·exact hd12 g h6 e
   ·have:=((hO2.bl hB24).lt e).2;omega
  ·have hcl:=of_decide_eq_false h
   obtain ⟨b6,o6,e6,hS6,hc6,hz6,hi6,hp6⟩:=pool_at hUk ((hP.mc m (List.mem_of_getElem? hm)).resolve_left hcl)
   have eh:hf (u.methods.take (k+1))=hf (u.methods.take k):=by simp [hf,take_succ_some hm,hcl]
   have ef:ff (u.methods.take k)++[dots (nm u m.cls) (nm u m.name)]=ff (u.methods.take (k+1)):=by simp [ff,take_succ_some hm,hcl]
   have hs13:w1.heap.size<=w3.heap.size:=by have:=h3.bl.size;omega
   refine dh (fun i=>i<w1.heap.size) (List.range 17) fun w7 h7 => ?_
   have hx7:=h7.box hx3
   have hB27:=h3.bl.trans h7.bl
   refine ld (hx7.cell rfl) ?_
   refine ld (hx7.cell rfl) ?_
   rw [e2]
   refine ix ?_
   refine ld (hAt.bl hB27 1 _ rfl) ?_
   rw [e6]
   refine ix (hij:=hi6) ?_
   refine ld (hB27.kp T _ _ _ trivial hc6) ?_
   refine cat ?_ (hab:=by rw [show ByteArray.size ⟨#[46]⟩=1 from rfl];omega)
   refine cat ?_ (hab:=by rw [ByteArray.size_append,show ByteArray.size ⟨#[46]⟩=1 from rfl];omega)
   refine bs fun b4 w4 h4 => ?_
   have hB24:=hB27.trans h4.bl
   have hsz4:w1.heap.size<=w4.heap.size:=by have:=hB24.size;omega
   have h1l:([dots (nm u m.cls) (nm u m.name)]:List ByteArray).length=1:=rfl
   refine apl (enc:=encStr) (l1:=[dots (nm u m.cls) (nm u m.name)]) (hO2.bl hB24) (.inr ⟨b4,0,rfl,h4.box.at⟩) hsz4 (fun a5 cap5 w5 hO5 hA5 hf5 => ?_) (hm:=apS (S:=fun i=>i<w1.heap.size) fun g hg=>by have:=(hO2.lt hg).1;omega)
   rw [ef] at hO5
   have hO25:OwP 1 encStr w5 w1.heap.size 9 a1 cap1 (M2++hf (u.methods.take k)):=(hO.bl hB24).same fun g hg=>hA5.block g ((hO.bl hB24).lt hg).2 fun e=>hd12 g hg e
   refine ih hlt ⟨a1,_,cap1,a5,_,cap5,rfl,by rw [eh],congrArg List.length ef,by rw [eh];exact hO25,hO5,fun g hg e => ?_,(hO2.bl hB24).below hA5 (hB.trans hB24) hsz4⟩
   rcases hf5 g e with h6 | h6
   ·exact hd12 g hg h6
   ·have:=((hO.bl hB24).lt hg).2;omega
 refine brF ?_
 obtain rfl:k=u.methods.length:=by omega
 rw [List.take_length] at hO hO2 ⊢
 have hh:M2++hf u.methods=heads u:=by rw [<-hM2,<-hM];rfl
 have hff:ff u.methods=fulls u:=rfl
 rw [hh] at hO ⊢
 rw [hff] at hO2 ⊢
 have l1:(heads u).length<=36:=by have:=hfl u.methods;rw [<-hh,List.length_append];omega
 have l2:(fulls u).length<=16:=by have:=ffl u.methods;rw [<-hff];omega
 have hS1:Sl eStr T w2 a1 (heads u):=owp_sl hO (by omega) (fun _ _=>trivial)
 refine cl (r_twice _ _ _ T _ hS1) ?_
 rintro _ w3 ⟨rfl,hB3⟩
 have hdb:doubled u=(dup (heads u)||dup (fulls u)):=by unfold doubled;rw [hd,hdc];rfl
 refine sp (.bool true) (fun p => ?_) (fun p => ?_)
 ·have hS2:Sl eStr T w3 a2 (fulls u):=owp_sl (hO2.bl hB3) (by omega) (fun _ _=>trivial)
  refine cl (r_twice _ _ _ T _ hS2) ?_
  rintro _ w4 ⟨rfl,hB4⟩
  refine rt1 ⟨vb ?_,hn.bl.trans (hB.trans (hB3.trans hB4))⟩
  rw [hdb,p]
 ·refine rt1 ⟨vb ?_,hn.bl.trans (hB.trans hB3)⟩
  rw [hdb,p];rfl
end Go.Proofs.YtkmdfjpafkcleaaGreatDoor
namespace Go.Proofs.YtkmdfjpafkcleaaGreatDoor.Eng
open Go Go.RowKit
def arrO (i esz:Nat):Nat->List (Nat×Nat)
 | 0=>[]
 | n+1=>(i*esz,esz)::arrO (i+1) esz n
theorem arrO_at {esz:Nat}:∀ {n i j o z:Nat},(arrO i esz n)[j]? = some (o,z)->o=(i+j)*esz/\z=esz
 | 0,_,_,_,_,h=>by simp [arrO] at h
 | n+1,i,0,o,z,h=>by simp [arrO] at h;obtain ⟨rfl,rfl⟩:=h;simp
 | n+1,i,j+1,o,z,h=>by
  have:=arrO_at (n:=n) (i:=i+1) (j:=j) (by simpa [arrO] using h)
  rw [show i+(j+1)=i+1+j by omega];exact this
section
variable {C:Cx} {s:St} {w:World}
theorem exec_bda {P:Program} {ρ:Operand->Value} {w:World} {o:Oper} {T:TypeId} {parts:Array (Nat×Operand)} {n e esz sz:Nat} {ag:Bool} {zr cs:List Value} {pv:List (Nat×Value)} (ho:o.op = .build T parts)
  (ht:tiOk P T ⟨.arr n e esz,sz,ag,zr⟩=true) (hp:parts.toList.map (fun (i,x)=>(i,ρ x))=pv) (hcs:fillL (arrO 0 esz n) zr pv=some cs):(execOp ρ o).run P w = .ok (.value (.agg cs.toArray)) w:=by
 obtain ⟨d,x,z,hT⟩:=tiOk_und ht
 obtain ⟨rfl,y,hy,hys⟩:=hT.ar _ _ _ rfl
 obtain ⟨z',hz,hzc⟩:=zero_run ht w
 have ep:parts.map (fun (i,x)=>(i,ρ x))=pv.toArray:=by rw [<-hp,<-List.map_toArray,Array.toArray_toList]
 unfold execOp
 simp only [ho,ep]
 refine (run_bind_ok (P:=P) (x := .agg cs.toArray) (w':=w) ?_).trans rfl
 unfold Instr.build
 rw [run_bind_ok hz]
 simp only
 rw [run_bind_ok (und_run hT.und w)]
 simp only
 rw [run_bind_ok (size_run hy w),hys]
 have:=fill_ok (offs:=arrO 0 esz n) (place:=fun i=>some (i*esz,esz)) (fun i o z h=>by obtain ⟨rfl,rfl⟩:=arrO_at h;simp) hcs
 rw [hzc]
 simp only [this]
 rfl
theorem bda {md:Option Md} {ops:Array Oper} {T:TypeId} {parts:Array (Nat×Operand)} {d:Nat} {ty:TypeId} {pos:String} {af:Array Edge} {g:Option (Nat×Bool)} {rest:List Oper} {k:List Item} {l:Env} {c:CEnv} {n e esz sz:Nat} {ag:Bool} {zr cs:List Value} {pv:List (Nat×Value)}
  (h:Wk C (.reg md ops rest k ((d,.agg cs.toArray)::l) c) w)
  (hs:adv C.tab C.n C.ks 400 s = .opn md ops ⟨some d,.build T parts,ty,pos,af,g⟩ rest k l c []:=by rfl) (ht:C.tab.at T=some ⟨.arr n e esz,sz,ag,zr⟩:=by rfl)
  (hp:evparts l c [] parts.toList=some pv:=by rfl) (hcs:fillL (arrO 0 esz n) zr pv=some cs:=by rfl) (hf:fresh d l c []=true:=by rfl):Wk C s w :=
 rd (p:=[]) (fun hT _ hA hpp _ _=>exec_bda rfl (tab_at hT ht) (evparts_ok hA.k hA.kc.c hpp hp) hcs) h hs rfl hf (okR_no rfl)
theorem exec_ixa {P:Program} {ρ:Operand->Value} {w:World} {d:Option Nat} {T:TypeId} {x i:Operand} {ty:TypeId} {pos:String} {af:Array Edge} {g:Option (Nat×Bool)} {sz n e esz:Nat} {ag:Bool} {zr:List Value} {b o j:Nat} {kd:IntKind}
  (ht:tiOk P T ⟨.arr n e esz,sz,ag,zr⟩=true) (hx:ρ x = .pointer (some ⟨b,o,none⟩)) (hi:ρ i = .int kd j) (hb:j<n) :
  (execOp ρ ⟨d,.indexAddr T x i,ty,pos,af,g⟩).run P w = .ok (.value (.pointer (some ⟨b,o+j*esz,none⟩))) w:=by
 obtain ⟨dd,xx,zz,hT⟩:=tiOk_und ht
 have hu:=hT.und
 obtain ⟨rfl,y,hy,hys⟩:=hT.ar _ _ _ rfl
 simp only [execOp,hx,hi]
 refine (run_bind_ok (P:=P) (x:=_) (w':=w) ?_).trans rfl
 simp only [Instr.indexAt]
 rw [run_bind_ok (show (asIntOf (.int kd j)).run P w = .ok (kd,(j:Int)) w from rfl)]
 simp only
 rw [run_bind_ok (und_run hu w)]
 simp only [Instr.sureAddr]
 rw [run_bind_ok (show (pure (⟨b,o,none⟩:Addr):Sem Addr).run P w = .ok ⟨b,o,none⟩ w from rfl)]
 rw [run_bind_ok (show (pure (some (⟨b,o,none⟩:Addr),n,e):Sem (Option Addr×Nat×TypeId)).run P w = .ok (some ⟨b,o,none⟩,n,e) w from rfl)]
 simp only
 rw [run_bind_ok (und_run hu w)]
 simp only
 rw [if_pos ⟨by omega,by omega⟩,run_bind_ok (size_run hy w),hys,Int.toNat_natCast,add_none]
 rfl
theorem ixa {md:Option Md} {ops:Array Oper} {T:TypeId} {x i:Operand} {d:Nat} {ty:TypeId} {pos:String} {af:Array Edge} {g:Option (Nat×Bool)} {rest:List Oper} {k:List Item} {l:Env} {c:CEnv} {n e esz sz:Nat} {ag:Bool} {zr:List Value} {b o j:Nat} {kd:IntKind} {i0:Int}
  (h:Wk C (.reg md ops rest k ((d,.pointer (some ⟨b,o+j*esz,none⟩))::l) c) w)
  (hs:adv C.tab C.n C.ks 400 s = .opn md ops ⟨some d,.indexAddr T x i,ty,pos,af,g⟩ rest k l c []:=by rfl) (ht:C.tab.at T=some ⟨.arr n e esz,sz,ag,zr⟩:=by rfl)
  (hx:evc l c [] x=some (.pointer (some ⟨b,o,none⟩)):=by rfl) (hi:evc l c [] i=some (.int kd i0):=by rfl) (hij:i0=(j:Int):=by rfl) (hf:fresh d l c []=true:=by rfl) (hb:j<n:=by omega):Wk C s w :=
 rd (p:=[]) (fun hT _ hA hp _ _=>exec_ixa (tab_at hT ht) (evc_ok hA.k hA.kc.c hp hx) (by rw [<-hij];exact evc_ok hA.k hA.kc.c hp hi) hb) h hs rfl hf (okR_no rfl)
theorem exec_ixv {P:Program} {ρ:Operand->Value} {w:World} {d:Option Nat} {T:TypeId} {x i:Operand} {ty:TypeId} {pos:String} {af:Array Edge} {g:Option (Nat×Bool)} {sz n e esz se:Nat} {ag:Bool} {zr:List Value} {j:Nat} {kd:IntKind} {cs:List Value} {v:Value} {tk:TK} {ze:List Value}
  (ht:tiOk P T ⟨.arr n e esz,sz,ag,zr⟩=true) (he:tiOk P e ⟨tk,se,false,ze⟩=true) (hx:ρ x = .agg cs.toArray) (hi:ρ i = .int kd j) (hb:j<n) (hv:cs[j*esz]? = some v) :
  (execOp ρ ⟨d,.index T x i,ty,pos,af,g⟩).run P w = .ok (.value v) w:=by
 obtain ⟨dd,xx,zz,hT⟩:=tiOk_und ht
 have hu:=hT.und
 obtain ⟨rfl,y,hy,hys⟩:=hT.ar _ _ _ rfl
 simp only [execOp,hx,hi]
 refine (run_bind_ok (P:=P) (x:=_) (w':=w) ?_).trans rfl
 simp only [Instr.index]
 rw [run_bind_ok (show (asIntOf (.int kd j)).run P w = .ok (kd,(j:Int)) w from rfl)]
 simp only
 rw [run_bind_ok (und_run hu w)]
 simp only
 rw [if_pos ⟨by omega,by omega⟩,run_bind_ok (size_run hy w),hys,Int.toNat_natCast]
 unfold part
 rw [run_bind_ok (ti_agg he w).1,if_neg (by simp)]
 simp only [List.getElem?_toArray,hv]
 rfl
theorem ixv {md:Option Md} {ops:Array Oper} {T:TypeId} {x i:Operand} {d:Nat} {ty:TypeId} {pos:String} {af:Array Edge} {g:Option (Nat×Bool)} {rest:List Oper} {k:List Item} {l:Env} {c:CEnv} {n e esz sz se:Nat} {ag:Bool} {zr:List Value} {j:Nat} {kd:IntKind} {i0:Int} {cs:List Value} {v:Value} {tk:TK} {ze:List Value}
  (hv:cs[j*esz]? = some v) (h:Wk C (.reg md ops rest k ((d,v)::l) c) w)
  (hs:adv C.tab C.n C.ks 400 s = .opn md ops ⟨some d,.index T x i,ty,pos,af,g⟩ rest k l c []:=by rfl) (ht:C.tab.at T=some ⟨.arr n e esz,sz,ag,zr⟩:=by rfl) (he:C.tab.at e=some ⟨tk,se,false,ze⟩:=by rfl)
  (hx:evc l c [] x=some (.agg cs.toArray):=by rfl) (hi:evc l c [] i=some (.int kd i0):=by rfl) (hij:i0=(j:Int):=by rfl) (hf:fresh d l c []=true:=by rfl) (hb:j<n:=by omega):Wk C s w :=
 rd (p:=[]) (fun hT _ hA hp _ _=>exec_ixv (tab_at hT ht) (tab_at hT he) (evc_ok hA.k hA.kc.c hp hx) (by rw [<-hij];exact evc_ok hA.k hA.kc.c hp hi) hb hv) h hs rfl hf (okR_no rfl)
theorem rtc2 {k:List Item} {l:Env} {dd d2:Nat} {t:TypeId} {tk:TK} {sz:Nat} {zr:List Value} {b o:Nat} {cs:List Value} {v:Value} (hc:At w b o cs) (hq:C.Q (.tuple #[.agg cs.toArray,v]) w) (hs:adv C.tab C.n C.ks 400 s = .code (.code .ret::k) l:=by rfl)
  (ho:C.fn.results=#[.cell dd t,.tmp d2]:=by rfl) (ht:C.tab.at t=some ⟨tk,sz,true,zr⟩:=by rfl) (hl:cs.length=sz:=by rfl) (hx:look l dd=some (.pointer (some ⟨b,o,none⟩)):=by rfl) (hy:look l d2=some v:=by rfl):Wk C s w :=
 by_adv hs ⟨fun hT hf a hA=>fin hf (by
  unfold results
  rw [ho]
  have e:a.tmps.getD dd undef = .pointer (some ⟨b,o,none⟩):=hA.k _ _ hx
  have e':a.tmps.getD d2 undef=v:=hA.k _ _ hy
  have e2:(loadVar t ⟨b,o,none⟩).run C.P w = .ok (.agg cs.toArray) w:=loadVar_agg (tab_at hT ht) hc hl
  simp only [List.mapM_toArray,List.mapM_cons,List.mapM_nil,e,e',asAddr]
  have e3:(do let x <-(do let p <-(pure (⟨b,o,none⟩:Addr):Sem Addr);loadVar t p);let y <-(do let z <-(pure v:Sem Value);let u <-(pure []:Sem (List Value));pure (z::u));pure (x::y):Sem (List Value)).run C.P w = .ok [.agg cs.toArray,v] w:=(run_bind_ok e2).trans rfl
  refine (run_bind_ok (P:=C.P) (x:=#[.agg cs.toArray,v]) (w':=w) ?_).trans rfl
  exact (run_bind_ok e3).trans rfl) hA.defers hq (fun _=>step_ret)⟩
theorem ovl_get:∀ (vs cs:List Value) (o j:Nat),o+vs.length<=cs.length->(ovl cs o vs)[j]? = if o<=j/\j<o+vs.length then vs[j-o]? else cs[j]?
 | [],cs,o,j,_=>by simp only [ovl,List.length_nil];rw [if_neg (by omega)]
 | v::vs,cs,o,j,h=>by
  simp only [List.length_cons] at h
  simp only [ovl,List.length_cons]
  rw [ovl_get vs _ _ _ (by simp;omega)]
  by_cases h1:j=o
  ·subst h1
   rw [if_neg (by omega),if_pos (by omega),List.getElem?_set_self (by omega)];simp
  ·by_cases h2:o+1<=j/\j<o+1+vs.length
   ·rw [if_pos h2,if_pos (by omega),show j-o=j-(o+1)+1 by omega];simp
   ·rw [if_neg h2,if_neg (by omega),List.getElem?_set_ne (by omega)]
theorem ovl_whole {vs cs:List Value} (h:vs.length=cs.length):ovl cs 0 vs=vs:=by
 apply List.ext_getElem?
 intro j
 rw [ovl_get _ _ _ _ (by omega)]
 by_cases h1:j<vs.length
 ·rw [if_pos (by omega)];rfl
 ·rw [if_neg (by omega),List.getElem?_eq_none (by omega),List.getElem?_eq_none (by omega)]
theorem stw {md:Option Md} {ops:Array Oper} {T:TypeId} {x y:Operand} {ty:TypeId} {pos:String} {af:Array Edge} {g:Option (Nat×Bool)} {rest:List Oper} {k:List Item} {l:Env} {c:CEnv} {tk:TK} {sz:Nat} {ag:Bool} {zr:List Value} {b:Nat} {t:TypeId} {vs cs:List Value}
  (hb:Box w b t cs) (hl:vs.length=sz) (hl2:cs.length=sz) (hv:vs.all Value.oneCell'=true) (h:∀ w',Wr w b w'->Box w' b t vs->Wk C (.reg md ops rest k l c) w')
  (hs:adv C.tab C.n C.ks 400 s = .opn md ops ⟨none,.store T x y,ty,pos,af,g⟩ rest k l c []:=by rfl) (ht:C.tab.at T=some ⟨tk,sz,ag,zr⟩:=by rfl)
  (hx:evc l c [] x=some (.pointer (some ⟨b,0,none⟩)):=by rfl) (hy:evc l c [] y=some (.agg vs.toArray):=by rfl) (hm:∀ w',Wr w b w'->mdW md w w':=by intros;exact True.intro) (hnt:notT md=true:=by rfl):Wk C s w :=
 op_unit (okW_of rfl hnt) (hm _ (setCells_ok hb).1) (w':=setCells w b 0 vs) (fun hT a hA=>by
  have hz:=(ti_agg (tab_at hT ht) w).2
  simp only [execOp,evc_ok hA.k hA.kc.c (p:=[]) trivial hx,evc_ok hA.k hA.kc.c (p:=[]) trivial hy,Instr.storeAt,Instr.sureAddr]
  refine (run_bind_ok (P:=C.P) (x:=()) (w':=setCells w b 0 vs) ?_).trans rfl
  show (storeVar T ⟨b,0,none⟩ (.agg vs.toArray)).run C.P w=_
  unfold storeVar
  rw [run_bind_ok hz,if_neg (by simp [Value.cells,hl])]
  exact storeCells_run (vs:=vs) (i:=0) hb (by omega) hv)
  (h _ (setCells_ok hb).1 (by have:=(setCells_ok (o:=0) (vs:=vs) hb).2;rw [ovl_whole (by omega)] at this;exact this)) hs rfl
theorem mx {md:Option Md} {ops:Array Oper} {x y:Operand} {tys:Array TypeId} {d:Nat} {ty:TypeId} {pos:String} {af:Array Edge} {g:Option (Nat×Bool)} {rest:List Oper} {k:List Item} {l:Env} {c:CEnv} {kd:IntKind} {a b:Int}
  (h:Wk C (.reg md ops rest k ((d,.int kd (max a b))::l) c) w)
  (hs:adv C.tab C.n C.ks 400 s = .opn md ops ⟨some d,.call ⟨.builtin .max,#[x,y],tys⟩,ty,pos,af,g⟩ rest k l c []:=by rfl) (hx:evc l c [] x=some (.int kd a):=by rfl) (hy:evc l c [] y=some (.int kd b):=by rfl) (hf:fresh d l c []=true:=by rfl):Wk C s w :=
 rd (p:=[]) (fun _ _ hA hp w' _=>by
  simp only [execOp,resolve,List.map_toArray,List.map_cons,List.map_nil,evc_ok hA.k hA.kc.c hp hx,evc_ok hA.k hA.kc.c hp hy]
  show (Sem.bind (Builtin.max_ _ ty #[_,_]) _).run C.P w'=_
  refine (run_bind_ok (P:=C.P) (x := .int kd (max a b)) (w':=w') ?_).trans rfl
  simp only [Builtin.max_,List.foldlM,Builtin.max2]
  by_cases hab:a<b
  ·simp [hab,pure,Int.max_def];omega
  ·simp [hab,pure,Int.max_def];omega) h hs rfl hf (okR_no rfl)
end
end Go.Proofs.YtkmdfjpafkcleaaGreatDoor.Eng
namespace Go.Proofs.YtkmdfjpafkcleaaGreatDoor
def opensB (op:Int):Bool:=decide (29<=op)&&decide (op<=33)
def stepB (s:List (Int×Bool)) (d:Nat) (op:Int):Option (List (Int×Bool)×Nat) :=
 if opensB op=true then some ((op,false)::s,max d (s.length+1))
 else if op=34 then match s with
  | (o,false)::r=>if o=29∨o=33 then some ((o,true)::r,d) else none
  | _=>none
 else if op=35 then match s with
  | (o,e)::r=>if o=33/\e=false then none else some (r,d)
  | []=>none
 else some (s,d)
def runB:List Int->List (Int×Bool)->Nat->Option (List (Int×Bool)×Nat)
 | [],s,d=>some (s,d)
 | op::c,s,d=>match stepB s d op with
  | some (s',d')=>runB c s' d'
  | none=>none
def okB (c:List Int):Bool:=match runB c [] 0 with
 | some ([],d)=>decide (d<=6)
 | _=>false
def badB (c:List Int):Prop:=∀ s d d',s.length<=d->runB c s d≠some ([],d')
theorem runB_plain {op:Int} {c:List Int} {s:List (Int×Bool)} {d:Nat} (h1:opensB op=false) (h2:op≠34) (h3:op≠35):runB (op::c) s d=runB c s d:=by
 simp [runB,stepB,h1,h2,h3]
theorem runB_open {op:Int} {c:List Int} {s:List (Int×Bool)} {d:Nat} (h1:opensB op=true):runB (op::c) s d=runB c ((op,false)::s) (max d (s.length+1)):=by
 simp [runB,stepB,h1]
theorem runB_else {o:Int} {e:Bool} {c:List Int} {s:List (Int×Bool)} {d:Nat}:runB (34::c) ((o,e)::s) d=if e=false/\(o=29∨o=33) then runB c ((o,true)::s) d else none:=by
 cases e
 ·by_cases h:o=29∨o=33 <;> simp [runB,stepB,opensB,h]
 ·simp [runB,stepB,opensB]
theorem runB_end {o:Int} {e:Bool} {c:List Int} {s:List (Int×Bool)} {d:Nat}:runB (35::c) ((o,e)::s) d=if o=33/\e=false then none else runB c s d:=by
 by_cases h:o=33/\e=false
 ·obtain ⟨rfl,rfl⟩:=h;simp [runB,stepB,opensB]
 ·rw [if_neg h]
  have:stepB ((o,e)::s) d 35=some (s,d):=by
   simp [stepB,opensB]
   intro h1
   cases e with
   | true=>rfl
   | false=>exact absurd ⟨h1,rfl⟩ h
  simp [runB,this]
theorem runB_top {op:Int} {c:List Int} {d:Nat} (h:op=34∨op=35):runB (op::c) [] d=none:=by
 rcases h with rfl | rfl <;> simp [runB,stepB,opensB]
def partsOk (c:List Int) (i:Nat) (next deep:Int):Prop :=
 (deep = -1/\badB (c.drop i))∨∃ n k:Nat,next=n/\deep=k/\i<=n/\n<=c.length/\k<=n-i/\(n=c.length∨c[n]? = some 34∨c[n]? = some 35)/\∀ s D,s.length<=D->runB (c.drop i) s D=runB (c.drop n) s (max D (s.length+k))
def bracketOk (c:List Int) (i:Nat) (next deep:Int):Prop :=
 (deep = -1/\badB (c.drop i))∨∃ n k:Nat,next=n/\deep=k/\i<n/\n<c.length/\k+1<=n+1-i/\∀ s D,s.length<=D->runB (c.drop i) s D=runB (c.drop (n+1)) s (max D (s.length+k+1))
end Go.Proofs.YtkmdfjpafkcleaaGreatDoor
namespace Go.Proofs.YtkmdfjpafkcleaaGreatDoor
open Eng Go.RowKit
def mosts:List Int:=[0,0,9,4,9,48,6,9,15,15,3,9,50,5,24]
def isPool (r:Nat):Bool:=decide ((r:Int)=4)||decide ((r:Int)=6)||decide ((r:Int)=7)||decide ((r:Int)=8)||decide ((r:Int)=9)
def inR (n:Int) (r:Nat) (pooled:Bool):Bool :=
 if r=1 then decide (-2147483648<=n)&&decide (n<=2147483647) else if r=3 then decide (2<=n)&&decide (n<=4) else if r=14 then decide (1<=n)&&decide (n<=24)
 else if (pooled&&isPool r)=true then decide (0<=n)&&decide (n<60) else decide (0<=n)&&decide (n<=mosts.getD r 0)
def rngs:List (Nat×Nat):=[(0,0),(1,0),(2,0),(2,0),(0,0),(0,0),(0,0),(0,0),(0,0),(0,0),(0,0),(0,0),(3,4),(0,0),(4,0),(5,0),(5,4),(6,0),(6,0),(0,0),(0,0),(0,0),(7,0),(7,0),(4,0),(8,0),(9,0),(10,0),(11,0),(0,0),(12,2),(13,0),(14,0),(0,0),(0,0),(0,0)]
def validI (i:Ins) (pooled:Bool):Bool:=decide (0<=i.op)&&decide (i.op<36)&&inR i.a (rngs.getD i.op.toNat (0,0)).1 pooled&&inR i.b (rngs.getD i.op.toNat (0,0)).2 pooled&&(decide (¬i.op=12)||decide (¬i.a=3)||decide (i.b=0))
theorem w_most (r:Nat) (hr:r<15) (w:World):Ret Tryz.prog 283 #[I r] w fun v w'=>v=I (mosts.getD r 0)/\w'=w:=by
 refine entr (vs:=[I r]) [0,2] tabok Tryz.func283 (by kernel_rfl) ?_
 refine bda ?_
 refine ixv (j:=r) (v:=I (mosts.getD r 0)) ?_ ?_
 rotate_left
 ·exact rt1 ⟨rfl,rfl⟩
 ·show (mosts.map I)[r*1]? = _
  rw [Nat.mul_one,List.getElem?_map,List.getD_eq_getElem?_getD]
  obtain ⟨x,hx⟩:=some_of_lt (l:=mosts) (k:=r) hr
  rw [hx];rfl
theorem w_pools (r:Nat) (w:World):Ret Tryz.prog 284 #[I r] w fun v w'=>v = .bool (isPool r)/\w'=w:=by
 refine entr (vs:=[I r]) [0,2] tabok Tryz.func284 (by kernel_rfl) ?_
 exact rt1 ⟨rfl,rfl⟩
theorem w_in (n:Int) (r:Nat) (p:Bool) (hr:r<15) (w:World):Ret Tryz.prog 256 #[I n,I r,.bool p] w fun v w'=>v = .bool (inR n r p)/\w'=w:=by
 refine entr (vs:=[I n,I r,.bool p]) [0,1,2,6,7,16,25,35] tabok Tryz.func256 (by kernel_rfl) ?_
 refine br (t:=decide ((r:Int)=1)) (fun h => ?_) (fun h => ?_)
 ·have h1:r=1:=by have:=of_decide_eq_true h;omega
  exact rt1 ⟨vb (by unfold inR;rw [if_pos h1]),rfl⟩
 have n1:¬r=1:=by have:=of_decide_eq_false h;omega
 refine br (t:=decide ((r:Int)=3)) (fun h => ?_) (fun h => ?_)
 ·have h1:r=3:=by have:=of_decide_eq_true h;omega
  exact rt1 ⟨vb (by unfold inR;rw [if_neg n1,if_pos h1]),rfl⟩
 have n3:¬r=3:=by have:=of_decide_eq_false h;omega
 refine br (t:=decide ((r:Int)=14)) (fun h => ?_) (fun h => ?_)
 ·have h1:r=14:=by have:=of_decide_eq_true h;omega
  refine sp (I 0) (fun p1 => ?_) (fun p1 => ?_)
  ·refine cl (w_most 14 (by omega) _) ?_
   rintro _ _ ⟨rfl,rfl⟩
   refine rt1 ⟨vb ?_,rfl⟩
   unfold inR;rw [if_neg n1,if_neg n3,if_pos h1]
   rw [show decide (1<=n)=true from p1];rfl
  ·refine rt1 ⟨vb ?_,rfl⟩
   unfold inR;rw [if_neg n1,if_neg n3,if_pos h1]
   rw [show decide (1<=n)=false from p1];rfl
 have n14:¬r=14:=by have:=of_decide_eq_false h;omega
 refine sp (.bool false) (fun p1 => ?_) (fun p1 => ?_)
 ·refine cl (w_pools r _) ?_
  rintro _ _ ⟨rfl,rfl⟩
  refine br (t:=isPool r) (fun h => ?_) (fun h => ?_)
  ·refine rt1 ⟨vb ?_,rfl⟩
   unfold inR;rw [if_neg n1,if_neg n3,if_neg n14,p1,h,if_pos (by rfl)]
  ·refine sp (I 0) (fun p2 => ?_) (fun p2 => ?_)
   ·refine cl (w_most r hr _) ?_
    rintro _ _ ⟨rfl,rfl⟩
    refine rt1 ⟨vb ?_,rfl⟩
    unfold inR;rw [if_neg n1,if_neg n3,if_neg n14,p1,h,if_neg (by simp),show decide (0<=n)=true from p2]
   ·refine rt1 ⟨vb ?_,rfl⟩
    unfold inR;rw [if_neg n1,if_neg n3,if_neg n14,p1,h,if_neg (by simp),show decide (0<=n)=false from p2];rfl
 ·refine br (fun h => ?_) (fun h => ?_)
  ·rw [p1] at h;cases h
  ·refine sp (I 0) (fun p2 => ?_) (fun p2 => ?_)
   ·refine cl (w_most r hr _) ?_
    rintro _ _ ⟨rfl,rfl⟩
    refine rt1 ⟨vb ?_,rfl⟩
    unfold inR;rw [if_neg n1,if_neg n3,if_neg n14,p1,if_neg (by simp),show decide (0<=n)=true from p2]
   ·refine rt1 ⟨vb ?_,rfl⟩
    unfold inR;rw [if_neg n1,if_neg n3,if_neg n14,p1,if_neg (by simp),show decide (0<=n)=false from p2];rfl
set_option maxRecDepth 200000 in
theorem w_table (w:World):Ret Tryz.prog 282 #[] w fun v w'=>(∃ cs:List Value,v = .agg cs.toArray/\cs.length=144/\cs.all Value.oneCell'=true/\((List.range 36).map fun k=>(cs[k*4+1]?,cs[k*4+2]?))=rngs.map fun r=>(some (I r.1),some (I r.2)))/\Bl w w':=by
 refine entr (vs:=[]) [0] tabok Tryz.func282 (by kernel_rfl) ?_
 refine al fun b w1 hn => ?_
 iterate 36 refine bd ?_
 refine bda ?_
 refine stw hn.box ?_ rfl ?_ fun w2 h2 hb2 => ?_
 ·rfl
 ·rfl
 exact rtc hb2.at ⟨⟨_,rfl,rfl,rfl,rfl⟩,hn.wr h2⟩
theorem w_known (op:Int) (w:World):Ret Tryz.prog 255 #[I op] w fun v w'=>(if 0<=op/\op<36 then ∃ x y,x.oneCell'=true/\y.oneCell'=true/\v = .tuple #[.agg #[x,I (rngs.getD op.toNat (0,0)).1,I (rngs.getD op.toNat (0,0)).2,y],.bool true]
  else v = .tuple #[.agg #[.string ⟨#[]⟩,I 0,I 0,I 0],.bool false])/\Bl w w':=by
 refine entr (vs:=[I op]) [0,2,3,4,11] tabok Tryz.func255 (by kernel_rfl) ?_
 refine al fun b0 w1 h1 => ?_
 refine cl (w_table _) ?_
 rintro _ w2 ⟨⟨cs,rfl,hl,ha,ht⟩,hB2⟩
 refine al fun b3 w3 h3 => ?_
 refine stw h3.box hl rfl ha fun w4 h4 hb4 => ?_
 have hB14:=hB2.trans (h3.wr h4)
 have hb0:=Bl.box hB14 h1.box
 refine br (t:=decide (op<0)||decide (op≥36)) (fun h => ?_) (fun h => ?_)
 ·simp only [Bool.or_eq_true,decide_eq_true_eq] at h
  refine bd ?_
  refine sta hb0 fun w5 h5 hb5 => ?_
  refine rtc2 hb5.at ⟨?_,?_⟩
  ·rw [if_neg (by omega)]
  ·exact Below.trans (Bl.trans h1.bl hB14) (h5.below (by have:=h1.blk;omega))
 ·simp only [Bool.or_eq_false_iff,decide_eq_false_iff_not] at h
  obtain ⟨j,rfl⟩:∃ j:Nat,op=j:=⟨op.toNat,by omega⟩
  have hj:j<36:=by omega
  have key:(cs[j*4+1]?,cs[j*4+2]?)=(some (I (rngs.getD j (0,0)).1),some (I (rngs.getD j (0,0)).2)):=by
   have:=congrArg (fun l=>l[j]?) ht
   simp only [List.getElem?_map] at this
   rw [List.getElem?_range hj] at this
   obtain ⟨r,hr⟩:=some_of_lt (l:=rngs) (k:=j) hj
   rw [hr] at this
   rw [List.getD_eq_getElem?_getD,hr]
   exact Option.some.inj this
  obtain ⟨x,hx⟩:=some_of_lt (l:=cs) (k:=j*4) (by omega)
  obtain ⟨y,hy⟩:=some_of_lt (l:=cs) (k:=j*4+3) (by omega)
  simp only [Prod.mk.injEq] at key
  have hAt:At w4 b3 (0+j*4) [x,I (rngs.getD j (0,0)).1,I (rngs.getD j (0,0)).2,y]:=fun i v hv=>by
   rw [Nat.zero_add]
   match i,hv with
   | 0,hv=>simp at hv;subst hv;exact hb4.cell hx
   | 1,hv=>simp at hv;subst hv;exact hb4.cell key.1
   | 2,hv=>simp at hv;subst hv;exact hb4.cell key.2
   | 3,hv=>simp at hv;subst hv;exact hb4.cell hy
   | i+4,hv=>simp at hv
  have hx1:x.oneCell'=true:=List.all_eq_true.1 ha x (List.mem_of_getElem? hx)
  have hy1:y.oneCell'=true:=List.all_eq_true.1 ha y (List.mem_of_getElem? hy)
  refine ixa ?_
  refine lda hAt ?_
  refine stw (vs:=[x,I (rngs.getD j (0,0)).1,I (rngs.getD j (0,0)).2,y]) hb0 rfl rfl (by simp only [List.all_cons,hx1,hy1];rfl) fun w5 h5 hb5 => ?_
  refine rtc2 hb5.at ⟨?_,?_⟩
  ·rw [if_pos (by omega)]
   exact ⟨x,y,hx1,hy1,rfl⟩
  ·exact Below.trans (Bl.trans h1.bl hB14) (h5.below (by have:=h1.blk;omega))
end Go.Proofs.YtkmdfjpafkcleaaGreatDoor
namespace Go.Proofs.YtkmdfjpafkcleaaGreatDoor
open Eng Go.RowKit
theorem rng_lt (j:Nat):(rngs.getD j (0,0)).1<15/\(rngs.getD j (0,0)).2<15:=by
 by_cases hj:j<36
 ·obtain ⟨r,hr⟩:=some_of_lt (l:=rngs) (k:=j) hj
  rw [List.getD_eq_getElem?_getD,hr]
  have:rngs.all (fun r=>decide (r.1<15)&&decide (r.2<15))=true:=by decide
  have:=List.all_eq_true.1 this r (List.mem_of_getElem? hr)
  simpa using this
 ·rw [List.getD_eq_getElem?_getD,List.getElem?_eq_none (by show 36<=j;omega)];simp
theorem w_Valid (i:Ins) (p:Bool) (w:World):Ret Tryz.prog 212 #[.agg #[I i.op,I i.a,I i.b],.bool p] w fun v w'=>v = .bool (validI i p)/\Bl w w':=by
 refine entr (vs:=[.agg #[I i.op,I i.a,I i.b],.bool p]) [0,1,2,4,5,6,32] tabok Tryz.func212 (by kernel_rfl) ?_
 refine bx (cs:=[I i.op,I i.a,I i.b]) fun b w1 hn => ?_
 refine ld (hn.box.cell rfl) ?_
 refine cl (w_known i.op _) ?_
 rintro v w2 ⟨hv,hB⟩
 by_cases hk:0<=i.op/\i.op<36
 ·rw [if_pos hk] at hv
  obtain ⟨x,y,hx1,hy1,rfl⟩:=hv
  have hval:validI i p=(inR i.a (rngs.getD i.op.toNat (0,0)).1 p&&inR i.b (rngs.getD i.op.toNat (0,0)).2 p&&(decide (¬i.op=12)||decide (¬i.a=3)||decide (i.b=0))):=by
   unfold validI;rw [decide_eq_true hk.1,decide_eq_true hk.2];rfl
  obtain ⟨hr1,hr2⟩:=rng_lt i.op.toNat
  generalize (rngs.getD i.op.toNat (0,0)).1=ra at *
  generalize (rngs.getD i.op.toNat (0,0)).2=rb at *
  refine al fun b5 w3 h5 => ?_
  refine stw (vs:=[x,I ra,I rb,y]) h5.box rfl rfl (by simp only [List.all_cons,hx1,hy1];rfl) fun w4 h6 hb5 => ?_
  have hB4:=hB.trans (h5.wr h6)
  have hb:=Bl.box hB4 hn.box
  refine ldg (fun _=>hb.cell rfl) ?_
  refine ldg (fun _=>hb5.cell rfl) ?_
  refine sp (.bool false) (fun _ => ?_) (fun q => ?_)
  rotate_left
  ·exact absurd q (by decide)
  refine cl (w_in i.a ra p hr1 _) ?_
  rintro _ _ ⟨rfl,rfl⟩
  refine ldg (fun _=>hb.cell rfl) ?_
  refine ldg (fun _=>hb5.cell rfl) ?_
  refine sp (.bool false) (fun q => ?_) (fun q => ?_)
  ·refine cl (w_in i.b rb p hr2 _) ?_
   rintro _ _ ⟨rfl,rfl⟩
   refine br (fun h => ?_) (fun h => ?_)
   ·refine rt1 ⟨vb ?_,hn.bl.trans hB4⟩
    rw [hval];revert q h;cases inR i.a ra p <;> cases inR i.b rb p <;> simp
   ·refine ld (hb.cell rfl) ?_
    refine ldg (fun _=>hb.cell rfl) ?_
    refine ldg (fun _=>hb.cell rfl) ?_
    refine rt1 ⟨vb ?_,hn.bl.trans hB4⟩
    rw [hval];revert q h;cases inR i.a ra p <;> cases inR i.b rb p <;> simp
  ·refine br (fun h => ?_) (fun h => ?_)
   ·refine rt1 ⟨vb ?_,hn.bl.trans hB4⟩
    rw [hval];revert q;cases inR i.a ra p <;> simp
   ·simp at h
 ·rw [if_neg hk] at hv
  subst hv
  refine al fun b5 w3 h5 => ?_
  refine sta h5.box fun w4 h6 hb5 => ?_
  have hB4:=hB.trans (h5.wr h6)
  have hb:=Bl.box hB4 hn.box
  refine ldg (fun _=>hb.cell rfl) ?_
  refine ldg (fun _=>hb5.cell rfl) ?_
  refine sp (.bool false) (fun q => ?_) (fun q => ?_)
  ·exact absurd q (by decide)
  refine ldg (fun _=>hb.cell rfl) ?_
  refine ldg (fun _=>hb5.cell rfl) ?_
  refine sp (.bool false) (fun q2 => ?_) (fun q2 => ?_)
  ·exact absurd q2 (by decide)
  refine br (fun h => ?_) (fun h => ?_)
  ·refine rt1 ⟨vb ?_,hn.bl.trans hB4⟩
   unfold validI
   by_cases h1:0<=i.op
   ·rw [decide_eq_false (p:=i.op<36) (by omega)];simp
   ·rw [decide_eq_false h1];simp
  ·simp at h
end Go.Proofs.YtkmdfjpafkcleaaGreatDoor
namespace Go.Proofs.YtkmdfjpafkcleaaGreatDoor
open Eng Go.RowKit
def opN (op:Int):Int:=if op=12∨op=16∨op=30 then 2 else if op=1∨op=2∨op=3∨op=14∨op=15∨op=17∨op=18∨op=22∨op=23∨op=24∨op=25∨op=26∨op=27∨op=28∨op=31∨op=32 then 1 else 0
def opE (op:Int):Int:=if op<0∨35<op then 3 else 0
theorem r3_Operands (op:Int) (w:World):Ret Tryz.prog 227 #[I op] w fun v w'=>v = .tuple #[I (opN op),I (opE op)]/\w'=w:=by
 refine entr (vs:=[I op]) [0,2,3,4,5,9,31] tabok Tryz.func227 (by kernel_rfl) ?_
 have fin:∀ {a b:Int},opN op=a->opE op=b->Value.tuple #[I a,I b] = .tuple #[I (opN op),I (opE op)]:=fun e f=>by rw [e,f]
 refine br (t:=decide (op=12)) (fun h => ?_) (fun h => ?_)
 ·have e:=of_decide_eq_true h
  refine brt ?_ (hp:=h)
  subst e
  exact rt2 ⟨fin (a:=2) (b:=0) (by decide) (by decide),rfl⟩
 have n12:=of_decide_eq_false h
 refine br (t:=decide (op=16)) (fun h => ?_) (fun h => ?_)
 ·have e:=of_decide_eq_true h
  refine brt ?_ (hp:=h)
  subst e
  exact rt2 ⟨fin (a:=2) (b:=0) (by decide) (by decide),rfl⟩
 have n16:=of_decide_eq_false h
 refine br (t:=decide (op=30)) (fun h => ?_) (fun h => ?_)
 ·have e:=of_decide_eq_true h
  subst e
  exact rt2 ⟨fin (a:=2) (b:=0) (by decide) (by decide),rfl⟩
 have n30:=of_decide_eq_false h
 refine br (t:=decide (op=1)) (fun h => ?_) (fun h => ?_)
 ·have e:=of_decide_eq_true h
  refine brt ?_ (hp:=h)
  subst e
  exact rt2 ⟨fin (a:=1) (b:=0) (by decide) (by decide),rfl⟩
 have n1:=of_decide_eq_false h
 refine br (t:=decide (op=2)) (fun h => ?_) (fun h => ?_)
 ·have e:=of_decide_eq_true h
  refine brt ?_ (hp:=h)
  subst e
  exact rt2 ⟨fin (a:=1) (b:=0) (by decide) (by decide),rfl⟩
 have n2:=of_decide_eq_false h
 refine br (t:=decide (op=3)) (fun h => ?_) (fun h => ?_)
 ·have e:=of_decide_eq_true h
  refine brt ?_ (hp:=h)
  subst e
  exact rt2 ⟨fin (a:=1) (b:=0) (by decide) (by decide),rfl⟩
 have n3:=of_decide_eq_false h
 refine br (t:=decide (op=14)) (fun h => ?_) (fun h => ?_)
 ·have e:=of_decide_eq_true h
  refine brt ?_ (hp:=h)
  subst e
  exact rt2 ⟨fin (a:=1) (b:=0) (by decide) (by decide),rfl⟩
 have n14:=of_decide_eq_false h
 refine br (t:=decide (op=15)) (fun h => ?_) (fun h => ?_)
 ·have e:=of_decide_eq_true h
  refine brt ?_ (hp:=h)
  subst e
  exact rt2 ⟨fin (a:=1) (b:=0) (by decide) (by decide),rfl⟩
 have n15:=of_decide_eq_false h
 refine br (t:=decide (op=17)) (fun h => ?_) (fun h => ?_)
 ·have e:=of_decide_eq_true h
  refine brt ?_ (hp:=h)
  subst e
  exact rt2 ⟨fin (a:=1) (b:=0) (by decide) (by decide),rfl⟩
 have n17:=of_decide_eq_false h
 refine br (t:=decide (op=18)) (fun h => ?_) (fun h => ?_)
 ·have e:=of_decide_eq_true h
  refine brt ?_ (hp:=h)
  subst e
  exact rt2 ⟨fin (a:=1) (b:=0) (by decide) (by decide),rfl⟩
 have n18:=of_decide_eq_false h
 refine br (t:=decide (op=22)) (fun h => ?_) (fun h => ?_)
 ·have e:=of_decide_eq_true h
  refine brt ?_ (hp:=h)
  subst e
  exact rt2 ⟨fin (a:=1) (b:=0) (by decide) (by decide),rfl⟩
 have n22:=of_decide_eq_false h
 refine br (t:=decide (op=23)) (fun h => ?_) (fun h => ?_)
 ·have e:=of_decide_eq_true h
  refine brt ?_ (hp:=h)
  subst e
  exact rt2 ⟨fin (a:=1) (b:=0) (by decide) (by decide),rfl⟩
 have n23:=of_decide_eq_false h
 refine br (t:=decide (op=24)) (fun h => ?_) (fun h => ?_)
 ·have e:=of_decide_eq_true h
  refine brt ?_ (hp:=h)
  subst e
  exact rt2 ⟨fin (a:=1) (b:=0) (by decide) (by decide),rfl⟩
 have n24:=of_decide_eq_false h
 refine br (t:=decide (op=25)) (fun h => ?_) (fun h => ?_)
 ·have e:=of_decide_eq_true h
  refine brt ?_ (hp:=h)
  subst e
  exact rt2 ⟨fin (a:=1) (b:=0) (by decide) (by decide),rfl⟩
 have n25:=of_decide_eq_false h
 refine br (t:=decide (op=26)) (fun h => ?_) (fun h => ?_)
 ·have e:=of_decide_eq_true h
  refine brt ?_ (hp:=h)
  subst e
  exact rt2 ⟨fin (a:=1) (b:=0) (by decide) (by decide),rfl⟩
 have n26:=of_decide_eq_false h
 refine br (t:=decide (op=27)) (fun h => ?_) (fun h => ?_)
 ·have e:=of_decide_eq_true h
  refine brt ?_ (hp:=h)
  subst e
  exact rt2 ⟨fin (a:=1) (b:=0) (by decide) (by decide),rfl⟩
 have n27:=of_decide_eq_false h
 refine br (t:=decide (op=28)) (fun h => ?_) (fun h => ?_)
 ·have e:=of_decide_eq_true h
  refine brt ?_ (hp:=h)
  subst e
  exact rt2 ⟨fin (a:=1) (b:=0) (by decide) (by decide),rfl⟩
 have n28:=of_decide_eq_false h
 refine br (t:=decide (op=31)) (fun h => ?_) (fun h => ?_)
 ·have e:=of_decide_eq_true h
  refine brt ?_ (hp:=h)
  subst e
  exact rt2 ⟨fin (a:=1) (b:=0) (by decide) (by decide),rfl⟩
 have n31:=of_decide_eq_false h
 refine br (t:=decide (op=32)) (fun h => ?_) (fun h => ?_)
 ·have e:=of_decide_eq_true h
  subst e
  exact rt2 ⟨fin (a:=1) (b:=0) (by decide) (by decide),rfl⟩
 have n32:=of_decide_eq_false h
 have e0:opN op=0:=by simp [opN,n12,n16,n30,n1,n2,n3,n14,n15,n17,n18,n22,n23,n24,n25,n26,n27,n28,n31,n32]
 refine br (t:=decide (op<0)||decide (op > 35)) (fun h => ?_) (fun h => ?_)
 ·simp only [Bool.or_eq_true,decide_eq_true_eq] at h
  exact rt2 ⟨fin (a:=0) (b:=3) e0 (by unfold opE;rw [if_pos (by omega)]),rfl⟩
 ·simp only [Bool.or_eq_false_iff,decide_eq_false_iff_not] at h
  exact rt2 ⟨fin (a:=0) (b:=0) e0 (by unfold opE;rw [if_neg (by omega)]),rfl⟩
theorem r3_in (n lo hi:Int) (w:World):Ret Tryz.prog 228 #[I n,I lo,I hi] w fun v w'=>v = .bool (decide (lo<=n)&&decide (n<=hi))/\w'=w:=by
 refine entr (vs:=[I n,I lo,I hi]) [0,1,2,6] tabok Tryz.func228 (by kernel_rfl) ?_
 exact rt1 ⟨rfl,rfl⟩
theorem r3_most (n:Int) (p:Bool) (w:World) (h0:0<=n) (h1:n<=1000):Ret Tryz.prog 229 #[I n,.bool p] w fun v w'=>v=I (if p=true then 59 else n-1)/\w'=w:=by
 refine entr (vs:=[I n,.bool p]) [0,1,4,5] tabok Tryz.func229 (by kernel_rfl) ?_
 refine br (fun h => ?_) (fun h => ?_)
 ·subst h;exact rt1 ⟨rfl,rfl⟩
 ·subst h
  refine rt1 ⟨?_,rfl⟩
  rw [wrap_fit (by omega) (by omega)];rfl
end Go.Proofs.YtkmdfjpafkcleaaGreatDoor
namespace Go.Proofs.YtkmdfjpafkcleaaGreatDoor
open Eng Go.RowKit
def vbad (op a b:Int):Bool:=(decide (¬opE op=0)||(decide (opN op<2)&&decide (¬b=0)))||(decide (opN op<1)&&decide (¬a=0))
theorem vgood {op a b:Int} (h:vbad op a b=false):opE op=0/\(opN op<2->b=0)/\(opN op<1->a=0):=by
 unfold vbad at h
 simp only [Bool.or_eq_false_iff,Bool.and_eq_false_iff,decide_eq_false_iff_not] at h
 omega
theorem valid_bad (op a b:Int) (p:Bool) (h:vbad op a b=true):validI ⟨op,a,b⟩ p=false:=by
 by_cases hr:0<=op/\op<=35
 ·have hc:op=0∨op=1∨op=2∨op=3∨op=4∨op=5∨op=6∨op=7∨op=8∨op=9∨op=10∨op=11∨op=12∨op=13∨op=14∨op=15∨op=16∨op=17∨op=18∨op=19∨op=20∨op=21∨op=22∨op=23∨op=24∨op=25∨op=26∨op=27∨op=28∨op=29∨op=30∨op=31∨op=32∨op=33∨op=34∨op=35:=by omega
  rcases hc with rfl | rfl | rfl | rfl | rfl | rfl | rfl | rfl | rfl | rfl | rfl | rfl | rfl | rfl | rfl | rfl | rfl | rfl | rfl | rfl | rfl | rfl | rfl | rfl | rfl | rfl | rfl | rfl | rfl | rfl | rfl | rfl | rfl | rfl | rfl | rfl <;>
   (simp [vbad,opE,opN] at h) <;> (try (cases p <;> (rw [<-Bool.not_eq_true];simp [validI,inR,rngs,isPool,mosts]) <;> omega))
 ·unfold validI
  by_cases h1:0<=op
  ·rw [decide_eq_false (p:=op<36) (by omega)];simp
  ·rw [decide_eq_false h1];simp
theorem r3_Valid (i:Ins) (p:Bool) (w:World):Ret Tryz.prog 177 #[.agg #[I i.op,I i.a,I i.b],.bool p] w fun v w'=>v = .bool (validI i p)/\Bl w w':=by
 obtain ⟨op,a,b⟩:=i
 refine entr (vs:=[.agg #[I op,I a,I b],.bool p]) [0,1,2,4,5,6,32,34,35,40,46,50,64,72,77,89,97,105,113,118,123,133,138] tabok Tryz.func177 (by kernel_rfl) ?_
 refine bx (cs:=[I op,I a,I b]) fun bb w1 hn => ?_
 have hx:=hn.box
 have hn2:=hn.bl
 refine ld (hx.cell rfl) ?_
 refine cl (r3_Operands op _) ?_
 rintro _ _ ⟨rfl,rfl⟩
 refine ldg2 (fun _ _=>hx.cell rfl) ?_
 refine ldg2 (fun _ _=>hx.cell rfl) ?_
 refine br (t:=vbad op a b) (fun h => ?_) (fun hg => ?_)
 ·exact rt1 ⟨vb (valid_bad op a b p h).symm,hn.bl⟩
 refine ld (hx.cell rfl) ?_
 refine br (t:=decide (op=1)) (fun h => ?_) (fun h => ?_)
 ·have e:=of_decide_eq_true h
  subst e
  refine ld (hx.cell rfl) ?_
  refine cl (r3_in _ _ _ _) ?_
  rintro _ _ ⟨rfl,rfl⟩
  refine rt1 ⟨vb ?_,hn2⟩
  obtain ⟨-,g1,g2⟩:=vgood hg
  try (have hb:=g1 (by decide);subst hb)
  cases p <;> (rw [Bool.eq_iff_iff];simp [validI,inR,rngs,isPool,mosts]) <;> omega
 have n1:=of_decide_eq_false h
 refine br (t:=decide (op=2)) (fun h => ?_) (fun h => ?_)
 ·have e:=of_decide_eq_true h
  refine brt ?_ (hp:=h)
  subst e
  refine ld (hx.cell rfl) ?_
  refine cl (r3_in _ _ _ _) ?_
  rintro _ _ ⟨rfl,rfl⟩
  refine rt1 ⟨vb ?_,hn2⟩
  obtain ⟨-,g1,g2⟩:=vgood hg
  try (have hb:=g1 (by decide);subst hb)
  cases p <;> (rw [Bool.eq_iff_iff];simp [validI,inR,rngs,isPool,mosts]) <;> omega
 have n2:=of_decide_eq_false h
 refine br (t:=decide (op=3)) (fun h => ?_) (fun h => ?_)
 ·have e:=of_decide_eq_true h
  subst e
  refine ld (hx.cell rfl) ?_
  refine cl (r3_in _ _ _ _) ?_
  rintro _ _ ⟨rfl,rfl⟩
  refine rt1 ⟨vb ?_,hn2⟩
  obtain ⟨-,g1,g2⟩:=vgood hg
  try (have hb:=g1 (by decide);subst hb)
  cases p <;> (rw [Bool.eq_iff_iff];simp [validI,inR,rngs,isPool,mosts]) <;> omega
 have n3:=of_decide_eq_false h
 refine br (t:=decide (op=12)) (fun h => ?_) (fun h => ?_)
 ·have e:=of_decide_eq_true h
  subst e
  refine ld (hx.cell rfl) ?_
  refine br (t:=decide (a=3)) (fun h3 => ?_) (fun h3 => ?_)
  ·have e3:=of_decide_eq_true h3
   subst e3
   refine ld (hx.cell rfl) ?_
   refine rt1 ⟨vb ?_,hn2⟩
   cases p <;> (rw [Bool.eq_iff_iff];simp [validI,inR,rngs,isPool,mosts]) <;> omega
  ·refine ds fun w2 h2 => ?_
   have hx:=h2.box hx
   have hn2:=hn.bl.trans h2.bl
   refine ld (hx.cell rfl) ?_
   refine clq (r3_in _ _ _ _) ?_
   refine ldg (fun _=>hx.cell rfl) ?_
   refine sp (I 0) (fun q => ?_) (fun q => ?_)
   ·refine clq (r3_most 10 p _ (by omega) (by omega)) ?_
    refine sp (.bool false) (fun q2 => ?_) (fun q2 => ?_)
    ·refine clq (r3_in _ _ _ _) ?_
     refine rt1 ⟨vb ?_,hn2⟩
     simp only [Bool.and_eq_true,decide_eq_true_eq] at q
     try have h3':=of_decide_eq_false h3
     cases p <;> (rw [Bool.eq_iff_iff];simp [validI,inR,rngs,isPool,mosts]) <;> omega
    ·exact absurd q2 (by decide)
   ·refine sp (.bool false) (fun q2 => ?_) (fun q2 => ?_)
    ·rw [q] at q2;cases q2
    ·refine rt1 ⟨vb ?_,hn2⟩
     rw [q]
     simp only [Bool.not_true,Bool.and_eq_false_iff,decide_eq_false_iff_not] at q
     try have h3':=of_decide_eq_false h3
     cases p <;> (rw [Bool.eq_iff_iff];simp [validI,inR,rngs,isPool,mosts]) <;> omega
 have n12:=of_decide_eq_false h
 refine br (t:=decide (op=14)) (fun h => ?_) (fun h => ?_)
 ·have e:=of_decide_eq_true h
  refine brt ?_ (hp:=h)
  subst e
  refine ds fun w2 h2 => ?_
  have hx:=h2.box hx
  have hn2:=hn.bl.trans h2.bl
  refine ld (hx.cell rfl) ?_
  refine clq (r3_most 10 p _ (by omega) (by omega)) ?_
  refine clq (r3_in _ _ _ _) ?_
  refine rt1 ⟨vb ?_,hn2⟩
  obtain ⟨-,g1,g2⟩:=vgood hg
  try (have hb:=g1 (by decide);subst hb)
  cases p <;> (rw [Bool.eq_iff_iff];simp [validI,inR,rngs,isPool,mosts]) <;> omega
 have n14:=of_decide_eq_false h
 refine br (t:=decide (op=24)) (fun h => ?_) (fun h => ?_)
 ·have e:=of_decide_eq_true h
  subst e
  refine ds fun w2 h2 => ?_
  have hx:=h2.box hx
  have hn2:=hn.bl.trans h2.bl
  refine ld (hx.cell rfl) ?_
  refine clq (r3_most 10 p _ (by omega) (by omega)) ?_
  refine clq (r3_in _ _ _ _) ?_
  refine rt1 ⟨vb ?_,hn2⟩
  obtain ⟨-,g1,g2⟩:=vgood hg
  try (have hb:=g1 (by decide);subst hb)
  cases p <;> (rw [Bool.eq_iff_iff];simp [validI,inR,rngs,isPool,mosts]) <;> omega
 have n24:=of_decide_eq_false h
 refine br (t:=decide (op=15)) (fun h => ?_) (fun h => ?_)
 ·have e:=of_decide_eq_true h
  subst e
  refine ld (hx.cell rfl) ?_
  refine cl (r3_in _ _ _ _) ?_
  rintro _ _ ⟨rfl,rfl⟩
  refine rt1 ⟨vb ?_,hn2⟩
  obtain ⟨-,g1,g2⟩:=vgood hg
  try (have hb:=g1 (by decide);subst hb)
  cases p <;> (rw [Bool.eq_iff_iff];simp [validI,inR,rngs,isPool,mosts]) <;> omega
 have n15:=of_decide_eq_false h
 refine br (t:=decide (op=16)) (fun h => ?_) (fun h => ?_)
 ·have e:=of_decide_eq_true h
  subst e
  refine ds fun w2 h2 => ?_
  have hx:=h2.box hx
  have hn2:=hn.bl.trans h2.bl
  refine ld (hx.cell rfl) ?_
  refine clq (r3_in _ _ _ _) ?_
  refine ldg (fun _=>hx.cell rfl) ?_
  refine sp (I 0) (fun q => ?_) (fun q => ?_)
  ·refine clq (r3_most 10 p _ (by omega) (by omega)) ?_
   refine sp (.bool false) (fun q2 => ?_) (fun q2 => ?_)
   ·refine clq (r3_in _ _ _ _) ?_
    refine rt1 ⟨vb ?_,hn2⟩
    simp only [Bool.and_eq_true,decide_eq_true_eq] at q
    try have h3':=of_decide_eq_false h3
    cases p <;> (rw [Bool.eq_iff_iff];simp [validI,inR,rngs,isPool,mosts]) <;> omega
   ·exact absurd q2 (by decide)
  ·refine sp (.bool false) (fun q2 => ?_) (fun q2 => ?_)
   ·rw [q] at q2;cases q2
   ·refine rt1 ⟨vb ?_,hn2⟩
    rw [q]
    simp only [Bool.not_true,Bool.and_eq_false_iff,decide_eq_false_iff_not] at q
    try have h3':=of_decide_eq_false h3
    cases p <;> (rw [Bool.eq_iff_iff];simp [validI,inR,rngs,isPool,mosts]) <;> omega
 have n16:=of_decide_eq_false h
 refine br (t:=decide (op=17)) (fun h => ?_) (fun h => ?_)
 ·have e:=of_decide_eq_true h
  refine brt ?_ (hp:=h)
  subst e
  refine ds fun w2 h2 => ?_
  have hx:=h2.box hx
  have hn2:=hn.bl.trans h2.bl
  refine ld (hx.cell rfl) ?_
  refine clq (r3_most 7 p _ (by omega) (by omega)) ?_
  refine clq (r3_in _ _ _ _) ?_
  refine rt1 ⟨vb ?_,hn2⟩
  obtain ⟨-,g1,g2⟩:=vgood hg
  try (have hb:=g1 (by decide);subst hb)
  cases p <;> (rw [Bool.eq_iff_iff];simp [validI,inR,rngs,isPool,mosts]) <;> omega
 have n17:=of_decide_eq_false h
 refine br (t:=decide (op=18)) (fun h => ?_) (fun h => ?_)
 ·have e:=of_decide_eq_true h
  subst e
  refine ds fun w2 h2 => ?_
  have hx:=h2.box hx
  have hn2:=hn.bl.trans h2.bl
  refine ld (hx.cell rfl) ?_
  refine clq (r3_most 7 p _ (by omega) (by omega)) ?_
  refine clq (r3_in _ _ _ _) ?_
  refine rt1 ⟨vb ?_,hn2⟩
  obtain ⟨-,g1,g2⟩:=vgood hg
  try (have hb:=g1 (by decide);subst hb)
  cases p <;> (rw [Bool.eq_iff_iff];simp [validI,inR,rngs,isPool,mosts]) <;> omega
 have n18:=of_decide_eq_false h
 refine br (t:=decide (op=22)) (fun h => ?_) (fun h => ?_)
 ·have e:=of_decide_eq_true h
  refine brt ?_ (hp:=h)
  subst e
  refine ds fun w2 h2 => ?_
  have hx:=h2.box hx
  have hn2:=hn.bl.trans h2.bl
  refine ld (hx.cell rfl) ?_
  refine clq (r3_most 10 p _ (by omega) (by omega)) ?_
  refine clq (r3_in _ _ _ _) ?_
  refine rt1 ⟨vb ?_,hn2⟩
  obtain ⟨-,g1,g2⟩:=vgood hg
  try (have hb:=g1 (by decide);subst hb)
  cases p <;> (rw [Bool.eq_iff_iff];simp [validI,inR,rngs,isPool,mosts]) <;> omega
 have n22:=of_decide_eq_false h
 refine br (t:=decide (op=23)) (fun h => ?_) (fun h => ?_)
 ·have e:=of_decide_eq_true h
  subst e
  refine ds fun w2 h2 => ?_
  have hx:=h2.box hx
  have hn2:=hn.bl.trans h2.bl
  refine ld (hx.cell rfl) ?_
  refine clq (r3_most 10 p _ (by omega) (by omega)) ?_
  refine clq (r3_in _ _ _ _) ?_
  refine rt1 ⟨vb ?_,hn2⟩
  obtain ⟨-,g1,g2⟩:=vgood hg
  try (have hb:=g1 (by decide);subst hb)
  cases p <;> (rw [Bool.eq_iff_iff];simp [validI,inR,rngs,isPool,mosts]) <;> omega
 have n23:=of_decide_eq_false h
 refine br (t:=decide (op=25)) (fun h => ?_) (fun h => ?_)
 ·have e:=of_decide_eq_true h
  refine brt ?_ (hp:=h)
  subst e
  refine ds fun w2 h2 => ?_
  have hx:=h2.box hx
  have hn2:=hn.bl.trans h2.bl
  refine ld (hx.cell rfl) ?_
  refine clq (r3_most 16 p _ (by omega) (by omega)) ?_
  refine clq (r3_in _ _ _ _) ?_
  refine rt1 ⟨vb ?_,hn2⟩
  obtain ⟨-,g1,g2⟩:=vgood hg
  try (have hb:=g1 (by decide);subst hb)
  cases p <;> (rw [Bool.eq_iff_iff];simp [validI,inR,rngs,isPool,mosts]) <;> omega
 have n25:=of_decide_eq_false h
 refine br (t:=decide (op=26)) (fun h => ?_) (fun h => ?_)
 ·have e:=of_decide_eq_true h
  subst e
  refine ds fun w2 h2 => ?_
  have hx:=h2.box hx
  have hn2:=hn.bl.trans h2.bl
  refine ld (hx.cell rfl) ?_
  refine clq (r3_most 16 p _ (by omega) (by omega)) ?_
  refine clq (r3_in _ _ _ _) ?_
  refine rt1 ⟨vb ?_,hn2⟩
  obtain ⟨-,g1,g2⟩:=vgood hg
  try (have hb:=g1 (by decide);subst hb)
  cases p <;> (rw [Bool.eq_iff_iff];simp [validI,inR,rngs,isPool,mosts]) <;> omega
 have n26:=of_decide_eq_false h
 refine br (t:=decide (op=27)) (fun h => ?_) (fun h => ?_)
 ·have e:=of_decide_eq_true h
  subst e
  refine ld (hx.cell rfl) ?_
  refine cl (r3_in _ _ _ _) ?_
  rintro _ _ ⟨rfl,rfl⟩
  refine rt1 ⟨vb ?_,hn2⟩
  obtain ⟨-,g1,g2⟩:=vgood hg
  try (have hb:=g1 (by decide);subst hb)
  cases p <;> (rw [Bool.eq_iff_iff];simp [validI,inR,rngs,isPool,mosts]) <;> omega
 have n27:=of_decide_eq_false h
 refine br (t:=decide (op=28)) (fun h => ?_) (fun h => ?_)
 ·have e:=of_decide_eq_true h
  subst e
  refine ld (hx.cell rfl) ?_
  refine cl (r3_in _ _ _ _) ?_
  rintro _ _ ⟨rfl,rfl⟩
  refine rt1 ⟨vb ?_,hn2⟩
  obtain ⟨-,g1,g2⟩:=vgood hg
  try (have hb:=g1 (by decide);subst hb)
  cases p <;> (rw [Bool.eq_iff_iff];simp [validI,inR,rngs,isPool,mosts]) <;> omega
 have n28:=of_decide_eq_false h
 refine br (t:=decide (op=30)) (fun h => ?_) (fun h => ?_)
 ·have e:=of_decide_eq_true h
  subst e
  refine ld (hx.cell rfl) ?_
  refine cl (r3_in _ _ _ _) ?_
  rintro _ _ ⟨rfl,rfl⟩
  refine ldg (fun _=>hx.cell rfl) ?_
  refine sp (.bool false) (fun q => ?_) (fun q => ?_)
  ·refine cl (r3_in _ _ _ _) ?_
   rintro _ _ ⟨rfl,rfl⟩
   refine rt1 ⟨vb ?_,hn2⟩
   simp only [Bool.and_eq_true,decide_eq_true_eq] at q
   cases p <;> (rw [Bool.eq_iff_iff];simp [validI,inR,rngs,isPool,mosts]) <;> omega
  ·refine rt1 ⟨vb ?_,hn2⟩
   rw [q]
   simp only [Bool.not_true,Bool.and_eq_false_iff,decide_eq_false_iff_not] at q
   cases p <;> (rw [Bool.eq_iff_iff];simp [validI,inR,rngs,isPool,mosts]) <;> omega
 have n30:=of_decide_eq_false h
 refine br (t:=decide (op=31)) (fun h => ?_) (fun h => ?_)
 ·have e:=of_decide_eq_true h
  subst e
  refine ld (hx.cell rfl) ?_
  refine cl (r3_in _ _ _ _) ?_
  rintro _ _ ⟨rfl,rfl⟩
  refine rt1 ⟨vb ?_,hn2⟩
  obtain ⟨-,g1,g2⟩:=vgood hg
  try (have hb:=g1 (by decide);subst hb)
  cases p <;> (rw [Bool.eq_iff_iff];simp [validI,inR,rngs,isPool,mosts]) <;> omega
 have n31:=of_decide_eq_false h
 refine br (t:=decide (op=32)) (fun h => ?_) (fun h => ?_)
 ·have e:=of_decide_eq_true h
  subst e
  refine ld (hx.cell rfl) ?_
  refine cl (r3_in _ _ _ _) ?_
  rintro _ _ ⟨rfl,rfl⟩
  refine rt1 ⟨vb ?_,hn2⟩
  obtain ⟨-,g1,g2⟩:=vgood hg
  try (have hb:=g1 (by decide);subst hb)
  cases p <;> (rw [Bool.eq_iff_iff];simp [validI,inR,rngs,isPool,mosts]) <;> omega
 have n32:=of_decide_eq_false h
 refine rt1 ⟨vb ?_,hn2⟩
 obtain ⟨g0,g1,g2⟩:=vgood hg
 have hr:0<=op/\op<=35:=by
  unfold opE at g0
  by_cases hb:op<0∨35<op
  ·rw [if_pos hb] at g0;omega
  ·omega
 have hc:op=0∨op=4∨op=5∨op=6∨op=7∨op=8∨op=9∨op=10∨op=11∨op=13∨op=19∨op=20∨op=21∨op=29∨op=33∨op=34∨op=35:=by omega
 rcases hc with rfl | rfl | rfl | rfl | rfl | rfl | rfl | rfl | rfl | rfl | rfl | rfl | rfl | rfl | rfl | rfl | rfl <;>
  (have hb:=g1 (by decide);have ha:=g2 (by decide);subst hb;subst ha;cases p <;> decide)
end Go.Proofs.YtkmdfjpafkcleaaGreatDoor
namespace Go.Proofs.YtkmdfjpafkcleaaGreatDoor
open Eng Go.RowKit
theorem r3_Opens (op:Int) (w:World):Ret Tryz.prog 230 #[I op] w fun v w'=>v = .bool (opensB op)/\w'=w:=by
 refine entr (vs:=[I op]) [0,2] tabok Tryz.func230 (by kernel_rfl) ?_
 exact rt1 ⟨rfl,rfl⟩
theorem max_nat (a b:Nat):max (a:Int) (b:Int)=((max a b:Nat):Int):=by omega
def PartsC (l:List Ins) (a:Option Addr) (cap:Nat) (w:World) (i:Nat):Prop :=
 Ret Tryz.prog 178 #[.slice a l.length cap,I i] w fun v w'=>(∃ next deep,v = .tuple #[I next,I deep]/\partsOk (l.map (·.op)) i next deep)/\w'=w
def BracketC (l:List Ins) (a:Option Addr) (cap:Nat) (w:World) (i:Nat):Prop :=
 Ret Tryz.prog 231 #[.slice a l.length cap,I i] w fun v w'=>(∃ alt next deep,v = .tuple #[I alt,I next,I deep]/\bracketOk (l.map (·.op)) i next deep)/\w'=w
theorem drop_at {l:List Ins} {k:Nat} {x:Ins} (h:l[k]? = some x):(l.map (·.op)).drop k=x.op::(l.map (·.op)).drop (k+1):=by
 obtain ⟨hk,e⟩:=List.getElem?_eq_some_iff.1 h
 rw [List.drop_eq_getElem_cons (by rw [List.length_map];exact hk)]
 simp [e]
theorem r3_parts (l:List Ins) (a:Option Addr) (cap:Nat) (S:Nat->Prop) (w:World) (hS:Sl eIns S w a l) (i:Nat) (hi:i<=l.length)
  (hb:∀ j,i<=j->j<l.length->(∀ x,l[j]? = some x->opensB x.op=true)->BracketC l a cap w j):PartsC l a cap w i:=by
 unfold PartsC
 have hbig:=hS.big
 refine entr (vs:=[.slice a l.length cap,I i]) [0,1,4,5,6,8,9,29,36,47] tabok Tryz.func178 (by kernel_rfl) ?_
 refine lp [1,6] [(0,.slice a l.length cap)] (fun m vals w'=>∃ j k:Nat,m=l.length-j/\vals=[I j,I k]/\i<=j/\j<=l.length/\k<=j-i/\w=w'/\∀ s D,s.length<=D->runB ((l.map (·.op)).drop i) s D=runB ((l.map (·.op)).drop j) s (max D (s.length+k))) ⟨rfl,trivial⟩
  ⟨i,0,rfl,rfl,Nat.le_refl _,hi,Nat.zero_le _,rfl,fun s D h=>by rw [Nat.add_zero,Nat.max_eq_left h]⟩ ?_
 rintro m vals _ ⟨j,k,rfl,rfl,hij,hjl,hk,rfl,hrun⟩ ih
 by_cases hlt:j<l.length
 ·obtain ⟨x,b,o,cs,hx,rfl,hSb,hAt,rfl⟩:=at_some hS hlt
  refine ixg (fun _=>hlt) ?_
  refine ldg (fun _=>hAt 0 _ rfl) ?_
  refine ixg (fun _=>hlt) ?_
  refine ldg (fun _=>hAt 0 _ rfl) ?_
  have hop:(l.map (·.op))[j]? = some x.op:=by rw [List.getElem?_map,hx];rfl
  have hd:=drop_at hx
  refine br (t:=(decide ((j:Int)<l.length)&&decide (¬x.op=34))&&decide (¬x.op=35)) (fun h => ?_) (fun h => ?_)
  ·simp only [Bool.and_eq_true,decide_eq_true_eq] at h
   refine ix ?_
   refine ld (hAt 0 _ rfl) ?_
   refine cl (r3_Opens x.op _) ?_
   rintro _ _ ⟨rfl,rfl⟩
   refine br (t := !opensB x.op) (fun h2 => ?_) (fun h2 => ?_)
   ·have h3:opensB x.op=false:=by simpa using h2
    refine again (ih _ _ _ _ ?_ ⟨rfl,trivial⟩ rfl ⟨j+1,k,rfl,lst2 (inc hlt) rfl,by omega,hlt,by omega,rfl,fun s D hs => ?_⟩)
    ·omega
    ·rw [hrun s D hs,hd,runB_plain h3 h.1.2 h.2]
   ·have h3:opensB x.op=true:=by simpa using h2
    refine cl (hb j hij hlt (fun y hy=>by rw [hx] at hy;obtain rfl:=Option.some.inj hy;exact h3)) ?_
    rintro _ _ ⟨⟨alt,next,deep,rfl,hbo⟩,rfl⟩
    refine br (fun h4 => ?_) (fun h4 => ?_)
    ·have h5:=of_decide_eq_true h4
     rcases hbo with ⟨rfl,hbad⟩ | ⟨n,k2,_,rfl,_⟩
     ·refine rt2 ⟨⟨0,-1,rfl,.inl ⟨rfl,fun s D D' hs e => ?_⟩⟩,rfl⟩
      rw [hrun s D hs] at e
      exact hbad s _ D' (by omega) e
     ·omega
    ·have h5:=of_decide_eq_false h4
     rcases hbo with ⟨rfl,hbad⟩ | ⟨n,k2,rfl,rfl,hn1,hn2,hk2,hrun2⟩
     ·omega
     ·rw [List.length_map] at hn2
      refine mx ?_
      refine again (ih _ _ _ _ ?_ ⟨rfl,trivial⟩ rfl ⟨n+1,max k (k2+1),rfl,lst2 (inc (by omega)) (vi ?_),by omega,by omega,by omega,rfl,fun s D hs => ?_⟩)
      ·omega
      ·rw [wrap_fit (by omega) (by omega)];omega
      ·rw [hrun s D hs,hrun2 s _ (by omega)]
       congr 1;omega
  ·refine rt2 ⟨⟨j,k,rfl,.inr ⟨j,k,rfl,rfl,hij,by rw [List.length_map];exact hjl,hk,.inr ?_,hrun⟩⟩,rfl⟩
   rw [hop]
   simp only [Bool.and_eq_false_iff,decide_eq_false_iff_not] at h
   by_cases h6:x.op=34
   ·exact .inl (by rw [h6])
   ·exact .inr (by congr 1;omega)
 ·refine sp (.pointer (some ⟨0,0,none⟩)) (fun q => ?_) (fun q => ?_)
  ·have:=of_decide_eq_true q;omega
  refine ldg (v:=I 0) (fun e => ?_) ?_
  ·have:=of_decide_eq_true e;omega
  refine sp (.pointer (some ⟨0,0,none⟩)) (fun q2 => ?_) (fun q2 => ?_)
  ·simp only [Bool.and_eq_true,decide_eq_true_eq] at q2;omega
  refine ldg (v:=I 0) (fun e => ?_) ?_
  ·simp only [Bool.and_eq_true,decide_eq_true_eq] at e;omega
  refine br (fun h => ?_) (fun h => ?_)
  ·simp only [Bool.and_eq_true,decide_eq_true_eq] at h;omega
  ·obtain rfl:j=l.length:=by omega
   exact rt2 ⟨⟨l.length,k,rfl,.inr ⟨l.length,k,rfl,rfl,hij,by rw [List.length_map];exact Nat.le_refl _,hk,.inl (by rw [List.length_map]),hrun⟩⟩,rfl⟩
theorem r3_bracket (l:List Ins) (a:Option Addr) (cap:Nat) (S:Nat->Prop) (w:World) (hS:Sl eIns S w a l) (i:Nat) (hi:i<l.length) (x:Ins) (hx:l[i]? = some x) (hox:opensB x.op=true)
  (hp:∀ j,i<j->j<=l.length->PartsC l a cap w j):BracketC l a cap w i:=by
 unfold BracketC
 have hbig:=hS.big
 have hp1:∀ j:Nat,i<=j->j<l.length->Ret Tryz.prog 178 #[.slice a l.length cap,.int .i64 (IntKind.i64.wrap ((j:Int)+1))] w fun v w'=>(∃ next deep,v = .tuple #[I next,I deep]/\partsOk (l.map (·.op)) (j+1) next deep)/\w'=w:=fun j h1 h2=>by
  rw [wrap_succ h2];exact hp (j+1) (by omega) h2
 refine entr (vs:=[.slice a l.length cap,I i]) [0,1,4,5,6,7,8,9,10,11,26,32,46,70,80] tabok Tryz.func231 (by kernel_rfl) ?_
 refine cl (hp1 i (Nat.le_refl _) hi) ?_
 rintro _ _ ⟨⟨next,deep,rfl,hpo⟩,rfl⟩
 have hd:=drop_at hx
 have bad:badB ((l.map (·.op)).drop (i+1))->badB ((l.map (·.op)).drop i):=fun hb s D D' hs e=>by
  rw [hd,runB_open hox] at e
  exact hb _ _ D' (by simp;omega) e
 refine br (fun h => ?_) (fun h => ?_)
 ·refine rt3 ⟨⟨0,0,-1,rfl,.inl ⟨rfl,?_⟩⟩,rfl⟩
  simp only [Bool.or_eq_true,decide_eq_true_eq] at h
  rcases hpo with ⟨_,hb⟩ | ⟨n,k,rfl,rfl,_,hn,_,_,hrun⟩
  ·exact bad hb
  ·rw [List.length_map] at hn
   obtain rfl:n=l.length:=by omega
   intro s D D' hs e
   rw [hd,runB_open hox,hrun _ _ (by simp;omega),List.drop_of_length_le (by rw [List.length_map];exact Nat.le_refl _)] at e
   simp [runB] at e
 simp only [Bool.or_eq_false_iff,decide_eq_false_iff_not] at h
 rcases hpo with ⟨rfl,_⟩ | ⟨n,k,rfl,rfl,hin,hn,hk,hnx,hrun⟩
 ·omega
 have hnl:n<l.length:=by omega
 obtain ⟨y,b,o,cs,hy,rfl,hSb,hAt,rfl⟩:=at_some hS hnl
 have hyop:(l.map (·.op))[n]? = some y.op:=by rw [List.getElem?_map,hy];rfl
 have hdy:=drop_at hy
 rw [hyop] at hnx
 have hnx':y.op=34∨y.op=35:=by
  rcases hnx with h1 | h1 | h1
  ·rw [List.length_map] at h1;omega
  ·exact .inl (Option.some.inj h1)
  ·exact .inr (Option.some.inj h1)
 have hstep:∀ s D,s.length<=D->runB ((l.map (·.op)).drop i) s D=runB (y.op::(l.map (·.op)).drop (n+1)) ((x.op,false)::s) (max D (s.length+1+k)):=fun s D hs=>by
  rw [hd,runB_open hox,hrun _ _ (by simp;omega),hdy]
  congr 1;simp
 refine ix ?_
 refine ld (hAt 0 _ rfl) ?_
 refine br (fun h34 => ?_) (fun h34 => ?_)
 ·have e34:=of_decide_eq_true h34
  obtain ⟨b',o',cs',e',hSb',hAt',rfl⟩:=hS.el i x hx
  simp only [Option.some.injEq,Addr.mk.injEq,and_true] at e'
  obtain ⟨rfl,rfl⟩:=e'
  refine ix ?_
  refine ld (hAt' 0 _ rfl) ?_
  refine ixg (fun _=>hi) ?_
  refine ldg (fun _=>hAt' 0 _ rfl) ?_
  refine br (t:=decide (¬x.op=29)&&decide (¬x.op=33)) (fun h2 => ?_) (fun h2 => ?_)
  ·simp only [Bool.and_eq_true,decide_eq_true_eq] at h2
   refine rt3 ⟨⟨0,0,-1,rfl,.inl ⟨rfl,fun s D D' hs e => ?_⟩⟩,rfl⟩
   rw [hstep s D hs,e34,runB_else,if_neg (by omega)] at e;cases e
  have h2':x.op=29∨x.op=33:=by
   simp only [Bool.and_eq_false_iff,decide_eq_false_iff_not] at h2;omega
  have hst2:∀ s D,s.length<=D->runB ((l.map (·.op)).drop i) s D=runB ((l.map (·.op)).drop (n+1)) ((x.op,true)::s) (max D (s.length+1+k)):=fun s D hs=>by
   rw [hstep s D hs,e34,runB_else,if_pos ⟨rfl,h2'⟩]
  refine cl (hp1 n (by omega) hnl) ?_
  rintro _ _ ⟨⟨next2,deep2,rfl,hpo2⟩,rfl⟩
  refine sp (.pointer (some ⟨0,0,none⟩)) (fun q => ?_) (fun q => ?_)
  ·simp only [Bool.or_eq_false_iff,decide_eq_false_iff_not] at q
   rcases hpo2 with ⟨rfl,_⟩ | ⟨n2,k2,rfl,rfl,hin2,hn2,hk2,hnx2,hrun2⟩
   ·omega
   have hnl2:n2<l.length:=by omega
   obtain ⟨z,b3,o3,cs3,hz,e3,hSb3,hAt3,rfl⟩:=at_some hS hnl2
   simp only [Option.some.injEq,Addr.mk.injEq,and_true] at e3
   obtain ⟨rfl,rfl⟩:=e3
   refine ix ?_
   refine ldg (fun _=>hAt3 0 _ rfl) ?_
   have hdz:=drop_at hz
   have hst3:∀ s D,s.length<=D->runB ((l.map (·.op)).drop i) s D=runB (z.op::(l.map (·.op)).drop (n2+1)) ((x.op,true)::s) (max (max D (s.length+1+k)) (s.length+1+k2)):=fun s D hs=>by
    rw [hst2 s D hs,hrun2 _ _ (by simp;omega),hdz];rfl
   have hz':z.op=34∨z.op=35:=by
    rcases hnx2 with h1 | h1 | h1
    ·rw [List.length_map] at h1;omega
    ·rw [List.getElem?_map,hz] at h1;exact .inl (Option.some.inj h1)
    ·rw [List.getElem?_map,hz] at h1;exact .inr (Option.some.inj h1)
   refine br (fun h3 => ?_) (fun h3 => ?_)
   ·have h3':z.op=34:=by
     rcases hz' with h | h
     ·exact h
     ·rw [h] at h3;simp at h3
    refine rt3 ⟨⟨0,0,-1,rfl,.inl ⟨rfl,fun s D D' hs e => ?_⟩⟩,rfl⟩
    rw [hst3 s D hs,h3',runB_else,if_neg (by simp)] at e;cases e
   ·have h3':z.op=35:=by
     rcases hz' with h | h
     ·rw [h] at h3;simp at h3
     ·exact h
    refine mx ?_
    rw [max_nat]
    refine rt3 ⟨⟨n,n2,(max k k2:Nat),rfl,.inr ⟨n2,max k k2,rfl,rfl,by omega,by rw [List.length_map];exact hnl2,by omega,fun s D hs => ?_⟩⟩,rfl⟩
    rw [hst3 s D hs,h3',runB_end,if_neg (by simp)]
    congr 1;omega
  ·refine ldg (v:=I 0) (fun e => ?_) ?_
   ·rw [q] at e;cases e
   refine br (fun h3 => ?_) (fun h3 => ?_)
   ·refine rt3 ⟨⟨0,0,-1,rfl,.inl ⟨rfl,fun s D D' hs e => ?_⟩⟩,rfl⟩
    simp only [Bool.not_false,Bool.or_eq_true,decide_eq_true_eq] at q
    rcases hpo2 with ⟨_,hb⟩ | ⟨n2,k2,rfl,rfl,_,hn2,_,_,hrun2⟩
    ·rw [hst2 s D hs] at e
     exact hb _ _ D' (by simp;omega) e
    ·rw [List.length_map] at hn2
     obtain rfl:n2=l.length:=by omega
     rw [hst2 s D hs,hrun2 _ _ (by simp;omega),List.drop_of_length_le (by rw [List.length_map];exact Nat.le_refl _)] at e
     simp [runB] at e
   ·rw [q] at h3;simp at h3
 ·have e34:=of_decide_eq_false h34
  have e35:y.op=35:=by omega
  obtain ⟨b',o',cs',e',hSb',hAt',rfl⟩:=hS.el i x hx
  simp only [Option.some.injEq,Addr.mk.injEq,and_true] at e'
  obtain ⟨rfl,rfl⟩:=e'
  refine ix ?_
  refine ld (hAt' 0 _ rfl) ?_
  refine br (fun h33 => ?_) (fun h33 => ?_)
  ·have e33:=of_decide_eq_true h33
   refine rt3 ⟨⟨0,0,-1,rfl,.inl ⟨rfl,fun s D D' hs e => ?_⟩⟩,rfl⟩
   rw [hstep s D hs,e35,runB_end,if_pos ⟨e33,rfl⟩] at e;cases e
  ·have e33:=of_decide_eq_false h33
   refine rt3 ⟨⟨-1,n,k,rfl,.inr ⟨n,k,rfl,rfl,by omega,by rw [List.length_map];exact hnl,by omega,fun s D hs => ?_⟩⟩,rfl⟩
   rw [hstep s D hs,e35,runB_end,if_neg (fun hc=>e33 hc.1)]
   congr 1;omega
end Go.Proofs.YtkmdfjpafkcleaaGreatDoor
namespace Go.Proofs.YtkmdfjpafkcleaaGreatDoor
open Eng Go.RowKit
theorem r3_tie (l:List Ins) (a:Option Addr) (cap:Nat) (S:Nat->Prop) (w:World) (hS:Sl eIns S w a l):∀ N i,l.length-i<=N->i<=l.length->PartsC l a cap w i
 | 0,i,h,hi=>r3_parts l a cap S w hS i hi fun j h1 h2=>by omega
 | N+1,i,h,hi=>r3_parts l a cap S w hS i hi fun j h1 h2 ho=>by
  obtain ⟨x,hx⟩:=some_of_lt h2
  exact r3_bracket l a cap S w hS j h2 x hx (ho x hx) fun j' h3 h4=>r3_tie l a cap S w hS N j' (by omega) h4
def codeE (l:List Ins) (p:Bool):Int:=if 120<l.length then 2 else if l.all (fun i=>validI i p)=true then (if okB (l.map (·.op))=true then 0 else 7) else 1
theorem okB_parts {c:List Int} {next deep:Int} (h:partsOk c 0 next deep):okB c = !((decide (deep<0)||decide (next<c.length))||decide (deep > 6)):=by
 rcases h with ⟨rfl,hb⟩ | ⟨n,k,rfl,rfl,_,hn,_,hnx,hrun⟩
 ·have:okB c=false:=by
   unfold okB
   have hb':=hb [] 0
   rw [List.drop_zero] at hb'
   split
   ·rename_i d e;exact absurd e (hb' d (Nat.le_refl _))
   ·rfl
  rw [this];rfl
 ·have hr:=hrun [] 0 (Nat.le_refl _)
  rw [List.drop_zero] at hr
  unfold okB
  rw [hr]
  by_cases hl:n=c.length
  ·rw [hl,List.drop_length]
   simp only [runB,List.length_nil]
   rw [decide_eq_false (p:=(k:Int)<0) (by omega),decide_eq_false (p:=(c.length:Int)<c.length) (by omega)]
   by_cases h6:k<=6
   ·rw [decide_eq_true (by omega),decide_eq_false (by omega)];rfl
   ·rw [decide_eq_false (by omega),decide_eq_true (by omega)];rfl
  ·have hlt:n<c.length:=by omega
   have h34:c[n]=34∨c[n]=35:=by
    rcases hnx with h | h | h
    ·exact absurd h hl
    ·rw [List.getElem?_eq_getElem hlt] at h;exact .inl (Option.some.inj h)
    ·rw [List.getElem?_eq_getElem hlt] at h;exact .inr (Option.some.inj h)
   rw [List.drop_eq_getElem_cons hlt,runB_top h34,decide_eq_true (p:=(n:Int)<c.length) (by omega)]
   simp
theorem r3_Check (l:List Ins) (a:Option Addr) (cap:Nat) (p:Bool) (S:Nat->Prop) (w:World) (hS:Sl eIns S w a l):Ret Tryz.prog 116 #[.slice a l.length cap,.bool p] w fun v w'=>v=I (codeE l p)/\Bl w w':=by
 have hbig:=hS.big
 refine entr (vs:=[.slice a l.length cap,.bool p]) [0,1,4,5,6,7,10,14,23,40] tabok Tryz.func116 (by kernel_rfl) ?_
 refine br (fun h => ?_) (fun h => ?_)
 ·have h:=of_decide_eq_true h
  exact rt1 ⟨vi (by unfold codeE;rw [if_pos (by omega)]),Bl.refl _⟩
 have h120:=of_decide_eq_false h
 refine lpk l.length 5 [] [(0,.slice a l.length cap),(1,.bool p)] (fun k vals w'=>vals=[]/\((l.take k).all fun i=>validI i p)=true/\Bl w w') ⟨rfl,rfl,Bl.refl _⟩ ?_
 rintro k vals w1 hk ⟨rfl,ha,hB⟩ ih
 by_cases hlt:k<l.length
 ·refine brT ?_
  obtain ⟨x,b,o,cs,hx,rfl,hSb,hAt,rfl⟩:=at_some (hS.bl hB) hlt
  refine ix ?_
  refine lda hAt ?_
  refine cl (r3_Valid x p _) ?_
  rintro _ w2 ⟨rfl,hB2⟩
  refine br (t := !validI x p) (fun h1 => ?_) (fun h1 => ?_)
  ·refine rt1 ⟨vi ?_,hB.trans hB2⟩
   unfold codeE
   rw [if_neg (by omega),all_miss hx (p:=fun i=>validI i p) (by simpa using h1),if_neg (by simp)]
  ·exact ih hlt ⟨rfl,all_snoc' hx ha (by simpa using h1),hB.trans hB2⟩
 refine brF ?_
 obtain rfl:k=l.length:=by omega
 have hall:=all_end ha
 have hc:codeE l p=if okB (l.map (·.op))=true then 0 else 7:=by unfold codeE;rw [if_neg (by omega),if_pos hall]
 refine cl (r3_tie l a cap S w1 (hS.bl hB) l.length 0 (by omega) (Nat.zero_le _)) ?_
 rintro _ _ ⟨⟨next,deep,rfl,hpo⟩,rfl⟩
 have hok:=okB_parts hpo
 rw [List.length_map] at hok
 refine br (t:=(decide (deep<0)||decide (next<l.length))||decide (deep > 6)) (fun h => ?_) (fun h => ?_)
 ·refine rt1 ⟨vi ?_,hB⟩
  rw [hc,hok,h];rfl
 ·refine rt1 ⟨vi ?_,hB⟩
  rw [hc,hok,h];rfl
end Go.Proofs.YtkmdfjpafkcleaaGreatDoor
namespace Go.Proofs.YtkmdfjpafkcleaaGreatDoor
open Eng Go.RowKit
def pathsOk (u:Unt):Bool:=u.pool.all fun s=>decide (¬(path s:Int)=0)
def refsOk (u:Unt):Bool:=(refs u).all fun r => !(decide (0<=r.at')&&decide (¬(path (nm u r.at'):Int)=r.parts))
def mErr (l:List Mth):Int:=match l with
 | []=>0
 | m::r=>if codeE m.code true=0 then mErr r else codeE m.code true
theorem mErr_hit {l:List Mth} {k:Nat} {m:Mth} (hm:l[k]? = some m) (h:∀ x∈l.take k,codeE x.code true=0) (h2:codeE m.code true≠0):mErr l=codeE m.code true:=by
 induction l generalizing k with
 | nil=>simp at hm
 | cons y l ih =>
  cases k with
  | zero=>simp at hm;subst hm;simp [mErr,h2]
  | succ k =>
   have h3:=h y (by simp)
   simp only [mErr,h3,if_true]
   exact ih (by simpa using hm) fun x hx=>h x (by simp [hx])
theorem mErr_none {l:List Mth} (h:∀ x∈l,codeE x.code true=0):mErr l=0:=by
 induction l with
 | nil=>rfl
 | cons y l ih=>simp only [mErr,h y (by simp),if_true];exact ih fun x hx=>h x (by simp [hx])
def checkE (u:Unt):Int :=
 if limits u=false then 2 else if simple u.name=false then 8 else if pathsOk u=false then 8 else if (kinds u&&places u)=false then 1 else if refsOk u=false then 8 else if doubled u=true then 9
 else if mErr u.methods≠0 then mErr u.methods else if codesOk u=false then 8 else 0
theorem operand_ge (i:Ins) (hv:validI i true=true) (h:0<(operand i).2):0<=(operand i).1:=by
 obtain ⟨op,a,b⟩:=i
 have hr:0<=op/\op<36:=by
  unfold validI at hv
  simp only [Bool.and_eq_true,decide_eq_true_eq] at hv
  exact ⟨hv.1.1.1.1,hv.1.1.1.2⟩
 have hc:op=0∨op=1∨op=2∨op=3∨op=4∨op=5∨op=6∨op=7∨op=8∨op=9∨op=10∨op=11∨op=12∨op=13∨op=14∨op=15∨op=16∨op=17∨op=18∨op=19∨op=20∨op=21∨op=22∨op=23∨op=24∨op=25∨op=26∨op=27∨op=28∨op=29∨op=30∨op=31∨op=32∨op=33∨op=34∨op=35:=by omega
 rcases hc with rfl | rfl | rfl | rfl | rfl | rfl | rfl | rfl | rfl | rfl | rfl | rfl | rfl | rfl | rfl | rfl | rfl | rfl | rfl | rfl | rfl | rfl | rfl | rfl | rfl | rfl | rfl | rfl | rfl | rfl | rfl | rfl | rfl | rfl | rfl | rfl <;> first
  | (exfalso;revert h;simp [operand,named];done)
  | (simp [operand,named];simp [validI,inR,rngs,isPool,mosts] at hv;omega)
  | (
    by_cases h2:a=2∨a=4
    ·simp [operand,named,h2];simp [validI,inR,rngs,isPool] at hv;omega
    ·exfalso;revert h;simp [operand,named,h2])
theorem r_Check (u:Unt) (a:UA) (w:World) (hU:UnR T w u a):Ret Tryz.prog 118 #[.agg (ucells u a).toArray] w fun v w'=>v=I (checkE u)/\Bl w w':=by
 refine entr (vs:=[.agg (ucells u a).toArray]) [0,1,2,3,4,5,6,7,10,14,19,28,39,43,69,71,76,87,91] tabok Tryz.func118 (by kernel_rfl) ?_
 refine bx (cs:=ucells u a) fun b w1 hn => ?_
 refine lda hn.box.at ?_
 refine cl (r_limits u a _ (hU.bl hn.bl)) ?_
 rintro _ w2 ⟨rfl,hB⟩
 have hx:=Bl.box hB hn.box
 refine br (t := !limits u) (fun h => ?_) (fun h => ?_)
 ·exact rt1 ⟨vi (by unfold checkE;rw [if_pos (by simpa using h)]),hn.bl.trans hB⟩
 have hl1:limits u=true:=by simpa using h
 have hL:=lim_of hl1
 have hl2:=hL.pool
 have hl3:=hL.mth
 refine ld (hx.cell rfl) ?_
 refine cl (r_Simple u.name _ hU.nm) ?_
 rintro _ _ ⟨rfl,rfl⟩
 refine br (t := !simple u.name) (fun h => ?_) (fun h => ?_)
 ·exact rt1 ⟨vi (by unfold checkE;rw [if_neg (by rw [hl1];simp),if_pos (by simpa using h)]),hn.bl.trans hB⟩
 have hs1:simple u.name=true:=by simpa using h
 refine lpk u.pool.length 3 [] [(1,.pointer (some ⟨b,0,none⟩))] (fun k vals w'=>vals=[]/\((u.pool.take k).all fun s=>decide (¬(path s:Int)=0))=true/\Bl w1 w') ⟨rfl,rfl,hB⟩ ?_
 rintro k vals w3 hk ⟨rfl,ha,hB3⟩ ih
 have hx3:=Bl.box hB3 hn.box
 refine ld (hx3.cell rfl) ?_
 by_cases hlt:k<u.pool.length
 ·refine brT ?_
  obtain ⟨s,b4,o4,cs4,hs,e4,_,hAt4,rfl⟩:=at_some (hU.bl (hn.bl.trans hB3)).pool hlt
  refine ld (hx3.cell rfl) ?_
  rw [e4]
  refine ix ?_
  refine ld (hAt4 0 _ rfl) ?_
  refine cl (r_Path s _ (hU.ps s (List.mem_of_getElem? hs))) ?_
  rintro _ w4 ⟨rfl,hB4⟩
  refine br (t:=decide ((path s:Int)=0)) (fun h => ?_) (fun h => ?_)
  ·have h0:=of_decide_eq_true h
   refine rt1 ⟨vi ?_,hn.bl.trans (hB3.trans hB4)⟩
   have:pathsOk u=false:=all_miss hs (decide_eq_false (by simp [h0]))
   unfold checkE;rw [if_neg (by rw [hl1];simp),if_neg (by rw [hs1];simp),if_pos this]
  ·exact ih hlt ⟨rfl,all_snoc' hs ha (decide_eq_true (of_decide_eq_false h)),hB3.trans hB4⟩
 refine brF ?_
 obtain rfl:k=u.pool.length:=by omega
 have hp1:pathsOk u=true:=all_end ha
 have hE1:checkE u=if (kinds u&&places u)=false then 1 else if refsOk u=false then 8 else if doubled u=true then 9 else if mErr u.methods≠0 then mErr u.methods else if codesOk u=false then 8 else 0:=by
  unfold checkE;rw [if_neg (by rw [hl1];simp),if_neg (by rw [hs1];simp),if_neg (by rw [hp1];simp)]
 have hU3:=hU.bl (hn.bl.trans hB3)
 refine lda hx3.at ?_
 refine cl (r_Refs u a _ hU3 hL) ?_
 rintro _ w4 ⟨ar,cr,rfl,hR0,hB4⟩
 have hR:Sl eRf T w4 ar (refs u):=hR0.sub fun _ _=>trivial
 have hB14:=hB3.trans hB4
 have hx4:=Bl.box hB14 hn.box
 refine lda hx4.at ?_
 refine cl (r_kinds u a _ (hU3.bl hB4) hL) ?_
 rintro _ w5 ⟨rfl,hB5⟩
 have hB15:=hB14.trans hB5
 have hx5:=Bl.box hB15 hn.box
 refine sp (.agg (ucells u a).toArray) (fun q => ?_) (fun q => ?_)
 rotate_left
 ·refine sp (.bool false) (fun q2 => ?_) (fun q2 => ?_)
  ·rw [q] at q2;cases q2
  refine br (fun h => ?_) (fun h => ?_)
  ·refine rt1 ⟨vi ?_,hn.bl.trans hB15⟩
   rw [hE1,if_pos]
   have:kinds u=false:=by simpa using q
   rw [this];rfl
  ·rw [q] at h;simp at h
 have hk1:kinds u=true:=by simpa using q
 refine lda hx5.at ?_
 refine sp (.bool false) (fun q2 => ?_) (fun q2 => ?_)
 rotate_left
 ·exact absurd q2 (by decide)
 refine cl (r_places u a (refs u) ar cr _ (hU3.bl (hB4.trans hB5)) hL (hR.bl hB5)) ?_
 rintro _ w6 ⟨rfl,hB6⟩
 have hB16:=hB15.trans hB6
 refine br (t := !places u) (fun h => ?_) (fun h => ?_)
 ·refine rt1 ⟨vi ?_,hn.bl.trans hB16⟩
  rw [hE1,if_pos]
  have:places u=false:=by simpa using h
  rw [this];simp
 have hpl:places u=true:=by simpa using h
 have hP:Plc u:=plc_of (by unfold places at hpl;simp only [Bool.and_eq_true] at hpl;exact hpl.1)
 have hE2:checkE u=if refsOk u=false then 8 else if doubled u=true then 9 else if mErr u.methods≠0 then mErr u.methods else if codesOk u=false then 8 else 0:=by rw [hE1,if_neg (by rw [hk1,hpl];simp)]
 have hR6:=(hR.bl hB5).bl hB6
 have hbr:=hR6.big
 have hU6:=hU.bl (hn.bl.trans hB16)
 refine lpk (refs u).length 5 [] [(1,.pointer (some ⟨b,0,none⟩)),(4,.slice ar (refs u).length cr)] (fun k vals w'=>vals=[]/\(((refs u).take k).all fun r => !(decide (0<=r.at')&&decide (¬(path (nm u r.at'):Int)=r.parts)))=true/\Bl w6 w') ⟨rfl,rfl,Bl.refl _⟩ ?_
 rintro k vals w7 hk ⟨rfl,ha,hB7⟩ ih
 by_cases hlt:k<(refs u).length
 ·refine brT ?_
  obtain ⟨r,b8,o8,cs8,hr,rfl,_,hAt8,rfl⟩:=at_some (hR6.bl hB7) hlt
  have hx7:=Bl.box (hB16.trans hB7) hn.box
  have hrp:refOk u.pool.length r=true:=by
   unfold places at hpl;simp only [Bool.and_eq_true] at hpl
   exact List.all_eq_true.1 hpl.1 r (List.mem_of_getElem? hr)
  refine dh T [0,1,2,3,4,5,6,7,8,9,10,11,12,13,14,15,17,18,19,20,21,16,22,23] fun w8 h8 => ?_
  have hx8:=h8.box hx7
  have hAt9:=hAt8.bl h8.bl
  refine ix ?_
  refine ld (hAt9 0 _ rfl) ?_
  refine ldg (fun _=>hx8.cell rfl) ?_
  refine ixg (fun _=>hlt) ?_
  refine ldg (fun _=>hAt9 0 _ rfl) ?_
  refine sp (.pointer (some ⟨0,0,none⟩)) (fun q => ?_) (fun q => ?_)
  ·have q0:=of_decide_eq_true q
   have hin:inP u r.at':=by
    simp only [refOk,Bool.or_eq_true,Bool.and_eq_true,decide_eq_true_eq,Bool.not_eq_true',Bool.or_eq_false_iff,decide_eq_false_iff_not] at hrp
    exact ⟨q0,by omega⟩
   obtain ⟨b9,o9,e9,_,hc9,hz9,hi9,hp9⟩:=pool_at (hU6.bl (hB7.trans h8.bl)) hin
   rw [e9]
   refine ix (hij:=hi9) ?_
   refine ldg (fun _=>hc9) ?_
   refine ixg (fun _=>hlt) ?_
   refine ldg (fun _=>hAt9 1 _ rfl) ?_
   refine sp (I 0) (fun _ => ?_) (fun p => ?_)
   ·refine cl (r_Path (nm u r.at') _ hz9) ?_
    rintro _ w9 ⟨rfl,hB9⟩
    have hB79:=hB7.trans (h8.bl.trans hB9)
    refine br (t:=decide (¬(path (nm u r.at'):Int)=r.parts)) (fun h => ?_) (fun h => ?_)
    ·refine rt1 ⟨vi ?_,hn.bl.trans (hB16.trans hB79)⟩
     rw [hE2,if_pos]
     exact all_miss hr (by rw [q,h];rfl)
    ·exact ih hlt ⟨rfl,all_snoc' hr ha (by rw [q,h];rfl),hB79⟩
   ·cases p
  ·refine ldg (v := .string ⟨#[]⟩) (fun e => ?_) ?_
   ·rw [q] at e;cases e
   refine ixg (fun _=>hlt) ?_
   refine ldg (fun _=>hAt9 1 _ rfl) ?_
   refine sp (I 0) (fun p => ?_) (fun p => ?_)
   ·rw [q] at p;cases p
   refine br (fun h => ?_) (fun h => ?_)
   ·rw [q] at h;simp at h
   ·exact ih hlt ⟨rfl,all_snoc' hr ha (by rw [show decide (0<=r.at')=false from q];rfl),hB7.trans h8.bl⟩
 refine brF ?_
 obtain rfl:k=(refs u).length:=by omega
 have hr1:refsOk u=true:=all_end ha
 have hE3:checkE u=if doubled u=true then 9 else if mErr u.methods≠0 then mErr u.methods else if codesOk u=false then 8 else 0:=by rw [hE2,if_neg (by rw [hr1];simp)]
 have hx7:=Bl.box (hB16.trans hB7) hn.box
 refine lda hx7.at ?_
 refine cl (r_doubled u a _ (hU6.bl hB7) hL hP) ?_
 rintro _ w8 ⟨rfl,hB8⟩
 have hB18:=hB16.trans (hB7.trans hB8)
 refine br (fun h => ?_) (fun h => ?_)
 ·exact rt1 ⟨vi (by rw [hE3,if_pos h]),hn.bl.trans hB18⟩
 have hE4:checkE u=if mErr u.methods≠0 then mErr u.methods else if codesOk u=false then 8 else 0:=by rw [hE3,if_neg (by rw [h];simp)]
 refine lpk u.methods.length 6 [] [(1,.pointer (some ⟨b,0,none⟩))] (fun k vals w'=>vals=[]/\(∀ m∈u.methods.take k,codeE m.code true=0)/\Bl w1 w') ⟨rfl,by simp,hB18⟩ ?_
 rintro k vals w9 hk ⟨rfl,ha9,hB9⟩ ih9
 have hx9:=Bl.box hB9 hn.box
 have hU9:=hU.bl (hn.bl.trans hB9)
 refine ld (hx9.cell rfl) ?_
 by_cases hlt:k<u.methods.length
 ·refine brT ?_
  obtain ⟨m,b2,o2,cs,hm,e2,_,hAt,a1,c1,a2,c2,a3,c3,rfl,h1,h2,h3⟩:=at_some hU9.mth hlt
  refine ld (hx9.cell rfl) ?_
  rw [e2]
  refine ix ?_
  refine ld (hAt 6 _ rfl) ?_
  refine cl (r3_Check m.code _ _ true T _ h3) ?_
  rintro _ w10 ⟨rfl,hB10⟩
  refine br (t:=decide (¬codeE m.code true=0)) (fun h => ?_) (fun h => ?_)
  ·have h4:=of_decide_eq_true h
   refine rt1 ⟨vi ?_,hn.bl.trans (hB9.trans hB10)⟩
   have:=mErr_hit hm ha9 h4
   rw [hE4,if_pos (by rw [this];exact h4),this]
  ·have h4:=Classical.not_not.1 (of_decide_eq_false h)
   refine ih9 hlt ⟨rfl,fun y hy => ?_,hB9.trans hB10⟩
   rw [take_succ_some hm,List.mem_append] at hy
   rcases hy with hy | hy
   ·exact ha9 y hy
   ·simp at hy;subst hy;exact h4
 refine brF ?_
 obtain rfl:k=u.methods.length:=by omega
 rw [List.take_length] at ha9
 have hE5:checkE u=if codesOk u=false then 8 else 0:=by rw [hE4,if_neg (by rw [mErr_none ha9];simp)]
 refine lda hx9.at ?_
 refine cl (r_codes u a _ hU9 ?_) ?_
 ·intro m hm i hi
  refine operand_ge i ?_
  have:=ha9 m hm
  unfold codeE at this
  split at this
  ·cases this
  ·split at this
   ·rename_i hv
    exact List.all_eq_true.1 hv i hi
   ·cases this
 rintro _ w10 ⟨rfl,hB10⟩
 refine br (t := !codesOk u) (fun h => ?_) (fun h => ?_)
 ·exact rt1 ⟨vi (by rw [hE5,if_pos (by simpa using h)]),hn.bl.trans (hB9.trans hB10)⟩
 ·exact rt1 ⟨vi (by rw [hE5,if_neg (by simpa using h)]),hn.bl.trans (hB9.trans hB10)⟩
end Go.Proofs.YtkmdfjpafkcleaaGreatDoor
namespace Go.Proofs.YtkmdfjpafkcleaaGreatDoor
open Eng Go.RowKit
theorem flatMap_congr' {α β:Type} {g h:α->List β}:∀ {l:List α},(∀ x∈l,g x=h x)->l.flatMap g=l.flatMap h
 | [],_=>rfl
 | x::l,e=>by rw [List.flatMap_cons,List.flatMap_cons,e x (List.mem_cons_self ..),flatMap_congr' fun y hy=>e y (List.mem_cons_of_mem _ hy)]
theorem split_dot {a b c d:List UInt8} (hb:(46:UInt8) ∉ b) (hd:(46:UInt8) ∉ d) (h:a++46::b=c++46::d):a=c/\b=d:=by
 have key:∀ (x y:List UInt8),(46:UInt8) ∉ x->(46:UInt8) ∉ y->∀ p q:List UInt8,x++46::p=y++46::q->x=y/\p=q:=by
  intro x
  induction x with
  | nil =>
   intro y _ hy p q e
   cases y with
   | nil=>simp at e;exact ⟨rfl,e⟩
   | cons c y=>simp at e;exact absurd (by rw [<-e.1];exact List.mem_cons_self ..) hy
  | cons c x ih =>
   intro y hx hy p q e
   cases y with
   | nil=>simp at e;exact absurd (by rw [e.1];exact List.mem_cons_self ..) hx
   | cons d y =>
    simp only [List.cons_append,List.cons.injEq] at e
    obtain ⟨e1,e2⟩:=ih y (fun m=>hx (List.mem_cons_of_mem _ m)) (fun m=>hy (List.mem_cons_of_mem _ m)) p q e.2
    exact ⟨by rw [e.1,e1],e2⟩
 have h':=congrArg List.reverse h
 simp only [List.reverse_append,List.reverse_cons,List.append_assoc,List.cons_append,List.nil_append] at h'
 obtain ⟨e1,e2⟩:=key _ _ (by simpa using hb) (by simpa using hd) _ _ h'
 exact ⟨List.reverse_inj.1 e2,List.reverse_inj.1 e1⟩
theorem toL_dots (x y:ByteArray):(dots x y).data.toList=x.data.toList++46::y.data.toList:=by
 unfold dots
 rw [show (x++⟨#[46]⟩++y:ByteArray).data=x.data++#[46]++y.data by rw [ByteArray.data_append,ByteArray.data_append]]
 simp
theorem dots_inj {a b c d:ByteArray} (hb:(46:UInt8) ∉ b.data.toList) (hd:(46:UInt8) ∉ d.data.toList) (h:dots a b=dots c d):a=c/\b=d:=by
 have:=congrArg (fun s:ByteArray=>s.data.toList) h
 simp only [toL_dots] at this
 obtain ⟨e1,e2⟩:=split_dot hb hd this
 exact ⟨ba_ext e1,ba_ext e2⟩
theorem path_one {s:ByteArray} (h:(path s:Int)=1):(46:UInt8) ∉ s.data.toList:=by
 unfold path pathL at h
 split at h
 ·rename_i hc
  intro hm
  have hl:(cutDot s.data.toList).length=1:=by omega
  have key:∀ l:List UInt8,(46:UInt8)∈l->1<(cutDot l).length:=by
   intro l
   induction l with
   | nil=>intro h;cases h
   | cons c r ih =>
    intro hm
    simp only [cutDot]
    have hn:=cutDot_ne r
    by_cases h1:c=46
    ·rw [if_pos h1]
     cases hr:cutDot r with
     | nil=>exact absurd hr hn
     | cons p ps=>simp
    ·rw [if_neg h1]
     have:=ih (by cases hm with
      | head=>exact absurd rfl h1
      | tail _ h=>exact h)
     cases hr:cutDot r with
     | nil=>exact absurd hr hn
     | cons p ps=>rw [hr] at this;simpa using this
  have:=key _ hm
  omega
 ·cases h
structure CkU (u:Unt):Prop where
 lim:limits u=true
 nm:simple u.name=true
 ps:pathsOk u=true
 kd:kinds u=true
 pl:(refs u).all (refOk u.pool.length)=true
 cl:classless u=true
 rf:refsOk u=true
 db:doubled u=false
 me:mErr u.methods=0
 cd:codesOk u=true
theorem ckU_iff (u:Unt):checkE u=0↔CkU u:=by
 constructor
 ·intro h
  unfold checkE at h
  split at h;· cases h
  rename_i h1
  split at h;· cases h
  rename_i h2
  split at h;· cases h
  rename_i h3
  split at h;· cases h
  rename_i h4
  split at h;· cases h
  rename_i h5
  split at h;· cases h
  rename_i h6
  split at h;· rename_i h7;exact absurd h h7
  rename_i h7
  split at h;· cases h
  rename_i h8
  simp only [places,Bool.not_eq_false,Bool.and_eq_true] at h1 h2 h3 h4 h5 h8
  exact ⟨h1,h2,h3,h4.1,h4.2.1,h4.2.2,h5,by simpa using h6,by simpa using h7,h8⟩
 ·rintro ⟨h1,h2,h3,h4,h5,h5',h6,h7,h8,h9⟩
  unfold checkE places
  rw [h1,h2,h3,h4,h5,h5',h6,h7,h8,h9]
  rfl
theorem mErr_zero {l:List Mth} (h:mErr l=0):∀ m∈l,codeE m.code true=0:=by
 induction l with
 | nil=>intro m hm;cases hm
 | cons x l ih =>
  unfold mErr at h
  split at h
  ·rename_i h1
   intro m hm
   rcases List.mem_cons.1 hm with rfl | hm
   ·exact h1
   ·exact ih h m hm
  ·rename_i h1;exact absurd h h1
theorem ref_in {u:Unt} (hC:CkU u) {r:Rf} (hr:r∈refs u):r.at' = -1/\r.opt=true∨(0<=r.at'/\r.at'<u.pool.length/\(path (nm u r.at'):Int)=r.parts):=by
 have h:=List.all_eq_true.1 hC.pl r hr
 have h2:=List.all_eq_true.1 hC.rf r hr
 simp only [refOk,Bool.or_eq_true,Bool.and_eq_true,decide_eq_true_eq,Bool.not_eq_true',Bool.or_eq_false_iff,decide_eq_false_iff_not] at h
 rcases h with h | h
 ·exact .inl h
 ·refine .inr ⟨by omega,by omega,?_⟩
  have h3:0<=r.at':=by omega
  rw [decide_eq_true h3] at h2
  simpa using h2
theorem op_in {u:Unt} (hC:CkU u) {m:Mth} (hm:m∈u.methods) {i:Ins} (hi:i∈m.code) (h:0<(operand i).2):0<=(operand i).1/\(operand i).1<u.pool.length/\(path (nm u (operand i).1):Int)=(operand i).2:=by
 have h1:=mErr_zero hC.me m hm
 have hv:validI i true=true:=by
  unfold codeE at h1
  split at h1
  ·cases h1
  ·split at h1
   ·rename_i hv;exact List.all_eq_true.1 hv i hi
   ·cases h1
 have h0:=operand_ge i hv h
 have h2:=List.all_eq_true.1 (List.all_eq_true.1 hC.cd m hm) i hi
 unfold insOk at h2
 rw [decide_eq_true h] at h2
 simp only [Bool.true_and,Bool.not_eq_true',Bool.or_eq_false_iff,decide_eq_false_iff_not] at h2
 refine ⟨h0,by omega,?_⟩
 have:=h2.2
 simpa using this
theorem name_in {u:Unt} (hC:CkU u) {i:Int} (h:(⟨i,1,false⟩:Rf)∈refs u):0<=i/\i<u.pool.length/\(path (nm u i):Int)=1:=by
 rcases ref_in hC h with ⟨_,h2⟩ | h2
 ·cases h2
 ·exact h2
end Go.Proofs.YtkmdfjpafkcleaaGreatDoor
namespace Go.Proofs.YtkmdfjpafkcleaaGreatDoor
open Go.RowKit
def foldI {α β:Type} (f:β->α->Nat->β) (l:List α) (b:β):β:=l.zipIdx.foldl (fun b p=>f b p.1 p.2) b
theorem foldI_snoc {α β:Type} {f:β->α->Nat->β} {l:List α} {b:β} {k:Nat} {x:α} (h:l[k]? = some x):foldI f (l.take (k+1)) b=f (foldI f (l.take k) b) x k:=by
 have hk:k<l.length:=(List.getElem?_eq_some_iff.1 h).1
 unfold foldI
 rw [take_succ_some h,List.zipIdx_append,List.foldl_append]
 simp only [List.zipIdx_cons,List.zipIdx_nil,List.foldl_cons,List.foldl_nil,List.length_take,Nat.min_eq_left (Nat.le_of_lt hk),Nat.zero_add]
theorem foldI_end {α β:Type} {f:β->α->Nat->β} {l:List α} {b:β}:foldI f (l.take l.length) b=foldI f l b:=by rw [List.take_length]
structure Dcl where
 classes:Mp (Nat×Nat)
 statics:Mp (Nat×Nat)
 calls:Mp (Nat×Nat)
 sends:Mp (Nat×Nat)
 named:Mp (List ByteArray)
 fields:Mp Bool
def dcl0:Dcl:=⟨[],[],[],[],[],[]⟩
def dFld (u:Unt) (p:ByteArray) (D:Dcl) (f:Fld):Dcl:={ D with fields:=putM D.fields (dots p (nm u f.name)) true }
def dCls (u:Unt) (n:Nat) (D:Dcl) (c:Cls) (k:Nat):Dcl :=
 c.fields.foldl (dFld u (dots u.name (nm u c.name))) { D with classes:=putM D.classes (dots u.name (nm u c.name)) (n,k) }
def dSta (u:Unt) (n:Nat) (D:Dcl) (s:Fld) (k:Nat):Dcl:={ D with statics:=putM D.statics (dots u.name (nm u s.name)) (n,k) }
def dMth (u:Unt) (n:Nat) (D:Dcl) (m:Mth) (k:Nat):Dcl :=
 if m.cls<0 then { D with calls:=putM D.calls (dots u.name (nm u m.name)) (n,k) }
 else { D with sends:=putM D.sends (dots (nm u m.cls) (nm u m.name)) (n,k),named:=putM D.named (nm u m.name) ((getM D.named (nm u m.name)).getD []++[dots (nm u m.cls) (nm u m.name)]) }
def dUnt (D:Dcl) (u:Unt) (n:Nat):Dcl:=foldI (dMth u n) u.methods (foldI (dSta u n) u.statics (foldI (dCls u n) u.classes D))
def decl (us:List Unt):Dcl:=foldI dUnt us dcl0
def isTypeL (D:Dcl) (u:Unt) (t:Ty):Bool:=decide (t.cls<0)||hasM D.classes (nm u t.cls)
def operL (D:Dcl) (u:Unt) (i:Ins):Bool :=
 if i.op=14∨i.op=24 then hasM D.classes (nm u i.a)
 else if i.op=16 then hasM D.classes (nm u i.b)
 else if i.op=12 then decide (i.a=3)||hasM D.classes (nm u i.b)
 else if i.op=17∨i.op=18 then (getM D.fields (nm u i.a)).getD false
 else if i.op=22∨i.op=23 then hasM D.statics (nm u i.a)
 else if i.op=25 then hasM D.calls (nm u i.a)
 else if i.op=26 then hasM D.named (nm u i.a)
 else true
def preL (n p:ByteArray):Bool:=(n.data.toList++[46]).isPrefixOf p.data.toList
def defC (D:Dcl) (u:Unt) (c:Cls):Bool:=(decide (c.super<0)||hasM D.classes (nm u c.super))&&c.fields.all fun f=>isTypeL D u f.ty
def defM (D:Dcl) (u:Unt) (m:Mth):Bool :=
 (decide (m.cls<0)||(hasM D.classes (nm u m.cls)&&preL u.name (nm u m.cls)))&&((m.params++m.locals++[m.result]).all (isTypeL D u)&&m.code.all (operL D u))
def defU (D:Dcl) (u:Unt):Bool:=u.classes.all (defC D u)&&((u.statics.all fun f=>isTypeL D u f.ty)&&u.methods.all (defM D u))
def definedL (us:List Unt) (D:Dcl):Bool:=us.all (defU D)
abbrev nost:ByteArray:=⟨#[]⟩
def clsAt (us:List Unt) (d:Nat×Nat):Option (Unt×Cls):=(us[d.1]?).bind fun u=>(u.classes[d.2]?).map fun c=>(u,c)
def mthAt (us:List Unt) (d:Nat×Nat):Option (Unt×Mth):=(us[d.1]?).bind fun u=>(u.methods[d.2]?).map fun c=>(u,c)
def clsOf (us:List Unt) (D:Dcl) (p:ByteArray):Option (Unt×Cls):=(getM D.classes p).bind (clsAt us)
def supL (us:List Unt) (D:Dcl) (p:ByteArray):ByteArray:=match clsOf us D p with
 | some (u,c)=>if 0<=c.super then nm u c.super else nost
 | none=>nost
def ownL (us:List Unt) (D:Dcl) (p:ByteArray):List ByteArray:=match clsOf us D p with
 | some (u,c)=>c.fields.map fun f=>nm u f.name
 | none=>[]
def layL (us:List Unt) (D:Dcl):Nat->ByteArray->List ByteArray
 | 0,_=>[]
 | n+1,p=>(if supL us D p=nost then [] else layL us D n (supL us D p))++ownL us D p
def mthD (D:Dcl) (p:ByteArray):Option (Nat×Nat):=match getM D.calls p with
 | some d=>some d
 | none=>getM D.sends p
def mthOf (us:List Unt) (D:Dcl) (p:ByteArray):Option (Unt×Mth):=(mthD D p).bind (mthAt us)
def calI (D:Dcl) (u:Unt) (i:Ins):List ByteArray:=if i.op=25 then [nm u i.a] else if i.op=26 then (getM D.named (nm u i.a)).getD [] else []
def calL (us:List Unt) (D:Dcl) (p:ByteArray):List ByteArray:=match mthOf us D p with
 | some (u,m)=>m.code.flatMap (calI D u)
 | none=>[]
def neeC (us:List Unt) (D:Dcl) (p:ByteArray):List ByteArray:=if supL us D p=nost then [] else [supL us D p]
def placeL (needs:ByteArray->List ByteArray):Nat->List ByteArray->List ByteArray->Option (List ByteArray)
 | 0,_,out=>some out
 | n+1,left,out=>match left.findIdx? fun x=>(needs x).all fun y=>hasB out y with
  | none=>none
  | some k=>placeL needs n (left.eraseIdx k) (out++[left.getD k nost])
def sortL (l:List ByteArray):List ByteArray:=((l.map fun s=>s.data.toList).mergeSort fun x y=>decide (x<=y)).map ofL
def orderL (needs:ByteArray->List ByteArray) (names:List ByteArray):Option (List ByteArray):=placeL needs names.length (sortL names) []
def dig (k:Int):ByteArray:=⟨#[UInt8.ofNat (48+k).toNat]⟩
def shownL (u:Unt) (t:Ty):ByteArray:=if 0<=t.cls then dig t.kind++nm u t.cls else dig t.kind
def sigL (u:Unt) (m:Mth):ByteArray:=m.params.foldl (fun s t=>s++(⟨#[44]⟩++shownL u t)) (shownL u m.result)
def sigD (us:List Unt) (D:Dcl) (p:ByteArray):ByteArray:=match (getM D.sends p).bind (mthAt us) with
 | some (u,m)=>sigL u m
 | none=>nost
def unlikeL (us:List Unt) (D:Dcl):Bool:=D.named.any fun q=>q.2.any fun p => !decide (sigD us D p=sigD us D (q.2.getD 0 nost))
def chkE:List Unt->Int
 | []=>0
 | u::us=>if checkE u=0 then chkE us else checkE u
def ordC (us:List Unt):Option (List ByteArray):=orderL (neeC us (decl us)) (keysM (decl us).classes)
def ordM (us:List Unt):Option (List ByteArray):=orderL (calL us (decl us)) (keysM (decl us).calls++keysM (decl us).sends)
def lay (us:List Unt) (p:ByteArray):List ByteArray:=layL us (decl us) ((keysM (decl us).classes).length) p
def bigD (D:Dcl):Bool:=decide (10<D.classes.length)||(decide (10<D.statics.length)||decide (16<D.calls.length+D.sends.length))
def runE (us:List Unt):Int :=
 if 5<us.length then 2
 else if chkE us≠0 then chkE us
 else if dup (us.map (·.name))=true then 9
 else if definedL us (decl us)=false then 8
 else match ordC us with
  | none=>10
  | some oc =>
   if bigD (decl us)=true then 2
   else if (oc.any fun p=>decide (7<(lay us p).length))=true then 2
   else if (oc.any fun p=>dup (lay us p))=true then 9
   else if unlikeL us (decl us)=true then 11
   else match ordM us with
    | none=>10
    | some _=>0
end Go.Proofs.YtkmdfjpafkcleaaGreatDoor
namespace Go.Proofs.YtkmdfjpafkcleaaGreatDoor
open Go.RowKit
theorem inP_at {u:Unt} {i:Int} (h:inP u i):∃ k:Nat,i=k/\u.pool[k]? = some (nm u i):=by
 obtain ⟨h1,h2⟩:=h
 refine ⟨i.toNat,by omega,?_⟩
 unfold nm
 rw [List.getD_eq_getElem?_getD,List.getElem?_eq_getElem (by omega)];rfl
def optP (u:Unt) (i:Int):Prop:=i = -1∨inP u i
theorem optP.inP {u:Unt} {i:Int} (h:optP u i) (h0:¬i<0):inP u i:=by
 rcases h with rfl | h
 ·omega
 ·exact h
theorem ref_opt {u:Unt} (hC:CkU u) {r:Rf} (hr:r∈refs u):optP u r.at':=by
 rcases ref_in hC hr with ⟨q,_⟩ | ⟨q,q2,_⟩
 ·exact .inl q
 ·exact .inr ⟨q,q2⟩
structure Ixs (u:Unt):Prop where
 plc:Plc u
 sup:∀ c∈u.classes,optP u c.super
 fty:∀ c∈u.classes,∀ f∈c.fields,optP u f.ty.cls
 sty:∀ f∈u.statics,optP u f.ty.cls
 mty:∀ m∈u.methods,∀ t∈m.params++m.locals++[m.result],optP u t.cls
 opa:∀ m∈u.methods,∀ i∈m.code,(i.op=14∨i.op=24∨i.op=17∨i.op=18∨i.op=22∨i.op=23∨i.op=25∨i.op=26)->inP u i.a
 opb:∀ m∈u.methods,∀ i∈m.code,(i.op=16∨i.op=12/\¬i.a=3)->inP u i.b
theorem valid_of {u:Unt} (hC:CkU u) {m:Mth} (hm:m∈u.methods) {i:Ins} (hi:i∈m.code):validI i true=true:=by
 have h1:=mErr_zero hC.me m hm
 unfold codeE at h1
 split at h1
 ·cases h1
 ·split at h1
  ·rename_i hv;exact List.all_eq_true.1 hv i hi
  ·cases h1
theorem null_a {i:Ins} (hv:validI i true=true) (h:i.op=12):i.a=2∨i.a=3∨i.a=4:=by
 unfold validI at hv
 simp only [Bool.and_eq_true,h] at hv
 have h2:=hv.1.1.2
 have e:(rngs.getD (12:Int).toNat (0,0)).1=3:=by decide
 rw [e] at h2
 unfold inR at h2
 simp at h2
 omega
theorem ixs_of {u:Unt} (hC:CkU u):Ixs u:=by
 have mc:∀ c∈u.classes,∀ r∈cref c,r∈refs u:=fun c hc r hr=>List.mem_append_left _ (List.mem_append_left _ (List.mem_flatMap.2 ⟨c,hc,hr⟩))
 have ms:∀ f∈u.statics,∀ r∈fref f,r∈refs u:=fun c hc r hr=>List.mem_append_left _ (List.mem_append_right _ (List.mem_flatMap.2 ⟨c,hc,hr⟩))
 have mm:∀ m∈u.methods,∀ r∈mref m,r∈refs u:=fun c hc r hr=>List.mem_append_right _ (List.mem_flatMap.2 ⟨c,hc,hr⟩)
 refine ⟨plc_of hC.pl,fun c hc=>ref_opt hC (mc c hc ⟨c.super,2,true⟩ (by simp [cref])),fun c hc f hf=>ref_opt hC (mc c hc (typed f.ty) ?_),fun f hf=>ref_opt hC (ms f hf (typed f.ty) (by simp [fref])),
  fun m hm t ht=>ref_opt hC (mm m hm (typed t) ?_),fun m hm i hi h => ?_,fun m hm i hi h => ?_⟩
 ·simp only [cref,List.mem_append,List.mem_flatMap]
  exact .inr ⟨f,hf,by simp [fref]⟩
 ·simp only [mref,List.mem_append,List.mem_map,List.mem_singleton]
  simp only [List.mem_append,List.mem_singleton] at ht
  rcases ht with (ht | ht) | rfl
  ·exact .inl (.inl (.inr ⟨t,ht,rfl⟩))
  ·exact .inl (.inr ⟨t,ht,rfl⟩)
  ·exact .inr rfl
 ·have hn:(named i).1=1:=by
   unfold named
   rcases h with h | h | h | h | h | h | h | h <;> simp [h]
  have h2:0<(named i).2:=by
   unfold named
   rcases h with h | h | h | h | h | h | h | h <;> simp [h]
  have ho:operand i=(i.a,(named i).2):=by unfold operand;rw [if_pos hn]
  have:=op_in hC hm hi (by rw [ho];exact h2)
  rw [ho] at this
  exact ⟨this.1,this.2.1⟩
 ·have hv:=valid_of hC hm hi
  have hn:named i=(2,2):=by
   unfold named
   rcases h with h | ⟨h,h3⟩
   ·simp [h]
   ·rcases null_a hv h with q | q | q
    ·simp [h,q]
    ·exact absurd q h3
    ·simp [h,q]
  have ho:operand i=(i.b,2):=by unfold operand;rw [hn];rfl
  have:=op_in hC hm hi (by rw [ho];exact (by decide:(0:Int)<2))
  rw [ho] at this
  exact ⟨this.1,this.2.1⟩
end Go.Proofs.YtkmdfjpafkcleaaGreatDoor
namespace Go.Proofs.YtkmdfjpafkcleaaGreatDoor
open Go.RowKit
theorem foldI_ind {α β:Type} {f:β->α->Nat->β} {l:List α} {b:β} (P:Nat->β->Prop) (h0:P 0 b) (hs:∀ k x b,l[k]? = some x->P k b->P (k+1) (f b x k)):P l.length (foldI f l b):=by
 have key:∀ k,k<=l.length->P k (foldI f (l.take k) b):=by
  intro k
  induction k with
  | zero=>intro _;exact h0
  | succ k ih =>
   intro hk
   obtain ⟨x,hx⟩:=some_of_lt (l:=l) (k:=k) (by omega)
   rw [foldI_snoc hx]
   exact hs k x _ hx (ih (by omega))
 have:=key l.length (Nat.le_refl _)
 rwa [foldI_end] at this
structure DOk (us:List Unt) (c s m:Nat) (D:Dcl):Prop where
 cl:∀ p d,getM D.classes p=some d->∃ x,clsAt us d=some x
 st:∀ p d,getM D.statics p=some d->∃ u x,us[d.1]? = some u/\u.statics[d.2]? = some x
 ca:∀ p d,getM D.calls p=some d->∃ x,mthAt us d=some x
 se:∀ p d,getM D.sends p=some d->∃ x,mthAt us d=some x
 na:∀ q∈D.named,∀ p∈q.2,hasM D.sends p=true
 lc:D.classes.length<=c
 ls:D.statics.length<=s
 lm:D.calls.length+D.sends.length<=m
 ln:D.named.length<=m
 zc:∀ p∈D.classes,p.1.size<=200
 zs:∀ p∈D.statics,p.1.size<=200
 za:∀ p∈D.calls,p.1.size<=200
 ze:∀ p∈D.sends,p.1.size<=200
 zn:∀ p∈D.named,p.1.size<=200
theorem putM_in {α:Type}:∀ {m:Mp α} {k:ByteArray} {v:α} {p:ByteArray×α},p∈putM m k v->p=(k,v)∨p∈m
 | [],_,_,_,h => .inl (by simpa [putM] using h)
 | (k0,v0)::m,k,v,p,h=>by
  simp only [putM] at h
  split at h
  ·rcases List.mem_cons.1 h with e | h
   ·exact .inl e
   ·exact .inr (List.mem_cons_of_mem _ h)
  ·rcases List.mem_cons.1 h with e | h
   ·exact .inr (by rw [e];exact List.mem_cons_self ..)
   ·rcases putM_in h with e | e
    ·exact .inl e
    ·exact .inr (List.mem_cons_of_mem _ e)
theorem putM_sz {α:Type} {m:Mp α} {k:ByteArray} {v:α} {B:Nat} (h:∀ p∈m,p.1.size<=B) (hk:k.size<=B):∀ p∈putM m k v,p.1.size<=B:=fun p hp=>by
 rcases putM_in hp with rfl | hp
 ·exact hk
 ·exact h p hp
theorem hasM_put {α:Type} {m:Mp α} {k k':ByteArray} {v:α} (h:hasM m k'=true):hasM (putM m k v) k'=true:=by
 unfold hasM at *
 rw [putM_get]
 split
 ·rfl
 ·exact h
theorem hasM_self {α:Type} {m:Mp α} {k:ByteArray} {v:α}:hasM (putM m k v) k=true:=by
 unfold hasM
 rw [putM_get,if_pos rfl];rfl
theorem getM_in {α:Type}:∀ {m:Mp α} {k:ByteArray} {v:α},getM m k=some v->(k,v)∈m
 | [],_,_,h=>by cases h
 | (k0,v0)::m,k,v,h=>by
  simp only [getM] at h
  split at h
  ·rename_i e;subst e;obtain rfl:=Option.some.inj h;exact List.mem_cons_self ..
  ·exact List.mem_cons_of_mem _ (getM_in h)
theorem ck_small {u:Unt} (hC:CkU u):u.name.size<=12/\∀ i,inP u i->(nm u i).size<=38:=by
 constructor
 ·have:=hC.nm
  rcases Nat.lt_or_ge 12 u.name.size with h | h
  ·rw [simple_long _ h] at this;cases this
  ·exact h
 ·intro i hi
  obtain ⟨k,rfl,hk⟩:=inP_at hi
  have:=List.all_eq_true.1 hC.ps _ (List.mem_of_getElem? hk)
  rcases Nat.lt_or_ge 38 (nm u k).size with h | h
  ·have h2:=path_long h
   have:=of_decide_eq_true this
   omega
  ·exact h
theorem dots_sz (x y:ByteArray):(dots x y).size=x.size+1+y.size:=by
 unfold dots
 rw [ByteArray.size_append,ByteArray.size_append];rfl
theorem dfld_fold (u:Unt) (p:ByteArray):∀ (l:List Fld) (D:Dcl),∃ f,l.foldl (dFld u p) D={ D with fields:=f }
 | [],D=>⟨D.fields,rfl⟩
 | x::l,D=>by
  obtain ⟨f,hf⟩:=dfld_fold u p l (dFld u p D x)
  exact ⟨f,by rw [List.foldl_cons,hf];rfl⟩
theorem dok_cls {us:List Unt} {n k c s m:Nat} {u:Unt} {x:Cls} {D:Dcl} (hC:CkU u) (hu:us[n]? = some u) (hx:u.classes[k]? = some x) (h:DOk us c s m D):DOk us (c+1) s m (dCls u n D x k):=by
 obtain ⟨hn,hp⟩:=ck_small hC
 have hI:=(ixs_of hC).plc.cn x (List.mem_of_getElem? hx)
 unfold dCls
 obtain ⟨f,hf⟩:=dfld_fold u (dots u.name (nm u x.name)) x.fields { D with classes:=putM D.classes (dots u.name (nm u x.name)) (n,k) }
 rw [hf]
 refine ⟨fun p d hd => ?_,h.st,h.ca,h.se,h.na,Nat.le_trans (putM_len ..) (by have:=h.lc;omega),h.ls,h.lm,h.ln,putM_sz h.zc (by have:=hp _ hI;rw [dots_sz];omega),h.zs,h.za,h.ze,h.zn⟩
 simp only at hd
 rw [putM_get] at hd
 split at hd
 ·obtain rfl:=Option.some.inj hd
  exact ⟨(u,x),by unfold clsAt;simp [hu,hx]⟩
 ·exact h.cl p d hd
theorem dok_sta {us:List Unt} {n k c s m:Nat} {u:Unt} {x:Fld} {D:Dcl} (hC:CkU u) (hu:us[n]? = some u) (hx:u.statics[k]? = some x) (h:DOk us c s m D):DOk us c (s+1) m (dSta u n D x k):=by
 obtain ⟨hn,hp⟩:=ck_small hC
 have hI:=(ixs_of hC).plc.sn x (List.mem_of_getElem? hx)
 refine ⟨h.cl,fun p d hd => ?_,h.ca,h.se,h.na,h.lc,Nat.le_trans (putM_len ..) (by have:=h.ls;omega),h.lm,h.ln,h.zc,putM_sz h.zs (by have:=hp _ hI;rw [dots_sz];omega),h.za,h.ze,h.zn⟩
 simp only [dSta] at hd
 rw [putM_get] at hd
 split at hd
 ·obtain rfl:=Option.some.inj hd
  exact ⟨u,x,hu,hx⟩
 ·exact h.st p d hd
theorem dok_mth {us:List Unt} {n k c s m:Nat} {u:Unt} {x:Mth} {D:Dcl} (hC:CkU u) (hu:us[n]? = some u) (hx:u.methods[k]? = some x) (h:DOk us c s m D):DOk us c s (m+1) (dMth u n D x k):=by
 obtain ⟨hn,hp⟩:=ck_small hC
 have hpl:=(ixs_of hC).plc
 have hI:=hpl.mn x (List.mem_of_getElem? hx)
 have hat:mthAt us (n,k)=some (u,x):=by unfold mthAt;simp [hu,hx]
 unfold dMth
 split
 ·refine ⟨h.cl,h.st,fun p d hd => ?_,h.se,h.na,h.lc,h.ls,?_,by have:=h.ln;simp only;omega,h.zc,h.zs,putM_sz h.za (by have:=hp _ hI;rw [dots_sz];omega),h.ze,h.zn⟩
  ·simp only at hd
   rw [putM_get] at hd
   split at hd
   ·obtain rfl:=Option.some.inj hd;exact ⟨_,hat⟩
   ·exact h.ca p d hd
  ·have:=putM_len D.calls (dots u.name (nm u x.name)) (n,k)
   have:=h.lm
   simp only;omega
 ·rename_i h0
  have hci:inP u x.cls:=(hpl.mc x (List.mem_of_getElem? hx)).resolve_left fun e=>h0 (by omega)
  refine ⟨h.cl,h.st,h.ca,fun p d hd => ?_,fun q hq p hp' => ?_,h.lc,h.ls,?_,?_,h.zc,h.zs,h.za,putM_sz h.ze (by have:=hp _ hI;have:=hp _ hci;rw [dots_sz];omega),putM_sz h.zn (by have:=hp _ hI;omega)⟩
  ·simp only at hd
   rw [putM_get] at hd
   split at hd
   ·obtain rfl:=Option.some.inj hd;exact ⟨_,hat⟩
   ·exact h.se p d hd
  ·simp only at hq ⊢
   rcases putM_in hq with rfl | hq
   ·simp only [List.mem_append,List.mem_singleton] at hp'
    rcases hp' with hp' | rfl
    ·cases hg:getM D.named (nm u x.name) with
     | none=>rw [hg] at hp';cases hp'
     | some l=>rw [hg] at hp';exact hasM_put (h.na _ (getM_in hg) p hp')
    ·exact hasM_self
   ·exact hasM_put (h.na q hq p hp')
  ·have:=putM_len D.sends (dots (nm u x.cls) (nm u x.name)) (n,k)
   have:=h.lm
   simp only;omega
  ·have:=putM_len D.named (nm u x.name) ((getM D.named (nm u x.name)).getD []++[dots (nm u x.cls) (nm u x.name)])
   have:=h.ln
   simp only;omega
theorem DOk.mono {us:List Unt} {c s m c' s' m':Nat} {D:Dcl} (h:DOk us c s m D) (h1:c<=c') (h2:s<=s') (h3:m<=m'):DOk us c' s' m' D :=
 ⟨h.cl,h.st,h.ca,h.se,h.na,Nat.le_trans h.lc h1,Nat.le_trans h.ls h2,Nat.le_trans h.lm h3,Nat.le_trans h.ln h3,h.zc,h.zs,h.za,h.ze,h.zn⟩
theorem dok_decl {us:List Unt} (hC:∀ u∈us,CkU u):DOk us (10*us.length) (10*us.length) (16*us.length) (decl us):=by
 refine foldI_ind (fun n D=>DOk us (10*n) (10*n) (16*n) D) ⟨fun _ _ h=>(by cases h),fun _ _ h=>(by cases h),fun _ _ h=>(by cases h),fun _ _ h=>(by cases h),fun _ h=>(by cases h),Nat.le_refl _,Nat.le_refl _,Nat.le_refl _,Nat.le_refl _,fun _ h=>(by cases h),fun _ h=>(by cases h),fun _ h=>(by cases h),fun _ h=>(by cases h),fun _ h=>(by cases h)⟩ fun n u D hu h => ?_
 have hCu:=hC u (List.mem_of_getElem? hu)
 have hL:=lim_of hCu.lim
 have h1:=foldI_ind (f:=dCls u n) (l:=u.classes) (fun k D=>DOk us (10*n+k) (10*n) (16*n) D) h fun k x D hx h=>dok_cls hCu hu hx h
 have h2:=foldI_ind (f:=dSta u n) (l:=u.statics) (fun k D=>DOk us (10*n+u.classes.length) (10*n+k) (16*n) D) h1 fun k x D hx h=>dok_sta hCu hu hx h
 have h3:=foldI_ind (f:=dMth u n) (l:=u.methods) (fun k D=>DOk us (10*n+u.classes.length) (10*n+u.statics.length) (16*n+k) D) h2 fun k x D hx h=>dok_mth hCu hu hx h
 exact h3.mono (by have:=hL.cls;omega) (by have:=hL.sta;omega) (by have:=hL.mth;omega)
end Go.Proofs.YtkmdfjpafkcleaaGreatDoor
namespace Go.Proofs.YtkmdfjpafkcleaaGreatDoor
open Go Go.RowKit Eng
theorem Eng.spt {C:Cx} {s:St} {w:World} {md:Option Md} {ops:Array Oper} {o:Oper} {rest:List Oper} {k:List Item} {l:Env} {c:CEnv} {gs:Nat} {gb gt:Bool} {d:Nat} (u:Value)
  (h1:Wk C (.opn md ops o rest k (bools [(gs,gb)] (settleL [(gs,gb)] c l)) (settleC [(gs,gb)] c) []) w)
  (hs:adv C.tab C.n C.ks 400 s = .opn md ops o rest k l c [(gs,gb)]:=by rfl) (hg:evc l c [] (.tmp gs)=some (.bool gt):=by rfl) (hd:o.dst=some d:=by rfl) (hf:fresh d l c [(gs,gb)]=true:=by rfl) (hb:gt=gb:=by first | rfl | simp):Wk C s w :=
 sp u (fun _=>h1) (fun q=>by rw [hb] at q;cases gb <;> cases q) hs hg hd hf
theorem Eng.spn {C:Cx} {s:St} {w:World} {md:Option Md} {ops:Array Oper} {o:Oper} {rest:List Oper} {k:List Item} {l:Env} {c:CEnv} {gs:Nat} {gb gt:Bool} {d:Nat} (u:Value)
  (h2:Wk C (.reg md ops rest k l ((d,[(gs,gb)],u)::c)) w)
  (hs:adv C.tab C.n C.ks 400 s = .opn md ops o rest k l c [(gs,gb)]:=by rfl) (hg:evc l c [] (.tmp gs)=some (.bool gt):=by rfl) (hd:o.dst=some d:=by rfl) (hf:fresh d l c [(gs,gb)]=true:=by rfl) (hb:gt=(!gb):=by first | rfl | simp_all):Wk C s w :=
 sp u (fun q=>by rw [q] at hb;cases gb <;> cases hb) (fun _=>h2) hs hg hd hf
theorem Eng.spn2 {C:Cx} {s:St} {w:World} {md:Option Md} {ops:Array Oper} {o:Oper} {rest:List Oper} {k:List Item} {l:Env} {c:CEnv} {gs gs':Nat} {gb gt gb' gt':Bool} {d:Nat} (u:Value)
  (h2:Wk C (.reg md ops rest k l ((d,[(gs,gb),(gs',gb')],u)::c)) w)
  (hs:adv C.tab C.n C.ks 400 s = .opn md ops o rest k l c [(gs,gb),(gs',gb')]:=by rfl) (hg':evc l c [] (.tmp gs')=some (.bool gt'):=by rfl) (hg:evc l c [(gs',gb')] (.tmp gs)=some (.bool gt):=by rfl) (hd:o.dst=some d:=by rfl) (hf:fresh d l c [(gs,gb),(gs',gb')]=true:=by rfl) (hn:¬(gt'=gb'/\gt=gb):=by simp_all):Wk C s w :=
 sp2 u (fun a b=>absurd ⟨a,b⟩ hn) (fun _=>h2) hs hg' hg hd hf
theorem Eng.spt2 {C:Cx} {s:St} {w:World} {md:Option Md} {ops:Array Oper} {o:Oper} {rest:List Oper} {k:List Item} {l:Env} {c:CEnv} {gs gs':Nat} {gb gt gb' gt':Bool} {d:Nat} (u:Value)
  (h1:Wk C (.opn md ops o rest k (bools [(gs,gb),(gs',gb')] (settleL [(gs,gb),(gs',gb')] c l)) (settleC [(gs,gb),(gs',gb')] c) []) w)
  (hs:adv C.tab C.n C.ks 400 s = .opn md ops o rest k l c [(gs,gb),(gs',gb')]:=by rfl) (hg':evc l c [] (.tmp gs')=some (.bool gt'):=by rfl) (hg:evc l c [(gs',gb')] (.tmp gs)=some (.bool gt):=by rfl) (hd:o.dst=some d:=by rfl) (hf:fresh d l c [(gs,gb),(gs',gb')]=true:=by rfl) (hy:gt'=gb'/\gt=gb:=by simp_all):Wk C s w :=
 sp2 u (fun _ _=>h1) (fun q=>absurd hy q) hs hg' hg hd hf
end Go.Proofs.YtkmdfjpafkcleaaGreatDoor
