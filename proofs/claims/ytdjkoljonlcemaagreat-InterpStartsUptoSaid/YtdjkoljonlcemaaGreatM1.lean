import Derived.WalkKit
import Derived.WalkLawsBesides
import Derived.WalkSpells
import Derived.Lib.Hide
import Derived.OrdersHeld
import Derived.Still
import Derived.StillTail
import Derived.Lib.SmallJoins
import Derived.MapKept
import Derived.Test.YtdjkoljonlcemaaGreatProg
import Derived.Lib.SplitLaws
import Derived.Lib.IndexBytes
import Derived.Lib.Split
import Derived.Lib.SlicesCompact
import Derived.Shelf.Strings.Split
import Derived.Shelf.Slices.SearchI
import Derived.Shelf.Strings.Prefix
import Derived.Shelf.Strings.OnBuilder
import Derived.Test.YtdjkoljonlcemaaGreatShelf
/- An engine for walks: the machine's state as a list of known slots and a stack of items; one lemma for each kind of step. No program stands here. -/
namespace Go.Proofs.YtdjkoljonlcemaaGreat.Eng
open Go
abbrev Env:=List (Nat×Value)
def look:Env->Nat->Option Value
 | [],_=>none
 | (j,v)::l,k=>bif Nat.beq j k then some v else look l k
def Knows (l:Env) (a:Act):Prop:=∀ k v,look l k=some v->a.tmps.getD k undef=v
def evq (l:Env):Operand->Option Value
 | .tmp t=>look l t
 | .const v=>some v
 | .global g=>some (.pointer (some ⟨g,0,none⟩))
 | .func f=>some (.func (.func f) #[] #[])
theorem evq_ok {l:Env} {a:Act} (hk:Knows l a) {x:Operand} {v:Value} (h:evq l x=some v):a.eval x=v:=by
 cases x with
 | tmp t=>exact hk _ _ h
 | const v=>simp [evq] at h;simp [Act.eval,h]
 | global g=>simp [evq] at h;simp [Act.eval,h]
 | func f=>simp [evq] at h;simp [Act.eval,h]
def evs (l:Env):List Operand->Option (List Value)
 | []=>some []
 | x::r=>match evq l x with
  | some v=>match evs l r with
   | some vs=>some (v::vs)
   | none=>none
  | none=>none
def retQ (Q:Value->World->Prop):Ending->World->Prop
 | .returned v,w=>Q v w
 | _,_=>False
def callable (P:Program) (f:FuncId):Bool:=match P.funcs[f]? with
 | some fn=>fn.body.isSome && !(fn.name == "runtime.NumGoroutine")
 | none=>false
structure Ret (P:Program) (f:FuncId) (args:Array Value) (w:World) (Q:Value->World->Prop):Prop where
 ok:callable P f=true
 run:Calls P f args w (retQ Q)
theorem Ret.mono {P:Program} {f:FuncId} {args:Array Value} {w:World} {Q Q':Value->World->Prop} (h:Ret P f args w Q) (hq:∀ v w',Q v w'->Q' v w'):Ret P f args w Q' :=
 ⟨h.ok,h.run.mono fun e w' r=>by cases e <;> first | exact hq _ _ r | exact r.elim⟩
def bas (f:FuncId):Frame:={ (default:Frame) with fn:=f,kind := .normal }
structure From (P:Program) (f:FuncId) (fn:Func) (n:Nat) (Q:Value->World->Prop) (k:List Item) (l:Env) (w:World):Prop where
 run:P.funcs[f]? = some fn->∀ a:Act,a.tmps.size=n->a.defers=[]->Knows l a->∀ cs,∃ e w' fr,retQ Q e w'/\Comes P (lone ((bas f).at a k) cs w) (lone fr cs w') e/\fr.fn=f/\fr.leaving P w' e
def numbered:Nat->List Value->Env
 | _,[]=>[]
 | i,v::vs=>(i,v)::numbered (i+1) vs
theorem look_numbered:∀ (vs:List Value) (i k:Nat) (v:Value),look (numbered i vs) k=some v->i<=k/\vs[k-i]? = some v
 | [],_,_,_,h=>by simp [numbered,look] at h
 | x::vs,i,k,v,h=>by
  simp only [numbered,look] at h
  cases hb:Nat.beq i k with
  | true=>simp only [hb,cond_true,Option.some.injEq] at h;have:=Nat.eq_of_beq_eq_true hb;subst this;simp [h]
  | false =>
   simp only [hb,cond_false] at h
   obtain ⟨h1,h2⟩:=look_numbered vs (i+1) k v h
   refine ⟨by omega,?_⟩
   have:k-i=(k-(i+1))+1:=by omega
   rw [this];simpa using h2
section
variable {P:Program} {f:FuncId} {fn:Func} {n:Nat} {Q:Value->World->Prop} {k:List Item} {l:Env} {w:World}
theorem enter {c:Code} {vs:List Value} (hf:P.funcs[f]? = some fn) (hb:fn.body=some c) (hn:fn.ntmps=n) (hok:callable P f=true) (hs:vs.length<=n)
  (h:From P f fn n Q [.code c] (numbered 0 vs) w):Ret P f vs.toArray w Q:=by
 refine ⟨hok,fun cs => ?_⟩
 have henter:Frame.enter P f vs.toArray .normal=(bas f).at { tmps:=vs.toArray++Array.replicate (fn.ntmps-vs.toArray.size) undef,defers:=[] } [.code c]:=by
  simp [Frame.enter,Frame.at,hf,hb,bas]
 rw [henter]
 refine h.run hf _ ?_ rfl ?_ cs
 ·simp [hn];omega
 ·intro k v hv
  obtain ⟨_,h2⟩:=look_numbered _ _ _ _ hv
  simp only [Nat.sub_zero] at h2
  obtain ⟨hlt,e⟩:=List.getElem?_eq_some_iff.1 h2
  simp [Array.getElem?_append,hlt,e]
def outs (l:Env):List ResultVar->Option (List Value)
 | []=>some []
 | .tmp t::r=>match look l t with
  | some v=>match outs l r with
   | some vs=>some (v::vs)
   | none=>none
  | none=>none
 | .cell .. :: _=>none
theorem outs_ok {a:Act} (hk:Knows l a):∀ {rs:List ResultVar} {vs:List Value},outs l rs=some vs ->
  (rs.mapM fun | .tmp t=>(pure (a.tmps.getD t undef):Sem Value) | .cell d t=>do loadVar t (<-asAddr (a.tmps.getD d undef)))=pure vs
 | [],vs,h=>by simp [outs] at h;subst h;rfl
 | .tmp t::r,vs,h=>by
  simp only [outs] at h
  cases hx:look l t with
  | none=>simp [hx] at h
  | some v =>
   cases hr:outs l r with
   | none=>simp [hx,hr] at h
   | some vs' =>
    simp [hx,hr] at h
    subst h
    rw [List.mapM_cons,outs_ok hk hr]
    show (do let x <-(pure (a.tmps.getD t undef):Sem Value);let y <-(pure vs':Sem (List Value));pure (x::y))=_
    rw [hk _ _ hx]
    rfl
 | .cell .. :: r,vs,h=>by simp [outs] at h
def whole:List Value->Value
 | [v]=>v
 | vs => .tuple vs.toArray
theorem results_of {a:Act} (hk:Knows l a) {vs:List Value} (h:outs l fn.results.toList=some vs):(results fn a.tmps).run P w = .ok (whole vs) w:=by
 have e:fn.results.mapM (fun | .tmp t=>(pure (a.tmps.getD t undef):Sem Value) | .cell d t=>do loadVar t (<-asAddr (a.tmps.getD d undef)))=pure vs.toArray:=by
  rw [<-Array.toArray_toList (xs:=fn.results),List.mapM_toArray,outs_ok hk h];rfl
 unfold results
 erw [e]
 show (Sem.pure _).run P w=_
 cases vs with
 | nil=>simp [Sem.run,whole]
 | cons v r=>cases r with
  | nil=>simp [Sem.run,whole]
  | cons u r=>simp [Sem.run,whole]
def Sub:Env->Env->Prop
 | [],_=>True
 | (j,v)::r,l=>look l j=some v/\Sub r l
theorem sub_look:∀ {r l:Env} {j:Nat} {v:Value},Sub r l->look r j=some v->look l j=some v
 | [],_,_,_,_,h=>by simp [look] at h
 | (i,u)::r,l,j,v,hs,h=>by
  simp only [look] at h
  cases hb:Nat.beq i j with
  | true=>simp only [hb,cond_true,Option.some.injEq] at h;have:=Nat.eq_of_beq_eq_true hb;subst this;subst h;exact hs.1
  | false=>simp only [hb,cond_false] at h;exact sub_look hs.2 h
def pair:List Nat->List Value->Env->Env
 | j::js,v::vs,l=>(j,v)::pair js vs l
 | _,_,l=>l
def lookAll (l:Env):List Nat->Option (List Value)
 | []=>some []
 | j::js=>match look l j with
  | some v=>match lookAll l js with
   | some vs=>some (v::vs)
   | none=>none
  | none=>none
theorem look_pair {keep l:Env} (hk:Sub keep l):∀ {sel:List Nat} {vals:List Value},lookAll l sel=some vals->∀ j v,look (pair sel vals keep) j=some v->look l j=some v
 | [],vals,h,j,v,hl=>by simp [pair] at hl;exact sub_look hk hl
 | i::js,vals,h,j,v,hl=>by
  simp only [lookAll] at h
  cases hx:look l i with
  | none=>simp [hx] at h
  | some u =>
   cases hr:lookAll l js with
   | none=>simp [hx,hr] at h
   | some us =>
    simp [hx,hr] at h
    subst h
    simp only [pair,look] at hl
    cases hb:Nat.beq i j with
    | true=>simp only [hb,cond_true,Option.some.injEq] at hl;have:=Nat.eq_of_beq_eq_true hb;subst this;subst hl;exact hx
    | false=>simp only [hb,cond_false] at hl;exact look_pair hk hr j v hl
end
inductive TK where
 | slice (e esz bytes:Nat)
 | struct (offs:List (Nat×Nat))
 | arr (n e esz:Nat)
 | str
 | other
structure TI where
 k:TK
 size:Nat
 agg:Bool
 zero:List Value
abbrev Tab:=List (Nat×TI)
def Tab.at:Tab->Nat->Option TI
 | [],_=>none
 | (j,v)::l,k=>bif Nat.beq j k then some v else Tab.at l k
def fieldsOk (P:Program):List Field->List (Nat×Nat)->Bool
 | [],[]=>true
 | x::fs,(o,z)::os=>Nat.beq x.offset o && !(Nat.beq z 0)&&(match P.info? x.type with | some i=>Nat.beq i.size z | none=>false)&&fieldsOk P fs os
 | _,_=>false
def kindBeq:IntKind->IntKind->Bool
 | .i8,.i8 | .i16,.i16 | .i32,.i32 | .i64,.i64 | .u8,.u8 | .u16,.u16 | .u32,.u32 | .u64,.u64=>true
 | _,_=>false
theorem kindBeq_eq {a b:IntKind} (h:kindBeq a b=true):a=b:=by cases a <;> cases b <;> first | rfl | (simp [kindBeq] at h)
def zeroEq:Value->Value->Bool
 | .bool a,.bool b => !a && !b
 | .int k n,.int j m=>kindBeq k j&&n == 0&&m == 0
 | .string s,.string t=>s.size == 0&&t.size == 0
 | .pointer none,.pointer none | .slice none 0 0,.slice none 0 0 | .map none,.map none | .nilFunc,.nilFunc | .nilIface,.nilIface=>true
 | _,_=>false
theorem zeroEq_eq {a b:Value} (h:zeroEq a b=true):a=b:=by
 unfold zeroEq at h
 split at h
 ·simp at h;rw [h.1,h.2]
 ·simp at h;obtain ⟨⟨h1,rfl⟩,rfl⟩:=h;rw [kindBeq_eq h1]
 ·rename_i s t
  simp at h
  rw [h.1,h.2]
 all_goals first | rfl | cases h
def zerosEq:List Value->List Value->Bool
 | [],[]=>true
 | a::x,b::y=>zeroEq a b&&zerosEq x y
 | _,_=>false
theorem zerosEq_eq:∀ {x y:List Value},zerosEq x y=true->x=y
 | [],[],_=>rfl
 | a::x,b::y,h=>by simp only [zerosEq,Bool.and_eq_true] at h;rw [zeroEq_eq h.1,zerosEq_eq h.2]
 | [],_::_,h=>by simp [zerosEq] at h
 | _::_,[],h=>by simp [zerosEq] at h
def elemOk (P:Program) (e esz bytes:Nat):Bool:=match P.info? e with
 | some x=>Nat.beq x.size esz&&Nat.beq x.bytes bytes&&(match x.zero with | some z=>Nat.beq z.cells.size esz | none=>false)
 | none=>false
def isAggD:TypeDesc->Bool
 | .struct _=>true
 | .array _ _=>true
 | _=>false
def tiOk (P:Program) (t:TypeId) (i:TI):Bool :=
 (match P.info? t with | some x=>Nat.beq x.size i.size&&(match x.zero with | some z=>zerosEq z.cells.toList i.zero | none=>false) | none=>false) &&
 (match P.underlying t with
  | none=>false
  | some d=>(match i.k with
    | .slice e s b=>(match d with | .slice e'=>Nat.beq e' e&&elemOk P e s b | _=>false)
    | .struct offs=>(match d with | .struct fs=>fieldsOk P fs.toList offs | _=>false)
    | .arr n e s=>(match d with | .array n' e'=>Nat.beq n' n&&Nat.beq e' e&&(match P.info? e with | some x=>Nat.beq x.size s | none=>false) | _=>false)
    | .str=>(match d with | .string=>true | _=>false)
    | .other=>true)&&(i.agg == isAggD d))
def tabOk (P:Program):Tab->Bool
 | []=>P.follows .mixedOrders
 | (t,i)::r=>tiOk P t i&&tabOk P r
theorem tab_mixed {P:Program}:∀ {tab:Tab},tabOk P tab=true->P.follows .mixedOrders=true
 | [],h=>h
 | (t,i)::r,h=>by simp only [tabOk,Bool.and_eq_true] at h;exact tab_mixed h.2
theorem tab_at {P:Program}:∀ {tab:Tab} {t:Nat} {i:TI},tabOk P tab=true->tab.at t=some i->tiOk P t i=true
 | [],_,_,_,h=>by simp [Tab.at] at h
 | (j,u)::r,t,i,ho,h=>by
  simp only [tabOk,Bool.and_eq_true] at ho
  simp only [Tab.at] at h
  cases hb:Nat.beq j t with
  | true=>simp only [hb,cond_true,Option.some.injEq] at h;have:=Nat.eq_of_beq_eq_true hb;subst this;subst h;exact ho.1
  | false=>simp only [hb,cond_false] at h;exact tab_at ho.2 h
def intOp:BinOp->IntKind->Int->Int->Option Value
 | .add,k,a,b=>some (.int k (k.wrap (a+b)))
 | .sub,k,a,b=>some (.int k (k.wrap (a-b)))
 | .mul,k,a,b=>some (.int k (k.wrap (a*b)))
 | .eql,_,a,b=>some (.bool (decide (a=b)))
 | .neq,_,a,b=>some (.bool (decide (¬a=b)))
 | .lss,_,a,b=>some (.bool (decide (a<b)))
 | .leq,_,a,b=>some (.bool (decide (a<=b)))
 | .gtr,_,a,b=>some (.bool (decide (b<a)))
 | .geq,_,a,b=>some (.bool (decide (b<=a)))
 | _,_,_,_=>none
def strOp:BinOp->ByteArray->ByteArray->Option Value
 | .eql,a,b=>some (.bool (decide (a=b)))
 | .neq,a,b=>some (.bool (decide (¬a=b)))
 | _,_,_=>none
abbrev Path:=List (Nat×Bool)
abbrev CEnv:=List (Nat×Path×Value)
def lookC:CEnv->Nat->Option (Path×Value)
 | [],_=>none
 | (j,q,v)::l,k=>bif Nat.beq j k then some (q,v) else lookC l k
def holds (a:Act):Path->Prop
 | []=>True
 | (s,b)::p=>a.tmps.getD s undef = .bool b/\holds a p
def KnowsC (c:CEnv) (a:Act):Prop:=∀ d q v,lookC c d=some (q,v)->holds a q->a.tmps.getD d undef=v
def boolBeq:Bool->Bool->Bool
 | true,true | false,false=>true
 | _,_=>false
def inPath (s:Nat) (b:Bool):Path->Bool
 | []=>false
 | (t,x)::p=>bif Nat.beq t s&&boolBeq x b then true else inPath s b p
def subPath:Path->Path->Bool
 | [],_=>true
 | (s,b)::q,p=>inPath s b p&&subPath q p
theorem inPath_ok {a:Act} {s:Nat} {b:Bool}:∀ {p:Path},inPath s b p=true->holds a p->a.tmps.getD s undef = .bool b
 | [],h,_=>by simp [inPath] at h
 | (t,x)::p,h,hp=>by
  simp only [inPath] at h
  cases hb:Nat.beq t s&&boolBeq x b with
  | true =>
   rw [Bool.and_eq_true] at hb
   have e1:=Nat.eq_of_beq_eq_true hb.1
   have e2:x=b:=by revert hb;cases x <;> cases b <;> simp [boolBeq]
   subst e1;subst e2;exact hp.1
  | false=>rw [hb] at h;exact inPath_ok h hp.2
theorem subPath_ok {a:Act}:∀ {q p:Path},subPath q p=true->holds a p->holds a q
 | [],_,_,_=>trivial
 | (s,b)::q,p,h,hp=>by
  simp only [subPath,Bool.and_eq_true] at h
  exact ⟨inPath_ok h.1 hp,subPath_ok h.2 hp⟩
def evc (l:Env) (c:CEnv) (p:Path):Operand->Option Value
 | .tmp t=>match lookC c t with
  | some (q,v)=>match subPath q p with
   | true=>some v
   | false=>none
  | none=>look l t
 | .const v=>some v
 | .global g=>some (.pointer (some ⟨g,0,none⟩))
 | .func f=>some (.func (.func f) #[] #[])
theorem evc_ok {l:Env} {c:CEnv} {p:Path} {a:Act} (hk:Knows l a) (hc:KnowsC c a) (hp:holds a p) {x:Operand} {v:Value} (h:evc l c p x=some v):a.eval x=v:=by
 cases x with
 | tmp t =>
  simp only [evc] at h
  cases hl:lookC c t with
  | none=>rw [hl] at h;exact hk _ _ h
  | some qv =>
   obtain ⟨q,u⟩:=qv
   rw [hl] at h
   simp only at h
   cases hs:subPath q p with
   | true=>rw [hs] at h;simp only [Option.some.injEq] at h;subst h;exact hc _ _ _ hl (subPath_ok hs hp)
   | false=>rw [hs] at h;cases h
 | const v=>simp [evc] at h;simp [Act.eval,h]
 | global g=>simp [evc] at h;simp [Act.eval,h]
 | func f=>simp [evc] at h;simp [Act.eval,h]
def evcs (l:Env) (c:CEnv) (p:Path):List Operand->Option (List Value)
 | []=>some []
 | x::r=>match evc l c p x with
  | some v=>match evcs l c p r with
   | some vs=>some (v::vs)
   | none=>none
  | none=>none
theorem evcs_ok {l:Env} {c:CEnv} {p:Path} {a:Act} (hk:Knows l a) (hc:KnowsC c a) (hp:holds a p):∀ {xs:List Operand} {vs:List Value},evcs l c p xs=some vs->xs.map a.eval=vs
 | [],vs,h=>by simp [evcs] at h;simp [h]
 | x::r,vs,h=>by
  simp only [evcs] at h
  cases hx:evc l c p x with
  | none=>simp [hx] at h
  | some v =>
   cases hr:evcs l c p r with
   | none=>simp [hx,hr] at h
   | some vs'=>simp [hx,hr] at h;subst h;simp [evc_ok hk hc hp hx,evcs_ok hk hc hp hr]
def pickOp (l:Env) (c:CEnv) (p:Path) (x y:Operand):Operand->Option Value
 | .tmp s=>match evc l c p (.tmp s) with
  | some (.bool t)=>match x with
   | .const (.bool true)=>match evc l c ((s,false)::p) y with
    | some (.bool b)=>some (.bool (t||b))
    | _=>none
   | x=>match y with
    | .const (.bool false)=>match evc l c ((s,true)::p) x with
     | some (.bool b)=>some (.bool (t&&b))
     | _=>none
    | _=>none
  | _=>none
 | _=>none
def pure1 (tab:Tab) (l:Env) (c:CEnv) (p:Path):Op->Option Value
 | .move x=>evc l c p x
 | .assign x=>evc l c p x
 | .pick t x y=>pickOp l c p x y t
 | .binOp op _ x y _=>match evc l c p x with
  | some (.int k a)=>match evc l c p y with
   | some (.int k' b)=>match kindBeq k k' with
    | true=>intOp op k a b
    | false=>none
   | _=>none
  | some (.string s)=>match evc l c p y with
   | some (.string t)=>strOp op s t
   | _=>none
  | _=>none
 | .unOp op _ x=>match op with
  | .not=>match evc l c p x with
   | some (.bool b)=>some (.bool (!b))
   | _=>none
  | _=>none
 | .call cl=>match cl.callee with
  | .builtin .len=>match cl.args.toList with
   | x::[]=>match cl.argTypes.toList with
    | t::[]=>match tab.at t with
     | some i=>match i.k with
      | .slice _ _ _=>match evc l c p x with
       | some (.slice _ m _)=>some (.int .i64 m)
       | _=>none
      | .str=>match evc l c p x with
       | some (.string s)=>some (.int .i64 s.size)
       | _=>none
      | _=>none
     | none=>none
    | _=>none
   | _=>none
  | _=>none
 | .fieldAddr s x i=>match tab.at s with
  | some ti=>match ti.k with
   | .struct offs=>match evc l c p x with
    | some (.pointer (some ⟨b,off,none⟩))=>match offs[i]? with
     | some (o,_)=>match Nat.beq o 0 with
      | true=>some (.pointer (some ⟨b,off,none⟩))
      | false=>some (.pointer (some ⟨b,off+o,none⟩))
     | none=>none
    | _=>none
   | _=>none
  | none=>none
 | .extract t i=>match evc l c p t with
  | some (.tuple vs)=>vs[i]?
  | _=>none
 | .makeFunc g first captured=>match evcs l c p first.toList with
  | some fs=>match evcs l c p captured.toList with
   | some cs=>some (.func g fs.toArray cs.toArray)
   | none=>none
  | none=>none
 | .nilCheck x=>match evc l c p x with
  | some (.pointer (some a))=>some (.pointer (some a))
  | some (.func (.func g) a b)=>some (.func (.func g) a b)
  | _=>none
 | _=>none
theorem field_of:∀ {fs:List Field} {offs:List (Nat×Nat)} {P:Program} {i o z:Nat},fieldsOk P fs offs=true->offs[i]? = some (o,z) ->
  ∃ x info,fs[i]? = some x/\x.offset=o/\P.info? x.type=some info/\info.size≠0/\info.size=z
 | [],[],_,i,o,z,_,h=>by simp at h
 | x::fs,(p,y)::offs,P,i,o,z,h,hi=>by
  simp only [fieldsOk,Bool.and_eq_true] at h
  cases i with
  | zero =>
   simp at hi
   obtain ⟨rfl,rfl⟩:=hi
   cases hx:P.info? x.type with
   | none=>rw [hx] at h;simp at h
   | some info =>
    rw [hx] at h
    have e:=Nat.eq_of_beq_eq_true h.1.2
    refine ⟨x,info,rfl,Nat.eq_of_beq_eq_true h.1.1.1,hx,?_,e⟩
    have h2:=h.1.1.2
    intro h0
    rw [<-e,h0] at h2;simp at h2
  | succ i =>
   obtain ⟨y,info,h1,h2⟩:=field_of (P:=P) h.2 (by simpa using hi)
   exact ⟨y,info,by simpa using h1,h2⟩
 | [],_::_,_,_,_,_,h,_=>by simp [fieldsOk] at h
 | _::_,[],_,_,_,_,h,_=>by simp [fieldsOk] at h
theorem add_none (b o m:Nat):Addr.add ⟨b,o,none⟩ m=⟨b,o+m,none⟩:=by
 unfold Addr.add
 by_cases h:m=0
 ·subst h;rfl
 ·rw [if_neg h]
end Go.Proofs.YtdjkoljonlcemaaGreat.Eng

/- The engine, second part: what a plain operation gives; the states; the steps that go by reckoning alone. -/
namespace Go.Proofs.YtdjkoljonlcemaaGreat.Eng
open Go
theorem ba_ext {s t:ByteArray} (h:s.data.toList=t.data.toList):s=t:=by
 cases s;cases t;simp at h;simp [h]
theorem str_beq (s t:ByteArray):(s.toList == t.toList)=decide (s=t):=by
 rw [ByteArray.toList_eq,ByteArray.toList_eq]
 by_cases h:s=t
 ·subst h;simp
 ·rw [decide_eq_false h,beq_eq_false_iff_ne];intro e;exact h (ba_ext e)
theorem int_eql (a b:Int):(a == b)=decide (a=b):=rfl
theorem int_neq (a b:Int):(a != b)=decide (¬a=b):=by by_cases h:a=b <;> simp [h]
theorem pickOp_ok {l:Env} {c:CEnv} {p:Path} {a:Act} (hk:Knows l a) (hc:KnowsC c a) (hp:holds a p) {x y t:Operand} {v:Value} (h:pickOp l c p x y t=some v) :
  ∃ b,a.eval t = .bool b/\(if b then a.eval x else a.eval y)=v:=by
 cases t with
 | tmp s =>
  simp only [pickOp] at h
  cases ht:evc l c p (.tmp s) with
  | none=>rw [ht] at h;cases h
  | some tv =>
   rw [ht] at h
   have et:=evc_ok hk hc hp ht
   cases tv with
   | bool b =>
    have es:a.tmps.getD s undef = .bool b:=et
    refine ⟨b,et,?_⟩
    simp only at h
    split at h
    ·split at h
     ·rename_i u hu
      simp only [Option.some.injEq] at h;subst h
      cases b with
      | true=>rfl
      | false=>exact evc_ok hk hc (show holds a ((s,false)::p) from ⟨es,hp⟩) hu
     ·cases h
    ·split at h
     ·split at h
      ·rename_i u hu
       simp only [Option.some.injEq] at h;subst h
       cases b with
       | true=>exact evc_ok hk hc (show holds a ((s,true)::p) from ⟨es,hp⟩) hu
       | false=>rfl
      ·cases h
     ·cases h
   | _=>simp at h
 | const u=>simp [pickOp] at h
 | global g=>simp [pickOp] at h
 | func g=>simp [pickOp] at h
theorem run_bind_ok {P:Program} {α β:Type} {e:Sem α} {k:α->Sem β} {w w':World} {x:α} (h:e.run P w = .ok x w'):(e >>= k).run P w=(k x).run P w':=by
 have:=Sem.run_bind' P e k w
 rw [h] at this;exact this
theorem und_run {P:Program} {t:TypeId} {d:TypeDesc} (h:P.underlying t=some d) (w:World):(underlying t).run P w = .ok d w:=by
 unfold underlying
 rw [run_bind_ok (show (program).run P w = .ok P w from rfl)]
 rw [h];rfl
theorem info_run {P:Program} {t:TypeId} {i:TypeInfo} (h:P.info? t=some i) (w:World):(typeInfo t).run P w = .ok i w:=by
 unfold typeInfo
 rw [run_bind_ok (show (program).run P w = .ok P w from rfl)]
 rw [h];rfl
theorem size_run {P:Program} {t:TypeId} {i:TypeInfo} (h:P.info? t=some i) (w:World):(sizeOf t).run P w = .ok i.size w:=by
 unfold sizeOf
 rw [run_bind_ok (info_run h w)];rfl
theorem elemOk_of {P:Program} {e s b:Nat} (h:elemOk P e s b=true):∃ y z,P.info? e=some y/\y.size=s/\y.bytes=b/\y.zero=some z/\z.cells.size=s:=by
 unfold elemOk at h
 cases hy:P.info? e with
 | none=>rw [hy] at h;cases h
 | some y =>
  rw [hy] at h
  simp only [Bool.and_eq_true] at h
  cases hz:y.zero with
  | none=>rw [hz] at h;simp at h
  | some z=>rw [hz] at h;exact ⟨y,z,rfl,Nat.eq_of_beq_eq_true h.1.1,Nat.eq_of_beq_eq_true h.1.2,hz,Nat.eq_of_beq_eq_true h.2⟩
structure TypeIs (P:Program) (t:TypeId) (i:TI) (d:TypeDesc) (x:TypeInfo) (z:Value):Prop where
 und:P.underlying t=some d
 info:P.info? t=some x
 size:x.size=i.size
 zero:x.zero=some z
 zeros:z.cells.toList=i.zero
 agg:i.agg=isAggD d
 sl:∀ e s b,i.k = .slice e s b->d = .slice e/\elemOk P e s b=true
 st:∀ offs,i.k = .struct offs->∃ fs,d = .struct fs/\fieldsOk P fs.toList offs=true
 ar:∀ n e s,i.k = .arr n e s->d = .array n e/\∃ y,P.info? e=some y/\y.size=s
 str:i.k = .str->d = .string
theorem tiOk_und {P:Program} {t:TypeId} {i:TI} (h:tiOk P t i=true):∃ d x z,TypeIs P t i d x z:=by
 unfold tiOk at h
 rw [Bool.and_eq_true] at h
 obtain ⟨h1,h2⟩:=h
 cases hx:P.info? t with
 | none=>rw [hx] at h1;cases h1
 | some x =>
  rw [hx] at h1
  simp only [Bool.and_eq_true] at h1
  cases hz:x.zero with
  | none=>rw [hz] at h1;simp at h1
  | some z =>
   rw [hz] at h1
   cases hd:P.underlying t with
   | none=>rw [hd] at h2;cases h2
   | some d =>
    rw [hd] at h2
    simp only [Bool.and_eq_true,beq_iff_eq] at h2
    obtain ⟨h2,h3⟩:=h2
    refine ⟨d,x,z,hd,hx,Nat.eq_of_beq_eq_true h1.1,hz,zerosEq_eq h1.2,h3,?_,?_,?_,?_⟩
    ·intro e s b hs
     rw [hs] at h2
     cases d <;> simp only at h2 <;> try cases h2
     rw [Bool.and_eq_true] at h2
     have:=Nat.eq_of_beq_eq_true h2.1;subst this
     exact ⟨rfl,h2.2⟩
    ·intro offs hs
     rw [hs] at h2
     cases d <;> simp only at h2 <;> try cases h2
     exact ⟨_,rfl,h2⟩
    ·intro n e s hs
     rw [hs] at h2
     cases d <;> simp only at h2 <;> try cases h2
     rw [Bool.and_eq_true,Bool.and_eq_true] at h2
     obtain ⟨⟨ha,hb⟩,hc⟩:=h2
     have:=Nat.eq_of_beq_eq_true ha;subst this
     have:=Nat.eq_of_beq_eq_true hb;subst this
     refine ⟨rfl,?_⟩
     revert hc
     cases P.info? _ with
     | none=>intro hc;cases hc
     | some y=>intro hc;exact ⟨y,rfl,Nat.eq_of_beq_eq_true hc⟩
    ·intro hs
     rw [hs] at h2
     cases d <;> simp only at h2 <;> first | rfl | cases h2
theorem eqg_int {P:Program} (w:World) (b:BinOp) (t:TypeId) (x y:Operand) (k k':IntKind) (n m:Int):(eqGuard b t x y (.int k n) (.int k' m)).run P w = .ok () w:=by cases b <;> rfl
theorem eqg_str {P:Program} (w:World) (b:BinOp) (t:TypeId) (x y:Operand) (n m:ByteArray):(eqGuard b t x y (.string n) (.string m)).run P w = .ok () w:=by cases b <;> rfl
theorem binOp_int {P:Program} {w:World} {b:BinOp} {t:TypeId} {k:IntKind} {n m:Int} {v:Value} (h:intOp b k n m=some v):(binOp b t (.int k n) (.int k m)).run P w = .ok v w:=by
 cases b <;> simp only [intOp,Option.some.injEq] at h <;> first
  | (cases h;done)
  | (subst h;simp [binOp,Op.intArith,Op.intCmp,pure,int_eql,int_neq])
theorem binOp_str {P:Program} {w:World} {b:BinOp} {t:TypeId} {n m:ByteArray} {v:Value} (h:strOp b n m=some v):(binOp b t (.string n) (.string m)).run P w = .ok v w:=by
 cases b <;> simp only [strOp,Option.some.injEq] at h <;> first
  | (cases h;done)
  | (subst h;simp [binOp,Op.stringOp,pure,str_beq])
theorem pure1_ok {P:Program} {tab:Tab} (ht:tabOk P tab=true) {l:Env} {c:CEnv} {p:Path} {a:Act} (hk:Knows l a) (hc:KnowsC c a) (hp:holds a p) (w:World) {o:Oper} {v:Value}
  (h:pure1 tab l c p o.op=some v):(execOp a.eval o).run P w = .ok (.value v) w:=by
 have E:∀ {x:Operand} {u:Value},evc l c p x=some u->a.eval x=u:=fun e=>evc_ok hk hc hp e
 obtain ⟨d,op,ty,pos,af,g⟩:=o
 simp only at h
 cases op with
 | move x=>simp only [pure1] at h;simp [execOp,E h,pure]
 | assign x=>simp only [pure1] at h;simp [execOp,E h,pure]
 | pick t x y =>
  simp only [pure1] at h
  obtain ⟨b,e1,e2⟩:=pickOp_ok hk hc hp h
  simp only [execOp,e1]
  show (Sem.bind (asBool (.bool b)) _).run P w=_
  simp only [asBool]
  show Sem.run P (pure (Next.value (if b then a.eval x else a.eval y))) w=_
  rw [e2];rfl
 | binOp b t x y t2 =>
  simp only [pure1] at h
  cases hx:evc l c p x with
  | none=>rw [hx] at h;cases h
  | some xv =>
   rw [hx] at h
   have ex:=E hx
   cases xv with
   | int k n =>
    simp only at h
    cases hy:evc l c p y with
    | none=>rw [hy] at h;cases h
    | some yv =>
     rw [hy] at h
     have ey:=E hy
     cases yv with
     | int k' m =>
      simp only at h
      cases hkk:kindBeq k k' with
      | false=>rw [hkk] at h;cases h
      | true =>
       rw [hkk] at h
       have:=kindBeq_eq hkk;subst this
       simp only [execOp,ex,ey]
       exact run_bind_ok (run_bind_ok (eqg_int ..) |>.trans (binOp_int h)) |>.trans rfl
     | _=>simp at h
   | string s =>
    simp only at h
    cases hy:evc l c p y with
    | none=>rw [hy] at h;cases h
    | some yv =>
     rw [hy] at h
     have ey:=E hy
     cases yv with
     | string u =>
      simp only at h
      simp only [execOp,ex,ey]
      exact run_bind_ok (run_bind_ok (eqg_str ..) |>.trans (binOp_str h)) |>.trans rfl
     | _=>simp at h
   | _=>simp at h
 | unOp b t x =>
  simp only [pure1] at h
  cases b <;> simp only at h <;> try cases h
  cases hx:evc l c p x with
  | none=>rw [hx] at h;cases h
  | some xv =>
   rw [hx] at h
   cases xv <;> simp only at h <;> try cases h
   simp only [execOp,E hx,Op.unary];rfl
 | call cl =>
  simp only [pure1] at h
  obtain ⟨cal,args,tys⟩:=cl
  cases cal with
  | builtin bb =>
   cases bb <;> simp only at h <;> try cases h
   split at h
   ·rename_i x hargs
    split at h
    ·rename_i t htys
     have ea:args=#[x]:=by rw [<-Array.toArray_toList (xs:=args),hargs]
     have et:tys=#[t]:=by rw [<-Array.toArray_toList (xs:=tys),htys]
     subst ea;subst et
     cases hti:tab.at t with
     | none=>rw [hti] at h;cases h
     | some i =>
      rw [hti] at h
      obtain ⟨dd,xx,zz,hT⟩:=tiOk_und (tab_at ht hti)
      have hu:=hT.und
      simp only at h
      cases hik:i.k with
      | slice e s b =>
       rw [hik] at h
       obtain ⟨rfl,_⟩:=hT.sl e s b hik
       simp only at h
       cases hx:evc l c p x with
       | none=>rw [hx] at h;cases h
       | some xv =>
        rw [hx] at h
        cases xv <;> simp only at h <;> try cases h
        simp only [execOp,resolve,List.map_toArray,List.map_cons,List.map_nil,E hx]
        show (Sem.bind (Builtin.len_ #[t] ty #[_]) _).run P w=_
        refine (run_bind_ok (P:=P) (x:=_) (w':=w) ?_).trans rfl
        simp only [Builtin.len_,List.getElem?_toArray,List.getElem?_cons_zero]
        rw [run_bind_ok (und_run hu w)];rfl
      | str =>
       rw [hik] at h
       have:=hT.str hik;subst this
       simp only at h
       cases hx:evc l c p x with
       | none=>rw [hx] at h;cases h
       | some xv =>
        rw [hx] at h
        cases xv <;> simp only at h <;> try cases h
        simp only [execOp,resolve,List.map_toArray,List.map_cons,List.map_nil,E hx]
        show (Sem.bind (Builtin.len_ #[t] ty #[_]) _).run P w=_
        refine (run_bind_ok (P:=P) (x:=_) (w':=w) ?_).trans rfl
        simp only [Builtin.len_,List.getElem?_toArray,List.getElem?_cons_zero]
        rw [run_bind_ok (und_run hu w)];rfl
      | _=>rw [hik] at h;simp at h
    ·cases h
   ·cases h
  | _=>simp at h
 | fieldAddr s x i =>
  simp only [pure1] at h
  cases hti:tab.at s with
  | none=>rw [hti] at h;cases h
  | some ti =>
   rw [hti] at h
   obtain ⟨dd,xx,zz,hT⟩:=tiOk_und (tab_at ht hti)
   have hu:=hT.und
   simp only at h
   cases hik:ti.k with
   | struct offs =>
    rw [hik] at h
    obtain ⟨fs,rfl,hfo⟩:=hT.st offs hik
    simp only at h
    split at h
    ·rename_i b off hx
     split at h
     ·rename_i o z ho
      obtain ⟨fx,info,hf1,hf2,hf3,hf4,_⟩:=field_of hfo ho
      have hv:v = .pointer (some ⟨b,off+o,none⟩):=by
       split at h
       ·rename_i h0;have:=Nat.eq_of_beq_eq_true h0;subst this;simpa using h.symm
       ·simpa using h.symm
      subst hv
      simp only [execOp,E hx]
      refine (run_bind_ok (P:=P) (x:=_) (w':=w) ?_).trans rfl
      simp only [Instr.fieldAt]
      rw [run_bind_ok (und_run hu w)]
      have hfa:fs[i]? = some fx:=by rw [<-Array.getElem?_toList];exact hf1
      simp only [hfa,Instr.sureAddr]
      refine (run_bind_ok (P:=P) (x:=(⟨b,off,none⟩:Addr)) (w':=w) rfl).trans ?_
      refine (run_bind_ok (P:=P) (x:=(⟨b,off+o,none⟩:Addr)) (w':=w) ?_).trans rfl
      unfold fieldPlace
      rw [run_bind_ok (size_run hf3 w),if_neg hf4,hf2,add_none];rfl
     ·cases h
    ·cases h
   | _=>rw [hik] at h;simp at h
 | extract t i =>
  simp only [pure1] at h
  split at h
  ·rename_i vs hx
   simp only [execOp,E hx,Instr.extract]
   rw [h];rfl
  ·cases h
 | makeFunc g first captured =>
  simp only [pure1] at h
  cases h1:evcs l c p first.toList with
  | none=>rw [h1] at h;cases h
  | some fs =>
   rw [h1] at h
   cases h2:evcs l c p captured.toList with
   | none=>rw [h2] at h;cases h
   | some cs =>
    rw [h2] at h
    simp only [Option.some.injEq] at h;subst h
    have e1:first.map a.eval=fs.toArray:=by rw [<-evcs_ok hk hc hp h1,<-List.map_toArray,Array.toArray_toList]
    have e2:captured.map a.eval=cs.toArray:=by rw [<-evcs_ok hk hc hp h2,<-List.map_toArray,Array.toArray_toList]
    simp only [execOp,Instr.makeFunc,e1,e2];rfl
 | nilCheck x =>
  simp only [pure1] at h
  split at h
  ·rename_i aa hx;simp only [Option.some.injEq] at h;subst h;simp only [execOp,E hx];rfl
  ·rename_i gg aa bb hx;simp only [Option.some.injEq] at h;subst h;simp only [execOp,E hx];rfl
  ·cases h
 | _=>simp [pure1] at h
end Go.Proofs.YtdjkoljonlcemaaGreat.Eng

/- The data of class files as Lean lists and structures, and how they lie in memory: relations between cells and data that later worlds keep. No program stands here. -/
namespace Go.Proofs.YtdjkoljonlcemaaGreat
open Go.RowKit
theorem cell_lt {w:World} {b o:Nat} {s:Option Nat} {v:Value} (h:w.cell? ⟨b,o,s⟩=some v):b<w.heap.size:=by
 rcases Nat.lt_or_ge b w.heap.size with h1 | h1
 ·exact h1
 ·simp [World.cell?,Array.getElem?_eq_none h1] at h
def Kp (S:Nat->Prop) (w w':World):Prop:=∀ b o v,S b->w.cell? ⟨b,o,none⟩=some v->w'.cell? ⟨b,o,none⟩=some v
def T:Nat->Prop:=fun _=>True
theorem Kp.trans {S:Nat->Prop} {a b c:World} (h:Kp S a b) (k:Kp S b c):Kp S a c:=fun _ _ _ s x=>k _ _ _ s (h _ _ _ s x)
theorem Kp.sub {S S':Nat->Prop} {a b:World} (h:Kp S a b) (hs:∀ i,S' i->S i):Kp S' a b:=fun _ _ _ s x=>h _ _ _ (hs _ s) x
theorem Kp.cell {S:Nat->Prop} {a b:World} (h:Kp S a b) {i o:Nat} {v:Value} (hs:S i) (hc:a.cell? ⟨i,o,none⟩=some v):b.cell? ⟨i,o,none⟩=some v:=h i o v hs hc
abbrev Bl (w w':World):Prop:=Below w.heap.size w w'
theorem Bl.refl (w:World):Bl w w:=Below.refl _ _
theorem Bl.trans {a b c:World} (h:Bl a b) (k:Bl b c):Bl a c:=Below.trans h (Below.mono k h.size)
theorem Bl.kp {w w':World} (h:Bl w w') (S:Nat->Prop):Kp S w w':=fun b o v _ x=>by
 rw [Below.cell h (p:=⟨b,o,none⟩) (cell_lt x)];exact x
theorem Below.kp {B:Nat} {w w':World} (h:Below B w w'):Kp (· < B) w w':=fun b o v s x=>by
 rw [Below.cell h (p:=⟨b,o,none⟩) s];exact x
structure Kb (S:Nat->Prop) (w w':World):Prop where
 blk:∀ i,S i->i<w.heap.size->w'.heap[i]? = w.heap[i]?
theorem Kb.refl (S:Nat->Prop) (w:World):Kb S w w:=⟨fun _ _ _=>rfl⟩
theorem Kb.trans {S:Nat->Prop} {a b c:World} (h:Kb S a b) (k:Kb S b c):Kb S a c:=⟨fun i s hi=>by
 have h1:=h.blk i s hi
 have hb:i<b.heap.size:=by
  rcases Nat.lt_or_ge i b.heap.size with q | q
  ·exact q
  ·rw [Array.getElem?_eq_none q,Array.getElem?_eq_getElem hi] at h1;cases h1
 exact (k.blk i s hb).trans h1⟩
theorem Kb.sub {S S':Nat->Prop} {a b:World} (h:Kb S a b) (hs:∀ i,S' i->S i):Kb S' a b:=⟨fun i s hi=>h.blk i (hs i s) hi⟩
theorem Kb.kp {S:Nat->Prop} {a b:World} (h:Kb S a b):Kp S a b:=fun i o v s x=>by
 rw [World.cell?_of_block (w:=a) (h.blk i s (cell_lt x))];exact x
theorem Bl.kb {w w':World} (h:Bl w w') (S:Nat->Prop):Kb S w w':=⟨fun i _ hi=>h.block i hi⟩
def At (w:World) (b o:Nat) (cs:List Value):Prop:=∀ j v,cs[j]? = some v->w.cell? ⟨b,o+j,none⟩=some v
theorem At.kp {S:Nat->Prop} {w w':World} (k:Kp S w w') {b o:Nat} (s:S b) {cs:List Value} (h:At w b o cs):At w' b o cs:=fun j v x=>k _ _ _ s (h j v x)
theorem At.bl {w w':World} (k:Bl w w') {b o:Nat} {cs:List Value} (h:At w b o cs):At w' b o cs:=h.kp (k.kp T) trivial
structure El (α:Type) where
 sz:Nat
 rel:(Nat->Prop)->World->List Value->α->Prop
 len:∀ {S w cs x},rel S w cs x->cs.length=sz
 kp:∀ {S w w' cs x},Kp S w w'->rel S w cs x->rel S w' cs x
 sub:∀ {S S' w cs x},(∀ i,S i->S' i)->rel S w cs x->rel S' w cs x
structure Sl {α:Type} (E:El α) (S:Nat->Prop) (w:World) (a:Option Addr) (l:List α):Prop where
 big:l.length<=4194304
 el:∀ i x,l[i]? = some x->∃ b o cs,a=some ⟨b,o,none⟩/\S b/\At w b (o+i*E.sz) cs/\E.rel S w cs x
theorem Sl.kp {α:Type} {E:El α} {S:Nat->Prop} {w w':World} {a:Option Addr} {l:List α} (h:Sl E S w a l) (k:Kp S w w'):Sl E S w' a l :=
 ⟨h.big,fun i x hx=>let ⟨b,o,cs,e,s,c,r⟩:=h.el i x hx;⟨b,o,cs,e,s,c.kp k s,E.kp k r⟩⟩
theorem Sl.bl {α:Type} {E:El α} {S:Nat->Prop} {w w':World} {a:Option Addr} {l:List α} (h:Sl E S w a l) (k:Bl w w'):Sl E S w' a l:=h.kp (k.kp S)
theorem Sl.sub {α:Type} {E:El α} {S S':Nat->Prop} {w:World} {a:Option Addr} {l:List α} (h:Sl E S w a l) (k:∀ i,S i->S' i):Sl E S' w a l :=
 ⟨h.big,fun i x hx=>let ⟨b,o,cs,e,s,c,r⟩:=h.el i x hx;⟨b,o,cs,e,k _ s,c,E.sub k r⟩⟩
theorem Sl.nil {α:Type} (E:El α) (S:Nat->Prop) (w:World) (a:Option Addr):Sl E S w a []:=⟨by simp,fun i x h=>by simp at h⟩
def plainEl {α:Type} (sz:Nat) (enc:α->List Value) (h:∀ x,(enc x).length=sz):El α :=
 {sz:=sz,rel:=fun _ _ cs x=>cs=enc x,len:=fun e=>by rw [e];exact h _,kp:=fun _ e=>e,sub:=fun _ e=>e }
structure Ty where
 kind:Int
 cls:Int
deriving DecidableEq
structure Fld where
 name:Int
 ty:Ty
deriving DecidableEq
structure Cls where
 name:Int
 super:Int
 fields:List Fld
deriving DecidableEq
structure Ins where
 op:Int
 a:Int
 b:Int
deriving DecidableEq
structure Mth where
 name:Int
 cls:Int
 params:List Ty
 locals:List Ty
 result:Ty
 code:List Ins
deriving DecidableEq
structure Unt where
 name:ByteArray
 pool:List ByteArray
 classes:List Cls
 statics:List Fld
 methods:List Mth
abbrev I (n:Int):Value := .int .i64 n
abbrev encStr:ByteArray->List Value:=fun s=>[.string s]
abbrev encInt:Int->List Value:=fun n=>[I n]
abbrev encTy:Ty->List Value:=fun t=>[I t.kind,I t.cls]
abbrev encFld:Fld->List Value:=fun f=>[I f.name,I f.ty.kind,I f.ty.cls]
abbrev encIns:Ins->List Value:=fun x=>[I x.op,I x.a,I x.b]
def eStr:El ByteArray:=plainEl 1 encStr (fun _=>rfl)
def eInt:El Int:=plainEl 1 encInt (fun _=>rfl)
def eTy:El Ty:=plainEl 2 encTy (fun _=>rfl)
def eFld:El Fld:=plainEl 3 encFld (fun _=>rfl)
def eIns:El Ins:=plainEl 3 encIns (fun _=>rfl)
def eCls:El Cls :=
 {sz:=3,rel:=fun S w cs c=>∃ a cap,cs=[I c.name,I c.super,.slice a c.fields.length cap]/\Sl eFld S w a c.fields
  len:=fun ⟨_,_,e,_⟩=>by rw [e];rfl
  kp:=fun k ⟨a,cap,e,h⟩=>⟨a,cap,e,h.kp k⟩
  sub:=fun k ⟨a,cap,e,h⟩=>⟨a,cap,e,h.sub k⟩ }
def eMth:El Mth :=
 {sz:=7
  rel:=fun S w cs m=>∃ a1 c1 a2 c2 a3 c3,cs=[I m.name,I m.cls,.slice a1 m.params.length c1,.slice a2 m.locals.length c2,I m.result.kind,I m.result.cls,.slice a3 m.code.length c3] /\
   Sl eTy S w a1 m.params/\Sl eTy S w a2 m.locals/\Sl eIns S w a3 m.code
  len:=fun ⟨_,_,_,_,_,_,e,_⟩=>by rw [e];rfl
  kp:=fun k ⟨a1,c1,a2,c2,a3,c3,e,h1,h2,h3⟩=>⟨a1,c1,a2,c2,a3,c3,e,h1.kp k,h2.kp k,h3.kp k⟩
  sub:=fun k ⟨a1,c1,a2,c2,a3,c3,e,h1,h2,h3⟩=>⟨a1,c1,a2,c2,a3,c3,e,h1.sub k,h2.sub k,h3.sub k⟩ }
structure UA where
 a1:Option Addr
 c1:Nat
 a2:Option Addr
 c2:Nat
 a3:Option Addr
 c3:Nat
 a4:Option Addr
 c4:Nat
structure UnR (S:Nat->Prop) (w:World) (u:Unt) (a:UA):Prop where
 nm:u.name.size<=1048576
 ps:∀ s∈u.pool,s.size<=1048576
 pool:Sl eStr S w a.a1 u.pool
 cls:Sl eCls S w a.a2 u.classes
 sta:Sl eFld S w a.a3 u.statics
 mth:Sl eMth S w a.a4 u.methods
theorem UnR.kp {S:Nat->Prop} {w w':World} {u:Unt} {a:UA} (h:UnR S w u a) (k:Kp S w w'):UnR S w' u a:=⟨h.nm,h.ps,h.pool.kp k,h.cls.kp k,h.sta.kp k,h.mth.kp k⟩
theorem UnR.bl {S:Nat->Prop} {w w':World} {u:Unt} {a:UA} (h:UnR S w u a) (k:Bl w w'):UnR S w' u a:=h.kp (k.kp S)
theorem UnR.sub {S S':Nat->Prop} {w:World} {u:Unt} {a:UA} (h:UnR S w u a) (k:∀ i,S i->S' i):UnR S' w u a:=⟨h.nm,h.ps,h.pool.sub k,h.cls.sub k,h.sta.sub k,h.mth.sub k⟩
def ucells (u:Unt) (a:UA):List Value:=[.string u.name,.slice a.a1 u.pool.length a.c1,.slice a.a2 u.classes.length a.c2,.slice a.a3 u.statics.length a.c3,.slice a.a4 u.methods.length a.c4]
theorem take_succ_some {α:Type} {l:List α} {k:Nat} {x:α} (h:l[k]? = some x):l.take (k+1)=l.take k++[x]:=by
 obtain ⟨hk,e⟩:=List.getElem?_eq_some_iff.1 h
 rw [List.take_succ_eq_append_getElem hk,e]
theorem some_of_lt {α:Type} {l:List α} {k:Nat} (h:k<l.length):∃ x,l[k]? = some x:=⟨_,List.getElem?_eq_getElem h⟩
end Go.Proofs.YtdjkoljonlcemaaGreat

/- Regions that draw their order: what yields the same in every later world of the region may be taken first. No program stands here. -/
namespace Go.Proofs.YtdjkoljonlcemaaGreat
open Go Go.RowKit
namespace Eng
section
variable {P:Program} {ops:Array Oper} {Q:Exit->Act->World->Prop} {md:Region.Mode} {S:Nat->Prop}
def wpM (P:Program) (md:Region.Mode) (ops:Array Oper) (Q:Exit->Act->World->Prop) (S:Nat->Prop) (m:Nat):Nat->Array Bool->Act->World->Prop
 | 0,listed,a,w=>Region.ready md ops listed=[]/\Q .normal a w
 | fuel+1,listed,a,w =>
  (Region.ready md ops listed=[]->Q .normal a w) /\
  ∀ i∈Region.ready md ops listed,wpOp P ops Q i (fun a' w'=>(i<m->Kb S w w')/\wpM P md ops Q S m fuel (listed.setIfInBounds i true) a' w') a w
theorem wpAny_of_M {m:Nat}:∀ (fuel:Nat) (listed:Array Bool) (a:Act) (w:World),wpM P md ops Q S m fuel listed a w->wpAny P md ops Q fuel listed a w
 | 0,_,_,_,h=>h
 | fuel+1,_,_,_,h=>⟨h.1,fun i hi=>wpOp_mono (fun a' w' h'=>wpAny_of_M fuel _ a' w' h'.2) (h.2 i hi)⟩
theorem YieldsIf.weak {S S':World->Prop} {o:Oper} {v:Value} {a:Act} (h:YieldsIf P ops S o v a) (hs:∀ w,S' w->S w):YieldsIf P ops S' o v a :=
 h.imp (fun ⟨hw,hv⟩=>⟨hw,fun w hw'=>hv w (hs w hw')⟩) id
theorem wpM_first {m i:Nat} {pu:Bool} {oi:Oper} {v:Value} (hi:ops[i]? = some oi) (hsel:∀ (j:Nat) (o:Oper) cs b,ops[j]? = some o->o.op ≠ .select cs b)
  (hQ:∀ c a w,Q (.panic c) (a.put oi.dst v) w->Q (.panic c) a w) :
  ∀ (fuel:Nat) (listed:Array Bool) (a:Act) (w:World),
   (∀ j oj,ops[j]? = some oj->j≠i->listed.getD j true=false->(∀ e∈oj.after,Region.binds md e=true->e.on≠i)->oi.apart ops oj=true/\(j<m∨pu=true)) ->
   i∈Region.ready md ops listed->YieldsIf P ops (fun w'=>pu=true∨Kb S w w') oi v a ->
   wpM P md ops Q S m fuel (listed.setIfInBounds i true) (a.put oi.dst v) w->wpM P md ops Q S m (fuel+1) listed a w:=by
 intro fuel
 induction fuel with
 | zero =>
  intro listed a w _ hr hy H
  refine ⟨fun h=>(by rw [h] at hr;cases hr),fun j hj => ?_⟩
  by_cases hji:j=i
  ·subst hji;exact hy.wpOp hi (.inr (Kb.refl S w)) ⟨fun _=>Kb.refl S w,H⟩
  ·have:=ready_mono hj hji
   rw [H.1] at this
   cases this
 | succ fuel ih =>
  intro listed a w hfree hr hy H
  refine ⟨fun h=>(by rw [h] at hr;cases hr),fun j hj => ?_⟩
  by_cases hji:j=i
  ·subst hji;exact hy.wpOp hi (.inr (Kb.refl S w)) ⟨fun _=>Kb.refl S w,H⟩
  ·have h1:=H.2 j (ready_mono hj hji)
   obtain ⟨hjun,oj,hoj,hall⟩:=mem_ready.1 hj
   have hnot:∀ e∈oj.after,Region.binds md e=true->e.on≠i:=fun e he hb heq=>by
    have h1:=hall e he hb
    have h0:=(mem_ready.1 hr).1
    rw [heq] at h1
    rcases Nat.lt_or_ge i listed.size with h' | h'
    ·simp [h'] at h0 h1;rw [h0] at h1;cases h1
    ·simp [Array.getElem?_eq_none h'] at h1
   have hjf:=hfree j oj hoj hji hjun hnot
   have h2:=wpOp_putIf hoj hjf.1 (fun cs b=>hsel i oi cs b hi) (fun cs b=>hsel j oj cs b hoj) hQ hy h1
   have hfree':∀ k ok,ops[k]? = some ok->k≠i->(listed.setIfInBounds j true).getD k true=false ->
     (∀ e∈ok.after,Region.binds md e=true->e.on≠i)->oi.apart ops ok=true/\(k<m∨pu=true):=fun k ok hk hki hun hno=>by
    refine hfree k ok hk hki ?_ hno
    by_cases hjk:j=k
    ·subst hjk;exact hjun
    ·rw [getD_set_ne true hjk] at hun;exact hun
   refine wpOp_mono (fun a' w' h3=>⟨h3.2.1,ih (listed.setIfInBounds j true) a' w' hfree' (ready_mono hr (Ne.symm hji)) (YieldsIf.weak h3.1 fun w'' k=>hjf.2.elim (fun q=>k.imp id fun k=>Kb.trans (h3.2.1 q) k) .inl) ?_⟩) h2
   rw [Array.setIfInBounds_comm _ _ hji]
   exact h3.2.2
def pureB (o:Op):Bool:=match o with
 | .move .. | .fieldAddr .. | .nilCheck .. | .extract .. | .makeFunc .. | .assign .. | .pick .. => true
 | _=>false
def effB (o:Op):Bool:=match o with
 | .call c=>match c.callee with
  | .builtin n=>match n with
   | .len | .cap | .min | .max=>false
   | _=>true
  | _=>true
 | .buildSlice .. | .alloc .. | .box .. | .store .. | .makeSlice .. | .makeMap .. | .mapUpdate .. | .range .. | .next .. => true
 | _=>false
def heldS (P:Program) (ops:Array Oper) (Q:Exit->Act->World->Prop) (S:Nat->Prop) (fin:Act->World->Prop):List Oper->Act->World->Prop
 | [],a,w=>fin a w
 | o::r,a,w=>match effB o.op with
  | true=>if Region.wanted o (yielded ops a.tmps) then o.wp P a w (fun a' w'=>Kb S w w'/\heldS P ops Q S fin r a' w') Q else heldS P ops Q S fin r (a.put o.dst undef) w
  | false=>if Region.wanted o (yielded ops a.tmps) then ∃ v,(∀ w',(pureB o.op=true∨Kb S w w')->(execOp a.eval o).run P w' = .ok (.value v) w')/\heldS P ops Q S fin r (a.put o.dst v) w else heldS P ops Q S fin r (a.put o.dst undef) w
def tailB (ops:Array Oper):Nat->Nat->Array Bool->Bool
 | 0,_,listed=>(Region.ready .any ops listed).isEmpty
 | t+1,i,listed=>decide (Region.ready .any ops listed=[i])&&tailB ops t (i+1) (listed.setIfInBounds i true)
def lateB (ops:Array Oper) (m i:Nat) (listed:Array Bool):Bool:=(List.range ops.size).all fun j=>Nat.blt j m||listed.getD j true||match ops[j]? with
 | some oj=>oj.after.any fun e=>Region.binds .any e&&e.on == i
 | none=>true
theorem lateB_spec {ops:Array Oper} {m i:Nat} {listed:Array Bool} (h:lateB ops m i listed=true) (j:Nat) (oj:Oper) (hj:ops[j]? = some oj) (hun:listed.getD j true=false) (hno:∀ e∈oj.after,Region.binds .any e=true->e.on≠i):j<m:=by
 have:=List.all_eq_true.1 h j (List.mem_range.2 (Array.getElem?_eq_some_iff.1 hj).1)
 rw [hun,hj] at this
 simp only [Bool.or_false,Bool.or_eq_true] at this
 rcases this with h1 | h1
 ·exact Nat.le_of_ble_eq_true h1
 ·obtain ⟨e,he,hb⟩:=Array.any_eq_true'.1 h1
  simp only [Bool.and_eq_true,beq_iff_eq] at hb
  exact absurd hb.2 (hno e he hb.1)
def heldB (ops:Array Oper) (m:Nat):List Nat->Array Bool->Bool
 | [],listed=>tailB ops (ops.size-m) m listed
 | i::r,listed=>match ops[i]? with
  | none=>false
  | some o=>match effB o.op with
   | true=>decide (Region.ready .any ops listed=[i])&&heldB ops m r (listed.setIfInBounds i true)
   | false=>(Region.ready .any ops listed).contains i&&Region.free .any ops listed i&&(pureB o.op||lateB ops m i listed)&&heldB ops m r (listed.setIfInBounds i true)
def pickO (l:List Oper):List Nat->List Oper
 | []=>[]
 | i::r=>match l[i]? with
  | some o=>o::pickO l r
  | none=>pickO l r
theorem tail_ok {m:Nat}:∀ (t i:Nat) (listed:Array Bool) (a:Act) (w:World),m<=i->i+t=ops.size->tailB ops t i listed=true->wpList P ops Q (ops.toList.drop i) a w->wpM P .any ops Q S m t listed a w
 | 0,i,listed,a,w,_,hi,hB,h=>by
  rw [List.drop_of_length_le (by rw [Array.length_toList];omega)] at h
  exact ⟨List.isEmpty_iff.1 hB,h⟩
 | t+1,i,listed,a,w,hm,hi,hB,h=>by
  simp only [tailB,Bool.and_eq_true,decide_eq_true_eq] at hB
  refine ⟨fun h0=>absurd (hB.1▸h0) (by simp),fun j hj => ?_⟩
  rw [hB.1] at hj
  obtain rfl:j=i:=by simpa using hj
  have hlt:j<ops.size:=by omega
  have ho:ops[j]? = some ops[j]:=Array.getElem?_eq_getElem hlt
  rw [List.drop_eq_getElem_cons (by rw [Array.length_toList];exact hlt)] at h
  have ih:=fun a' w' (h':wpList P ops Q (ops.toList.drop (j+1)) a' w')=>tail_ok (m:=m) t (j+1) (listed.setIfInBounds j true) a' w' (Nat.le_trans hm (Nat.le_succ j)) (by omega) hB.2 h'
  unfold wpList at h
  unfold wpOp
  simp only [ho]
  simp only [Array.getElem_toList] at h
  split
  ·rename_i hw
   rw [if_pos hw] at h
   refine h.imp (fun h => ?_) id
   exact Oper.wp_mono (fun a' w' h'=>⟨fun q=>absurd q (by omega),ih a' w' h'⟩) h
  ·rename_i hw
   rw [if_neg hw] at h
   exact ⟨fun q=>absurd q (by omega),ih _ _ h⟩
theorem heldS_ok {m:Nat} (hmn:m<=ops.size) (hsel:Region.noSelect ops=true) (hQ:∀ c a w,¬Q (.panic c) a w):∀ (ord:List Nat) (listed:Array Bool) (a:Act) (w:World),heldB ops m ord listed=true->heldS P ops Q S (wpList P ops Q (ops.toList.drop m)) (pickO ops.toList ord) a w->wpM P .any ops Q S m (ord.length+(ops.size-m)) listed a w
 | [],listed,a,w,hB,h=>by
  rw [List.length_nil,Nat.zero_add]
  exact tail_ok _ m listed a w (Nat.le_refl _) (by omega) hB h
 | i::r,listed,a,w,hB,h=>by
  rw [show (i::r).length+(ops.size-m)=(r.length+(ops.size-m))+1 by rw [List.length_cons];omega]
  simp only [heldB] at hB
  cases ho:ops[i]? with
  | none=>rw [ho] at hB;cases hB
  | some o =>
   have ho2:ops.toList[i]? = some o:=by rw [Array.getElem?_toList];exact ho
   rw [ho] at hB
   simp only [pickO,ho2] at h
   cases he:effB o.op with
   | true =>
    simp only [he,Bool.and_eq_true,decide_eq_true_eq] at hB
    show (Region.ready .any ops listed=[]->Q .normal a w)/\∀ j∈Region.ready .any ops listed,wpOp P ops Q j (fun a' w'=>(j<m->Kb S w w')/\wpM P .any ops Q S m (r.length+(ops.size-m)) (listed.setIfInBounds j true) a' w') a w
    refine ⟨fun h0=>absurd (hB.1▸h0) (by simp),fun j hj => ?_⟩
    rw [hB.1] at hj
    have:j=i:=by simpa using hj
    subst this
    simp only [heldS,he] at h
    unfold wpOp
    simp only [ho]
    split
    ·rename_i hw
     rw [if_pos hw] at h
     exact .inl (Oper.wp_mono (fun a' w' h'=>⟨fun _=>h'.1,heldS_ok hmn hsel hQ r _ a' w' hB.2 h'.2⟩) h)
    ·rename_i hw
     rw [if_neg hw] at h
     exact ⟨fun _=>Kb.refl S w,heldS_ok hmn hsel hQ r _ _ w hB.2 h⟩
   | false =>
    simp only [he,Bool.and_eq_true] at hB
    simp only [heldS,he] at h
    obtain ⟨⟨⟨hr,hf⟩,hl⟩,hB'⟩:=hB
    have hfr:∀ j oj,ops[j]? = some oj->j≠i->listed.getD j true=false->(∀ e∈oj.after,Region.binds .any e=true->e.on≠i)->o.apart ops oj=true/\(j<m∨pureB o.op=true):=fun j oj hj hne hun hno =>
     ⟨Region.free_spec ho hf j oj hj hne hun hno,(Bool.or_eq_true _ _▸hl).symm.imp (fun hl=>lateB_spec hl j oj hj hun hno) id⟩
    by_cases hw:Region.wanted o (yielded ops a.tmps)=true
    ·rw [if_pos hw] at h
     obtain ⟨v,hv,h2⟩:=h
     exact wpM_first ho (Region.noSelect_spec hsel) (fun c a w hq=>(hQ c _ w hq).elim) _ listed a w hfr (by simpa using hr) (.inl ⟨hw,hv⟩) (heldS_ok hmn hsel hQ r _ _ w hB' h2)
    ·rw [if_neg hw] at h
     exact wpM_first ho (Region.noSelect_spec hsel) (fun c a w hq=>(hQ c _ w hq).elim) _ listed a w hfr (by simpa using hr) (.inr ⟨by simpa using hw,rfl⟩) (heldS_ok hmn hsel hQ r _ _ w hB' h)
inductive Otr where
 | done
 | one (i:Nat) (r:Otr)
 | two (i:Nat) (ri:Otr) (j:Nat) (rj:Otr)
def Otr.len:Otr->Nat
 | .done=>0
 | .one _ r=>r.len+1
 | .two _ ri _ rj=>max ri.len rj.len+1
def Otr.row:List Nat->Otr->Otr
 | [],t=>t
 | i::r,t => .one i (Otr.row r t)
def heldT (P:Program) (ops:Array Oper) (Q:Exit->Act->World->Prop) (S:Nat->Prop) (fin:Act->World->Prop):Otr->Act->World->Prop
 | .done,a,w=>fin a w
 | .one i r,a,w=>match ops.toList[i]? with
  | some o=>heldS P ops Q S (heldT P ops Q S fin r) [o] a w
  | none=>False
 | .two i ri j rj,a,w=>match ops.toList[i]? with
  | some oi=>match ops.toList[j]? with
   | some oj=>heldS P ops Q S (heldT P ops Q S fin ri) [oi] a w/\heldS P ops Q S (heldT P ops Q S fin rj) [oj] a w
   | none=>False
  | none=>False
def isEff (ops:Array Oper) (i:Nat):Bool:=match ops.toList[i]? with
 | some o=>effB o.op
 | none=>false
def heldTB (ops:Array Oper):Otr->Array Bool->Bool
 | .done,listed=>(Region.ready .any ops listed).isEmpty
 | .one i r,listed=>match isEff ops i with
  | true=>decide (Region.ready .any ops listed=[i])&&heldTB ops r (listed.setIfInBounds i true)
  | false=>(Region.ready .any ops listed).contains i&&Region.free .any ops listed i&&heldTB ops r (listed.setIfInBounds i true)
 | .two i ri j rj,listed=>decide (Region.ready .any ops listed=[i,j])&&isEff ops i&&isEff ops j&&heldTB ops ri (listed.setIfInBounds i true)&&heldTB ops rj (listed.setIfInBounds j true)
theorem eff_step {i n:Nat} {o:Oper} {listed:Array Bool} {a:Act} {w:World} {fin:Act->World->Prop} (ho:ops[i]? = some o) (he:effB o.op=true) (h:heldS P ops Q S fin [o] a w)
  (hk:∀ a' w',fin a' w'->wpM P .any ops Q S ops.size n (listed.setIfInBounds i true) a' w'):wpOp P ops Q i (fun a' w'=>(i<ops.size->Kb S w w')/\wpM P .any ops Q S ops.size n (listed.setIfInBounds i true) a' w') a w:=by
 simp only [heldS,he] at h
 unfold wpOp
 simp only [ho]
 split
 ·rename_i hw
  rw [if_pos hw] at h
  exact .inl (Oper.wp_mono (fun a' w' h'=>⟨fun _=>h'.1,hk _ _ h'.2⟩) h)
 ·rename_i hw
  rw [if_neg hw] at h
  exact ⟨fun _=>Kb.refl S w,hk _ _ h⟩
theorem heldT_ok (hsel:Region.noSelect ops=true) (hQ:∀ c a w,¬Q (.panic c) a w):∀ (tr:Otr) (n:Nat) (listed:Array Bool) (a:Act) (w:World),tr.len<=n->heldTB ops tr listed=true->heldT P ops Q S (Q .normal) tr a w->wpM P .any ops Q S ops.size n listed a w
 | .done,n,listed,a,w,_,hB,h=>by
  have h0:=List.isEmpty_iff.1 hB
  cases n with
  | zero=>exact ⟨h0,h⟩
  | succ n=>exact ⟨fun _=>h,fun i hi=>by rw [h0] at hi;cases hi⟩
 | .one i r,0,listed,a,w,hl,hB,h=>by simp [Otr.len] at hl
 | .one i r,n+1,listed,a,w,hl,hB,h=>by
  have hl':r.len<=n:=by simp only [Otr.len] at hl;omega
  simp only [heldT] at h
  simp only [heldTB,isEff] at hB
  cases ho2:ops.toList[i]? with
  | none=>rw [ho2] at h;exact h.elim
  | some o =>
   have ho:ops[i]? = some o:=by rw [<-Array.getElem?_toList];exact ho2
   rw [ho2] at h hB
   simp only at h hB
   cases he:effB o.op with
   | true =>
    simp only [he,Bool.and_eq_true,decide_eq_true_eq] at hB
    refine ⟨fun h0=>absurd (hB.1▸h0) (by simp),fun j hj => ?_⟩
    rw [hB.1] at hj
    obtain rfl:j=i:=by simpa using hj
    exact eff_step ho he h fun a' w' h'=>heldT_ok hsel hQ r n _ a' w' hl' hB.2 h'
   | false =>
    simp only [he,Bool.and_eq_true] at hB
    simp only [heldS,he] at h
    obtain ⟨⟨hr,hf⟩,hB'⟩:=hB
    have hfr:∀ j oj,ops[j]? = some oj->j≠i->listed.getD j true=false->(∀ e∈oj.after,Region.binds .any e=true->e.on≠i)->o.apart ops oj=true/\(j<ops.size∨pureB o.op=true):=fun j oj hj hne hun hno =>
     ⟨Region.free_spec ho hf j oj hj hne hun hno,.inl (Array.getElem?_eq_some_iff.1 hj).1⟩
    by_cases hw:Region.wanted o (yielded ops a.tmps)=true
    ·rw [if_pos hw] at h
     obtain ⟨v,hv,h2⟩:=h
     exact wpM_first ho (Region.noSelect_spec hsel) (fun c a w hq=>(hQ c _ w hq).elim) _ listed a w hfr (by simpa using hr) (.inl ⟨hw,hv⟩) (heldT_ok hsel hQ r n _ _ w hl' hB' h2)
    ·rw [if_neg hw] at h
     exact wpM_first ho (Region.noSelect_spec hsel) (fun c a w hq=>(hQ c _ w hq).elim) _ listed a w hfr (by simpa using hr) (.inr ⟨by simpa using hw,rfl⟩) (heldT_ok hsel hQ r n _ _ w hl' hB' h)
 | .two i ri j rj,0,listed,a,w,hl,hB,h=>by simp [Otr.len] at hl
 | .two i ri j rj,n+1,listed,a,w,hl,hB,h=>by
  have hl1:ri.len<=n:=by simp only [Otr.len] at hl;omega
  have hl2:rj.len<=n:=by simp only [Otr.len] at hl;omega
  simp only [heldT] at h
  simp only [heldTB,isEff] at hB
  cases hi2:ops.toList[i]? with
  | none=>rw [hi2] at h;exact h.elim
  | some oi =>
   cases hj2:ops.toList[j]? with
   | none=>rw [hi2,hj2] at h;exact h.elim
   | some oj =>
    have hi:ops[i]? = some oi:=by rw [<-Array.getElem?_toList];exact hi2
    have hj:ops[j]? = some oj:=by rw [<-Array.getElem?_toList];exact hj2
    rw [hi2,hj2] at h hB
    simp only [Bool.and_eq_true,decide_eq_true_eq] at h hB
    obtain ⟨⟨⟨⟨hr,hei⟩,hej⟩,hBi⟩,hBj⟩:=hB
    refine ⟨fun h0=>absurd (hr▸h0) (by simp),fun q hq => ?_⟩
    rw [hr] at hq
    simp only [List.mem_cons,List.not_mem_nil,or_false] at hq
    rcases hq with rfl | rfl
    ·exact eff_step hi hei h.1 fun a' w' h'=>heldT_ok hsel hQ ri n _ a' w' hl1 hBi h'
    ·exact eff_step hj hej h.2 fun a' w' h'=>heldT_ok hsel hQ rj n _ a' w' hl2 hBj h'
theorem wp_region_tree {id:Nat} {a:Act} {w:World} (tr:Otr) (hm:P.follows .mixedOrders=true) (hsel:Region.noSelect ops=true) (hQ:∀ c a w,¬Q (.panic c) a w) (hn:Nat.ble tr.len ops.size=true)
  (hB:heldTB ops tr (Array.replicate ops.size false)=true) (h:heldT P ops Q S (Q .normal) tr a { w with drawn:=w.drawn+1 }):(Code.region id ops true).wp P Q a w :=
 wp_region_any hm (wpAny_of_M (S:=S) _ _ _ _ (heldT_ok hsel hQ tr ops.size _ a _ (Nat.le_of_ble_eq_true hn) hB h))
theorem wp_region_order {id:Nat} {a:Act} {w:World} (t:Nat) (ord:List Nat) (hm:P.follows .mixedOrders=true) (hsel:Region.noSelect ops=true) (hQ:∀ c a w,¬Q (.panic c) a w) (hn:Nat.beq (ord.length+t) ops.size=true)
  (hB:heldB ops (ops.size-t) ord (Array.replicate ops.size false)=true) (h:heldS P ops Q S (wpList P ops Q (ops.toList.drop (ops.size-t))) (pickO ops.toList ord) a { w with drawn:=w.drawn+1 }):(Code.region id ops true).wp P Q a w:=by
 refine wp_region_any hm ?_
 have hn':=Nat.eq_of_beq_eq_true hn
 have h1:=heldS_ok (Nat.sub_le ..) hsel hQ ord (Array.replicate ops.size false) a _ hB h
 rw [show ord.length+(ops.size-(ops.size-t))=ops.size by omega] at h1
 exact wpAny_of_M (S:=S) _ _ _ _ h1
end
end Eng
end Go.Proofs.YtdjkoljonlcemaaGreat

/- The engine, third part: states, the steps by reckoning, and a lemma for each kind of step. -/
namespace Go.Proofs.YtdjkoljonlcemaaGreat.Eng
open Go
def dstOk (n:Nat):Option Nat->Bool
 | none=>true
 | some d=>Nat.blt d n
def notIn (d:Nat):Path->Bool
 | []=>true
 | (s,_)::p => !(Nat.beq s d)&&notIn d p
def pathFree (d:Nat):CEnv->Bool
 | []=>true
 | (_,q,_)::c=>notIn d q&&pathFree d c
def isNone {α:Type}:Option α->Bool
 | none=>true
 | some _=>false
def fresh (d:Nat) (l:Env) (c:CEnv) (p:Path):Bool :=
 isNone (lookC c d)&&pathFree d c&&notIn d p&&(match p with | []=>true | _::_=>isNone (look l d))
inductive Md where
 | t (n:Nat)
 | h (S:Nat->Prop) (t:Nat)
 | b (S:Nat->Prop) (tr:Otr)
def okR (md:Option Md) (o:Oper):Bool:=match md with
 | some (.h _ _) => !effB o.op
 | some (.b _ _) => !effB o.op
 | _=>true
theorem okR_no {md:Option Md} {o:Oper} (h:effB o.op=false):okR md o=true:=by
 cases md with
 | none=>rfl
 | some m=>cases m with
  | t n=>rfl
  | h S t=>simp [okR,h]
  | b S t=>simp [okR,h]
def okW (md:Option Md) (o:Oper):Bool:=match md with
 | none=>true
 | some (.h _ _)=>effB o.op
 | some (.b _ _)=>effB o.op
 | some (.t _)=>false
def notT (md:Option Md):Bool:=match md with
 | some (.t _)=>false
 | _=>true
theorem okW_of {md:Option Md} {o:Oper} (h:effB o.op=true) (hn:notT md=true):okW md o=true:=by
 cases md with
 | none=>rfl
 | some m=>cases m with
  | t n=>simp [notT] at hn
  | h S t=>simp [okW,h]
  | b S t=>simp [okW,h]
def mdR (md:Option Md) (w w':World):Prop:=match md with
 | some (.h S _)=>Kb S w w'
 | some (.b S _)=>Kb S w w'
 | _=>w'=w
def mdW (md:Option Md) (w w':World):Prop:=match md with
 | some (.h S _)=>Kb S w w'
 | some (.b S _)=>Kb S w w'
 | _=>True
@[reducible] def mdB (md:Option Md) (b:Nat):Prop:=match md with
 | some (.h S _)=>S b
 | some (.b S _)=>S b
 | _=>True
theorem mdR_cell {md:Option Md} {w w':World} {b o:Nat} {v:Value} (hb:mdB md b) (h:mdR md w w') (hc:w.cell? ⟨b,o,none⟩=some v):w'.cell? ⟨b,o,none⟩=some v:=by
 cases md with
 | none=>have e:w'=w:=h;rw [e];exact hc
 | some m=>cases m with
  | t n=>have e:w'=w:=h;rw [e];exact hc
  | h S t=>exact Kp.cell (Kb.kp h) hb hc
  | b S t=>exact Kp.cell (Kb.kp h) hb hc
theorem mdR_at {md:Option Md} {w w':World} {b o:Nat} {cs:List Value} (hb:mdB md b) (h:mdR md w w') (hc:At w b o cs):At w' b o cs:=fun j v x=>mdR_cell hb h (hc j v x)
theorem mdW_bl {md:Option Md} {w w':World} (h:Bl w w'):mdW md w w':=by
 cases md with
 | none=>trivial
 | some m=>cases m with
  | t n=>trivial
  | h S t=>exact h.kb S
  | b S t=>exact h.kb S
inductive St where
 | code (k:List Item) (l:Env)
 | reg (md:Option Md) (ops:Array Oper) (rest:List Oper) (k:List Item) (l:Env) (c:CEnv)
 | opn (md:Option Md) (ops:Array Oper) (o:Oper) (rest:List Oper) (k:List Item) (l:Env) (c:CEnv) (p:Path)
def nxt (md:Option Md) (ops:Array Oper) (rest:List Oper) (k:List Item) (l:Env) (c:CEnv) (p:Path) (d:Nat) (v:Value):St:=match p with
 | [] => .reg md ops rest k ((d,v)::l) c
 | _::_ => .reg md ops rest k l ((d,p,v)::c)
def hasK (ks:List Nat) (j:Nat):Bool:=match ks with
 | []=>false
 | i::r=>bif Nat.beq i j then true else hasK r j
def prunK (ks:List Nat):Env->(Env->Option St)->Option St
 | [],k=>k []
 | (j,v)::l,k=>match hasK ks j with
  | true=>prunK ks l (fun l'=>k ((j,v)::l'))
  | false=>prunK ks l k
def guardSlot (ops:Array Oper) (j:Nat):Option Nat:=match ops.toList[j]? with
 | some o=>o.dst
 | none=>none
def adv1 (tab:Tab) (n:Nat) (ks:List Nat):St->Option St
 | .code k l=>match k with
  | .code c::k=>match c with
   | .seq a b=>some (.code (.code a :: .code b::k) l)
   | .skip=>some (.code k l)
   | .label _=>some (.code k l)
   | .block i c=>some (.code (.code c :: .inBlock i::k) l)
   | .region _ ops d=>match d with
    | false=>some (.reg none ops ops.toList k l [])
    | true=>none
   | .exit i=>match exitTo i k with
    | some k'=>some (.code k' l)
    | none=>none
   | _=>none
  | .inBlock _::k=>some (.code k l)
  | _=>none
 | .reg md ops rest k l c=>match rest with
  | []=>match md with
   | some (.t t)=>some (.reg none ops (ops.toList.drop (ops.size-t)) k l c)
   | some (.h _ t)=>some (.reg none ops (ops.toList.drop (ops.size-t)) k l c)
   | some (.b S tr)=>match tr with
    | .done=>some (.reg none ops [] k l c)
    | .one i r=>match ops.toList[i]? with
     | some o=>some (.reg (some (.b S r)) ops [o] k l c)
     | none=>none
    | .two _ _ _ _=>none
   | none=>prunK ks l (fun l'=>some (.code k l'))
  | o::rest=>match dstOk n o.dst with
   | true=>match o.guard with
    | none=>some (.opn md ops o rest k l c [])
    | some (j,want)=>match guardSlot ops j with
     | some s=>match lookC c s with
      | some (q,_)=>some (.opn md ops o rest k l c ((s,want)::q))
      | none=>some (.opn md ops o rest k l c [(s,want)])
     | none=>none
   | false=>none
 | .opn md ops o rest k l c p=>match pure1 tab l c p o.op with
  | some v=>match o.dst with
   | some d=>match fresh d l c p&&okR md o with
    | true=>match p with
     | []=>some (.reg md ops rest k ((d,v)::l) c)
     | _::_=>some (.reg md ops rest k l ((d,p,v)::c))
    | false=>none
   | none=>none
  | none=>none
def adv (tab:Tab) (n:Nat) (ks:List Nat):Nat->St->St
 | 0,s=>s
 | m+1,s=>match adv1 tab n ks s with
  | some s'=>adv tab n ks m s'
  | none=>s
structure Cx where
 P:Program
 f:FuncId
 fn:Func
 n:Nat
 ks:List Nat
 tab:Tab
 Q:Value->World->Prop
def KnowsD (c:CEnv) (a:Act):Prop:=∀ d q v,(d,q,v)∈c->(holds a q->a.tmps.getD d undef=v)/\(¬holds a q->a.tmps.getD d undef=undef)
theorem lookC_mem:∀ {c:CEnv} {d:Nat} {q:Path} {v:Value},lookC c d=some (q,v)->(d,q,v)∈c
 | [],_,_,_,h=>by simp [lookC] at h
 | (i,q',u')::c,d,q,v,h=>by
  simp only [lookC] at h
  cases hb:Nat.beq i d with
  | true=>simp only [hb,cond_true,Option.some.injEq,Prod.mk.injEq] at h;have:=Nat.eq_of_beq_eq_true hb;subst this;rw [h.1,h.2];exact List.mem_cons_self ..
  | false=>simp only [hb,cond_false] at h;exact List.mem_cons_of_mem _ (lookC_mem h)
theorem lookC_none:∀ {c:CEnv} {d j:Nat} {q:Path} {v:Value},lookC c d=none->(j,q,v)∈c->j≠d
 | [],_,_,_,_,_,h=>by cases h
 | (i,q',u')::c,d,j,q,v,h,hm=>by
  simp only [lookC] at h
  cases hb:Nat.beq i d with
  | true=>simp [hb] at h
  | false =>
   simp only [hb,cond_false] at h
   cases hm with
   | head=>intro e;subst e;simp at hb
   | tail _ hm=>exact lookC_none h hm
theorem KnowsD.c {c:CEnv} {a:Act} (h:KnowsD c a):KnowsC c a:=fun d q v x=>(h d q v (lookC_mem x)).1
structure OkA (C:Cx) (a:Act) (l:Env) (c:CEnv):Prop where
 size:a.tmps.size=C.n
 defers:a.defers=[]
 k:Knows l a
 kc:KnowsD c a
def runs (C:Cx) (a:Act) (todo:List Item) (w:World):Prop :=
 ∀ cs,∃ e w' fr,retQ C.Q e w'/\Comes C.P (lone ((bas C.f).at a todo) cs w) (lone fr cs w') e/\fr.fn=C.f/\fr.leaving C.P w' e
def nq (C:Cx) (k:List Item):Exit->Act->World->Prop:=fun e a w=>e = .normal/\runs C a k w
def listS (C:Cx) (md:Option Md) (ops:Array Oper) (k:List Item) (l:List Oper) (a:Act) (w:World):Prop:=match md with
 | none=>wpList C.P ops (nq C k) l a w
 | some (.h S t)=>heldS C.P ops (nq C k) S (wpList C.P ops (nq C k) (ops.toList.drop (ops.size-t))) l a w
 | some (.b S tr)=>heldS C.P ops (nq C k) S (heldT C.P ops (nq C k) S (nq C k .normal) tr) l a w
 | some (.t t)=>wpStill C.P ops w (fun a'=>wpList C.P ops (nq C k) (ops.toList.drop (ops.size-t)) a' w) l a
def fromS (C:Cx):St->World->Prop
 | .code k l,w=>∀ a,OkA C a l []->runs C a k w
 | .reg md ops rest k l c,w=>∀ a,OkA C a l c->listS C md ops k rest a w
 | .opn md ops o rest k l c p,w=>dstOk C.n o.dst=true->∀ a,OkA C a l c->(Region.wanted o (yielded ops a.tmps)=true↔holds a p)->listS C md ops k (o::rest) a w
structure Wk (C:Cx) (s:St) (w:World):Prop where
 run:tabOk C.P C.tab=true->C.P.funcs[C.f]? = some C.fn->fromS C s w
theorem knows_nil (a:Act):KnowsD [] a:=fun d q v h=>by cases h
theorem runs_step {C:Cx} {a a':Act} {k k':List Item} {w w':World} (hs:∀ cs,step C.P (lone ((bas C.f).at a k) cs w) = .next (lone ((bas C.f).at a' k') cs w')) (h:runs C a' k' w'):runs C a k w:=by
 intro cs
 obtain ⟨e,w'',fr,hq,hc,hr⟩:=h cs
 exact ⟨e,w'',fr,hq,.of_steps (.one (hs cs)) hc,hr⟩
theorem get_put {a:Act} {d j:Nat} {v:Value} (hd:d<a.tmps.size):(a.put (some d) v).tmps.getD j undef=if j=d then v else a.tmps.getD j undef:=by
 simp only [Act.put,Array.getD_eq_getD_getElem?,Array.getElem?_setIfInBounds]
 by_cases h:d=j
 ·subst h;simp [hd]
 ·rw [if_neg h,if_neg (fun e=>h e.symm)]
theorem holds_put {a:Act} {d:Nat} {v:Value} (hd:d<a.tmps.size):∀ {p:Path},notIn d p=true->(holds (a.put (some d) v) p↔holds a p)
 | [],_=>Iff.rfl
 | (s,b)::p,h=>by
  simp only [notIn,Bool.and_eq_true,Bool.not_eq_true'] at h
  have hs:s≠d:=fun e=>by subst e;simp at h
  simp only [holds,get_put hd,if_neg hs,holds_put hd h.2]
theorem pathFree_at:∀ {c:CEnv} {d j:Nat} {q:Path} {u:Value},pathFree d c=true->(j,q,u)∈c->notIn d q=true
 | [],_,_,_,_,_,h=>by cases h
 | (i,q',u')::c,d,j,q,u,hp,h=>by
  simp only [pathFree,Bool.and_eq_true] at hp
  cases h with
  | head=>exact hp.1
  | tail _ h=>exact pathFree_at hp.2 h
theorem isNone_eq {α:Type} {x:Option α} (h:isNone x=true):x=none:=by cases x <;> first | rfl | (simp [isNone] at h)
theorem blt_lt {a b:Nat} (h:Nat.blt a b=true):a<b:=by rw [Nat.blt_eq] at h;exact h
theorem ok_put {C:Cx} {a:Act} {l:Env} {c:CEnv} {d:Nat} {p:Path} {v u:Value} (h:OkA C a l c) (hd:dstOk C.n (some d)=true) (hf:fresh d l c p=true) :
  (p=[]->OkA C (a.put (some d) v) ((d,v)::l) c) /\
  (p≠[]->(holds a p->u=v)->(¬holds a p->u=undef)->OkA C (a.put (some d) u) l ((d,p,v)::c)):=by
 have hlt:d<a.tmps.size:=by rw [h.size];exact blt_lt hd
 simp only [fresh,Bool.and_eq_true] at hf
 obtain ⟨⟨⟨h1,h2⟩,h3⟩,h4⟩:=hf
 have hc:∀ u,KnowsD c (a.put (some d) u):=by
  intro u j q x hx
  have hjd:j≠d:=lookC_none (isNone_eq h1) hx
  rw [get_put hlt,if_neg hjd,holds_put hlt (pathFree_at h2 hx)]
  exact h.kc j q x hx
 refine ⟨fun _=>⟨by simp [Act.put,h.size],h.defers,?_,hc _⟩,fun hp hu hn=>⟨by simp [Act.put,h.size],h.defers,?_,?_⟩⟩
 ·intro j x hx
  simp only [look] at hx
  rw [get_put hlt]
  cases hb:Nat.beq d j with
  | true=>have:=Nat.eq_of_beq_eq_true hb;subst this;simp only [hb,cond_true,Option.some.injEq] at hx;rw [if_pos rfl,hx]
  | false =>
   simp only [hb,cond_false] at hx
   rw [if_neg (fun e=>by subst e;simp at hb)];exact h.k j x hx
 ·intro j x hx
  have hjd:j≠d:=by
   intro e;subst e
   cases p with
   | nil=>exact hp rfl
   | cons y p=>simp only at h4;rw [isNone_eq h4] at hx;cases hx
  rw [get_put hlt,if_neg hjd];exact h.k j x hx
 ·intro j q x hx
  cases hx with
  | head =>
   rw [holds_put hlt h3,get_put hlt,if_pos rfl]
   exact ⟨hu,hn⟩
  | tail _ hx=>exact hc u j q x hx
theorem listS_value {C:Cx} {md:Option Md} {ops:Array Oper} {k:List Item} {o:Oper} {rest:List Oper} {a:Act} {w:World} {v:Value} (hw:Region.wanted o (yielded ops a.tmps)=true) (ho:okR md o=true) (hr:∀ w',(mdR md w w'∨pureB o.op=true)->(execOp a.eval o).run C.P w' = .ok (.value v) w')
  (h:listS C md ops k rest (a.put o.dst v) w):listS C md ops k (o::rest) a w:=by
 cases md with
 | none =>
  show wpList C.P ops (nq C k) (o::rest) a w
  unfold wpList
  rw [if_pos hw]
  refine .inl ?_
  unfold Oper.wp
  rw [hr w (.inl rfl)];exact h
 | some m=>cases m with
  | t t =>
  show wpStill C.P ops w _ (o::rest) a
  unfold wpStill
  rw [if_pos hw]
  unfold Oper.still
  rw [hr w (.inl rfl)];exact ⟨rfl,h⟩
  | h S t =>
  show heldS C.P ops (nq C k) S (wpList C.P ops (nq C k) (ops.toList.drop (ops.size-t))) (o::rest) a w
  simp only [okR,Bool.not_eq_true'] at ho
  simp only [heldS,ho]
  rw [if_pos hw]
  exact ⟨v,fun w' q=>hr w' q.symm,h⟩
  | b S t =>
  show heldS C.P ops (nq C k) S (heldT C.P ops (nq C k) S (nq C k .normal) t) (o::rest) a w
  simp only [okR,Bool.not_eq_true'] at ho
  simp only [heldS,ho]
  rw [if_pos hw]
  exact ⟨v,fun w' q=>hr w' q.symm,h⟩
theorem listS_skip {C:Cx} {md:Option Md} {ops:Array Oper} {k:List Item} {o:Oper} {rest:List Oper} {a:Act} {w:World} (hw:¬Region.wanted o (yielded ops a.tmps)=true)
  (h:listS C md ops k rest (a.put o.dst undef) w):listS C md ops k (o::rest) a w:=by
 cases md with
 | none =>
  show wpList C.P ops (nq C k) (o::rest) a w
  unfold wpList
  rw [if_neg hw];exact h
 | some m=>cases m with
  | t t =>
  show wpStill C.P ops w _ (o::rest) a
  unfold wpStill
  rw [if_neg hw];exact h
  | h S t =>
  show heldS C.P ops (nq C k) S (wpList C.P ops (nq C k) (ops.toList.drop (ops.size-t))) (o::rest) a w
  unfold heldS
  cases effB o.op <;> (simp only [];rw [if_neg hw];exact h)
  | b S t =>
  show heldS C.P ops (nq C k) S (heldT C.P ops (nq C k) S (nq C k .normal) t) (o::rest) a w
  unfold heldS
  cases effB o.op <;> (simp only [];rw [if_neg hw];exact h)
theorem op_read {C:Cx} {md:Option Md} {ops:Array Oper} {o:Oper} {rest:List Oper} {k:List Item} {l:Env} {c:CEnv} {p:Path} {w:World} {d:Nat} {v:Value} (hd:o.dst=some d) (hf:fresh d l c p=true)
  (ho:okR md o=true) (hr:tabOk C.P C.tab=true->∀ a,OkA C a l c->holds a p->∀ w',(mdR md w w'∨pureB o.op=true)->(execOp a.eval o).run C.P w' = .ok (.value v) w') (h:Wk C (nxt md ops rest k l c p d v) w):Wk C (.opn md ops o rest k l c p) w:=by
 refine ⟨fun ht hfn hdk a hA hw => ?_⟩
 have H:=h.run ht hfn
 rw [hd] at hdk
 by_cases hp:holds a p
 ·refine listS_value (hw.2 hp) ho (hr ht a hA hp) ?_
  rw [hd]
  have hput:=ok_put (v:=v) (u:=v) (p:=p) hA hdk hf
  cases p with
  | nil=>exact H _ (hput.1 rfl)
  | cons x p=>exact H _ (hput.2 (by simp) (fun _=>rfl) (fun hn=>(hn hp).elim))
 ·refine listS_skip (fun hc=>hp (hw.1 hc)) ?_
  rw [hd]
  have hput:=ok_put (v:=v) (u:=undef) (p:=p) hA hdk hf
  cases p with
  | nil=>exact (hp trivial).elim
  | cons x p=>exact H _ (hput.2 (by simp) (fun hh=>(hp hh).elim) (fun _=>rfl))
theorem forgetA {C:Cx} {a:Act} {l l':Env} {c:CEnv} (h:OkA C a l c) (hl:∀ j v,look l' j=some v->look l j=some v):OkA C a l' []:=⟨h.size,h.defers,fun j v x=>h.k j v (hl j v x),knows_nil a⟩
theorem prunK_ok {ks:List Nat}:∀ {l:Env} {k:Env->Option St} {s:St},prunK ks l k=some s->∃ l',k l'=some s/\∀ j,look l' j=if hasK ks j=true then look l j else none
 | [],k,s,h=>⟨[],h,fun j=>by simp [look]⟩
 | (i,u)::l,k,s,h=>by
  simp only [prunK] at h
  cases hk:hasK ks i with
  | true =>
   rw [hk] at h
   obtain ⟨l',h1,h2⟩:=prunK_ok h
   refine ⟨(i,u)::l',h1,fun j => ?_⟩
   simp only [look]
   cases hb:Nat.beq i j with
   | true=>have:=Nat.eq_of_beq_eq_true hb;subst this;simp [hk]
   | false=>simp [h2 j]
  | false =>
   rw [hk] at h
   obtain ⟨l',h1,h2⟩:=prunK_ok h
   refine ⟨l',h1,fun j => ?_⟩
   rw [h2 j]
   by_cases hj:hasK ks j=true
   ·rw [if_pos hj,if_pos hj]
    have:Nat.beq i j=false:=by
     cases hb:Nat.beq i j with
     | true=>have:=Nat.eq_of_beq_eq_true hb;subst this;rw [hk] at hj;cases hj
     | false=>rfl
    simp [look,this]
   ·rw [if_neg hj,if_neg hj]
theorem wanted_path {ops:Array Oper} {o:Oper} {a:Act} {j s:Nat} {want:Bool} (hg:o.guard=some (j,want)) (hs:guardSlot ops j=some s) :
  Region.wanted o (yielded ops a.tmps)=true↔a.tmps.getD s undef = .bool want:=by
 simp only [Region.wanted,hg,yielded]
 have e:(ops[j]?).bind (·.dst)=some s:=by
  unfold guardSlot at hs
  rw [<-Array.getElem?_toList]
  cases hx:ops.toList[j]? with
  | none=>rw [hx] at hs;cases hs
  | some x=>rw [hx] at hs;simpa using hs
 rw [e]
 simp only [Option.bind_some,Array.getD_eq_getD_getElem?]
 cases hx:a.tmps[s]? with
 | none=>simp [undef]
 | some v=>cases v <;> simp
theorem runs_wp {C:Cx} {c:Code} {k:List Item} {a:Act} {w:World} (h:c.wp C.P (nq C k) a w):runs C a (.code c::k) w:=by
 intro cs
 obtain ⟨e,a',w',⟨he,hr⟩,harr⟩:=h (bas C.f) k cs
 subst he
 obtain ⟨e2,w2,fr,hq,hc,hrest⟩:=hr cs
 exact ⟨e2,w2,fr,hq,.of_steps harr hc,hrest⟩
theorem wk_admin {C:Cx} {k k':List Item} {l:Env} {w:World} (hs:∀ (a:Act) cs,step C.P (lone ((bas C.f).at a k) cs w) = .next (lone ((bas C.f).at a k') cs w)) (h:Wk C (.code k' l) w):Wk C (.code k l) w :=
 ⟨fun ht hf a hA=>runs_step (hs a) (h.run ht hf a hA)⟩
theorem wk_forget {C:Cx} {k:List Item} {l l':Env} {w:World} (hl:∀ j v,look l' j=some v->look l j=some v) (h:Wk C (.code k l') w):Wk C (.code k l) w :=
 ⟨fun ht hf a hA=>h.run ht hf a (forgetA hA hl)⟩
theorem adv1_ok {C:Cx} {s s':St} {w:World} (hs:adv1 C.tab C.n C.ks s=some s') (h:Wk C s' w):Wk C s w:=by
 cases s with
 | code k l =>
  cases k with
  | nil=>simp [adv1] at hs
  | cons x k =>
   cases x with
   | code c =>
    cases c with
    | seq a b=>simp only [adv1,Option.some.injEq] at hs;subst hs;exact wk_admin (fun _ _=>step_seq) h
    | skip=>simp only [adv1,Option.some.injEq] at hs;subst hs;exact wk_admin (fun _ _=>step_skip) h
    | label i=>simp only [adv1,Option.some.injEq] at hs;subst hs;exact wk_admin (fun _ _=>step_label) h
    | block i c=>simp only [adv1,Option.some.injEq] at hs;subst hs;exact wk_admin (fun _ _=>step_block) h
    | region i ops d =>
     cases d with
     | true=>simp [adv1] at hs
     | false =>
      simp only [adv1,Option.some.injEq] at hs;subst hs
      exact ⟨fun ht hf a hA=>runs_wp (wp_region_list (h.run ht hf a hA))⟩
    | exit i =>
     simp only [adv1] at hs
     split at hs
     ·rename_i k' he;simp only [Option.some.injEq] at hs;subst hs;exact wk_admin (fun _ _=>step_exit he) h
     ·cases hs
    | _=>simp [adv1] at hs
   | inBlock i=>simp only [adv1,Option.some.injEq] at hs;subst hs;exact wk_admin (fun _ _=>step_inBlock) h
   | _=>simp [adv1] at hs
 | reg md ops rest k l c =>
  cases rest with
  | nil =>
   have key:prunK C.ks l (fun l'=>some (.code k l'))=some s'->∀ (_:tabOk C.P C.tab=true) (_:C.P.funcs[C.f]? = some C.fn) (a:Act),OkA C a l c->nq C k .normal a w:=by
    intro hs ht hf a hA
    obtain ⟨l',h1,h2⟩:=prunK_ok hs
    simp only [Option.some.injEq] at h1;subst h1
    refine ⟨rfl,h.run ht hf a (forgetA hA fun j v hj => ?_)⟩
    rw [h2 j] at hj
    split at hj
    ·exact hj
    ·cases hj
   cases md with
   | none=>simp only [adv1] at hs;exact ⟨fun ht hf a hA=>key hs ht hf a hA⟩
   | some m=>cases m with
    | t t=>simp only [adv1,Option.some.injEq] at hs;subst hs;exact ⟨fun ht hf a hA=>h.run ht hf a hA⟩
    | h S t=>simp only [adv1,Option.some.injEq] at hs;subst hs;exact ⟨fun ht hf a hA=>h.run ht hf a hA⟩
    | b S tr=>cases tr with
     | done=>simp only [adv1,Option.some.injEq] at hs;subst hs;exact ⟨fun ht hf a hA=>h.run ht hf a hA⟩
     | one i r =>
      simp only [adv1] at hs
      cases ho:ops.toList[i]? with
      | none=>rw [ho] at hs;cases hs
      | some o =>
       rw [ho] at hs
       simp only [Option.some.injEq] at hs;subst hs
       refine ⟨fun ht hf a hA => ?_⟩
       have:=h.run ht hf a hA
       show heldT C.P ops (nq C k) S (nq C k .normal) (.one i r) a w
       simp only [heldT,ho]
       exact this
     | two i ri j rj=>simp [adv1] at hs
  | cons o rest =>
   simp only [adv1] at hs
   cases hd:dstOk C.n o.dst with
   | false=>rw [hd] at hs;cases hs
   | true =>
    rw [hd] at hs
    simp only at hs
    cases hg:o.guard with
    | none =>
     rw [hg] at hs;simp only [Option.some.injEq] at hs;subst hs
     refine ⟨fun ht hf a hA => ?_⟩
     exact h.run ht hf hd a hA (by simp [Region.wanted,hg,holds])
    | some gd =>
     obtain ⟨j,want⟩:=gd
     rw [hg] at hs
     simp only at hs
     cases hsl:guardSlot ops j with
     | none=>rw [hsl] at hs;cases hs
     | some s =>
      rw [hsl] at hs
      simp only at hs
      cases hlc:lookC c s with
      | none =>
       rw [hlc] at hs;simp only [Option.some.injEq] at hs;subst hs
       refine ⟨fun ht hf a hA=>h.run ht hf hd a hA ?_⟩
       rw [wanted_path hg hsl];simp [holds]
      | some qu =>
       obtain ⟨q,u⟩:=qu
       rw [hlc] at hs;simp only [Option.some.injEq] at hs;subst hs
       refine ⟨fun ht hf a hA=>h.run ht hf hd a hA ?_⟩
       rw [wanted_path hg hsl]
       simp only [holds]
       refine ⟨fun e=>⟨e,?_⟩,fun e=>e.1⟩
       refine Classical.byContradiction fun hq => ?_
       rw [(hA.kc s q u (lookC_mem hlc)).2 hq] at e
       simp [undef] at e
 | opn md ops o rest k l c p =>
  simp only [adv1] at hs
  cases hv:pure1 C.tab l c p o.op with
  | none=>rw [hv] at hs;cases hs
  | some v =>
   rw [hv] at hs
   simp only at hs
   cases hd:o.dst with
   | none=>rw [hd] at hs;cases hs
   | some d =>
    rw [hd] at hs
    simp only at hs
    cases hf:fresh d l c p&&okR md o with
    | false=>rw [hf] at hs;cases hs
    | true =>
     rw [hf] at hs
     simp only [Bool.and_eq_true] at hf
     have e:s'=nxt md ops rest k l c p d v:=by cases p <;> (simp only [Option.some.injEq] at hs;rw [<-hs];rfl)
     subst e
     exact op_read hd hf.1 hf.2 (fun ht a hA hp w' _=>pure1_ok ht hA.k hA.kc.c hp w' hv) h
theorem adv_ok {C:Cx} {w:World}:∀ (m:Nat) {s:St},Wk C (adv C.tab C.n C.ks m s) w->Wk C s w
 | 0,_,h=>h
 | m+1,s,h=>by
  simp only [adv] at h
  cases hs:adv1 C.tab C.n C.ks s with
  | none=>rw [hs] at h;exact h
  | some s'=>rw [hs] at h;exact adv1_ok hs (adv_ok m h)
theorem by_adv {C:Cx} {w:World} {s s':St} (hs:adv C.tab C.n C.ks 400 s=s') (h:Wk C s' w):Wk C s w:=adv_ok 400 (by rw [hs];exact h)
end Go.Proofs.YtdjkoljonlcemaaGreat.Eng

/- The engine, fourth part: a lemma for each kind of step; what is known of worlds. -/
namespace Go.Proofs.YtdjkoljonlcemaaGreat.Eng
open Go Go.RowKit
section
variable {C:Cx} {s:St} {w:World}
theorem ti_agg {P:Program} {t:TypeId} {tk:TK} {sz:Nat} {zr:List Value} {ag:Bool} (h:tiOk P t ⟨tk,sz,ag,zr⟩=true) (w:World):(isAgg t).run P w = .ok ag w/\(sizeOf t).run P w = .ok sz w:=by
 obtain ⟨d,x,z,hT⟩:=tiOk_und h
 have hu:=hT.und
 have hi:=hT.info
 have hsz:=hT.size
 have hag:=hT.agg
 refine ⟨?_,by rw [size_run hi,hsz]⟩
 unfold isAgg
 rw [run_bind_ok (und_run hu w)]
 simp only at hag
 rw [hag]
 cases d <;> rfl
theorem load_run {P:Program} {w:World} {a:Addr} {v:Value} (h:w.cell? a=some v):(load a).run P w = .ok v w:=by simp [load,Sem.run,h]
theorem loadCells_run {P:Program} {w:World} {b o:Nat} {cs:List Value} (h:At w b o cs):∀ (n i:Nat) (acc:Array Value),i+n=cs.length->(loadCellsFrom ⟨b,o,none⟩ i n acc).run P w = .ok (acc++(cs.drop i).toArray) w
 | 0,i,acc,hn=>by rw [List.drop_of_length_le (by omega)];simp [loadCellsFrom,pure]
 | n+1,i,acc,hn=>by
  obtain ⟨x,hx⟩:=some_of_lt (l:=cs) (k:=i) (by omega)
  simp only [loadCellsFrom]
  have hl:(load ((⟨b,o,none⟩:Addr).add i)).run P w = .ok x w:=by rw [add_none];exact load_run (h i x hx)
  rw [run_bind_ok hl,loadCells_run h n (i+1) _ (by omega)]
  obtain ⟨hlt,e⟩:=List.getElem?_eq_some_iff.1 hx
  rw [List.drop_eq_getElem_cons hlt,e]
  simp
theorem loadVar_one {P:Program} {w:World} {t:TypeId} {tk:TK} {sz:Nat} {zr:List Value} (h:tiOk P t ⟨tk,sz,false,zr⟩=true) {a:Addr} {v:Value} (hc:w.cell? a=some v):(loadVar t a).run P w = .ok v w:=by
 unfold loadVar
 rw [run_bind_ok (ti_agg h w).1];exact load_run hc
theorem loadVar_agg {P:Program} {w:World} {t:TypeId} {tk:TK} {sz:Nat} {zr:List Value} (h:tiOk P t ⟨tk,sz,true,zr⟩=true) {b o:Nat} {cs:List Value} (hc:At w b o cs) (hl:cs.length=sz):(loadVar t ⟨b,o,none⟩).run P w = .ok (.agg cs.toArray) w:=by
 unfold loadVar
 rw [run_bind_ok (ti_agg h w).1]
 rw [if_pos rfl,run_bind_ok (ti_agg h w).2]
 have e:(loadCells ⟨b,o,none⟩ sz).run P w = .ok cs.toArray w:=by
  unfold loadCells
  rw [loadCells_run hc sz 0 #[] (by omega)];simp
 rw [run_bind_ok e];rfl
theorem rd {md:Option Md} {ops:Array Oper} {o:Oper} {rest:List Oper} {k:List Item} {l:Env} {c:CEnv} {p:Path} {d:Nat} {v:Value}
  (hr:tabOk C.P C.tab=true->∀ a,OkA C a l c->holds a p->∀ w',mdR md w w'->(execOp a.eval o).run C.P w' = .ok (.value v) w') (h:Wk C (nxt md ops rest k l c p d v) w)
  (hs:adv C.tab C.n C.ks 400 s = .opn md ops o rest k l c p) (hd:o.dst=some d) (hf:fresh d l c p=true) (ho:okR md o=true) (hpu:pureB o.op=false:=by rfl):Wk C s w :=
 by_adv hs (op_read hd hf ho (fun hT a hA hp w' hm=>hr hT a hA hp w' (hm.resolve_right (by rw [hpu];simp))) h)
theorem exec_load {P:Program} {ρ:Operand->Value} {d:Option Nat} {T:TypeId} {x:Operand} {ty:TypeId} {pos:String} {af:Array Edge} {g:Option (Nat×Bool)} {a:Addr} {v:Value} (hx:ρ x = .pointer (some a)) (h:(loadVar T a).run P w = .ok v w) :
  (execOp ρ ⟨d,.load T x,ty,pos,af,g⟩).run P w = .ok (.value v) w:=by
 simp only [execOp,hx]
 refine (run_bind_ok (P:=P) (x:=v) (w':=w) ?_).trans rfl
 exact h
theorem ld {md:Option Md} {ops:Array Oper} {T:TypeId} {x:Operand} {d:Nat} {ty:TypeId} {pos:String} {af:Array Edge} {g:Option (Nat×Bool)} {rest:List Oper} {k:List Item} {l:Env} {c:CEnv} {tk:TK} {sz:Nat} {zr:List Value} {b o:Nat} {v:Value}
  (hc:w.cell? ⟨b,o,none⟩=some v) (h:Wk C (.reg md ops rest k ((d,v)::l) c) w)
  (hs:adv C.tab C.n C.ks 400 s = .opn md ops ⟨some d,.load T x,ty,pos,af,g⟩ rest k l c []:=by rfl) (ht:C.tab.at T=some ⟨tk,sz,false,zr⟩:=by rfl)
  (hx:evc l c [] x=some (.pointer (some ⟨b,o,none⟩)):=by rfl) (hf:fresh d l c []=true:=by rfl) (hm:mdB md b:=by first | exact True.intro | assumption | (simp only [mdB];omega)):Wk C s w :=
 rd (p:=[]) (fun hT _ hA hp _ hk=>exec_load (evc_ok hA.k hA.kc.c hp hx) (loadVar_one (tab_at hT ht) (mdR_cell hm hk hc))) h hs rfl hf (okR_no rfl)
theorem lda {md:Option Md} {ops:Array Oper} {T:TypeId} {x:Operand} {d:Nat} {ty:TypeId} {pos:String} {af:Array Edge} {g:Option (Nat×Bool)} {rest:List Oper} {k:List Item} {l:Env} {c:CEnv} {tk:TK} {sz:Nat} {zr:List Value} {b o:Nat} {cs:List Value}
  (hc:At w b o cs) (h:Wk C (.reg md ops rest k ((d,.agg cs.toArray)::l) c) w)
  (hs:adv C.tab C.n C.ks 400 s = .opn md ops ⟨some d,.load T x,ty,pos,af,g⟩ rest k l c []:=by rfl) (ht:C.tab.at T=some ⟨tk,sz,true,zr⟩:=by rfl) (hl:cs.length=sz:=by rfl)
  (hx:evc l c [] x=some (.pointer (some ⟨b,o,none⟩)):=by rfl) (hf:fresh d l c []=true:=by rfl) (hm:mdB md b:=by first | exact True.intro | assumption | (simp only [mdB];omega)):Wk C s w :=
 rd (p:=[]) (fun hT _ hA hp _ hk=>exec_load (evc_ok hA.k hA.kc.c hp hx) (loadVar_agg (tab_at hT ht) (mdR_at hm hk hc) hl)) h hs rfl hf (okR_no rfl)
theorem guard1 {a:Act} {l:Env} {c:CEnv} {s:Nat} {b t:Bool} (hA:OkA C a l c) (hg:evc l c [] (.tmp s)=some (.bool t)) (hp:holds a [(s,b)]):t=b:=by
 have e1:a.tmps.getD s undef = .bool t:=evc_ok hA.k hA.kc.c (p:=[]) trivial hg
 have e2:=hp.1
 rw [e1] at e2;exact Value.bool.inj e2
theorem guard2 {a:Act} {l:Env} {c:CEnv} {s s':Nat} {b b' t t':Bool} (hA:OkA C a l c) (hg':evc l c [] (.tmp s')=some (.bool t')) (hg:evc l c [(s',b')] (.tmp s)=some (.bool t)) (hp:holds a [(s,b),(s',b')]):t'=b'/\t=b:=by
 have h1:=guard1 hA hg' hp.2
 have e1:a.tmps.getD s undef = .bool t:=evc_ok hA.k hA.kc.c (p:=[(s',b')]) hp.2 hg
 have e2:=hp.1
 rw [e1] at e2;exact ⟨h1,Value.bool.inj e2⟩
theorem ldg {md:Option Md} {ops:Array Oper} {T:TypeId} {x:Operand} {d:Nat} {ty:TypeId} {pos:String} {af:Array Edge} {g:Option (Nat×Bool)} {rest:List Oper} {k:List Item} {l:Env} {c:CEnv} {tk:TK} {sz:Nat} {zr:List Value} {b o:Nat} {v:Value} {gs:Nat} {gb gt:Bool}
  (hc:gt=gb->w.cell? ⟨b,o,none⟩=some v) (h:Wk C (.reg md ops rest k l ((d,[(gs,gb)],v)::c)) w)
  (hs:adv C.tab C.n C.ks 400 s = .opn md ops ⟨some d,.load T x,ty,pos,af,g⟩ rest k l c [(gs,gb)]:=by rfl) (hg:evc l c [] (.tmp gs)=some (.bool gt):=by rfl) (ht:C.tab.at T=some ⟨tk,sz,false,zr⟩:=by rfl)
  (hx:evc l c [(gs,gb)] x=some (.pointer (some ⟨b,o,none⟩)):=by rfl) (hf:fresh d l c [(gs,gb)]=true:=by rfl) (hm:mdB md b:=by first | exact True.intro | assumption | (simp only [mdB];omega)):Wk C s w :=
 rd (p:=[(gs,gb)]) (fun hT _ hA hp _ hk=>exec_load (evc_ok hA.k hA.kc.c hp hx) (loadVar_one (tab_at hT ht) (mdR_cell hm hk (hc (guard1 hA hg hp))))) h hs rfl hf (okR_no rfl)
theorem ldg2 {md:Option Md} {ops:Array Oper} {T:TypeId} {x:Operand} {d:Nat} {ty:TypeId} {pos:String} {af:Array Edge} {g:Option (Nat×Bool)} {rest:List Oper} {k:List Item} {l:Env} {c:CEnv} {tk:TK} {sz:Nat} {zr:List Value} {b o:Nat} {v:Value} {gs gs':Nat} {gb gt gb' gt':Bool}
  (hc:gt'=gb'->gt=gb->w.cell? ⟨b,o,none⟩=some v) (h:Wk C (.reg md ops rest k l ((d,[(gs,gb),(gs',gb')],v)::c)) w)
  (hs:adv C.tab C.n C.ks 400 s = .opn md ops ⟨some d,.load T x,ty,pos,af,g⟩ rest k l c [(gs,gb),(gs',gb')]:=by rfl) (hg':evc l c [] (.tmp gs')=some (.bool gt'):=by rfl) (hg:evc l c [(gs',gb')] (.tmp gs)=some (.bool gt):=by rfl) (ht:C.tab.at T=some ⟨tk,sz,false,zr⟩:=by rfl)
  (hx:evc l c [(gs,gb),(gs',gb')] x=some (.pointer (some ⟨b,o,none⟩)):=by rfl) (hf:fresh d l c [(gs,gb),(gs',gb')]=true:=by rfl) (hm:mdB md b:=by first | exact True.intro | assumption | (simp only [mdB];omega)):Wk C s w :=
 rd (p:=[(gs,gb),(gs',gb')]) (fun hT _ hA hp _ hk=>exec_load (evc_ok hA.k hA.kc.c hp hx) (loadVar_one (tab_at hT ht) (mdR_cell hm hk (hc (guard2 hA hg' hg hp).1 (guard2 hA hg' hg hp).2)))) h hs rfl hf (okR_no rfl)
theorem exec_ix {P:Program} {ρ:Operand->Value} {d:Option Nat} {T:TypeId} {x i:Operand} {ty:TypeId} {pos:String} {af:Array Edge} {g:Option (Nat×Bool)} {sz e esz by':Nat} {ag:Bool} {zr:List Value} {b o len cap j:Nat} {kd:IntKind}
  (ht:tiOk P T ⟨.slice e esz by',sz,ag,zr⟩=true) (hx:ρ x = .slice (some ⟨b,o,none⟩) len cap) (hi:ρ i = .int kd j) (hb:j<len) :
  (execOp ρ ⟨d,.indexAddr T x i,ty,pos,af,g⟩).run P w = .ok (.value (.pointer (some ⟨b,o+j*esz,none⟩))) w:=by
 obtain ⟨dd,xx,zz,hT⟩:=tiOk_und ht
 have hu:=hT.und
 obtain ⟨rfl,hel⟩:=hT.sl _ _ _ rfl
 obtain ⟨y,z,hy,hys,_⟩:=elemOk_of hel
 simp only [execOp,hx,hi]
 refine (run_bind_ok (P:=P) (x:=_) (w':=w) ?_).trans rfl
 simp only [Instr.indexAt]
 rw [run_bind_ok (show (asIntOf (.int kd j)).run P w = .ok (kd,(j:Int)) w from rfl)]
 simp only
 rw [run_bind_ok (und_run hu w)]
 simp only
 have e2:∀ (k:(Option Addr×Nat×TypeId)->Sem Value),(((pure (some (⟨b,o,none⟩:Addr),len,e)):Sem (Option Addr×Nat×TypeId)) >>= k)=k (some ⟨b,o,none⟩,len,e):=fun k=>rfl
 rw [e2]
 simp only
 rw [run_bind_ok (und_run hu w)]
 simp only [Bool.and_false]
 rw [if_pos ⟨by omega,by omega⟩,run_bind_ok (size_run hy w),hys,Int.toNat_natCast,add_none]
 rfl
theorem ix {md:Option Md} {ops:Array Oper} {T:TypeId} {x i:Operand} {d:Nat} {ty:TypeId} {pos:String} {af:Array Edge} {g:Option (Nat×Bool)} {rest:List Oper} {k:List Item} {l:Env} {c:CEnv} {e esz by' sz:Nat} {ag:Bool} {zr:List Value} {b o len cap j:Nat} {kd:IntKind} {i0:Int}
  (h:Wk C (.reg md ops rest k ((d,.pointer (some ⟨b,o+j*esz,none⟩))::l) c) w)
  (hs:adv C.tab C.n C.ks 400 s = .opn md ops ⟨some d,.indexAddr T x i,ty,pos,af,g⟩ rest k l c []:=by rfl) (ht:C.tab.at T=some ⟨.slice e esz by',sz,ag,zr⟩:=by rfl)
  (hx:evc l c [] x=some (.slice (some ⟨b,o,none⟩) len cap):=by rfl) (hi:evc l c [] i=some (.int kd i0):=by rfl) (hij:i0=(j:Int):=by rfl) (hf:fresh d l c []=true:=by rfl) (hb:j<len:=by omega):Wk C s w :=
 rd (p:=[]) (fun hT _ hA hp _ _=>exec_ix (tab_at hT ht) (evc_ok hA.k hA.kc.c hp hx) (by rw [<-hij];exact evc_ok hA.k hA.kc.c hp hi) hb) h hs rfl hf (okR_no rfl)
theorem ixg {md:Option Md} {ops:Array Oper} {T:TypeId} {x i:Operand} {d:Nat} {ty:TypeId} {pos:String} {af:Array Edge} {g:Option (Nat×Bool)} {rest:List Oper} {k:List Item} {l:Env} {c:CEnv} {e esz by' sz:Nat} {ag:Bool} {zr:List Value} {b o len cap j:Nat} {kd:IntKind} {i0:Int} {gs:Nat} {gb gt:Bool}
  (hb:gt=gb->j<len) (h:Wk C (.reg md ops rest k l ((d,[(gs,gb)],.pointer (some ⟨b,o+j*esz,none⟩))::c)) w)
  (hs:adv C.tab C.n C.ks 400 s = .opn md ops ⟨some d,.indexAddr T x i,ty,pos,af,g⟩ rest k l c [(gs,gb)]:=by rfl) (hg:evc l c [] (.tmp gs)=some (.bool gt):=by rfl) (ht:C.tab.at T=some ⟨.slice e esz by',sz,ag,zr⟩:=by rfl)
  (hx:evc l c [(gs,gb)] x=some (.slice (some ⟨b,o,none⟩) len cap):=by rfl) (hi:evc l c [(gs,gb)] i=some (.int kd i0):=by rfl) (hij:i0=(j:Int):=by rfl) (hf:fresh d l c [(gs,gb)]=true:=by rfl):Wk C s w :=
 rd (p:=[(gs,gb)]) (fun hT _ hA hp _ _=>exec_ix (tab_at hT ht) (evc_ok hA.k hA.kc.c hp hx) (by rw [<-hij];exact evc_ok hA.k hA.kc.c hp hi) (hb (guard1 hA hg hp))) h hs rfl hf (okR_no rfl)
theorem br {c:Operand} {x y:Code} {t:Bool} {k:List Item} {l:Env} (h1:t=true->Wk C (.code (.code x::k) l) w) (h2:t=false->Wk C (.code (.code y::k) l) w)
  (hs:adv C.tab C.n C.ks 400 s = .code (.code (.cond c x y)::k) l:=by rfl) (hc:evq l c=some (.bool t):=by rfl):Wk C s w:=by
 refine by_adv hs ⟨fun ht hf a hA => ?_⟩
 refine runs_step (fun _=>step_cond (evq_ok hA.k hc)) ?_
 cases t with
 | true=>exact (h1 rfl).run ht hf a hA
 | false=>exact (h2 rfl).run ht hf a hA
theorem brT {c:Operand} {x y:Code} {p:Prop} {dp:Decidable p} {k:List Item} {l:Env} (h1:Wk C (.code (.code x::k) l) w)
  (hs:adv C.tab C.n C.ks 400 s = .code (.code (.cond c x y)::k) l:=by rfl) (hc:evq l c=some (.bool (@decide p dp)):=by rfl) (hp:p:=by omega):Wk C s w :=
 br (fun _=>h1) (fun h=>absurd hp (of_decide_eq_false h)) hs hc
theorem brF {c:Operand} {x y:Code} {p:Prop} {dp:Decidable p} {k:List Item} {l:Env} (h1:Wk C (.code (.code y::k) l) w)
  (hs:adv C.tab C.n C.ks 400 s = .code (.code (.cond c x y)::k) l:=by rfl) (hc:evq l c=some (.bool (@decide p dp)):=by rfl) (hp:¬p:=by omega):Wk C s w :=
 br (fun h=>absurd (of_decide_eq_true h) hp) (fun _=>h1) hs hc
theorem brt {c:Operand} {x y:Code} {t:Bool} {k:List Item} {l:Env} (h1:Wk C (.code (.code x::k) l) w)
  (hs:adv C.tab C.n C.ks 400 s = .code (.code (.cond c x y)::k) l:=by rfl) (hc:evq l c=some (.bool t):=by rfl) (hp:t=true:=by first | rfl | simp | simp_all):Wk C s w :=
 br (fun _=>h1) (fun h=>by rw [hp] at h;cases h) hs hc
theorem brf {c:Operand} {x y:Code} {t:Bool} {k:List Item} {l:Env} (h1:Wk C (.code (.code y::k) l) w)
  (hs:adv C.tab C.n C.ks 400 s = .code (.code (.cond c x y)::k) l:=by rfl) (hc:evq l c=some (.bool t):=by rfl) (hp:t=false:=by first | rfl | simp | simp_all):Wk C s w :=
 br (fun h=>by rw [hp] at h;cases h) (fun _=>h1) hs hc
theorem fin {a:Act} {v:Value} {todo:List Item} (hf:C.P.funcs[C.f]? = some C.fn) (hr:(results C.fn a.tmps).run C.P w = .ok v w) (hd:a.defers=[]) (hq:C.Q v w)
  (hs:∀ cs,step C.P (lone ((bas C.f).at a todo) cs w) = .next (lone { (bas C.f).at a todo with mode := .returning } cs w)):runs C a todo w :=
 fun cs=>⟨.returned v,w,_,hq,.one (hs cs),rfl,rfl,hd,rfl,C.fn,hf,hr⟩
theorem rt {k:List Item} {l:Env} {vs:List Value} (hq:C.Q (whole vs) w) (hs:adv C.tab C.n C.ks 400 s = .code (.code .ret::k) l:=by rfl) (ho:outs l C.fn.results.toList=some vs:=by rfl):Wk C s w :=
 by_adv hs ⟨fun _ hf _ hA=>fin hf (results_of hA.k ho) hA.defers hq (fun _=>step_ret)⟩
theorem rt1 {k:List Item} {l:Env} {v:Value} (hq:C.Q v w) (hs:adv C.tab C.n C.ks 400 s = .code (.code .ret::k) l:=by rfl) (ho:outs l C.fn.results.toList=some [v]:=by rfl):Wk C s w:=rt (vs:=[v]) hq hs ho
theorem rt2 {k:List Item} {l:Env} {v u:Value} (hq:C.Q (.tuple #[v,u]) w) (hs:adv C.tab C.n C.ks 400 s = .code (.code .ret::k) l:=by rfl) (ho:outs l C.fn.results.toList=some [v,u]:=by rfl):Wk C s w:=rt (vs:=[v,u]) hq hs ho
theorem rt3 {k:List Item} {l:Env} {v u x:Value} (hq:C.Q (.tuple #[v,u,x]) w) (hs:adv C.tab C.n C.ks 400 s = .code (.code .ret::k) l:=by rfl) (ho:outs l C.fn.results.toList=some [v,u,x]:=by rfl):Wk C s w:=rt (vs:=[v,u,x]) hq hs ho
theorem vb {a b:Bool} (h:a=b):Value.bool a=Value.bool b:=by rw [h]
theorem vi {k:IntKind} {a b:Int} (h:a=b):Value.int k a=Value.int k b:=by rw [h]
theorem en {l:Env} {vs:List Value} (hq:C.Q (whole vs) w) (hs:adv C.tab C.n C.ks 400 s = .code [] l:=by rfl) (ho:outs l C.fn.results.toList=some vs:=by rfl):Wk C s w :=
 by_adv hs ⟨fun _ hf _ hA=>fin hf (results_of hA.k ho) hA.defers hq (fun _=>step_end)⟩
theorem entr {P:Program} {f:FuncId} {fn:Func} {n:Nat} (ks:List Nat) {tab:Tab} {c:Code} {vs:List Value} {Q:Value->World->Prop} (ht:tabOk P tab=true) (hf:P.funcs[f]? = some fn) (hok:callable P f=true)
  (h:Wk ⟨P,f,fn,n,ks,tab,Q⟩ (.code [.code c] (numbered 0 vs)) w) (hb:fn.body=some c:=by rfl) (hn:fn.ntmps=n:=by rfl) (hs:Nat.ble vs.length n=true:=by rfl):Ret P f vs.toArray w Q:=by
 have hs':vs.length<=n:=Nat.le_of_ble_eq_true hs
 refine ⟨hok,fun cs => ?_⟩
 have henter:Frame.enter P f vs.toArray .normal=(bas f).at { tmps:=vs.toArray++Array.replicate (fn.ntmps-vs.toArray.size) undef,defers:=[] } [.code c]:=by
  simp [Frame.enter,Frame.at,hf,hb,bas]
 rw [henter]
 refine h.run ht hf _ ⟨?_,rfl,?_,knows_nil _⟩ cs
 ·simp [hn];omega
 ·intro k v hv
  obtain ⟨_,h2⟩:=look_numbered _ _ _ _ hv
  simp only [Nat.sub_zero] at h2
  obtain ⟨hlt,e⟩:=List.getElem?_eq_some_iff.1 h2
  simp [Array.getElem?_append,hlt,e]
theorem lp {c:Code} {k:List Item} {l:Env} {vals:List Value} {m:Nat} (sel:List Nat) (keep:Env) (Inv:Nat->List Value->World->Prop) (hkeep:Sub keep l) (h0:Inv m vals w)
  (hr:∀ m vals w',Inv m vals w' ->
   (∀ m' l'' vals'' w'',m'<m->Sub keep l''->lookAll l'' sel=some vals''->Inv m' vals'' w''->Wk C (.code (.inLoop c::k) l'') w'') ->
   Wk C (.code (.code c :: .inLoop c::k) (pair sel vals keep)) w')
  (hs:adv C.tab C.n C.ks 400 s = .code (.code (.loop c)::k) l:=by rfl) (hv:lookAll l sel=some vals:=by rfl):Wk C s w:=by
 have key:∀ M m l vals w,m<M->Sub keep l->lookAll l sel=some vals->Inv m vals w->Wk C (.code (.code c :: .inLoop c::k) l) w:=by
  intro M
  induction M with
  | zero=>intro m l vals w hm;omega
  | succ M ih =>
   intro m l vals w hm hk hv hi
   refine wk_forget (look_pair hk hv) (hr m vals w hi ?_)
   intro m' l'' vals'' w'' hlt hk' hv' hi'
   exact wk_admin (fun _ _=>step_inLoop) (ih m' l'' vals'' w'' (by omega) hk' hv' hi')
 exact by_adv hs (wk_admin (fun _ _=>step_loop) (key (m+1) m l vals w (by omega) hkeep hv h0))
theorem again {c:Code} {k:List Item} {l:Env} (h:Wk C (.code (.inLoop c::k) l) w) (hs:adv C.tab C.n C.ks 400 s = .code (.inLoop c::k) l:=by rfl):Wk C s w:=by_adv hs h
end
end Go.Proofs.YtdjkoljonlcemaaGreat.Eng

/- The engine, fifth part: steps that make or write memory; calls. -/
namespace Go.Proofs.YtdjkoljonlcemaaGreat.Eng
open Go Go.RowKit
def forceL {α:Type}:List α->(List α->Option (List α))->Option (List α)
 | [],k=>k []
 | x::xs,k=>forceL xs (fun ys=>k (x::ys))
theorem forceL_eq {α:Type}:∀ (l:List α) (k:List α->Option (List α)),forceL l k=k l
 | [],_=>rfl
 | x::xs,k=>by rw [forceL,forceL_eq xs]
def frc {α:Type} (l:List α):Option (List α):=forceL l some
theorem frc_eq {α:Type} {l m:List α} (h:frc l=some m):m=l:=by rw [frc,forceL_eq] at h;exact (Option.some.inj h).symm
def Box (w:World) (b:Nat) (t:TypeId) (cs:List Value):Prop:=w.heap[b]? = some (.cells cs.toArray t (0,0))
theorem Box.lt {w:World} {b:Nat} {t:TypeId} {cs:List Value} (h:Box w b t cs):b<w.heap.size:=(Array.getElem?_eq_some_iff.1 h).1
theorem Box.cell {w:World} {b:Nat} {t:TypeId} {cs:List Value} (h:Box w b t cs) {o:Nat} {v:Value} (hv:cs[o]? = some v):w.cell? ⟨b,o,none⟩=some v:=by
 unfold Box at h
 simp [World.cell?,h,hv]
theorem Box.at {w:World} {b:Nat} {t:TypeId} {cs:List Value} (h:Box w b t cs):At w b 0 cs:=fun j v hv=>by rw [Nat.zero_add];exact h.cell hv
theorem Box.frozen {w:World} {b:Nat} {t:TypeId} {cs:List Value} (h:Box w b t cs) (o:Nat):w.frozen? ⟨b,o,none⟩=false:=by
 unfold Box at h
 simp [World.frozen?,h]
structure Wr (w:World) (b:Nat) (w':World):Prop where
 os:w'.os=w.os
 tape:w'.tape=w.tape
 output:w'.output=w.output
 size:w'.heap.size=w.heap.size
 block:∀ k,k≠b->w'.heap[k]? = w.heap[k]?
theorem Wr.trans {w w1 w2:World} {b:Nat} (h:Wr w b w1) (k:Wr w1 b w2):Wr w b w2 :=
 ⟨k.os.trans h.os,k.tape.trans h.tape,k.output.trans h.output,k.size.trans h.size,fun i hi=>(k.block i hi).trans (h.block i hi)⟩
theorem Wr.below {w w':World} {b B:Nat} (h:Wr w b w') (hB:B<=b):Below B w w':=⟨h.os,h.tape,h.output,by rw [h.size];exact Nat.le_refl _,fun k hk=>h.block k (by omega)⟩
theorem Wr.kp {w w':World} {b:Nat} (h:Wr w b w') {S:Nat->Prop} (hS:∀ i,S i->i≠b):Kp S w w':=fun i o v s x=>by
 rw [World.cell?_of_block (w:=w) (h.block i (hS i s))];exact x
theorem Wr.box {w w':World} {b b':Nat} (h:Wr w b w') {t:TypeId} {cs:List Value} (hb:Box w b' t cs) (hne:b'≠b):Box w' b' t cs:=by unfold Box;rw [h.block b' hne];exact hb
theorem Bl.box {w w':World} (h:Bl w w') {b:Nat} {t:TypeId} {cs:List Value} (hb:Box w b t cs):Box w' b t cs:=by unfold Box;rw [h.block b hb.lt];exact hb
theorem Below.box {B:Nat} {w w':World} (h:Below B w w') {b:Nat} {t:TypeId} {cs:List Value} (hb:Box w b t cs) (hB:b<B):Box w' b t cs:=by unfold Box;rw [h.block b hB];exact hb
structure New (w:World) (b:Nat) (t:TypeId) (cs:List Value) (w':World):Prop where
 blk:b=w.heap.size
 eq:w'=w.alloc (.cells cs.toArray t)
theorem New.bl {w w':World} {b:Nat} {t:TypeId} {cs:List Value} (h:New w b t cs w'):Bl w w':=by rw [h.eq];exact (Below.refl _ _).alloc (Nat.le_refl _) _
theorem New.size {w w':World} {b:Nat} {t:TypeId} {cs:List Value} (h:New w b t cs w'):w'.heap.size=w.heap.size+1:=by rw [h.eq];show (w.heap.push _).size=_;simp
theorem New.box {w w':World} {b:Nat} {t:TypeId} {cs:List Value} (h:New w b t cs w'):Box w' b t cs:=by
 rw [h.eq,h.blk];show (w.heap.push _)[w.heap.size]? = _;simp
theorem Below.new {B:Nat} {w0 w w':World} {b:Nat} {t:TypeId} {cs:List Value} (h:Below B w0 w) (hB:B<=w.heap.size) (n:New w b t cs w'):Below B w0 w':=h.trans (n.bl.mono hB)
structure Dr (w w':World):Prop where
 eq:w'=w.drew
theorem Dr.bl {w w':World} (h:Dr w w'):Bl w w':=by rw [h.eq];exact (Below.refl _ _).drew
theorem Dr.heap {w w':World} (h:Dr w w'):w'.heap=w.heap:=by rw [h.eq];rfl
theorem Dr.box {w w':World} (h:Dr w w') {b:Nat} {t:TypeId} {cs:List Value} (hb:Box w b t cs):Box w' b t cs:=by unfold Box;rw [h.heap];exact hb
section
variable {C:Cx} {s:St} {w:World}
theorem listS_eff {md:Option Md} {ops:Array Oper} {k:List Item} {o:Oper} {rest:List Oper} {a:Act} (ho:okW md o=true) (hw:Region.wanted o (yielded ops a.tmps)=true)
  (h:o.wp C.P a w (fun a' w'=>mdW md w w'/\listS C md ops k rest a' w') (nq C k)):listS C md ops k (o::rest) a w:=by
 cases md with
 | none =>
  show wpList C.P ops (nq C k) (o::rest) a w
  unfold wpList
  rw [if_pos hw]
  exact .inl (Oper.wp_mono (fun _ _ h=>h.2) h)
 | some m=>cases m with
  | t n=>simp [okW] at ho
  | h S t =>
   show heldS C.P ops (nq C k) S (wpList C.P ops (nq C k) (ops.toList.drop (ops.size-t))) (o::rest) a w
   simp only [okW] at ho
   simp only [heldS,ho]
   rw [if_pos hw]
   exact h
  | b S t =>
   show heldS C.P ops (nq C k) S (heldT C.P ops (nq C k) S (nq C k .normal) t) (o::rest) a w
   simp only [okW] at ho
   simp only [heldS,ho]
   rw [if_pos hw]
   exact h
theorem op_val0 {md:Option Md} {ops:Array Oper} {o:Oper} {rest:List Oper} {k:List Item} {l:Env} {c:CEnv} {d:Nat} {v:Value} {w':World} (ho:okW md o=true) (hm:mdW md w w')
  (hr:tabOk C.P C.tab=true->∀ a,OkA C a l c->(execOp a.eval o).run C.P w = .ok (.value v) w') (h:Wk C (.reg md ops rest k ((d,v)::l) c) w')
  (hd:o.dst=some d) (hf:fresh d l c []=true):Wk C (.opn md ops o rest k l c []) w:=by
 refine ⟨fun ht hfn hdk a hA hw => ?_⟩
 rw [hd] at hdk
 refine listS_eff ho (hw.2 trivial) ?_
 unfold Oper.wp
 rw [hr ht a hA]
 show mdW md w w'/\listS C md ops k rest (a.put o.dst v) w'
 rw [hd]
 exact ⟨hm,h.run ht hfn _ ((ok_put (v:=v) (u:=v) (p:=[]) hA hdk hf).1 rfl)⟩
theorem op_val {md:Option Md} {ops:Array Oper} {o:Oper} {rest:List Oper} {k:List Item} {l:Env} {c:CEnv} {d:Nat} {v:Value} {w':World} (ho:okW md o=true) (hm:mdW md w w')
  (hr:tabOk C.P C.tab=true->∀ a,OkA C a l c->(execOp a.eval o).run C.P w = .ok (.value v) w') (h:Wk C (.reg md ops rest k ((d,v)::l) c) w')
  (hs:adv C.tab C.n C.ks 400 s = .opn md ops o rest k l c []) (hd:o.dst=some d) (hf:fresh d l c []=true):Wk C s w :=
 by_adv hs (op_val0 ho hm hr h hd hf)
theorem op_unit {md:Option Md} {ops:Array Oper} {o:Oper} {rest:List Oper} {k:List Item} {l:Env} {c:CEnv} {w':World} (ho:okW md o=true) (hm:mdW md w w')
  (hr:tabOk C.P C.tab=true->∀ a,OkA C a l c->(execOp a.eval o).run C.P w = .ok .skip w') (h:Wk C (.reg md ops rest k l c) w')
  (hs:adv C.tab C.n C.ks 400 s = .opn md ops o rest k l c []) (hd:o.dst=none):Wk C s w:=by
 refine by_adv hs ⟨fun ht hfn hdk a hA hw => ?_⟩
 refine listS_eff ho (hw.2 trivial) ?_
 unfold Oper.wp
 rw [hr ht a hA]
 show mdW md w w'/\listS C md ops k rest (a.put o.dst undef) w'
 rw [hd]
 exact ⟨hm,h.run ht hfn a hA⟩
theorem bx {md:Option Md} {ops:Array Oper} {T:TypeId} {x:Operand} {d:Nat} {ty:TypeId} {pos:String} {af:Array Edge} {g:Option (Nat×Bool)} {rest:List Oper} {k:List Item} {l:Env} {c:CEnv} {v:Value} {cs:List Value}
  (h:∀ b w',New w b T cs w'->Wk C (.reg md ops rest k ((d,.pointer (some ⟨b,0,none⟩))::l) c) w')
  (hs:adv C.tab C.n C.ks 400 s = .opn md ops ⟨some d,.box T x,ty,pos,af,g⟩ rest k l c []:=by rfl) (hx:evc l c [] x=some v:=by rfl) (hc:v.cells=cs.toArray:=by rfl) (hf:fresh d l c []=true:=by rfl) (hnt:notT md=true:=by rfl):Wk C s w :=
 op_val (okW_of rfl hnt) (mdW_bl (New.bl ⟨rfl,rfl⟩)) (w':=w.alloc (.cells cs.toArray T)) (fun _ a hA=>by
  simp only [execOp,evc_ok hA.k hA.kc.c (p:=[]) trivial hx,Instr.box,newVar,newRow,hc];rfl) (h _ _ ⟨rfl,rfl⟩) hs rfl hf
theorem zero_run {P:Program} {t:TypeId} {i:TI} (h:tiOk P t i=true) (w:World):∃ z,(zeroValue t).run P w = .ok z w/\z.cells=i.zero.toArray:=by
 obtain ⟨d,x,z,hT⟩:=tiOk_und h
 refine ⟨z,?_,by rw [<-hT.zeros,Array.toArray_toList]⟩
 unfold zeroValue
 rw [run_bind_ok (info_run hT.info w),hT.zero];rfl
theorem al {md:Option Md} {ops:Array Oper} {T:TypeId} {d:Nat} {ty:TypeId} {pos:String} {af:Array Edge} {g:Option (Nat×Bool)} {rest:List Oper} {k:List Item} {l:Env} {c:CEnv} {tk:TK} {sz:Nat} {ag:Bool} {zr:List Value}
  (h:∀ b w',New w b T zr w'->Wk C (.reg md ops rest k ((d,.pointer (some ⟨b,0,none⟩))::l) c) w')
  (hs:adv C.tab C.n C.ks 400 s = .opn md ops ⟨some d,.alloc T,ty,pos,af,g⟩ rest k l c []:=by rfl) (ht:C.tab.at T=some ⟨tk,sz,ag,zr⟩:=by rfl) (hf:fresh d l c []=true:=by rfl) (hnt:notT md=true:=by rfl):Wk C s w :=
 op_val (okW_of rfl hnt) (mdW_bl (New.bl ⟨rfl,rfl⟩)) (w':=w.alloc (.cells zr.toArray T)) (fun hT a _=>by
  obtain ⟨z,hz,hc⟩:=zero_run (tab_at hT ht) w
  simp only [execOp]
  refine (run_bind_ok (P:=C.P) (x := .pointer (some ⟨w.heap.size,0,none⟩)) (w':=w.alloc (.cells zr.toArray T)) ?_).trans rfl
  unfold Instr.alloc
  rw [run_bind_ok hz]
  simp only [newVar,newRow,hc];rfl) (h _ _ ⟨rfl,rfl⟩) hs rfl hf
theorem setCell_wr (w:World) (b o:Nat) (v:Value):Wr w b (w.setCell ⟨b,o,none⟩ v) :=
 ⟨rfl,rfl,rfl,by simp [World.setCell],fun k hk=>Below.heap_setCell _ _ _ _ hk⟩
theorem setCell_box {w:World} {b o:Nat} {t:TypeId} {cs:List Value} (h:Box w b t cs) (v:Value):Box (w.setCell ⟨b,o,none⟩ v) b t (cs.set o v):=by
 unfold Box at *
 simp only [World.setCell,Array.getElem?_modify,h,if_true,Option.map_some]
 simp
theorem store_run {P:Program} {w:World} {b o:Nat} {t:TypeId} {cs:List Value} (h:Box w b t cs) (ho:o<cs.length) {v:Value} (hv:v.oneCell'=true):(store ⟨b,o,none⟩ v).run P w = .ok () (w.setCell ⟨b,o,none⟩ v):=by
 obtain ⟨u,hu⟩:=some_of_lt ho
 have hc:=h.cell hu
 have hf:=h.frozen o
 cases v <;> first
  | (simp [Value.oneCell'] at hv;done)
  | simp [store,Sem.run,hc,hf]
theorem st {md:Option Md} {ops:Array Oper} {T:TypeId} {x y:Operand} {ty:TypeId} {pos:String} {af:Array Edge} {g:Option (Nat×Bool)} {rest:List Oper} {k:List Item} {l:Env} {c:CEnv} {tk:TK} {ag:Bool} {zr:List Value} {b o:Nat} {t:TypeId} {v:Value} {cs cs':List Value}
  (hb:Box w b t cs) (h:∀ w',Wr w b w'->Box w' b t cs'->Wk C (.reg md ops rest k l c) w')
  (hs:adv C.tab C.n C.ks 400 s = .opn md ops ⟨none,.store T x y,ty,pos,af,g⟩ rest k l c []:=by rfl) (ht:C.tab.at T=some ⟨tk,1,ag,zr⟩:=by rfl)
  (hx:evc l c [] x=some (.pointer (some ⟨b,o,none⟩)):=by rfl) (hy:evc l c [] y=some v:=by rfl) (hv:v.oneCell'=true:=by rfl) (hcs:frc (cs.set o v)=some cs':=by rfl) (ho:Nat.blt o cs.length=true:=by rfl) (hm:∀ w',Wr w b w'->mdW md w w':=by intros;exact True.intro) (hnt:notT md=true:=by rfl):Wk C s w :=
 op_unit (okW_of rfl hnt) (hm _ (setCell_wr w b o v)) (w':=w.setCell ⟨b,o,none⟩ v) (fun hT a hA=>by
  have hz:=(ti_agg (tab_at hT ht) w).2
  have hc1:v.cells=#[v]:=by cases v <;> first | rfl | (simp [Value.oneCell'] at hv)
  simp only [execOp,evc_ok hA.k hA.kc.c (p:=[]) trivial hx,evc_ok hA.k hA.kc.c (p:=[]) trivial hy,Instr.storeAt,Instr.sureAddr]
  refine (run_bind_ok (P:=C.P) (x:=()) (w':=w.setCell ⟨b,o,none⟩ v) ?_).trans rfl
  show (storeVar T ⟨b,o,none⟩ v).run C.P w=_
  unfold storeVar
  rw [run_bind_ok hz,hc1,if_neg (by simp)]
  show (storeCells ⟨b,o,none⟩ [v] 0).run C.P w=_
  simp only [storeCells]
  rw [add_none,Nat.add_zero,run_bind_ok (store_run hb (blt_lt ho) hv)];rfl)
  (h _ (setCell_wr w b o v) (by rw [frc_eq hcs];exact setCell_box hb v)) hs rfl
def setCells (w:World) (b:Nat):Nat->List Value->World
 | _,[]=>w
 | o,v::vs=>setCells (w.setCell ⟨b,o,none⟩ v) b (o+1) vs
def ovl (cs:List Value):Nat->List Value->List Value
 | _,[]=>cs
 | o,v::vs=>ovl (cs.set o v) (o+1) vs
theorem setCells_ok {b:Nat} {t:TypeId}:∀ {vs:List Value} {w:World} {cs:List Value} {o:Nat},Box w b t cs->Wr w b (setCells w b o vs)/\Box (setCells w b o vs) b t (ovl cs o vs)
 | [],w,cs,o,h=>⟨⟨rfl,rfl,rfl,rfl,fun _ _=>rfl⟩,h⟩
 | v::vs,w,cs,o,h=>by
  have:=setCells_ok (vs:=vs) (o:=o+1) (setCell_box (o:=o) h v)
  exact ⟨(setCell_wr w b o v).trans this.1,this.2⟩
theorem storeCells_run {P:Program} {b:Nat} {t:TypeId}:∀ {vs:List Value} {w:World} {cs:List Value} {o i:Nat},Box w b t cs->o+i+vs.length<=cs.length->vs.all Value.oneCell'=true ->
  (storeCells ⟨b,o,none⟩ vs i).run P w = .ok () (setCells w b (o+i) vs)
 | [],w,cs,o,i,_,_,_=>by simp only [storeCells,setCells];rfl
 | v::vs,w,cs,o,i,h,hl,hv=>by
  simp only [List.all_cons,Bool.and_eq_true] at hv
  simp only [List.length_cons] at hl
  simp only [storeCells]
  rw [add_none,run_bind_ok (store_run h (by omega) hv.1),storeCells_run (setCell_box h v) (by simp;omega) hv.2]
  simp only [setCells,Nat.add_assoc]
theorem sta {md:Option Md} {ops:Array Oper} {T:TypeId} {x y:Operand} {ty:TypeId} {pos:String} {af:Array Edge} {g:Option (Nat×Bool)} {rest:List Oper} {k:List Item} {l:Env} {c:CEnv} {tk:TK} {sz:Nat} {ag:Bool} {zr:List Value} {b o:Nat} {t:TypeId} {vs cs cs':List Value}
  (hb:Box w b t cs) (h:∀ w',Wr w b w'->Box w' b t cs'->Wk C (.reg md ops rest k l c) w')
  (hs:adv C.tab C.n C.ks 400 s = .opn md ops ⟨none,.store T x y,ty,pos,af,g⟩ rest k l c []:=by rfl) (ht:C.tab.at T=some ⟨tk,sz,ag,zr⟩:=by rfl)
  (hx:evc l c [] x=some (.pointer (some ⟨b,o,none⟩)):=by rfl) (hy:evc l c [] y=some (.agg vs.toArray):=by rfl) (hv:vs.all Value.oneCell'=true:=by rfl) (hl:vs.length=sz:=by rfl) (hcs:frc (ovl cs o vs)=some cs':=by rfl)
  (ho:Nat.ble (o+vs.length) cs.length=true:=by rfl) (hm:∀ w',Wr w b w'->mdW md w w':=by intros;exact True.intro) (hnt:notT md=true:=by rfl):Wk C s w :=
 op_unit (okW_of rfl hnt) (hm _ (setCells_ok hb).1) (w':=setCells w b o vs) (fun hT a hA=>by
  have hz:=(ti_agg (tab_at hT ht) w).2
  simp only [execOp,evc_ok hA.k hA.kc.c (p:=[]) trivial hx,evc_ok hA.k hA.kc.c (p:=[]) trivial hy,Instr.storeAt,Instr.sureAddr]
  refine (run_bind_ok (P:=C.P) (x:=()) (w':=setCells w b o vs) ?_).trans rfl
  show (storeVar T ⟨b,o,none⟩ (.agg vs.toArray)).run C.P w=_
  unfold storeVar
  rw [run_bind_ok hz,if_neg (by simp [Value.cells,hl])]
  exact storeCells_run (i:=0) hb (Nat.le_of_ble_eq_true ho) hv)
  (h _ (setCells_ok hb).1 (by rw [frc_eq hcs];exact (setCells_ok hb).2)) hs rfl
theorem call_run {P:Program} {ρ:Operand->Value} {w:World} {o:Oper} {fx:Operand} {args:Array Operand} {tys:Array TypeId} {g:FuncId} {first cap:Array Value} {vals av:List Value} (ho:o.op = .call ⟨.value fx,args,tys⟩) (hok:callable P g=true)
  (hfx:ρ fx = .func (.func g) first cap) (hargs:args.toList.map ρ=vals) (hav:first.toList++(vals++cap.toList)=av):(execOp ρ o).run P w = .ok (.enter g av.toArray) w:=by
 unfold callable at hok
 have e:args.map ρ=vals.toArray:=by rw [<-hargs,<-List.map_toArray,Array.toArray_toList]
 have e2:first++vals.toArray++cap=av.toArray:=by
  rw [<-hav];apply Array.ext';simp
 cases hf:P.funcs[g]? with
 | none=>rw [hf] at hok;cases hok
 | some fn =>
  rw [hf] at hok
  simp only [Bool.and_eq_true,Bool.not_eq_true'] at hok
  unfold execOp
  simp only [ho,resolve,hfx,e,Deferred.ofValue]
  show (Sem.bind (Sem.pure _) _).run P w=_
  simp only [Sem.bind,invoke,callFunc,e2]
  rw [run_bind_ok (show (program).run P w = .ok P w from rfl),hf]
  simp only [hok.2]
  rw [if_neg (by simp),if_neg (by have:=hok.1;cases hbd:fn.body <;> simp_all)]
  rfl
theorem cl {md:Option Md} {ops:Array Oper} {fx:Operand} {args:Array Operand} {tys:Array TypeId} {d:Nat} {ty:TypeId} {pos:String} {af:Array Edge} {gd:Option (Nat×Bool)} {rest:List Oper} {k:List Item} {l:Env} {c:CEnv} {g:FuncId} {first cap:Array Value} {vals av:List Value} {R:Value->World->Prop}
  (hc:Ret C.P g av.toArray w R) (h:∀ v w',R v w'->Wk C (.reg md ops rest k ((d,v)::l) c) w')
  (hs:adv C.tab C.n C.ks 400 s = .opn md ops ⟨some d,.call ⟨.value fx,args,tys⟩,ty,pos,af,gd⟩ rest k l c []:=by rfl) (hfx:evc l c [] fx=some (.func (.func g) first cap):=by rfl)
  (hargs:evcs l c [] args.toList=some vals:=by rfl) (hav:first.toList++(vals++cap.toList)=av:=by rfl) (hf:fresh d l c []=true:=by rfl) (hm:∀ v w',R v w'->mdW md w w':=by first | (intros;exact True.intro) | (intro _ _ r;exact mdW_bl r.2) | (intro _ _ r;exact mdW_bl (by rw [r.2];exact Bl.refl _))) (hnt:notT md=true:=by rfl):Wk C s w:=by
 refine by_adv hs ⟨fun ht hfn hdk a hA hw => ?_⟩
 refine listS_eff (okW_of rfl hnt) (hw.2 trivial) ?_
 unfold Oper.wp
 rw [call_run rfl hc.ok (evc_ok hA.k hA.kc.c (p:=[]) trivial hfx) (evcs_ok hA.k hA.kc.c (p:=[]) trivial hargs) hav]
 refine hc.run.mono fun e w' r => ?_
 cases e with
 | returned v=>exact ⟨hm v w' r,(h v w' r).run ht hfn _ ((ok_put (v:=v) (u:=v) (p:=[]) hA hdk hf).1 rfl)⟩
 | panicked ch=>exact r.elim
 | outgrown=>exact r.elim
theorem clq {ops:Array Oper} {t:Nat} {fx:Operand} {args:Array Operand} {tys:Array TypeId} {d:Nat} {ty:TypeId} {pos:String} {af:Array Edge} {gd:Option (Nat×Bool)} {rest:List Oper} {k:List Item} {l:Env} {c:CEnv} {g:FuncId} {first cap:Array Value} {vals av:List Value} {v:Value}
  (hc:Ret C.P g av.toArray w fun u w'=>u=v/\w'=w) (h:Wk C (.reg (some (.t t)) ops rest k ((d,v)::l) c) w)
  (hs:adv C.tab C.n C.ks 400 s = .opn (some (.t t)) ops ⟨some d,.call ⟨.value fx,args,tys⟩,ty,pos,af,gd⟩ rest k l c []:=by rfl) (hfx:evc l c [] fx=some (.func (.func g) first cap):=by rfl)
  (hargs:evcs l c [] args.toList=some vals:=by rfl) (hav:first.toList++(vals++cap.toList)=av:=by rfl) (hf:fresh d l c []=true:=by rfl):Wk C s w:=by
 refine by_adv hs ⟨fun ht hfn hdk a hA hw => ?_⟩
 show wpStill C.P ops w _ (_::rest) a
 unfold wpStill
 rw [if_pos (hw.2 trivial)]
 unfold Oper.still
 rw [call_run rfl hc.ok (evc_ok hA.k hA.kc.c (p:=[]) trivial hfx) (evcs_ok hA.k hA.kc.c (p:=[]) trivial hargs) hav]
 refine ⟨rfl,v,hc.run.mono fun e w' r => ?_,?_⟩
 ·cases e with
  | returned u=>exact ⟨by rw [r.1],r.2⟩
  | panicked ch=>exact r.elim
  | outgrown=>exact r.elim
 ·exact h.run ht hfn _ ((ok_put (v:=v) (u:=v) (p:=[]) hA hdk hf).1 rfl)
theorem ds {i:Nat} {ops:Array Oper} {k:List Item} {l:Env} (h:∀ w',Dr w w'->Wk C (.reg (some (.t 0)) ops ops.toList k l []) w')
  (hs:adv C.tab C.n C.ks 400 s = .code (.code (.region i ops true)::k) l:=by rfl) (hB:Region.lexB .any ops=true:=by kernel_rfl):Wk C s w:=by
 refine by_adv hs ⟨fun ht hfn a hA=>runs_wp (wp_region_still (tab_mixed ht) hB ?_)⟩
 have:=(h _ ⟨rfl⟩).run ht hfn a hA
 have e:(fun a'=>wpList C.P ops (nq C k) (ops.toList.drop (ops.size-0)) a' w.drew)=fun a'=>nq C k .normal a' w.drew:=by
  funext a'
  rw [Nat.sub_zero,List.drop_of_length_le (by simp)];rfl
 have h2:wpStill C.P ops w.drew (fun a'=>wpList C.P ops (nq C k) (ops.toList.drop (ops.size-0)) a' w.drew) ops.toList a:=this
 rw [e] at h2;exact h2
theorem dht (t:Nat) (S:Nat->Prop) (ord:List Nat) {i:Nat} {ops:Array Oper} {k:List Item} {l:Env} (h:∀ w',Dr w w'->Wk C (.reg (some (.h S t)) ops (pickO ops.toList ord) k l []) w')
  (hs:adv C.tab C.n C.ks 400 s = .code (.code (.region i ops true)::k) l:=by rfl) (hsel:Region.noSelect ops=true:=by kernel_rfl) (hn:Nat.beq (ord.length+t) ops.size=true:=by kernel_rfl) (hB:heldB ops (ops.size-t) ord (Array.replicate ops.size false)=true:=by kernel_rfl):Wk C s w:=by
 refine by_adv hs ⟨fun ht hfn a hA=>runs_wp (wp_region_order (S:=S) t ord (tab_mixed ht) hsel (fun c a w hq=>by cases hq.1) hn hB ?_)⟩
 exact (h _ ⟨rfl⟩).run ht hfn a hA
theorem dh (S:Nat->Prop) (ord:List Nat) {i:Nat} {ops:Array Oper} {k:List Item} {l:Env} (h:∀ w',Dr w w'->Wk C (.reg (some (.h S 0)) ops (pickO ops.toList ord) k l []) w')
  (hs:adv C.tab C.n C.ks 400 s = .code (.code (.region i ops true)::k) l:=by rfl) (hsel:Region.noSelect ops=true:=by kernel_rfl) (hn:Nat.beq (ord.length+0) ops.size=true:=by kernel_rfl) (hB:heldB ops (ops.size-0) ord (Array.replicate ops.size false)=true:=by kernel_rfl):Wk C s w:=dht 0 S ord h hs hsel hn hB
theorem dhb (S:Nat->Prop) (tr:Otr) {i:Nat} {ops:Array Oper} {k:List Item} {l:Env} (h:∀ w',Dr w w'->Wk C (.reg (some (.b S tr)) ops [] k l []) w')
  (hs:adv C.tab C.n C.ks 400 s = .code (.code (.region i ops true)::k) l:=by rfl) (hsel:Region.noSelect ops=true:=by kernel_rfl) (hn:Nat.ble tr.len ops.size=true:=by kernel_rfl) (hB:heldTB ops tr (Array.replicate ops.size false)=true:=by kernel_rfl):Wk C s w:=by
 refine by_adv hs ⟨fun ht hfn a hA=>runs_wp (wp_region_tree (S:=S) tr (tab_mixed ht) hsel (fun c a w hq=>by cases hq.1) hn hB ?_)⟩
 exact (h _ ⟨rfl⟩).run ht hfn a hA
theorem bt {S:Nat->Prop} {i j:Nat} {ri rj:Otr} {ops:Array Oper} {k:List Item} {l:Env} {c:CEnv} {oi oj:Oper} (h1:Wk C (.reg (some (.b S ri)) ops [oi] k l c) w) (h2:Wk C (.reg (some (.b S rj)) ops [oj] k l c) w)
  (hs:adv C.tab C.n C.ks 400 s = .reg (some (.b S (.two i ri j rj))) ops [] k l c:=by rfl) (hi:ops.toList[i]? = some oi:=by rfl) (hj:ops.toList[j]? = some oj:=by rfl):Wk C s w :=
 by_adv hs ⟨fun ht hfn a hA=>by
  show heldT C.P ops (nq C k) S (nq C k .normal) (.two i ri j rj) a w
  simp only [heldT,hi,hj]
  exact ⟨h1.run ht hfn a hA,h2.run ht hfn a hA⟩⟩
theorem Wr.kb {w w':World} {b:Nat} (h:Wr w b w') {S:Nat->Prop} (hS:∀ i,S i->i≠b):Kb S w w':=⟨fun i s _=>h.block i (hS i s)⟩
theorem wrS {S:Nat->Prop} {t b:Nat} (hb:¬S b):∀ w',Wr w b w'->mdW (some (.h S t)) w w':=fun _ h=>Wr.kb h fun _ hi e=>hb (e▸hi)
theorem wrB {S:Nat->Prop} {t:Otr} {b:Nat} (hb:¬S b):∀ w',Wr w b w'->mdW (some (.b S t)) w w':=fun _ h=>Wr.kb h fun _ hi e=>hb (e▸hi)
theorem dt (t:Nat) {i:Nat} {ops:List Oper} {k:List Item} {l:Env} (h:∀ w',Dr w w'->Wk C (.reg (some (.t t)) ops.toArray (ops.take (ops.length-t)) k l []) w')
  (hs:adv C.tab C.n C.ks 400 s = .code (.code (.region i ops.toArray true)::k) l:=by rfl) (hB:Region.lexTailB .any ops.toArray (ops.length-t)=true:=by kernel_rfl):Wk C s w :=
 by_adv hs ⟨fun ht hfn a hA=>runs_wp (wp_region_still_tail (ops.length-t) (tab_mixed ht) hB (by
  have:=(h _ ⟨rfl⟩).run ht hfn a hA
  simpa [listS] using this))⟩
end
end Go.Proofs.YtdjkoljonlcemaaGreat.Eng

/- The engine, sixth part: structs and slices that are made; append; slices of slices; arithmetic; a guarded step that writes. -/
namespace Go.Proofs.YtdjkoljonlcemaaGreat.Eng
open Go Go.RowKit
section build
def fillL (offs:List (Nat×Nat)):List Value->List (Nat×Value)->Option (List Value)
 | cells,[]=>frc cells
 | cells,(i,v)::rest=>match offs[i]? with
  | some (o,z)=>match Nat.beq v.cells.size z&&Nat.ble (o+z) cells.length with
   | true=>fillL offs (ovl cells o v.cells.toList) rest
   | false=>none
  | none=>none
theorem ovl_length:∀ (vs cs:List Value) (o:Nat),(ovl cs o vs).length=cs.length
 | [],_,_=>rfl
 | v::vs,cs,o=>by simp only [ovl];rw [ovl_length vs];simp
theorem foldl_ovl:∀ (vs:List Value) (cs:List Value) (o j:Nat),((vs.zipIdx j).toArray.foldl (fun (cs:Array Value) (p:Value×Nat)=>cs.setIfInBounds (o+p.2) p.1) cs.toArray)=(ovl cs (o+j) vs).toArray
 | [],cs,o,j=>by simp [ovl]
 | v::vs,cs,o,j=>by
  have ih:=foldl_ovl vs (cs.set (o+j) v) o (j+1)
  simp only [List.zipIdx_cons,List.size_toArray,List.length_cons,ovl]
  rw [List.foldl_toArray'] at *
  all_goals first | simp_all | skip
  simp [Nat.add_assoc] at ih ⊢
theorem fill_ok {offs:List (Nat×Nat)} {place:Nat->Option (Nat×Nat)} (hp:∀ i o z,offs[i]? = some (o,z)->place i=some (o,z)):∀ {parts:List (Nat×Value)} {cells cs:List Value},fillL offs cells parts=some cs->Instr.fill place cells.toArray parts=some cs.toArray
 | [],cells,cs,h=>by rw [frc_eq h];rfl
 | (i,v)::rest,cells,cs,h=>by
  simp only [fillL] at h
  simp only [Instr.fill]
  cases ho:offs[i]? with
  | none=>rw [ho] at h;cases h
  | some oz =>
   obtain ⟨o,z⟩:=oz
   rw [ho] at h
   rw [hp _ _ _ ho]
   simp only at h
   split at h
   ·rename_i hb
    rw [Bool.and_eq_true] at hb
    have h1:=Nat.eq_of_beq_eq_true hb.1
    have h2:=Nat.le_of_ble_eq_true hb.2
    have e:=foldl_ovl v.cells.toList cells o 0
    simp only
    rw [if_neg (by simp [h1];omega)]
    have e2:v.cells.zipIdx.foldl (fun (cs:Array Value) (p:Value×Nat)=>cs.setIfInBounds (o+p.2) p.1) cells.toArray=(ovl cells o v.cells.toList).toArray:=by
     rw [show v.cells.zipIdx=(v.cells.toList.zipIdx 0).toArray from by apply Array.ext';simp];exact e
    have e3:=fill_ok hp h
    rw [<-e2] at e3
    exact e3
   ·cases h
def evparts (l:Env) (c:CEnv) (p:Path):List (Nat×Operand)->Option (List (Nat×Value))
 | []=>some []
 | (i,x)::r=>match evc l c p x with
  | some v=>match evparts l c p r with
   | some vs=>some ((i,v)::vs)
   | none=>none
  | none=>none
theorem evparts_ok {l:Env} {c:CEnv} {p:Path} {a:Act} (hk:Knows l a) (hc:KnowsC c a) (hp:holds a p):∀ {xs:List (Nat×Operand)} {vs:List (Nat×Value)},evparts l c p xs=some vs->xs.map (fun (i,x)=>(i,a.eval x))=vs
 | [],vs,h=>by simp [evparts] at h;simp [h]
 | (i,x)::r,vs,h=>by
  simp only [evparts] at h
  cases hx:evc l c p x with
  | none=>simp [hx] at h
  | some v =>
   cases hr:evparts l c p r with
   | none=>simp [hx,hr] at h
   | some vs'=>simp [hx,hr] at h;subst h;simp [evc_ok hk hc hp hx,evparts_ok hk hc hp hr]
theorem places_run {P:Program} {w:World}:∀ {fs:List Field} {offs:List (Nat×Nat)},fieldsOk P fs offs=true->(fs.mapM fun f=>do pure (f.offset,<-sizeOf f.type):Sem (List (Nat×Nat))).run P w = .ok offs w
 | [],[],_=>rfl
 | x::fs,(o,z)::offs,h=>by
  simp only [fieldsOk,Bool.and_eq_true] at h
  have ih:=places_run (w:=w) h.2
  cases hx:P.info? x.type with
  | none=>rw [hx] at h;simp at h
  | some info =>
   rw [hx] at h
   have e:=Nat.eq_of_beq_eq_true h.1.2
   rw [List.mapM_cons]
   have e1:(do pure (x.offset,<-sizeOf x.type):Sem (Nat×Nat)).run P w = .ok (o,z) w:=by
    rw [run_bind_ok (size_run hx w),e,Nat.eq_of_beq_eq_true h.1.1.1];rfl
   rw [run_bind_ok e1,run_bind_ok ih];rfl
 | [],_::_,h=>by simp [fieldsOk] at h
 | _::_,[],h=>by simp [fieldsOk] at h
end build
section
variable {C:Cx} {s:St} {w:World}
theorem exec_build {P:Program} {ρ:Operand->Value} {w:World} {o:Oper} {T:TypeId} {parts:Array (Nat×Operand)} {offs:List (Nat×Nat)} {sz:Nat} {ag:Bool} {zr cs:List Value} {pv:List (Nat×Value)} (ho:o.op = .build T parts)
  (ht:tiOk P T ⟨.struct offs,sz,ag,zr⟩=true) (hp:parts.toList.map (fun (i,x)=>(i,ρ x))=pv) (hcs:fillL offs zr pv=some cs):(execOp ρ o).run P w = .ok (.value (.agg cs.toArray)) w:=by
 obtain ⟨d,x,z,hT⟩:=tiOk_und ht
 obtain ⟨fs,rfl,hfo⟩:=hT.st offs rfl
 obtain ⟨z',hz,hzc⟩:=zero_run ht w
 have ep:parts.map (fun (i,x)=>(i,ρ x))=pv.toArray:=by rw [<-hp,<-List.map_toArray,Array.toArray_toList]
 unfold execOp
 simp only [ho,ep]
 refine (run_bind_ok (P:=P) (x := .agg cs.toArray) (w':=w) ?_).trans rfl
 unfold Instr.build
 rw [run_bind_ok hz]
 simp only
 rw [run_bind_ok (und_run hT.und w)]
 simp only
 have e2:(fs.mapM fun f=>do pure (f.offset,<-sizeOf f.type):Sem (Array (Nat×Nat))).run P w = .ok offs.toArray w:=by
  have:=places_run (w:=w) hfo
  have e3:(fs.mapM fun f=>do pure (f.offset,<-sizeOf f.type):Sem (Array (Nat×Nat)))=List.toArray <$> (fs.toList.mapM fun f=>do pure (f.offset,<-sizeOf f.type)):=by
   rw [<-Array.toArray_toList (xs:=fs),List.mapM_toArray]
  rw [e3]
  show (Sem.bind _ _).run P w=_
  exact (run_bind_ok this).trans rfl
 rw [run_bind_ok e2]
 have:=fill_ok (offs:=offs) (place:=(offs.toArray[·]?)) (fun i o z h=>by simpa using h) hcs
 rw [hzc]
 simp only [this]
 rfl
theorem bd {md:Option Md} {ops:Array Oper} {T:TypeId} {parts:Array (Nat×Operand)} {d:Nat} {ty:TypeId} {pos:String} {af:Array Edge} {g:Option (Nat×Bool)} {rest:List Oper} {k:List Item} {l:Env} {c:CEnv} {offs:List (Nat×Nat)} {sz:Nat} {ag:Bool} {zr cs:List Value} {pv:List (Nat×Value)}
  (h:Wk C (.reg md ops rest k ((d,.agg cs.toArray)::l) c) w)
  (hs:adv C.tab C.n C.ks 400 s = .opn md ops ⟨some d,.build T parts,ty,pos,af,g⟩ rest k l c []:=by rfl) (ht:C.tab.at T=some ⟨.struct offs,sz,ag,zr⟩:=by rfl)
  (hp:evparts l c [] parts.toList=some pv:=by rfl) (hcs:fillL offs zr pv=some cs:=by rfl) (hf:fresh d l c []=true:=by rfl):Wk C s w :=
 rd (p:=[]) (fun hT _ hA hpp _ _=>exec_build rfl (tab_at hT ht) (evparts_ok hA.k hA.kc.c hpp hp) hcs) h hs rfl hf (okR_no rfl)
def rep (n:Nat) (zr:List Value):List Value:=match n with
 | 0=>[]
 | n+1=>rep n zr++zr
theorem rep_length (n:Nat) (zr:List Value):(rep n zr).length=n*zr.length:=by
 induction n with
 | zero=>simp [rep]
 | succ n ih=>simp [rep,ih,Nat.succ_mul]
theorem range_rep (n:Nat) (zr:List Value):(Array.range (n*zr.length)).map (fun i=>zr.toArray[i % zr.length]!)=(rep n zr).toArray:=by
 apply Array.ext'
 rw [Array.toList_map,Array.toList_range]
 induction n with
 | zero=>simp [rep]
 | succ n ih =>
  rw [Nat.succ_mul,List.range_add,List.map_append,ih]
  simp only [rep,List.map_map]
  congr 1
  apply List.ext_getElem?
  intro i
  rw [List.getElem?_map]
  by_cases hi:i<zr.length
  ·rw [List.getElem?_range hi]
   simp only [Option.map_some,Function.comp]
   rw [Nat.add_comm,Nat.add_mul_mod_self_right,Nat.mod_eq_of_lt hi,getElem!_pos zr.toArray i (by simpa using hi)]
   simp [List.getElem?_eq_getElem hi]
  ·rw [List.getElem?_eq_none (by simpa using hi),List.getElem?_eq_none (by simpa using hi)];rfl
theorem elem_zero {P:Program} {T e esz by' sz:Nat} {ag:Bool} {zr:List Value} (ht:tiOk P T ⟨.slice e esz by',sz,ag,zr⟩=true) {tk:TK} {ag':Bool} {zr':List Value} (he:tiOk P e ⟨tk,esz,ag',zr'⟩=true) :
  P.underlying T=some (.slice e)/\(∃ y,P.info? e=some y/\y.size=esz/\y.bytes=by')/\zr'.length=esz/\∀ w,∃ z,(zeroValue e).run P w = .ok z w/\z.cells=zr'.toArray:=by
 obtain ⟨d,x,z,hT⟩:=tiOk_und ht
 obtain ⟨rfl,hel⟩:=hT.sl _ _ _ rfl
 obtain ⟨y,zz,hy,hys,hyb,hyz,hzc⟩:=elemOk_of hel
 refine ⟨hT.und,⟨y,hy,hys,hyb⟩,?_,fun w=>zero_run he w⟩
 obtain ⟨z',hz',hzc'⟩:=zero_run he default
 have:(zeroValue e).run P default = .ok zz default:=by
  unfold zeroValue
  rw [run_bind_ok (info_run hy default),hyz];rfl
 rw [this] at hz'
 simp only [Result.ok.injEq,and_true] at hz'
 rw [<-hz',] at hzc'
 have:=congrArg Array.size hzc'
 simp at this
 omega
theorem exec_bs {P:Program} {ρ:Operand->Value} {w:World} {o:Oper} {T:TypeId} {len:Nat} {parts:Array (Nat×Operand)} {e esz by' sz:Nat} {ag:Bool} {zr:List Value} {tk:TK} {ag':Bool} {zr' cs:List Value} {pv:List (Nat×Value)} (ho:o.op = .buildSlice T len parts)
  (ht:tiOk P T ⟨.slice e esz by',sz,ag,zr⟩=true) (he:tiOk P e ⟨tk,esz,ag',zr'⟩=true) (hp:parts.toList.map (fun (i,x)=>(i,ρ x))=pv) (hlen:Nat.ble (len*esz) 16777216=true)
  (hcs:fillL ((List.range len).map fun i=>(i*esz,esz)) (rep len zr') pv=some cs):(execOp ρ o).run P w = .ok (.value (.slice (some ⟨w.heap.size,0,none⟩) len len)) (w.alloc (.cells cs.toArray e)):=by
 obtain ⟨hu,⟨y,hy,hys,_⟩,hzl,hz⟩:=elem_zero ht he
 obtain ⟨z,hz1,hzc⟩:=hz w
 have ep:parts.map (fun (i,x)=>(i,ρ x))=pv.toArray:=by rw [<-hp,<-List.map_toArray,Array.toArray_toList]
 unfold execOp
 simp only [ho,ep]
 refine (run_bind_ok (P:=P) (x := .slice (some ⟨w.heap.size,0,none⟩) len len) (w':=w.alloc (.cells cs.toArray e)) ?_).trans rfl
 unfold Instr.buildSlice
 rw [run_bind_ok (und_run hu w)]
 simp only
 rw [run_bind_ok (size_run hy w),hys]
 have h16:len*esz<=2 ^ 24:=by have:=Nat.le_of_ble_eq_true hlen;omega
 rw [if_neg (by omega)]
 have:=fill_ok (offs:=(List.range len).map fun i=>(i*esz,esz)) (place:=fun i=>some (i*esz,esz)) (fun i o z h=>by
  rw [List.getElem?_map] at h
  cases hr:(List.range len)[i]? with
  | none=>rw [hr] at h;cases h
  | some j =>
   rw [hr] at h
   have hj:j=i:=by have:=List.getElem?_eq_some_iff.1 hr;obtain ⟨h1,h2⟩:=this;rw [List.getElem_range] at h2;exact h2.symm
   subst hj;simpa using h) hcs
 have key:∀ zero:Array Value,(Array.range (len*esz)).map (fun x=>zero[x % zero.size]!)=(rep len zr').toArray ->
   Sem.run P (match Instr.fill (fun i=>some (i*esz,esz)) ((Array.range (len*esz)).map (fun x=>zero[x % zero.size]!)) pv with
    | some cells=>(do let r <-newRow e cells;pure (Value.slice (some r) len len))
    | _=>stuck "buildSlice: a part of the wrong size") w = .ok (.slice (some ⟨w.heap.size,0,none⟩) len len) (w.alloc (.cells cs.toArray e)):=by
  intro zero hz';rw [hz',this];rfl
 by_cases h0:len*esz=0
 ·rw [if_pos h0]
  refine key #[] ?_
  have:rep len zr'=[]:=List.eq_nil_of_length_eq_zero (by rw [rep_length,hzl,h0])
  rw [h0,this];simp
 ·rw [if_neg h0,run_bind_ok hz1]
  refine key z.cells ?_
  rw [<-range_rep len zr',hzl,hzc];simp only [List.size_toArray,hzl]
theorem bs {md:Option Md} {ops:Array Oper} {T:TypeId} {len:Nat} {parts:Array (Nat×Operand)} {d:Nat} {ty:TypeId} {pos:String} {af:Array Edge} {g:Option (Nat×Bool)} {rest:List Oper} {k:List Item} {l:Env} {c:CEnv} {e esz by' sz:Nat} {ag:Bool} {zr:List Value} {tk:TK} {ag':Bool} {zr' cs:List Value} {pv:List (Nat×Value)}
  (h:∀ b w',New w b e cs w'->Wk C (.reg md ops rest k ((d,.slice (some ⟨b,0,none⟩) len len)::l) c) w')
  (hs:adv C.tab C.n C.ks 400 s = .opn md ops ⟨some d,.buildSlice T len parts,ty,pos,af,g⟩ rest k l c []:=by rfl) (ht:C.tab.at T=some ⟨.slice e esz by',sz,ag,zr⟩:=by rfl) (he:C.tab.at e=some ⟨tk,esz,ag',zr'⟩:=by rfl)
  (hp:evparts l c [] parts.toList=some pv:=by rfl) (hcs:fillL ((List.range len).map fun i=>(i*esz,esz)) (rep len zr') pv=some cs:=by rfl) (hlen:Nat.ble (len*esz) 16777216=true:=by rfl) (hf:fresh d l c []=true:=by rfl) (hnt:notT md=true:=by rfl):Wk C s w :=
 op_val (okW_of rfl hnt) (mdW_bl (New.bl ⟨rfl,rfl⟩)) (fun hT _ hA=>exec_bs rfl (tab_at hT ht) (tab_at hT he) (evparts_ok hA.k hA.kc.c (p:=[]) trivial hp) hlen hcs) (h _ _ ⟨rfl,rfl⟩) hs rfl hf
theorem exec_mk {P:Program} {ρ:Operand->Value} {w:World} {o:Oper} {T:TypeId} {x y:Operand} {n:Nat} {e esz by' sz:Nat} {ag:Bool} {zr:List Value} {tk:TK} {ag':Bool} {zr':List Value} (ho:o.op = .makeSlice T x y)
  (ht:tiOk P T ⟨.slice e esz by',sz,ag,zr⟩=true) (he:tiOk P e ⟨tk,esz,ag',zr'⟩=true) {m:Nat} (hx:ρ x = .int .i64 m) (hy:ρ y = .int .i64 n) (hmn:m<=n) (hn:n<=8388608) (hb:Nat.ble by' 4096=true) :
  (execOp ρ o).run P w = .ok (.value (.slice (some ⟨w.heap.size,0,none⟩) m n)) (w.alloc (.cells (rep n zr').toArray e)):=by
 obtain ⟨hu,⟨y,hy',hys,hyb⟩,hzl,hz⟩:=elem_zero ht he
 obtain ⟨z,hz1,hzc⟩:=hz w
 unfold execOp
 simp only [ho,hx,hy]
 refine (run_bind_ok (P:=P) (x := .slice (some ⟨w.heap.size,0,none⟩) m n) (w':=w.alloc (.cells (rep n zr').toArray e)) ?_).trans rfl
 unfold Instr.makeSlice
 rw [run_bind_ok (und_run hu w)]
 simp only
 rw [run_bind_ok (show (asInt (.int .i64 m)).run P w = .ok (m:Int) w from rfl),run_bind_ok (show (asInt (.int .i64 n)).run P w = .ok (n:Int) w from rfl),run_bind_ok (info_run hy' w)]
 have hwn:IntKind.i64.wrap (n:Int)=n:=IntWalk.i64_in _ (by omega)
 have hwm:IntKind.i64.wrap (m:Int)=m:=IntWalk.i64_in _ (by omega)
 have hb':=Nat.le_of_ble_eq_true hb
 have hmul:by'*n<=4096*8388608:=Nat.mul_le_mul hb' hn
 have hl1:¬((by':Int)*n > 2 ^ 48):=by
  have:((by'*n:Nat):Int)<=((4096*8388608:Nat):Int):=Int.ofNat_le.2 hmul
  rw [Int.natCast_mul] at this;omega
 simp only [hwn,hwm,hyb]
 rw [if_neg (by simp;omega)]
 have har:(askRoom ((n:Int).toNat*by')).run P w = .ok () w:=by unfold askRoom;split <;> rfl
 rw [run_bind_ok har,run_bind_ok (size_run hy' w),hys]
 simp only [Int.toNat_natCast]
 have key:∀ zero:Array Value,(Array.range (n*esz)).map (fun x=>zero[x % zero.size]!)=(rep n zr').toArray ->
   Sem.run P (do let a <-newRow e ((Array.range (n*esz)).map (fun x=>zero[x % zero.size]!));pure (Value.slice (some a) m n)) w = .ok (.slice (some ⟨w.heap.size,0,none⟩) m n) (w.alloc (.cells (rep n zr').toArray e)):=by
  intro zero hz';rw [hz'];rfl
 by_cases h0:n*esz=0
 ·rw [if_pos h0]
  refine key #[] ?_
  have:rep n zr'=[]:=List.eq_nil_of_length_eq_zero (by rw [rep_length,hzl,h0])
  rw [h0,this];simp
 ·rw [if_neg h0,run_bind_ok hz1]
  refine key z.cells ?_
  rw [<-range_rep n zr',hzl,hzc];simp only [List.size_toArray,hzl]
theorem mk {md:Option Md} {ops:Array Oper} {T:TypeId} {x y:Operand} {d:Nat} {ty:TypeId} {pos:String} {af:Array Edge} {g:Option (Nat×Bool)} {rest:List Oper} {k:List Item} {l:Env} {c:CEnv} {e esz by' sz m n:Nat} {ag:Bool} {zr:List Value} {tk:TK} {ag':Bool} {zr':List Value}
  (h:∀ b w',New w b e (rep n zr') w'->Wk C (.reg md ops rest k ((d,.slice (some ⟨b,0,none⟩) m n)::l) c) w')
  (hs:adv C.tab C.n C.ks 400 s = .opn md ops ⟨some d,.makeSlice T x y,ty,pos,af,g⟩ rest k l c []:=by rfl) (ht:C.tab.at T=some ⟨.slice e esz by',sz,ag,zr⟩:=by rfl) (he:C.tab.at e=some ⟨tk,esz,ag',zr'⟩:=by rfl)
  (hx:evc l c [] x=some (.int .i64 (m:Int)):=by rfl) (hy:evc l c [] y=some (.int .i64 (n:Int)):=by rfl) (hmn:m<=n:=by omega) (hn:n<=8388608:=by omega) (hb:Nat.ble by' 4096=true:=by rfl) (hf:fresh d l c []=true:=by rfl) (hnt:notT md=true:=by rfl):Wk C s w :=
 op_val (okW_of rfl hnt) (mdW_bl (New.bl ⟨rfl,rfl⟩)) (fun hT _ hA=>exec_mk rfl (tab_at hT ht) (tab_at hT he) (evc_ok hA.k hA.kc.c (p:=[]) trivial hx) (evc_ok hA.k hA.kc.c (p:=[]) trivial hy) hmn hn hb) (h _ _ ⟨rfl,rfl⟩) hs rfl hf
structure Ow (w:World) (base:Nat) (e esz:Nat) (a:Option Addr) (n cap:Nat) (xs:List Value):Prop where
 own:w.ownsRow base e esz (.slice a n cap) n xs
theorem Ow.nil (w:World) (base e esz:Nat):Ow w base e esz none 0 0 []:=⟨World.ownsRow_nil w base e esz⟩
theorem Ow.shape {w:World} {base e esz:Nat} {a:Option Addr} {n cap:Nat} {xs:List Value} (h:Ow w base e esz a n cap xs):(a=none/\n=0/\cap=0/\xs=[]) ∨
  ∃ g cur,a=some ⟨g,0,none⟩/\base<=g/\w.heap[g]? = some (.cells cur e (0,0))/\n<=cap/\cur.size=cap*esz/\cur.toList.take (n*esz)=xs:=by
 obtain ⟨h1,h2⟩:=h.own
 rcases h2 with ⟨h2,h3⟩ | ⟨g,cap',cur,h2,h3,h4,h5,_,h7,h8⟩
 ·simp only [Value.slice.injEq] at h2
  obtain ⟨rfl,rfl,rfl⟩:=h2
  exact .inl ⟨rfl,rfl,rfl,List.eq_nil_of_length_eq_zero (by rw [h1];simp)⟩
 ·simp only [Value.slice.injEq] at h2
  obtain ⟨rfl,-,rfl⟩:=h2
  exact .inr ⟨g,cur,rfl,h3,h4,h5,h7,h8⟩
theorem Ow.same {w w':World} {base e esz:Nat} {a:Option Addr} {n cap:Nat} {xs:List Value} (h:Ow w base e esz a n cap xs) (hs:∀ g,a=some ⟨g,0,none⟩->w'.heap[g]? = w.heap[g]?):Ow w' base e esz a n cap xs:=by
 obtain ⟨h1,h2⟩:=h.own
 refine ⟨h1,?_⟩
 rcases h2 with h2 | ⟨g,cap',cur,h2,h3,h4,h5⟩
 ·exact .inl h2
 ·have ha:a=some ⟨g,0,none⟩:=by simp only [Value.slice.injEq] at h2;exact h2.1
  exact .inr ⟨g,cap',cur,h2,h3,by rw [hs g ha];exact h4,h5⟩
theorem Ow.lt {w:World} {base e esz:Nat} {a:Option Addr} {n cap:Nat} {xs:List Value} (h:Ow w base e esz a n cap xs) {g:Nat} (ha:a=some ⟨g,0,none⟩):base<=g/\g<w.heap.size:=by
 rcases h.shape with ⟨rfl,_⟩ | ⟨g',cur,rfl,h1,h2,_⟩
 ·cases ha
 ·simp only [Option.some.injEq,Addr.mk.injEq] at ha
  obtain ⟨rfl,_⟩:=ha
  exact ⟨h1,(Array.getElem?_eq_some_iff.1 h2).1⟩
theorem Ow.bl {w w':World} {base e esz:Nat} {a:Option Addr} {n cap:Nat} {xs:List Value} (h:Ow w base e esz a n cap xs) (k:Bl w w'):Ow w' base e esz a n cap xs:=h.same fun g ha=>k.block g (h.lt ha).2
theorem Ow.wr {w w':World} {base e esz:Nat} {a:Option Addr} {n cap:Nat} {xs:List Value} (h:Ow w base e esz a n cap xs) {b:Nat} (k:Wr w b w') (hb:∀ g,a=some ⟨g,0,none⟩->g≠b):Ow w' base e esz a n cap xs:=h.same fun g ha=>k.block g (hb g ha)
theorem Ow.len {w:World} {base e esz:Nat} {a:Option Addr} {n cap:Nat} {xs:List Value} (h:Ow w base e esz a n cap xs):xs.length=n*esz:=h.own.1
theorem Ow.at {w:World} {base e esz:Nat} {a:Option Addr} {n cap:Nat} {xs:List Value} (h:Ow w base e esz a n cap xs) {g:Nat} (ha:a=some ⟨g,0,none⟩):At w g 0 xs:=by
 rcases h.shape with ⟨rfl,_⟩ | ⟨g',cur,rfl,_,h2,_,_,h5⟩
 ·cases ha
 ·simp only [Option.some.injEq,Addr.mk.injEq] at ha
  obtain ⟨rfl,_⟩:=ha
  intro j v hv
  rw [<-h5,List.getElem?_take] at hv
  split at hv
  ·rw [Nat.zero_add];simp [World.cell?,h2];simpa using hv
  ·cases hv
theorem Ow.made {w w':World} {b e esz n:Nat} {cs:List Value} (h:New w b e cs w') (hl:cs.length=n*esz) (hn:n<=8388608):Ow w' b e esz (some ⟨b,0,none⟩) n n cs :=
 ⟨⟨hl,.inr ⟨b,n,cs.toArray,rfl,Nat.le_refl _,h.box,Nat.le_refl _,by unfold maxLen;omega,by simp [hl],by rw [<-hl];simp⟩⟩⟩
theorem Ow.base {w:World} {base base' e esz:Nat} {a:Option Addr} {n cap:Nat} {xs:List Value} (h:Ow w base e esz a n cap xs) (hb:base'<=base):Ow w base' e esz a n cap xs:=by
 obtain ⟨h1,h2⟩:=h.own
 refine ⟨h1,h2.imp id ?_⟩
 rintro ⟨g,cap',cur,h2,h3,h4⟩
 exact ⟨g,cap',cur,h2,Nat.le_trans hb h3,h4⟩
structure Ap (w:World) (a:Option Addr) (w':World):Prop where
 os:w'.os=w.os
 tape:w'.tape=w.tape
 output:w'.output=w.output
 size:w.heap.size<=w'.heap.size
 block:∀ k,k<w.heap.size->a≠some ⟨k,0,none⟩->w'.heap[k]? = w.heap[k]?
theorem Ap.below {w w':World} {a:Option Addr} {B:Nat} (h:Ap w a w') (hB:B<=w.heap.size) (ha:∀ g,a=some ⟨g,0,none⟩->B<=g):Below B w w' :=
 ⟨h.os,h.tape,h.output,h.size,fun k hk=>h.block k (by omega) fun e=>by have:=ha k e;omega⟩
theorem Ap.kp {w w':World} {a:Option Addr} (h:Ap w a w'):Kp (fun i=>a≠some ⟨i,0,none⟩) w w':=fun b o v s x=>by
 rw [World.cell?_of_block (w:=w) (h.block b (cell_lt x) s)];exact x
theorem Ap.box {w w':World} {a:Option Addr} (h:Ap w a w') {b:Nat} {t:TypeId} {cs:List Value} (hb:Box w b t cs) (hne:a≠some ⟨b,0,none⟩):Box w' b t cs:=by unfold Box;rw [h.block b hb.lt hne];exact hb
theorem Ap.of_grown {w w':World} {a:Option Addr} {n cap:Nat} (h:w.grownBy w' (Value.slice a n cap).ownBlock) (ha:a=none∨∃ g,a=some ⟨g,0,none⟩):Ap w a w':=by
 refine ⟨h.os,h.tape,h.output,h.size,fun k hk hne=>h.block k hk ?_⟩
 rcases ha with rfl | ⟨g,rfl⟩
 ·simp [Value.ownBlock]
 ·simp only [Value.ownBlock]
  intro e;simp only [Option.some.injEq] at e;subst e;exact hne rfl
end
end Go.Proofs.YtdjkoljonlcemaaGreat.Eng

/- The engine, seventh part: append; slices of slices; arithmetic; strings; a guarded step that writes. -/
namespace Go.Proofs.YtdjkoljonlcemaaGreat.Eng
open Go Go.RowKit
def Src (w:World) (a:Option Addr) (m:Nat) (news:List Value):Prop:=(m=0/\news=[])∨∃ b o,a=some ⟨b,o,none⟩/\At w b o news
theorem append_run {P:Program} {w:World} {T e esz by' sz:Nat} {ag:Bool} {zr:List Value} (ht:tiOk P T ⟨.slice e esz by',sz,ag,zr⟩=true) (hsz:0<esz) {base:Nat} {a:Option Addr} {n cap:Nat} {xs:List Value} (hO:Ow w base e esz a n cap xs)
  {ay:Option Addr} {m cy:Nat} {news:List Value} (hy:Src w ay m news) (hl:news.length=m*esz) (h1:news.all Value.oneCell'=true) (hb:(n+m)*by'<=140737488355328) (hn:n+m<=1152921504606846976) (hbase:base<=w.heap.size) (ty:TypeId) :
  ∃ a' cap' w',(Builtin.append_ #[T,T] ty #[.slice a n cap,.slice ay m cy]).run P w = .ok (.slice a' (n+m) cap') w'/\Ow w' base e esz a' (n+m) cap' (xs++news)/\Ap w a w'/\∀ g,a'=some ⟨g,0,none⟩->a=some ⟨g,0,none⟩∨w.heap.size<=g:=by
 obtain ⟨d,x,z,hT⟩:=tiOk_und ht
 obtain ⟨rfl,hel⟩:=hT.sl _ _ _ rfl
 obtain ⟨y,zz,hyi,hys,hyb,hyz,hzc⟩:=elemOk_of hel
 rcases hy with ⟨rfl,rfl⟩ | ⟨b,o,rfl,hat⟩
 ·refine ⟨a,cap,w,?_,by simpa using hO,⟨rfl,rfl,rfl,Nat.le_refl _,fun _ _ _=>rfl⟩,fun g hg => .inl hg⟩
  have hnc:n<=cap:=by
   rcases hO.shape with ⟨_,rfl,rfl,_⟩ | ⟨g,cur,_,_,_,h,_⟩
   ·exact Nat.le_refl _
   ·exact h
  rcases hO.shape with ⟨rfl,rfl,rfl,_⟩ | ⟨g,cur,rfl,_⟩
  ·cases ay <;> simp [Builtin.append_,run_underlying hT.und,sizeOf,typeInfo,hyi,Builtin.lenOf,Builtin.firstCells,loadCells,loadCellsFrom]
  ·cases ay <;> simp [Builtin.append_,run_underlying hT.und,sizeOf,typeInfo,hyi,Builtin.lenOf,Builtin.firstCells,hnc,storeCells,loadCells,loadCellsFrom]
 ·have hnews:∀ j u,news[j]? = some u->w.cell? ((⟨b,o,none⟩:Addr).add j)=some u:=fun j u hu=>by rw [add_none];exact hat j u hu
  have h1':∀ u∈news,u.oneCell'=true:=fun u hu=>List.all_eq_true.1 h1 u hu
  have h63:n+m<=maxLen:=by unfold maxLen;omega
  rcases hO.shape with ⟨rfl,rfl,rfl,rfl⟩ | ⟨g,cur,rfl,hbg,hg,hnc,hcs,htk⟩
  ·obtain ⟨v',w',hr,ho,hgr,hn'⟩:=run_append_own (P:=P) w w.heap.size T ty _ y zz esz by' hT.und hyi hyz hys hyb hzc hsz (.slice none 0 0) 0 [] (World.ownsRow_nil w w.heap.size _ esz) ⟨b,o,none⟩ m cy news hl hnews h1' h63 hb (Nat.le_refl _)
   rcases ho.2 with ⟨rfl,h0⟩ | ⟨g',cap',cur',rfl,hb',_⟩
   ·rw [h0]
    exact ⟨none,0,w',hr,(Ow.mk (by rw [h0] at ho;exact ho)).base hbase,Ap.of_grown hgr (.inl rfl),fun g hg=>by cases hg⟩
   ·refine ⟨_,_,w',hr,(Ow.mk ho).base hbase,Ap.of_grown hgr (.inl rfl),fun g hg => ?_⟩
    simp only [Option.some.injEq,Addr.mk.injEq,and_true] at hg
    exact .inr (hg▸hb')
  ·obtain ⟨v',w',hr,ho,hgr,hn'⟩:=run_append_own (P:=P) w base T ty _ y zz esz by' hT.und hyi hyz hys hyb hzc hsz _ n xs hO.own ⟨b,o,none⟩ m cy news hl hnews h1' h63 hb hbase
   rcases ho.2 with ⟨rfl,h0⟩ | ⟨g',cap',cur',rfl,hb',hrest⟩
   ·exfalso
    have:=hn'.1 rfl
    simp at this
   ·refine ⟨_,_,w',hr,⟨ho⟩,Ap.of_grown hgr (.inr ⟨g,rfl⟩),fun i hi => ?_⟩
    simp only [Option.some.injEq,Addr.mk.injEq,and_true] at hi
    subst hi
    by_cases hroom:n+m<=cap
    ·have hfit:n*y.size+news.length<=cur.size:=by rw [hl,hcs,hys,<-Nat.add_mul];exact Nat.mul_le_mul_right _ hroom
     have hr2:=run_append_room (P:=P) w T ty _ y hT.und hyi g n cap cur hg ⟨b,o,none⟩ m cy news (by rw [hys];exact hl) hnews h1' hroom hfit
     rw [hr2] at hr
     simp only [Result.ok.injEq,Value.slice.injEq,Option.some.injEq,Addr.mk.injEq] at hr
     left;rw [<-hr.1.1.1]
    ·have hr2:=run_append_grow (P:=P) w T ty _ y zz hT.und hyi hyz ⟨g,0,none⟩ n cap xs (by rw [hys];exact hO.len) (hO.own.cells (g:=g) rfl) ⟨b,o,none⟩ m cy news (by rw [hys];exact hl) hnews (by omega) (by omega) (growslice_fits (by omega) (by rw [hyb];exact hb))
     rw [hr2] at hr
     simp only [Result.ok.injEq,Value.slice.injEq,Option.some.injEq,Addr.mk.injEq] at hr
     right;rw [<-hr.1.1.1];exact Nat.le_refl _
section
variable {C:Cx} {s:St} {w:World}
theorem ap {md:Option Md} {ops:Array Oper} {T T':TypeId} {x y:Operand} {d:Nat} {ty:TypeId} {pos:String} {af:Array Edge} {g:Option (Nat×Bool)} {rest:List Oper} {k:List Item} {l:Env} {c:CEnv} {e esz by' sz:Nat} {ag:Bool} {zr:List Value}
  {base:Nat} {a:Option Addr} {n cap:Nat} {xs:List Value} {ay:Option Addr} {m cy:Nat} {news:List Value} (hO:Ow w base e esz a n cap xs) (hsrc:Src w ay m news) (hbase:base<=w.heap.size)
  (h:∀ a' cap' w',Ow w' base e esz a' (n+m) cap' (xs++news)->Ap w a w'->(∀ g,a'=some ⟨g,0,none⟩->a=some ⟨g,0,none⟩∨w.heap.size<=g)->Wk C (.reg md ops rest k ((d,.slice a' (n+m) cap')::l) c) w')
  (hs:adv C.tab C.n C.ks 400 s = .opn md ops ⟨some d,.call ⟨.builtin .append,#[x,y],#[T,T']⟩,ty,pos,af,g⟩ rest k l c []:=by rfl) (ht:C.tab.at T=some ⟨.slice e esz by',sz,ag,zr⟩:=by rfl)
  (hx:evc l c [] x=some (.slice a n cap):=by rfl) (hy:evc l c [] y=some (.slice ay m cy):=by rfl) (hTT:T'=T:=by rfl) (hsz:Nat.blt 0 esz=true:=by rfl) (hl:news.length=m*esz:=by first | rfl | (simp;done) | omega) (h1:news.all Value.oneCell'=true:=by first | rfl | (simp;done))
  (hb:(n+m)*by'<=140737488355328:=by omega) (hn:n+m<=1152921504606846976:=by omega) (hf:fresh d l c []=true:=by rfl) (hm:∀ w',Ap w a w'->mdW md w w':=by intros;exact True.intro) (hnt:notT md=true:=by rfl):Wk C s w:=by
 subst hTT
 refine by_adv hs ⟨fun hT hfn => ?_⟩
 obtain ⟨a',cap',w',hr,hO',hap,hfr⟩:=append_run (tab_at hT ht) (blt_lt hsz) hO hsrc hl h1 hb hn hbase ty (cy:=cy)
 refine (op_val0 (okW_of rfl hnt) (hm _ hap) (fun _ a hA => ?_) (h a' cap' w' hO' hap hfr) rfl hf).run hT hfn
 simp only [execOp,resolve,List.map_toArray,List.map_cons,List.map_nil,evc_ok hA.k hA.kc.c (p:=[]) trivial hx,evc_ok hA.k hA.kc.c (p:=[]) trivial hy]
 show (Sem.bind (Sem.pure _) _).run C.P w=_
 simp only [Sem.bind,invoke,builtin]
 exact (run_bind_ok hr).trans rfl
theorem Ap.kb {a:Option Addr} {w':World} (h:Ap w a w') {S:Nat->Prop} (ha:∀ g,a=some ⟨g,0,none⟩->¬S g):Kb S w w':=⟨fun i s hi=>h.block i hi fun e=>ha i e s⟩
theorem apS {S:Nat->Prop} {t:Nat} {a:Option Addr} (ha:∀ g,a=some ⟨g,0,none⟩->¬S g):∀ w',Ap w a w'->mdW (some (.h S t)) w w':=fun _ h=>Ap.kb h ha
theorem rtc {k:List Item} {l:Env} {dd:Nat} {t:TypeId} {tk:TK} {sz:Nat} {zr:List Value} {b o:Nat} {cs:List Value} (hc:At w b o cs) (hq:C.Q (.agg cs.toArray) w) (hs:adv C.tab C.n C.ks 400 s = .code (.code .ret::k) l:=by rfl)
  (ho:C.fn.results=#[.cell dd t]:=by rfl) (ht:C.tab.at t=some ⟨tk,sz,true,zr⟩:=by rfl) (hl:cs.length=sz:=by rfl) (hx:look l dd=some (.pointer (some ⟨b,o,none⟩)):=by rfl):Wk C s w :=
 by_adv hs ⟨fun hT hf a hA=>fin hf (by
  unfold results
  rw [ho]
  have e:a.tmps.getD dd undef = .pointer (some ⟨b,o,none⟩):=hA.k _ _ hx
  have e2:(loadVar t ⟨b,o,none⟩).run C.P w = .ok (.agg cs.toArray) w:=loadVar_agg (tab_at hT ht) hc hl
  simp only [List.mapM_toArray,List.mapM_cons,List.mapM_nil,e,asAddr]
  have e3:(do let x <-(do let p <-(pure (⟨b,o,none⟩:Addr):Sem Addr);loadVar t p);let y <-(pure []:Sem (List Value));pure (x::y):Sem (List Value)).run C.P w = .ok [.agg cs.toArray] w:=(run_bind_ok e2).trans rfl
  refine (run_bind_ok (P:=C.P) (x:=#[.agg cs.toArray]) (w':=w) ?_).trans rfl
  exact (run_bind_ok e3).trans rfl) hA.defers hq (fun _=>step_ret)⟩
end
end Go.Proofs.YtdjkoljonlcemaaGreat.Eng

/- The engine, eighth part: slices of slices and of strings; arithmetic; strings; stores into rows; a guarded step that writes. -/
namespace Go.Proofs.YtdjkoljonlcemaaGreat.Eng
open Go Go.RowKit
def evo (l:Env) (c:CEnv) (p:Path):Option Operand->Option (Option Value)
 | none=>some none
 | some x=>match evc l c p x with
  | some v=>some (some v)
  | none=>none
theorem evo_ok {l:Env} {c:CEnv} {p:Path} {a:Act} (hk:Knows l a) (hc:KnowsC c a) (hp:holds a p) {x:Option Operand} {v:Option Value} (h:evo l c p x=some v):x.map a.eval=v:=by
 cases x with
 | none=>simp [evo] at h;simp [h]
 | some x =>
  simp only [evo] at h
  cases hx:evc l c p x with
  | none=>simp [hx] at h
  | some u=>simp [hx] at h;subst h;simp [evc_ok hk hc hp hx]
def bnd (d:Nat):Option Value->Nat->Prop
 | none,n=>n=d
 | some v,n=>∃ k:IntKind,v = .int k n
theorem bound_run {P:Program} {w:World} {k:IntKind} {n y:Nat} {code:BoundsCode} (h:n<=y):(Instr.sliceBound (.int k n) y code).run P w = .ok n w:=by
 unfold Instr.sliceBound
 rw [run_bind_ok (show (asIntOf (.int k n)).run P w = .ok (k,(n:Int)) w from rfl)]
 simp only
 rw [if_pos ⟨by omega,by omega⟩];rfl
theorem bounds_run {P:Program} {w:World} {sl:Bool} {len cap lo hi:Nat} {vlo vhi:Option Value} (h1:bnd 0 vlo lo) (h2:bnd len vhi hi) (h3:lo<=hi) (h4:hi<=cap):(Instr.sliceBounds sl len cap vlo vhi none).run P w = .ok (lo,hi,cap) w:=by
 unfold Instr.sliceBounds
 show (Sem.bind (Sem.pure cap) _).run P w=_
 simp only [Sem.bind]
 cases vhi with
 | none =>
  have:hi=len:=h2;subst this
  show (Sem.bind (Sem.pure hi) _).run P w=_
  simp only [Sem.bind]
  cases vlo with
  | none=>have:lo=0:=h1;subst this;rfl
  | some v=>obtain ⟨k,rfl⟩:=h1;exact (run_bind_ok (bound_run h3)).trans rfl
 | some u =>
  obtain ⟨k',rfl⟩:=h2
  refine (run_bind_ok (bound_run h4)).trans ?_
  cases vlo with
  | none=>have:lo=0:=h1;subst this;rfl
  | some v=>obtain ⟨k,rfl⟩:=h1;exact (run_bind_ok (bound_run h3)).trans rfl
theorem exec_sl {P:Program} {ρ:Operand->Value} {w:World} {d:Option Nat} {T:TypeId} {x:Operand} {lo hi:Option Operand} {ty:TypeId} {pos:String} {af:Array Edge} {g:Option (Nat×Bool)} {e esz by' sz:Nat} {ag:Bool} {zr:List Value}
  (ht:tiOk P T ⟨.slice e esz by',sz,ag,zr⟩=true) {a:Option Addr} {len cap nl nh:Nat} (hx:ρ x = .slice a len cap) (h1:bnd 0 (lo.map ρ) nl) (h2:bnd len (hi.map ρ) nh) (h3:nl<=nh) (h4:nh<=cap) :
  (execOp ρ ⟨d,.slice T x lo hi none,ty,pos,af,g⟩).run P w = .ok (.value (.slice (if cap=nl then a else a.map (·.add (nl*esz))) (nh-nl) (cap-nl))) w:=by
 obtain ⟨dd,xx,zz,hT⟩:=tiOk_und ht
 obtain ⟨rfl,hel⟩:=hT.sl _ _ _ rfl
 obtain ⟨y,z,hy,hys,_⟩:=elemOk_of hel
 simp only [execOp,hx]
 refine (run_bind_ok (P:=P) (x:=_) (w':=w) ?_).trans rfl
 simp only [Instr.sliceAt]
 rw [run_bind_ok (und_run hT.und w)]
 simp only [Instr.slice]
 rw [run_bind_ok (und_run hT.und w)]
 simp only [Option.map_none]
 rw [run_bind_ok (bounds_run h1 h2 h3 h4)]
 simp only
 rw [run_bind_ok (size_run hy w),hys]
 rfl
section
variable {C:Cx} {s:St} {w:World}
theorem sl {md:Option Md} {ops:Array Oper} {T:TypeId} {x:Operand} {lo hi:Option Operand} {d:Nat} {ty:TypeId} {pos:String} {af:Array Edge} {g:Option (Nat×Bool)} {rest:List Oper} {k:List Item} {l:Env} {c:CEnv} {e esz by' sz:Nat} {ag:Bool} {zr:List Value}
  {a:Option Addr} {len cap:Nat} (nl nh:Nat) {vlo vhi:Option Value} (h:Wk C (.reg md ops rest k ((d,.slice (if cap=nl then a else a.map (·.add (nl*esz))) (nh-nl) (cap-nl))::l) c) w)
  (hs:adv C.tab C.n C.ks 400 s = .opn md ops ⟨some d,.slice T x lo hi none,ty,pos,af,g⟩ rest k l c []:=by rfl) (ht:C.tab.at T=some ⟨.slice e esz by',sz,ag,zr⟩:=by rfl) (hx:evc l c [] x=some (.slice a len cap):=by rfl)
  (hlo:evo l c [] lo=some vlo:=by rfl) (hhi:evo l c [] hi=some vhi:=by rfl) (h1:bnd 0 vlo nl:=by first | rfl | exact ⟨_,rfl⟩) (h2:bnd len vhi nh:=by first | rfl | exact ⟨_,rfl⟩) (h3:nl<=nh:=by omega) (h4:nh<=cap:=by omega) (hf:fresh d l c []=true:=by rfl):Wk C s w :=
 rd (p:=[]) (fun hT _ hA hp _ _=>exec_sl (tab_at hT ht) (evc_ok hA.k hA.kc.c hp hx) (by rw [evo_ok hA.k hA.kc.c hp hlo];exact h1) (by rw [evo_ok hA.k hA.kc.c hp hhi];exact h2) h3 h4) h hs rfl hf (okR_no rfl)
theorem cv {md:Option Md} {ops:Array Oper} {S T:TypeId} {x:Operand} {d:Nat} {ty:TypeId} {pos:String} {af:Array Edge} {g:Option (Nat×Bool)} {rest:List Oper} {k:List Item} {l:Env} {c:CEnv} {ka kb ks:IntKind} {a:Int}
  (hS:C.P.underlying S=some (.int ks)) (hT:C.P.underlying T=some (.int kb)) (h:Wk C (.reg md ops rest k ((d,.int kb (kb.wrap a))::l) c) w)
  (hs:adv C.tab C.n C.ks 400 s = .opn md ops ⟨some d,.convert S T x,ty,pos,af,g⟩ rest k l c []:=by rfl) (hx:evc l c [] x=some (.int ka a):=by rfl) (hf:fresh d l c []=true:=by rfl):Wk C s w :=
 rd (p:=[]) (fun _ _ hA hp w' _=>by
  simp only [execOp,evc_ok hA.k hA.kc.c hp hx]
  refine (run_bind_ok (P:=C.P) (x := .int kb (kb.wrap a)) (w':=w') ?_).trans rfl
  unfold convert
  rw [run_bind_ok (und_run hS w'),run_bind_ok (und_run hT w')]
  rfl) h hs rfl hf (okR_no rfl)
theorem stx {md:Option Md} {ops:Array Oper} {T:TypeId} {x y:Operand} {ty:TypeId} {pos:String} {af:Array Edge} {g:Option (Nat×Bool)} {rest:List Oper} {k:List Item} {l:Env} {c:CEnv} {tk:TK} {ag:Bool} {zr:List Value} {b o:Nat} {t:TypeId} {v:Value} {cs:List Value}
  (hb:Box w b t cs) (h:∀ w',Wr w b w'->Box w' b t (cs.set o v)->Wk C (.reg md ops rest k l c) w')
  (hs:adv C.tab C.n C.ks 400 s = .opn md ops ⟨none,.store T x y,ty,pos,af,g⟩ rest k l c []:=by rfl) (ht:C.tab.at T=some ⟨tk,1,ag,zr⟩:=by rfl)
  (hx:evc l c [] x=some (.pointer (some ⟨b,o,none⟩)):=by rfl) (hy:evc l c [] y=some v:=by rfl) (hv:v.oneCell'=true:=by rfl) (ho:o<cs.length:=by omega) (hm:∀ w',Wr w b w'->mdW md w w':=by intros;exact True.intro) (hnt:notT md=true:=by rfl):Wk C s w :=
 op_unit (okW_of rfl hnt) (hm _ (setCell_wr w b o v)) (w':=w.setCell ⟨b,o,none⟩ v) (fun hT a hA=>by
  have hz:=(ti_agg (tab_at hT ht) w).2
  have hc1:v.cells=#[v]:=by cases v <;> first | rfl | (simp [Value.oneCell'] at hv)
  simp only [execOp,evc_ok hA.k hA.kc.c (p:=[]) trivial hx,evc_ok hA.k hA.kc.c (p:=[]) trivial hy,Instr.storeAt,Instr.sureAddr]
  refine (run_bind_ok (P:=C.P) (x:=()) (w':=w.setCell ⟨b,o,none⟩ v) ?_).trans rfl
  show (storeVar T ⟨b,o,none⟩ v).run C.P w=_
  unfold storeVar
  rw [run_bind_ok hz,hc1,if_neg (by simp)]
  show (storeCells ⟨b,o,none⟩ [v] 0).run C.P w=_
  simp only [storeCells]
  rw [add_none,Nat.add_zero,run_bind_ok (store_run hb ho hv)];rfl)
  (h _ (setCell_wr w b o v) (setCell_box hb v)) hs rfl
def settleL (p:Path):CEnv->Env->Env
 | [],l=>l
 | (d,q,v)::c,l=>match subPath q p with
  | true=>(d,v)::settleL p c l
  | false=>settleL p c l
def settleC (p:Path):CEnv->CEnv
 | []=>[]
 | (d,q,v)::c=>match subPath q p with
  | true=>settleC p c
  | false=>(d,q,v)::settleC p c
def bools:Path->Env->Env
 | [],l=>l
 | (s,b)::p,l=>(s,.bool b)::bools p l
theorem bools_ok {a:Act}:∀ {p:Path} {l:Env},holds a p->Knows l a->Knows (bools p l) a
 | [],_,_,h=>h
 | (s,b)::p,l,hp,h=>by
  intro j v hv
  simp only [bools,look] at hv
  cases hb:Nat.beq s j with
  | true=>simp only [hb,cond_true,Option.some.injEq] at hv;have:=Nat.eq_of_beq_eq_true hb;subst this;rw [<-hv];exact hp.1
  | false=>simp only [hb,cond_false] at hv;exact bools_ok hp.2 h j v hv
theorem settleL_ok {a:Act} {p:Path} (hp:holds a p):∀ {c:CEnv} {l:Env},KnowsD c a->Knows l a->Knows (settleL p c l) a
 | [],_,_,h=>h
 | (d,q,u)::c,l,hc,h=>by
  have hc':KnowsD c a:=fun d q v hm=>hc d q v (List.mem_cons_of_mem _ hm)
  simp only [settleL]
  cases hs:subPath q p with
  | false=>exact settleL_ok hp hc' h
  | true =>
   intro j v hv
   simp only [look] at hv
   cases hb:Nat.beq d j with
   | true=>simp only [hb,cond_true,Option.some.injEq] at hv;have:=Nat.eq_of_beq_eq_true hb;subst this;rw [<-hv];exact (hc d q u (List.mem_cons_self ..)).1 (subPath_ok hs hp)
   | false=>simp only [hb,cond_false] at hv;exact settleL_ok hp hc' h j v hv
theorem settleC_mem {p:Path}:∀ {c:CEnv} {x:Nat×Path×Value},x∈settleC p c->x∈c
 | [],_,h=>by cases h
 | (d,q,u)::c,x,h=>by
  simp only [settleC] at h
  cases hs:subPath q p with
  | true=>rw [hs] at h;exact List.mem_cons_of_mem _ (settleC_mem h)
  | false =>
   rw [hs] at h
   cases h with
   | head=>exact List.mem_cons_self ..
   | tail _ h=>exact List.mem_cons_of_mem _ (settleC_mem h)
theorem sp {md:Option Md} {ops:Array Oper} {o:Oper} {rest:List Oper} {k:List Item} {l:Env} {c:CEnv} {gs:Nat} {gb gt:Bool} {d:Nat} (u:Value)
  (h1:gt=gb->Wk C (.opn md ops o rest k (bools [(gs,gb)] (settleL [(gs,gb)] c l)) (settleC [(gs,gb)] c) []) w) (h2:gt=(!gb)->Wk C (.reg md ops rest k l ((d,[(gs,gb)],u)::c)) w)
  (hs:adv C.tab C.n C.ks 400 s = .opn md ops o rest k l c [(gs,gb)]:=by rfl) (hg:evc l c [] (.tmp gs)=some (.bool gt):=by rfl) (hd:o.dst=some d:=by rfl) (hf:fresh d l c [(gs,gb)]=true:=by rfl):Wk C s w:=by
 refine by_adv hs ⟨fun ht hfn hdk a hA hw => ?_⟩
 have e1:a.tmps.getD gs undef = .bool gt:=evc_ok hA.k hA.kc.c (p:=[]) trivial hg
 by_cases hb:gt=gb
 ·have hp:holds a [(gs,gb)]:=⟨by rw [e1,hb],trivial⟩
  refine (h1 hb).run ht hfn hdk a ⟨hA.size,hA.defers,bools_ok hp (settleL_ok hp hA.kc hA.k),fun d q v hm=>hA.kc d q v (settleC_mem hm)⟩ ?_
  exact ⟨fun _=>trivial,fun _=>hw.2 hp⟩
 ·have hp:¬holds a [(gs,gb)]:=fun hh=>by have:=hh.1;rw [e1] at this;exact hb (Value.bool.inj this)
  have hb':gt=(!gb):=by cases gt <;> cases gb <;> simp_all
  rw [hd] at hdk
  refine listS_skip (fun hc=>hp (hw.1 hc)) ?_
  rw [hd]
  exact (h2 hb').run ht hfn _ ((ok_put (v:=u) (u:=undef) (p:=[(gs,gb)]) hA hdk hf).2 (by simp) (fun hh=>(hp hh).elim) (fun _=>rfl))
theorem sp2 {md:Option Md} {ops:Array Oper} {o:Oper} {rest:List Oper} {k:List Item} {l:Env} {c:CEnv} {gs gs':Nat} {gb gt gb' gt':Bool} {d:Nat} (u:Value)
  (h1:gt'=gb'->gt=gb->Wk C (.opn md ops o rest k (bools [(gs,gb),(gs',gb')] (settleL [(gs,gb),(gs',gb')] c l)) (settleC [(gs,gb),(gs',gb')] c) []) w) (h2:¬(gt'=gb'/\gt=gb)->Wk C (.reg md ops rest k l ((d,[(gs,gb),(gs',gb')],u)::c)) w)
  (hs:adv C.tab C.n C.ks 400 s = .opn md ops o rest k l c [(gs,gb),(gs',gb')]:=by rfl) (hg':evc l c [] (.tmp gs')=some (.bool gt'):=by rfl) (hg:evc l c [(gs',gb')] (.tmp gs)=some (.bool gt):=by rfl) (hd:o.dst=some d:=by rfl) (hf:fresh d l c [(gs,gb),(gs',gb')]=true:=by rfl):Wk C s w:=by
 refine by_adv hs ⟨fun ht hfn hdk a hA hw => ?_⟩
 by_cases hp:holds a [(gs,gb),(gs',gb')]
 ·obtain ⟨e1,e2⟩:=guard2 hA hg' hg hp
  refine (h1 e1 e2).run ht hfn hdk a ⟨hA.size,hA.defers,bools_ok hp (settleL_ok hp hA.kc hA.k),fun d q v hm=>hA.kc d q v (settleC_mem hm)⟩ ?_
  exact ⟨fun _=>trivial,fun _=>hw.2 hp⟩
 ·have hn:¬(gt'=gb'/\gt=gb):=fun ⟨e1,e2⟩=>hp (by
   have e3:a.tmps.getD gs' undef = .bool gt':=evc_ok hA.k hA.kc.c (p:=[]) trivial hg'
   have hq:holds a [(gs',gb')]:=⟨by rw [e3,e1],trivial⟩
   have e4:a.tmps.getD gs undef = .bool gt:=evc_ok hA.k hA.kc.c (p:=[(gs',gb')]) hq hg
   exact ⟨by rw [e4,e2],hq⟩)
  rw [hd] at hdk
  refine listS_skip (fun hc=>hp (hw.1 hc)) ?_
  rw [hd]
  exact (h2 hn).run ht hfn _ ((ok_put (v:=u) (u:=undef) (p:=[(gs,gb),(gs',gb')]) hA hdk hf).2 (by simp) (fun hh=>(hp hh).elim) (fun _=>rfl))
end
end Go.Proofs.YtdjkoljonlcemaaGreat.Eng

/- Rows of the call's own as lists: what is appended, what is stored, what is read. -/
namespace Go.Proofs.YtdjkoljonlcemaaGreat
open Eng Go.RowKit
theorem flat_get {α:Type} {sz:Nat} {enc:α->List Value} (h:∀ x,(enc x).length=sz):∀ {l:List α} {i:Nat} {x:α},l[i]? = some x->∀ j,j<sz->(l.flatMap enc)[i*sz+j]? = (enc x)[j]?
 | [],i,x,hx,_,_=>by simp at hx
 | y::l,0,x,hx,j,hj=>by
  simp at hx;subst hx
  rw [List.flatMap_cons,Nat.zero_mul,Nat.zero_add,List.getElem?_append_left (by rw [h];exact hj)]
 | y::l,i+1,x,hx,j,hj=>by
  have:=flat_get h (l:=l) (i:=i) (by simpa using hx) j hj
  rw [List.flatMap_cons,List.getElem?_append_right (by rw [h,Nat.succ_mul];omega),h,<-this]
  congr 1;rw [Nat.succ_mul];omega
theorem flat_length {α:Type} {sz:Nat} {enc:α->List Value} (h:∀ x,(enc x).length=sz) (l:List α):(l.flatMap enc).length=l.length*sz:=by
 induction l with
 | nil=>simp
 | cons x l ih=>simp [ih,h,Nat.succ_mul];omega
theorem plain_sz {α:Type} {sz:Nat} {enc:α->List Value} {h:∀ x,(enc x).length=sz}:(plainEl sz enc h).sz=sz:=rfl
theorem Eng.Ow.sl {α:Type} {sz:Nat} {enc:α->List Value} {h:∀ x,(enc x).length=sz} {w:World} {base e cap n:Nat} {a:Option Addr} {l:List α} (hO:Ow w base e sz a n cap (l.flatMap enc)) (hn:n=l.length) (hl:l.length<=4194304)
  {S:Nat->Prop} (hS:∀ g,a=some ⟨g,0,none⟩->S g):Sl (plainEl sz enc h) S w a l:=by
 refine ⟨hl,fun i x hx => ?_⟩
 have hi:i<l.length:=(List.getElem?_eq_some_iff.1 hx).1
 rcases hO.shape with ⟨_,h0,_⟩ | ⟨g,cur,rfl,_⟩
 ·omega
 ·refine ⟨g,0,enc x,rfl,hS g rfl,fun j v hj => ?_,rfl⟩
  have hj':j<sz:=by rw [<-h x];exact (List.getElem?_eq_some_iff.1 hj).1
  have:=hO.at rfl (i*sz+j) v (by rw [flat_get h hx j hj'];exact hj)
  rw [Nat.zero_add] at this
  rw [Nat.zero_add,plain_sz];exact this
theorem Eng.Ow.box {w:World} {base e esz:Nat} {n cap:Nat} {xs:List Value} {g:Nat} (h:Ow w base e esz (some ⟨g,0,none⟩) n cap xs):∃ cur,Box w g e cur/\cur.length=cap*esz/\cur.take (n*esz)=xs/\n<=cap/\n*esz<=cur.length:=by
 rcases h.shape with ⟨h0,_⟩ | ⟨g',cur,hg,_,h2,h3,h4,h5⟩
 ·cases h0
 ·simp only [Option.some.injEq,Addr.mk.injEq,and_true] at hg
  subst hg
  refine ⟨cur.toList,?_,by simpa using h4,h5,h3,?_⟩
  ·unfold Box;rw [Array.toArray_toList];exact h2
  ·rw [Array.length_toList,h4];exact Nat.mul_le_mul_right _ h3
theorem at_some {α:Type} {E:El α} {S:Nat->Prop} {w:World} {a:Option Addr} {l:List α} (h:Sl E S w a l) {i:Nat} (hi:i<l.length):∃ x b o cs,l[i]? = some x/\a=some ⟨b,o,none⟩/\S b/\At w b (o+i*E.sz) cs/\E.rel S w cs x:=by
 obtain ⟨x,hx⟩:=some_of_lt hi
 obtain ⟨b,o,cs,h1⟩:=h.el i x hx
 exact ⟨x,b,o,cs,hx,h1⟩
def ofL (l:List UInt8):ByteArray:=⟨l.toArray⟩
theorem src_of {α:Type} {sz:Nat} {enc:α->List Value} {h:∀ x,(enc x).length=sz} {S:Nat->Prop} {w:World} {a:Option Addr} {l:List α} (hS:Sl (plainEl sz enc h) S w a l):Eng.Src w a l.length (l.flatMap enc):=by
 cases l with
 | nil =>
  exact .inl ⟨rfl,rfl⟩
 | cons x l =>
  obtain ⟨b,o,cs,e,hs,hat,rfl⟩:=hS.el 0 x rfl
  refine .inr ⟨b,o,e,?_⟩
  intro j v hj
  have hlt:j<((x::l).flatMap enc).length:=(List.getElem?_eq_some_iff.1 hj).1
  rw [flat_length h] at hlt
  have hsz:0<sz:=by
   rcases Nat.eq_zero_or_pos sz with h0 | h0
   ·rw [h0] at hlt;simp at hlt
   ·exact h0
  have hq:j / sz<(x::l).length:=Nat.div_lt_of_lt_mul (by rw [Nat.mul_comm];exact hlt)
  obtain ⟨y,hy⟩:=some_of_lt hq
  have hm:j % sz<sz:=Nat.mod_lt _ hsz
  have e1:j / sz*sz+j % sz=j:=by rw [Nat.mul_comm];exact Nat.div_add_mod j sz
  have:=flat_get h hy (j % sz) hm
  rw [e1,hj] at this
  obtain ⟨b',o',cs',e',_,hat',rfl⟩:=hS.el _ y hy
  rw [e] at e'
  simp only [Option.some.injEq,Addr.mk.injEq,and_true] at e'
  obtain ⟨rfl,rfl⟩:=e'
  have h2:=hat' _ _ this.symm
  rw [plain_sz,Nat.add_assoc,e1] at h2;exact h2
abbrev OwP {α:Type} (sz:Nat) (enc:α->List Value) (w:World) (base e:Nat) (a:Option Addr) (cap:Nat) (l:List α):Prop:=Ow w base e sz a l.length cap (l.flatMap enc)
theorem owp_sl {α:Type} {sz:Nat} {enc:α->List Value} {w:World} {base e cap:Nat} {a:Option Addr} {l:List α} (hO:OwP sz enc w base e a cap l) (hl:l.length<=4194304) {S:Nat->Prop} (hS:∀ g,a=some ⟨g,0,none⟩->S g) (h:∀ x,(enc x).length=sz:=by exact fun _=>rfl):Sl (plainEl sz enc h) S w a l :=
 Eng.Ow.sl hO rfl hl hS
theorem Eng.apl {C:Cx} {s:St} {w:World} {md:Option Md} {ops:Array Oper} {T T':TypeId} {x y:Operand} {d:Nat} {ty:TypeId} {pos:String} {af:Array Edge} {g:Option (Nat×Bool)} {rest:List Oper} {k:List Item} {l:Env} {c:CEnv} {e esz by' sz:Nat} {ag:Bool} {zr:List Value}
  {α:Type} {enc:α->List Value} {base:Nat} {a:Option Addr} {cap:Nat} {l0:List α} {ay:Option Addr} {cy:Nat} {l1:List α} (hO:OwP esz enc w base e a cap l0) (hsrc:Eng.Src w ay l1.length (l1.flatMap enc)) (hbase:base<=w.heap.size)
  (h:∀ a' cap' w',OwP esz enc w' base e a' cap' (l0++l1)->Ap w a w'->(∀ g,a'=some ⟨g,0,none⟩->a=some ⟨g,0,none⟩∨w.heap.size<=g)->Wk C (.reg md ops rest k ((d,.slice a' (l0++l1).length cap')::l) c) w')
  (hs:adv C.tab C.n C.ks 400 s = .opn md ops ⟨some d,.call ⟨.builtin .append,#[x,y],#[T,T']⟩,ty,pos,af,g⟩ rest k l c []:=by rfl) (ht:C.tab.at T=some ⟨.slice e esz by',sz,ag,zr⟩:=by rfl)
  (hx:evc l c [] x=some (.slice a l0.length cap):=by rfl) (hy:evc l c [] y=some (.slice ay l1.length cy):=by rfl) (hTT:T'=T:=by rfl) (hsz:Nat.blt 0 esz=true:=by rfl) (hl:∀ x,(enc x).length=esz:=by exact fun _=>rfl) (h1:∀ x,(enc x).all Value.oneCell'=true:=by exact fun _=>rfl)
  (hb:(l0.length+l1.length)*by'<=140737488355328:=by first | omega | (simp only [List.length_nil,List.length_append,List.length_cons,List.length_map];omega)) (hn:l0.length+l1.length<=1152921504606846976:=by first | omega | (simp only [List.length_nil,List.length_append,List.length_cons,List.length_map];omega)) (hf:fresh d l c []=true:=by rfl) (hm:∀ w',Ap w a w'->mdW md w w':=by intros;exact True.intro) (hnt:notT md=true:=by rfl):Wk C s w:=by
 refine ap hO hsrc hbase (fun a' cap' w' hO' hA hfr => ?_) hs ht hx hy hTT hsz (flat_length hl l1) ?_ hb hn hf hm hnt
 ·have:=h a' cap' w' (by unfold OwP;rw [List.length_append,List.flatMap_append];exact hO') hA hfr
  rw [List.length_append] at this;exact this
 ·rw [List.all_flatMap,List.all_eq_true];exact fun x _=>h1 x
theorem Sl.lt {α:Type} {sz:Nat} {enc:α->List Value} {h:∀ x,(enc x).length=sz} (hsz:0<sz) {S:Nat->Prop} {w:World} {a:Option Addr} {l:List α} (hS:Sl (plainEl sz enc h) S w a l):Sl (plainEl sz enc h) (· < w.heap.size) w a l :=
 ⟨hS.big,fun i x hx=>by
  obtain ⟨b,o,cs,e,_,hat,rfl⟩:=hS.el i x hx
  obtain ⟨v,hv⟩:=some_of_lt (l:=enc x) (k:=0) (by rw [h];exact hsz)
  exact ⟨b,o,_,e,cell_lt (hat 0 v hv),hat,rfl⟩⟩
theorem UnR.lt {S:Nat->Prop} {w:World} {u:Unt} {a:UA} (h:UnR S w u a):UnR (· < w.heap.size) w u a:=by
 refine ⟨h.nm,h.ps,Sl.lt (by decide) h.pool,⟨h.cls.big,fun i x hx => ?_⟩,Sl.lt (by decide) h.sta,⟨h.mth.big,fun i x hx => ?_⟩⟩
 ·obtain ⟨b,o,cs,e,_,hat,af,cf,rfl,hf⟩:=h.cls.el i x hx
  exact ⟨b,o,_,e,cell_lt (hat 0 _ rfl),hat,af,cf,rfl,Sl.lt (by decide) hf⟩
 ·obtain ⟨b,o,cs,e,_,hat,a1,c1,a2,c2,a3,c3,rfl,h1,h2,h3⟩:=h.mth.el i x hx
  exact ⟨b,o,_,e,cell_lt (hat 0 _ rfl),hat,a1,c1,a2,c2,a3,c3,rfl,Sl.lt (by decide) h1,Sl.lt (by decide) h2,Sl.lt (by decide) h3⟩
theorem At.tail {w:World} {b o:Nat} {x:Value} {cs:List Value} (h:At w b o (x::cs)):At w b (o+1) cs:=fun j v hj=>by
 have:=h (j+1) v (by simpa using hj)
 rw [Nat.add_assoc,Nat.add_comm 1 j];exact this
theorem At.left {w:World} {b o:Nat} {cs ds:List Value} (h:At w b o (cs++ds)):At w b o cs:=fun j v hj=>h j v (by rw [List.getElem?_append_left (List.getElem?_eq_some_iff.1 hj).1];exact hj)
end Go.Proofs.YtdjkoljonlcemaaGreat

/- The engine, tenth part: maps whose keys are strings, as lists of pairs. No program stands here. -/
namespace Go.Proofs.YtdjkoljonlcemaaGreat
open Go Go.RowKit Eng
abbrev Mp (α:Type):=List (ByteArray×α)
def getM {α:Type}:Mp α->ByteArray->Option α
 | [],_=>none
 | (k',v)::m,k=>if k'=k then some v else getM m k
def putM {α:Type}:Mp α->ByteArray->α->Mp α
 | [],k,v=>[(k,v)]
 | (k',v')::m,k,v=>if k'=k then (k,v)::m else (k',v')::putM m k v
def hasM {α:Type} (m:Mp α) (k:ByteArray):Bool:=(getM m k).isSome
def keysM {α:Type} (m:Mp α):List ByteArray:=m.map (·.1)
abbrev kv (e:MapEntry):Value×Value:=(e.key,e.val)
abbrev kvm {α:Type} (enc:α->Value) (p:ByteArray×α):Value×Value:=(.string p.1,enc p.2)
structure MapIs {α:Type} (enc:α->Value) (w:World) (b:Nat) (m:Mp α):Prop where
 is:∃ es clock,w.heap[b]? = some (.map es clock)/\es.toList.map kv=m.map (kvm enc)/\MapKept.Stamped es clock
theorem MapIs.lt {α:Type} {enc:α->Value} {w:World} {b:Nat} {m:Mp α} (h:MapIs enc w b m):b<w.heap.size:=by
 obtain ⟨es,clock,h1,_⟩:=h.is
 exact (Array.getElem?_eq_some_iff.1 h1).1
theorem MapIs.same {α:Type} {enc:α->Value} {w w':World} {b:Nat} {m:Mp α} (h:MapIs enc w b m) (hs:w'.heap[b]? = w.heap[b]?):MapIs enc w' b m:=by
 obtain ⟨es,clock,h1,h2⟩:=h.is
 exact ⟨⟨es,clock,hs.trans h1,h2⟩⟩
theorem MapIs.bl {α:Type} {enc:α->Value} {w w':World} {b:Nat} {m:Mp α} (h:MapIs enc w b m) (k:Bl w w'):MapIs enc w' b m:=h.same (k.block b h.lt)
theorem MapIs.ne {α:Type} {enc:α->Value} {w:World} {b c:Nat} {m:Mp α} {t:TypeId} {cs:List Value} (h:MapIs enc w b m) (hb:Box w c t cs):b≠c:=by
 rintro rfl
 obtain ⟨es,clock,h1,_⟩:=h.is
 unfold Box at hb
 rw [h1] at hb;cases hb
theorem MapIs.ow {α:Type} {enc:α->Value} {w:World} {b base e esz n cap:Nat} {a:Option Addr} {xs:List Value} {m:Mp α} (h:MapIs enc w b m) (hO:Ow w base e esz a n cap xs):a≠some ⟨b,0,none⟩:=by
 rintro rfl
 obtain ⟨cur,hb,_⟩:=hO.box
 exact h.ne hb rfl
theorem MapIs.len {α:Type} {enc:α->Value} {w:World} {b:Nat} {m:Mp α} (h:MapIs enc w b m):∃ es clock,w.heap[b]? = some (.map es clock)/\es.size=m.length:=by
 obtain ⟨es,clock,h1,h2,_⟩:=h.is
 refine ⟨es,clock,h1,?_⟩
 have:=congrArg List.length h2
 simpa using this
theorem setMap_wr (w:World) (b:Nat) (o:Obj):Wr w b { w with heap:=w.heap.setIfInBounds b o } :=
 ⟨rfl,rfl,rfl,by simp,fun k hk=>by simp only [Array.getElem?_setIfInBounds];rw [if_neg (fun e=>hk e.symm)]⟩
namespace Eng
variable {C:Cx} {s:St} {w:World}
structure NewM (w:World) (b:Nat) (w':World):Prop where
 blk:b=w.heap.size
 eq:w'=w.alloc (.map #[] 0)
theorem NewM.bl {w w':World} {b:Nat} (h:NewM w b w'):Bl w w':=by rw [h.eq];exact (Below.refl _ _).alloc (Nat.le_refl _) _
theorem NewM.size {w w':World} {b:Nat} (h:NewM w b w'):w'.heap.size=w.heap.size+1:=by rw [h.eq];show (w.heap.push _).size=_;simp
theorem NewM.is {w w':World} {b:Nat} (h:NewM w b w') {α:Type} (enc:α->Value):MapIs enc w' b []:=by
 refine ⟨⟨#[],0,?_,rfl,MapKept.stamped_empty 0⟩⟩
 rw [h.eq,h.blk];show (w.heap.push _)[w.heap.size]? = _;simp
theorem mm {md:Option Md} {ops:Array Oper} {T:TypeId} {d:Nat} {ty:TypeId} {pos:String} {af:Array Edge} {g:Option (Nat×Bool)} {rest:List Oper} {k:List Item} {l:Env} {c:CEnv}
  (h:∀ b w',NewM w b w'->Wk C (.reg md ops rest k ((d,.map (some b))::l) c) w')
  (hs:adv C.tab C.n C.ks 400 s = .opn md ops ⟨some d,.makeMap T none,ty,pos,af,g⟩ rest k l c []:=by rfl) (hf:fresh d l c []=true:=by rfl) (hnt:notT md=true:=by rfl):Wk C s w :=
 op_val (v := .map (some w.heap.size)) (w':=w.alloc (.map #[] 0)) (okW_of rfl hnt) (mdW_bl (NewM.bl ⟨rfl,rfl⟩)) (fun _ a hA=>by
  simp only [execOp,Option.map_none]
  exact (run_bind_ok (show (Instr.makeMap T none).run C.P w = .ok (.map (some w.heap.size)) (w.alloc (.map #[] 0)) from rfl)).trans rfl) (h _ _ ⟨rfl,rfl⟩) hs rfl hf
end Eng
end Go.Proofs.YtdjkoljonlcemaaGreat

/- Simple names and paths as functions on lists of bytes. No program stands here. -/
namespace Go.Proofs.YtdjkoljonlcemaaGreat
open Go.RowKit Eng
def low (c:UInt8):Bool:=decide (97<=(c.toNat:Int))&&decide ((c.toNat:Int)<=122)
def upp (c:UInt8):Bool:=decide (65<=(c.toNat:Int))&&decide ((c.toNat:Int)<=90)
def dgt (c:UInt8):Bool:=decide (48<=(c.toNat:Int))&&decide ((c.toNat:Int)<=57)
def alnum (c:UInt8):Bool:=low c||upp c||dgt c
def simpleL (l:List UInt8):Bool:=decide (l.length<=12)&&(match l with | []=>false | c::_=>low c)&&l.all alnum
theorem ba_len (s:ByteArray):s.data.toList.length=s.size:=Array.length_toList
theorem wrap_fit {a:Int} (h0 : -9223372036854775808<=a) (h1:a<=9223372036854775807):IntKind.i64.wrap a=a:=IntWalk.i64_in a (by omega)
theorem wrap_succ {k n:Nat} (h:k<n) (hn:n<=4611686018427387904:=by omega):IntKind.i64.wrap ((k:Int)+1)=((k+1:Nat):Int):=by rw [wrap_fit (by omega) (by omega)];rfl
theorem lst1 {α:Type} {a a':α} (h:a=a'):[a]=[a']:=by rw [h]
theorem lst2 {α:Type} {a a' b b':α} (h:a=a') (h2:b=b'):[a,b]=[a',b']:=by rw [h,h2]
theorem inc {k n:Nat} (h:k<n) (hn:n<=4611686018427387904:=by omega):Value.int .i64 (IntKind.i64.wrap ((k:Int)+1))=I ((k+1:Nat):Int):=by rw [wrap_succ h hn]
theorem Eng.lpk {C:Cx} {s:St} {w:World} {c:Code} {k:List Item} {l:Env} {vals:List Value} (n i:Nat) (sel:List Nat) (keep:Env) (Inv:Nat->List Value->World->Prop) (h0:Inv 0 vals w)
  (hr:∀ j vals w',j<=n->Inv j vals w' ->
   (∀ {s':St} {l'':Env} {vals'':List Value} {w'':World},j<n->Inv (j+1) vals'' w''->(hs:adv C.tab C.n C.ks 400 s' = .code (.inLoop c::k) l'':=by rfl) ->
    (hsub:Sub keep l'':=by repeat (first | exact True.intro | (refine ⟨rfl,?_⟩)))->(hv:lookAll l'' (i::sel)=some (.int .i64 (IntKind.i64.wrap ((j:Int)+1))::vals''):=by rfl)->Wk C s' w'') ->
   Wk C (.code (.code c :: .inLoop c::k) ((i,I j)::pair sel vals keep)) w')
  (hs:adv C.tab C.n C.ks 400 s = .code (.code (.loop c)::k) l:=by rfl) (hkeep:Sub keep l:=by repeat (first | exact True.intro | (refine ⟨rfl,?_⟩))) (hv:lookAll l (i::sel)=some (I 0::vals):=by rfl)
  (hn:n<=4611686018427387904:=by omega):Wk C s w:=by
 refine lp (i::sel) keep (fun m vs w'=>∃ j vals,j<=n/\m=n-j/\vs=I (j:Nat)::vals/\Inv j vals w') hkeep ⟨0,vals,Nat.zero_le _,rfl,rfl,h0⟩ ?_ hs hv
 rintro m _ w' ⟨j,vals,hj,rfl,rfl,hI⟩ ih
 refine hr j vals w' hj hI ?_
 intro s' l'' vals'' w'' hlt hI2 hs2 hsub hv2
 refine by_adv hs2 (ih _ _ _ _ ?_ hsub hv2 ⟨j+1,vals'',hlt,rfl,?_,hI2⟩)
 ·omega
 ·rw [inc hlt]
end Go.Proofs.YtdjkoljonlcemaaGreat

/- Paths as functions on lists of bytes. No program stands here. -/
namespace Go.Proofs.YtdjkoljonlcemaaGreat
open Eng Go.RowKit
def cutDot:List UInt8->List (List UInt8)
 | []=>[[]]
 | c::r=>if c=46 then []::cutDot r else match cutDot r with
  | p::ps=>(c::p)::ps
  | []=>[[c]]
def pathL (l:List UInt8):Nat:=if (cutDot l).length<=3/\(cutDot l).all simpleL then (cutDot l).length else 0
def path (s:ByteArray):Nat:=pathL s.data.toList
end Go.Proofs.YtdjkoljonlcemaaGreat

/- What is known of the types that the operations name: written by a program off the translation. -/
namespace Go.Proofs.YtdjkoljonlcemaaGreat
open Eng
def tab:Tab:=[
 (3,⟨.other,1,false,[.int .i64 0]⟩),
 (4,⟨.other,1,false,[.bool false]⟩),
 (9,⟨.str,1,false,[.string ⟨#[]⟩]⟩),
 (22,⟨.slice 137 4 72,1,false,[.slice none 0 0]⟩),
 (23,⟨.slice 42 2 16,1,false,[.slice none 0 0]⟩),
 (24,⟨.slice 45 7 112,1,false,[.slice none 0 0]⟩),
 (26,⟨.struct [(0,1),(1,1),(2,1),(3,1)],4,true,[.slice none 0 0,.slice none 0 0,.slice none 0 0,.int .i64 0]⟩),
 (27,⟨.slice 3 1 8,1,false,[.slice none 0 0]⟩),
 (28,⟨.other,1,false,[.pointer none]⟩),
 (33,⟨.other,1,false,[.int .i64 0]⟩),
 (36,⟨.slice 46 2 16,1,false,[.slice none 0 0]⟩),
 (42,⟨.struct [(0,1),(1,1)],2,true,[.int .i64 0,.int .i64 0]⟩),
 (43,⟨.slice 53 3 24,1,false,[.slice none 0 0]⟩),
 (45,⟨.struct [(0,1),(1,1),(2,1),(3,1),(4,2),(6,1)],7,true,[.string ⟨#[]⟩,.int .i64 0,.slice none 0 0,.slice none 0 0,.int .i64 0,.int .i64 0,.slice none 0 0]⟩),
 (46,⟨.arr 2 3 1,2,true,[.int .i64 0,.int .i64 0]⟩),
 (53,⟨.struct [(0,1),(1,1),(2,1)],3,true,[.int .i64 0,.int .i64 0,.int .i64 0]⟩),
 (56,⟨.slice 60 3 24,1,false,[.slice none 0 0]⟩),
 (60,⟨.arr 3 3 1,3,true,[.int .i64 0,.int .i64 0,.int .i64 0]⟩),
 (61,⟨.slice 104 1 24,1,false,[.slice none 0 0]⟩),
 (62,⟨.other,1,false,[.pointer none]⟩),
 (63,⟨.slice 78 2 16,1,false,[.slice none 0 0]⟩),
 (64,⟨.slice 82 6 72,1,false,[.slice none 0 0]⟩),
 (65,⟨.other,1,false,[.map none]⟩),
 (66,⟨.other,1,false,[.map none]⟩),
 (68,⟨.struct [(0,1),(1,1)],2,true,[.int .i64 0,.int .i64 0]⟩),
 (69,⟨.arr 6 68 2,12,true,[.int .i64 0,.int .i64 0,.int .i64 0,.int .i64 0,.int .i64 0,.int .i64 0,.int .i64 0,.int .i64 0,.int .i64 0,.int .i64 0,.int .i64 0,.int .i64 0]⟩),
 (71,⟨.struct [(0,4),(4,1),(5,1),(6,1),(7,1),(8,1),(9,1),(10,1),(11,1),(12,12)],24,true,[.slice none 0 0,.slice none 0 0,.slice none 0 0,.int .i64 0,.slice none 0 0,.pointer none,.slice none 0 0,.slice none 0 0,.slice none 0 0,.map none,.map none,.int .i64 0,.int .i64 0,.int .i64 0,.int .i64 0,.int .i64 0,.int .i64 0,.int .i64 0,.int .i64 0,.int .i64 0,.int .i64 0,.int .i64 0,.int .i64 0,.int .i64 0]⟩),
 (72,⟨.other,1,false,[.pointer none]⟩),
 (73,⟨.other,1,false,[.nilFunc]⟩),
 (78,⟨.struct [(0,1),(1,1)],2,true,[.int .i64 0,.bool false]⟩),
 (79,⟨.slice 99 5 88,1,false,[.slice none 0 0]⟩),
 (80,⟨.slice 280 1 8,1,false,[.slice none 0 0]⟩),
 (82,⟨.struct [(0,1),(1,1),(2,1),(3,1),(4,1),(5,1)],6,true,[.slice none 0 0,.slice none 0 0,.bool false,.bool false,.int .i64 0,.int .i64 0]⟩),
 (85,⟨.slice 86 1 24,1,false,[.slice none 0 0]⟩),
 (86,⟨.slice 23 1 24,1,false,[.slice none 0 0]⟩),
 (88,⟨.slice 95 8 104,1,false,[.slice none 0 0]⟩),
 (91,⟨.struct [(0,4),(4,1),(5,1),(6,1),(7,1),(8,1),(9,1),(10,1)],11,true,[.slice none 0 0,.slice none 0 0,.slice none 0 0,.int .i64 0,.slice none 0 0,.slice none 0 0,.pointer none,.slice none 0 0,.slice none 0 0,.slice none 0 0,.slice none 0 0]⟩),
 (92,⟨.slice 121 5 88,1,false,[.slice none 0 0]⟩),
 (95,⟨.struct [(0,1),(1,1),(2,1),(3,1),(4,1),(5,1),(6,1),(7,1)],8,true,[.int .i64 0,.slice none 0 0,.slice none 0 0,.slice none 0 0,.bool false,.bool false,.int .i64 0,.int .i64 0]⟩),
 (97,⟨.slice 227 6 48,1,false,[.slice none 0 0]⟩),
 (99,⟨.struct [(0,1),(1,1),(2,1),(3,1),(4,1)],5,true,[.int .i64 0,.slice none 0 0,.slice none 0 0,.int .i64 0,.slice none 0 0]⟩),
 (104,⟨.slice 145 3 24,1,false,[.slice none 0 0]⟩),
 (118,⟨.other,1,false,[.pointer none]⟩),
 (121,⟨.struct [(0,1),(1,1),(2,1),(3,1),(4,1)],5,true,[.int .i64 0,.int .i64 0,.slice none 0 0,.slice none 0 0,.slice none 0 0]⟩),
 (124,⟨.other,1,false,[.pointer none]⟩),
 (127,⟨.other,1,false,[.pointer none]⟩),
 (130,⟨.other,1,false,[.pointer none]⟩),
 (133,⟨.struct [(0,1),(1,1),(2,1),(3,1),(4,1),(5,1),(6,1),(7,1),(8,1),(9,1)],10,true,[.int .i64 0,.int .i64 0,.pointer none,.pointer none,.pointer none,.int .i64 0,.int .i64 0,.bool false,.slice none 0 0,.int .i64 0]⟩),
 (137,⟨.struct [(0,1),(1,1),(2,1),(3,1)],4,true,[.string ⟨#[]⟩,.int .i64 0,.slice none 0 0,.slice none 0 0]⟩),
 (145,⟨.struct [(0,1),(1,1),(2,1)],3,true,[.int .i64 0,.int .i64 0,.int .i64 0]⟩),
 (154,⟨.struct [(0,1),(1,1),(2,1),(3,1),(4,1),(5,1),(6,1),(7,1),(8,1)],9,true,[.pointer none,.pointer none,.pointer none,.int .i64 0,.int .i64 0,.int .i64 0,.int .i64 0,.int .i64 0,.slice none 0 0]⟩),
 (156,⟨.slice 224 4 64,1,false,[.slice none 0 0]⟩),
 (158,⟨.struct [(0,4),(4,1),(5,1),(6,1)],7,true,[.slice none 0 0,.slice none 0 0,.slice none 0 0,.int .i64 0,.slice none 0 0,.slice none 0 0,.slice none 0 0]⟩),
 (171,⟨.other,1,false,[.pointer none]⟩),
 (174,⟨.other,1,false,[.map none]⟩),
 (176,⟨.struct [(0,1),(1,1)],2,true,[.pointer none,.map none]⟩),
 (180,⟨.other,1,false,[.map none]⟩),
 (182,⟨.struct [(0,1),(1,1),(2,1)],3,true,[.pointer none,.map none,.slice none 0 0]⟩),
 (184,⟨.slice 396 3 24,1,false,[.slice none 0 0]⟩),
 (185,⟨.other,1,false,[.map none]⟩),
 (187,⟨.struct [(0,1),(1,1),(2,1)],3,true,[.int .i64 0,.int .i64 0,.map none]⟩),
 (189,⟨.struct [(0,1),(1,1),(2,1),(3,3)],6,true,[.bool false,.slice none 0 0,.slice none 0 0,.int .i64 0,.int .i64 0,.map none]⟩),
 (191,⟨.struct [(0,4)],4,true,[.slice none 0 0,.slice none 0 0,.slice none 0 0,.int .i64 0]⟩),
 (192,⟨.other,1,false,[.pointer none]⟩),
 (193,⟨.slice 254 4 64,1,false,[.slice none 0 0]⟩),
 (195,⟨.struct [(0,4),(4,1),(5,1),(6,1),(7,1)],8,true,[.slice none 0 0,.slice none 0 0,.slice none 0 0,.int .i64 0,.slice none 0 0,.slice none 0 0,.slice none 0 0,.int .i64 0]⟩),
 (200,⟨.struct [(0,1),(1,1),(2,1),(3,1),(4,1),(5,1)],6,true,[.slice none 0 0,.slice none 0 0,.slice none 0 0,.slice none 0 0,.int .i64 0,.bool false]⟩),
 (211,⟨.slice 423 5 88,1,false,[.slice none 0 0]⟩),
 (213,⟨.struct [(0,1),(1,1)],2,true,[.slice none 0 0,.pointer none]⟩),
 (215,⟨.slice 4 1 1,1,false,[.slice none 0 0]⟩),
 (217,⟨.struct [(0,1),(1,1),(2,1),(3,1),(4,1)],5,true,[.slice none 0 0,.slice none 0 0,.int .i64 0,.int .i64 0,.slice none 0 0]⟩),
 (224,⟨.struct [(0,1),(1,1),(2,1),(3,1)],4,true,[.int .i64 0,.slice none 0 0,.slice none 0 0,.bool false]⟩),
 (227,⟨.struct [(0,1),(1,1),(2,1),(3,1),(4,1),(5,1)],6,true,[.int .i64 0,.int .i64 0,.int .i64 0,.int .i64 0,.int .i64 0,.bool false]⟩),
 (233,⟨.struct [(0,1),(1,1),(2,1)],3,true,[.pointer none,.int .i64 0,.pointer none]⟩),
 (236,⟨.slice 242 25 144,1,false,[.slice none 0 0]⟩),
 (238,⟨.struct [(0,1)],1,true,[.slice none 0 0]⟩),
 (239,⟨.arr 8 4 1,8,true,[.bool false,.bool false,.bool false,.bool false,.bool false,.bool false,.bool false,.bool false]⟩),
 (240,⟨.arr 16 3 1,16,true,[.int .i64 0,.int .i64 0,.int .i64 0,.int .i64 0,.int .i64 0,.int .i64 0,.int .i64 0,.int .i64 0,.int .i64 0,.int .i64 0,.int .i64 0,.int .i64 0,.int .i64 0,.int .i64 0,.int .i64 0,.int .i64 0]⟩),
 (242,⟨.struct [(0,1),(1,8),(9,16)],25,true,[.int .i64 0,.bool false,.bool false,.bool false,.bool false,.bool false,.bool false,.bool false,.bool false,.int .i64 0,.int .i64 0,.int .i64 0,.int .i64 0,.int .i64 0,.int .i64 0,.int .i64 0,.int .i64 0,.int .i64 0,.int .i64 0,.int .i64 0,.int .i64 0,.int .i64 0,.int .i64 0,.int .i64 0,.int .i64 0]⟩),
 (243,⟨.other,1,false,[.pointer none]⟩),
 (247,⟨.struct [(0,1),(1,1),(2,1),(3,1),(4,1)],5,true,[.int .i64 0,.int .i64 0,.int .i64 0,.slice none 0 0,.slice none 0 0]⟩),
 (254,⟨.struct [(0,1),(1,1),(2,1),(3,1)],4,true,[.int .i64 0,.slice none 0 0,.slice none 0 0,.bool false]⟩),
 (267,⟨.struct [(0,1),(1,1),(2,1)],3,true,[.slice none 0 0,.slice none 0 0,.slice none 0 0]⟩),
 (272,⟨.struct [(0,1),(1,1),(2,1),(3,1)],4,true,[.string ⟨#[]⟩,.int .i64 0,.int .i64 0,.int .i64 0]⟩),
 (280,⟨.struct [(0,1)],1,true,[.int .i64 0]⟩),
 (283,⟨.struct [(0,1),(1,1),(2,1)],3,true,[.int .i64 0,.int .i64 0,.int .i64 0]⟩),
 (293,⟨.other,1,false,[.nilFunc]⟩),
 (307,⟨.arr 36 272 4,144,true,[.string ⟨#[]⟩,.int .i64 0,.int .i64 0,.int .i64 0,.string ⟨#[]⟩,.int .i64 0,.int .i64 0,.int .i64 0,.string ⟨#[]⟩,.int .i64 0,.int .i64 0,.int .i64 0,.string ⟨#[]⟩,.int .i64 0,.int .i64 0,.int .i64 0,.string ⟨#[]⟩,.int .i64 0,.int .i64 0,.int .i64 0,.string ⟨#[]⟩,.int .i64 0,.int .i64 0,.int .i64 0,.string ⟨#[]⟩,.int .i64 0,.int .i64 0,.int .i64 0,.string ⟨#[]⟩,.int .i64 0,.int .i64 0,.int .i64 0,.string ⟨#[]⟩,.int .i64 0,.int .i64 0,.int .i64 0,.string ⟨#[]⟩,.int .i64 0,.int .i64 0,.int .i64 0,.string ⟨#[]⟩,.int .i64 0,.int .i64 0,.int .i64 0,.string ⟨#[]⟩,.int .i64 0,.int .i64 0,.int .i64 0,.string ⟨#[]⟩,.int .i64 0,.int .i64 0,.int .i64 0,.string ⟨#[]⟩,.int .i64 0,.int .i64 0,.int .i64 0,.string ⟨#[]⟩,.int .i64 0,.int .i64 0,.int .i64 0,.string ⟨#[]⟩,.int .i64 0,.int .i64 0,.int .i64 0,.string ⟨#[]⟩,.int .i64 0,.int .i64 0,.int .i64 0,.string ⟨#[]⟩,.int .i64 0,.int .i64 0,.int .i64 0,.string ⟨#[]⟩,.int .i64 0,.int .i64 0,.int .i64 0,.string ⟨#[]⟩,.int .i64 0,.int .i64 0,.int .i64 0,.string ⟨#[]⟩,.int .i64 0,.int .i64 0,.int .i64 0,.string ⟨#[]⟩,.int .i64 0,.int .i64 0,.int .i64 0,.string ⟨#[]⟩,.int .i64 0,.int .i64 0,.int .i64 0,.string ⟨#[]⟩,.int .i64 0,.int .i64 0,.int .i64 0,.string ⟨#[]⟩,.int .i64 0,.int .i64 0,.int .i64 0,.string ⟨#[]⟩,.int .i64 0,.int .i64 0,.int .i64 0,.string ⟨#[]⟩,.int .i64 0,.int .i64 0,.int .i64 0,.string ⟨#[]⟩,.int .i64 0,.int .i64 0,.int .i64 0,.string ⟨#[]⟩,.int .i64 0,.int .i64 0,.int .i64 0,.string ⟨#[]⟩,.int .i64 0,.int .i64 0,.int .i64 0,.string ⟨#[]⟩,.int .i64 0,.int .i64 0,.int .i64 0,.string ⟨#[]⟩,.int .i64 0,.int .i64 0,.int .i64 0,.string ⟨#[]⟩,.int .i64 0,.int .i64 0,.int .i64 0,.string ⟨#[]⟩,.int .i64 0,.int .i64 0,.int .i64 0,.string ⟨#[]⟩,.int .i64 0,.int .i64 0,.int .i64 0,.string ⟨#[]⟩,.int .i64 0,.int .i64 0,.int .i64 0]⟩),
 (310,⟨.other,1,false,[.pointer none]⟩),
 (312,⟨.struct [(0,3),(3,1),(4,1),(5,1)],6,true,[.int .i64 0,.int .i64 0,.int .i64 0,.int .i64 0,.int .i64 0,.slice none 0 0]⟩),
 (325,⟨.arr 2 63 1,2,true,[.slice none 0 0,.slice none 0 0]⟩),
 (338,⟨.arr 15 3 1,15,true,[.int .i64 0,.int .i64 0,.int .i64 0,.int .i64 0,.int .i64 0,.int .i64 0,.int .i64 0,.int .i64 0,.int .i64 0,.int .i64 0,.int .i64 0,.int .i64 0,.int .i64 0,.int .i64 0,.int .i64 0]⟩),
 (361,⟨.other,1,false,[.int .u64 0]⟩),
 (371,⟨.struct [],0,true,[]⟩),
 (373,⟨.struct [(0,1)],1,true,[.int .i64 0]⟩),
 (376,⟨.struct [(0,1)],1,true,[.int .i64 0]⟩),
 (385,⟨.struct [],0,true,[]⟩),
 (386,⟨.struct [],0,true,[]⟩),
 (396,⟨.struct [(0,1),(1,1),(2,1)],3,true,[.int .i64 0,.int .i64 0,.int .i64 0]⟩),
 (423,⟨.struct [(0,1),(1,1),(2,1),(3,1),(4,1)],5,true,[.int .i64 0,.int .i64 0,.slice none 0 0,.slice none 0 0,.slice none 0 0]⟩)]
theorem tabok:tabOk Tryz.prog tab=true:=by kernel_rfl
end Go.Proofs.YtdjkoljonlcemaaGreat

namespace Go.Proofs.YtdjkoljonlcemaaGreat
end Go.Proofs.YtdjkoljonlcemaaGreat

/- slices.IndexFunc and slices.ContainsFunc with a function that only makes new blocks. Printed by wip/tools/mkidx.py. -/
namespace Go.Proofs.YtdjkoljonlcemaaGreat
open Eng Go.RowKit
def asV (cs:List Value):Value:=match cs with
 | [v]=>v
 | _ => .agg cs.toArray
theorem any_snoc {α:Type} {p:α->Bool} {l:List α} {k:Nat} {x:α} (hx:l[k]? = some x) (h:(l.take k).any p=false) (h2:p x=false):(l.take (k+1)).any p=false:=by
 rw [take_succ_some hx,List.any_append,h];simp [h2]
theorem any_end {α:Type} {p:α->Bool} {l:List α} (h:(l.take l.length).any p=false):l.any p=false:=by rwa [List.take_length] at h
theorem any_hit {α:Type} {p:α->Bool} {l:List α} {k:Nat} {x:α} (hx:l[k]? = some x) (h:p x=true):l.any p=true:=List.any_eq_true.2 ⟨x,List.mem_of_getElem? hx,h⟩
theorem IndexFunc_ins (l:List Ins) (a:Option Addr) (cap:Nat) (g:FuncId) (caps:List Value) (p:Ins->Bool) (S:Nat->Prop) (w:World) (hS:Sl eIns S w a l)
  (hp:∀ x cs,x∈l->∀ w',Bl w w'->(eIns).rel S w' cs x->Ret Tryz.prog g ([asV cs]++caps).toArray w' fun v w''=>v = .bool (p x)/\Bl w' w'') :
  Ret Tryz.prog 213 #[.slice a l.length cap,.func (.func g) #[] caps.toArray] w fun v w'=>(∃ i:Int,v=I i/\decide (i≥0)=l.any p)/\Bl w w':=by
 refine entr (vs:=[.slice a l.length cap,.func (.func g) #[] caps.toArray]) [0,1,4,5,7,8,9,16] tabok Tryz.func213 (by kernel_rfl) ?_
 have hbig:=hS.big
 refine lp [8] [(0,.slice a l.length cap),(1,.func (.func g) #[] caps.toArray),(7,I l.length)] (fun m vals w'=>∃ k:Nat,m=l.length-k/\k<=l.length/\vals=[I k]/\(l.take k).any p=false/\Bl w w') ⟨rfl,rfl,rfl,trivial⟩ ⟨0,rfl,Nat.zero_le _,rfl,rfl,Bl.refl _⟩ ?_
 rintro m vals w1 ⟨k,rfl,hk,rfl,ha,hB⟩ ih
 by_cases hlt:k<l.length
 ·refine brT ?_
  obtain ⟨x,b,o,cs,hx,rfl,hSb,hAt,rfl⟩:=at_some (hS.bl hB) hlt
  refine ix ?_
  refine lda hAt ?_
  refine cl (hp x _ (List.mem_of_getElem? hx) _ hB rfl) ?_
  rintro _ w2 ⟨rfl,hB2⟩
  refine br (fun h => ?_) (fun h => ?_)
  ·exact rt1 ⟨⟨k,rfl,by rw [any_hit hx h];simp⟩,hB.trans hB2⟩
  ·refine again (ih _ _ _ _ (by omega) ⟨rfl,rfl,rfl,trivial⟩ rfl ⟨k+1,rfl,by omega,lst1 (inc hlt),any_snoc hx ha h,hB.trans hB2⟩)
 ·refine brF ?_
  obtain rfl:k=l.length:=by omega
  exact rt1 ⟨⟨-1,rfl,by rw [any_end ha];rfl⟩,hB⟩
theorem ContainsFunc_ins (l:List Ins) (a:Option Addr) (cap:Nat) (g:FuncId) (caps:List Value) (p:Ins->Bool) (S:Nat->Prop) (w:World) (hS:Sl eIns S w a l)
  (hp:∀ x cs,x∈l->∀ w',Bl w w'->(eIns).rel S w' cs x->Ret Tryz.prog g ([asV cs]++caps).toArray w' fun v w''=>v = .bool (p x)/\Bl w' w'') :
  Ret Tryz.prog 174 #[.slice a l.length cap,.func (.func g) #[] caps.toArray] w fun v w'=>v = .bool (l.any p)/\Bl w w':=by
 refine entr (vs:=[.slice a l.length cap,.func (.func g) #[] caps.toArray]) [0,1,4] tabok Tryz.func174 (by kernel_rfl) ?_
 refine cl (IndexFunc_ins l a cap g caps p S w hS hp) ?_
 rintro _ w1 ⟨⟨i,rfl,hi⟩,hB⟩
 exact rt1 ⟨vb hi,hB⟩
end Go.Proofs.YtdjkoljonlcemaaGreat

/- strings.Split at a point is the cutting at points. No program stands here. -/
namespace Go.Proofs.YtdjkoljonlcemaaGreat
open Go
end Go.Proofs.YtdjkoljonlcemaaGreat

namespace Go.Proofs.YtdjkoljonlcemaaGreat
end Go.Proofs.YtdjkoljonlcemaaGreat

/- The document's Check of a class file, part by part, as functions on lists. No program stands here. -/
namespace Go.Proofs.YtdjkoljonlcemaaGreat
open Eng Go.RowKit
theorem Eng.New.wr {w w3 w4:World} {b:Nat} {t:TypeId} {cs:List Value} (h5:New w b t cs w3) (h6:Wr w3 b w4):Bl w w4:=Below.trans h5.bl (h6.below (by have:=h5.blk;omega))
structure Rf where
 at':Int
 parts:Int
 opt:Bool
def refOk (n:Nat) (r:Rf):Bool:=(decide (r.at' = -1)&&r.opt) || !(decide (r.at'<0)||decide (r.at'≥n))
theorem all_snoc' {α:Type} {p:α->Bool} {l:List α} {k:Nat} {x:α} (hx:l[k]? = some x) (h:(l.take k).all p=true) (h2:p x=true):(l.take (k+1)).all p=true:=by
 rw [take_succ_some hx,List.all_append,h];simp [h2]
theorem all_end {α:Type} {p:α->Bool} {l:List α} (h:(l.take l.length).all p=true):l.all p=true:=by rwa [List.take_length] at h
theorem all_miss {α:Type} {p:α->Bool} {l:List α} {k:Nat} {x:α} (hx:l[k]? = some x) (h:p x=false):l.all p=false:=by
 rw [<-Bool.not_eq_true];intro ht
 rw [List.all_eq_true.1 ht _ (List.mem_of_getElem? hx)] at h;cases h
def hasB (l:List ByteArray) (x:ByteArray):Bool:=l.any fun y=>decide (y=x)
def nm (u:Unt) (i:Int):ByteArray:=u.pool.getD i.toNat ⟨#[]⟩
def named (i:Ins):Int×Int :=
 if i.op=17∨i.op=18 then (1,3) else if i.op=14∨i.op=24∨i.op=22∨i.op=23∨i.op=25 then (1,2) else if i.op=26 then (1,1) else if i.op=16 then (2,2) else if i.op=12/\(i.a=2∨i.a=4) then (2,2) else (0,0)
def dots (x y:ByteArray):ByteArray:=x++⟨#[46]⟩++y
def inP (u:Unt) (i:Int):Prop:=0<=i/\i<u.pool.length
end Go.Proofs.YtdjkoljonlcemaaGreat

/- Walks: the document's Check, its parts that read a unit. -/
namespace Go.Proofs.YtdjkoljonlcemaaGreat
open Eng Go.RowKit
end Go.Proofs.YtdjkoljonlcemaaGreat
namespace Go.Proofs.YtdjkoljonlcemaaGreat
open Eng Go.RowKit
end Go.Proofs.YtdjkoljonlcemaaGreat
namespace Go.Proofs.YtdjkoljonlcemaaGreat
open Eng Go.RowKit
end Go.Proofs.YtdjkoljonlcemaaGreat
namespace Go.Proofs.YtdjkoljonlcemaaGreat
open Eng Go.RowKit
end Go.Proofs.YtdjkoljonlcemaaGreat
namespace Go.Proofs.YtdjkoljonlcemaaGreat
open Eng Go.RowKit
end Go.Proofs.YtdjkoljonlcemaaGreat
namespace Go.Proofs.YtdjkoljonlcemaaGreat
open Eng Go.RowKit
end Go.Proofs.YtdjkoljonlcemaaGreat
namespace Go.Proofs.YtdjkoljonlcemaaGreat
open Eng Go.RowKit
end Go.Proofs.YtdjkoljonlcemaaGreat

/- The engine, ninth part: arrays; two results, one of them in a block. -/
namespace Go.Proofs.YtdjkoljonlcemaaGreat.Eng
open Go Go.RowKit
def arrO (i esz:Nat):Nat->List (Nat×Nat)
 | 0=>[]
 | n+1=>(i*esz,esz)::arrO (i+1) esz n
theorem arrO_at {esz:Nat}:∀ {n i j o z:Nat},(arrO i esz n)[j]? = some (o,z)->o=(i+j)*esz/\z=esz
 | 0,_,_,_,_,h=>by simp [arrO] at h
 | n+1,i,0,o,z,h=>by simp [arrO] at h;obtain ⟨rfl,rfl⟩:=h;simp
 | n+1,i,j+1,o,z,h=>by
  have:=arrO_at (n:=n) (i:=i+1) (j:=j) (by simpa [arrO] using h)
  rw [show i+(j+1)=i+1+j by omega];exact this
section
variable {C:Cx} {s:St} {w:World}
theorem exec_bda {P:Program} {ρ:Operand->Value} {w:World} {o:Oper} {T:TypeId} {parts:Array (Nat×Operand)} {n e esz sz:Nat} {ag:Bool} {zr cs:List Value} {pv:List (Nat×Value)} (ho:o.op = .build T parts)
  (ht:tiOk P T ⟨.arr n e esz,sz,ag,zr⟩=true) (hp:parts.toList.map (fun (i,x)=>(i,ρ x))=pv) (hcs:fillL (arrO 0 esz n) zr pv=some cs):(execOp ρ o).run P w = .ok (.value (.agg cs.toArray)) w:=by
 obtain ⟨d,x,z,hT⟩:=tiOk_und ht
 obtain ⟨rfl,y,hy,hys⟩:=hT.ar _ _ _ rfl
 obtain ⟨z',hz,hzc⟩:=zero_run ht w
 have ep:parts.map (fun (i,x)=>(i,ρ x))=pv.toArray:=by rw [<-hp,<-List.map_toArray,Array.toArray_toList]
 unfold execOp
 simp only [ho,ep]
 refine (run_bind_ok (P:=P) (x := .agg cs.toArray) (w':=w) ?_).trans rfl
 unfold Instr.build
 rw [run_bind_ok hz]
 simp only
 rw [run_bind_ok (und_run hT.und w)]
 simp only
 rw [run_bind_ok (size_run hy w),hys]
 have:=fill_ok (offs:=arrO 0 esz n) (place:=fun i=>some (i*esz,esz)) (fun i o z h=>by obtain ⟨rfl,rfl⟩:=arrO_at h;simp) hcs
 rw [hzc]
 simp only [this]
 rfl
theorem bda {md:Option Md} {ops:Array Oper} {T:TypeId} {parts:Array (Nat×Operand)} {d:Nat} {ty:TypeId} {pos:String} {af:Array Edge} {g:Option (Nat×Bool)} {rest:List Oper} {k:List Item} {l:Env} {c:CEnv} {n e esz sz:Nat} {ag:Bool} {zr cs:List Value} {pv:List (Nat×Value)}
  (h:Wk C (.reg md ops rest k ((d,.agg cs.toArray)::l) c) w)
  (hs:adv C.tab C.n C.ks 400 s = .opn md ops ⟨some d,.build T parts,ty,pos,af,g⟩ rest k l c []:=by rfl) (ht:C.tab.at T=some ⟨.arr n e esz,sz,ag,zr⟩:=by rfl)
  (hp:evparts l c [] parts.toList=some pv:=by rfl) (hcs:fillL (arrO 0 esz n) zr pv=some cs:=by rfl) (hf:fresh d l c []=true:=by rfl):Wk C s w :=
 rd (p:=[]) (fun hT _ hA hpp _ _=>exec_bda rfl (tab_at hT ht) (evparts_ok hA.k hA.kc.c hpp hp) hcs) h hs rfl hf (okR_no rfl)
theorem exec_ixa {P:Program} {ρ:Operand->Value} {w:World} {d:Option Nat} {T:TypeId} {x i:Operand} {ty:TypeId} {pos:String} {af:Array Edge} {g:Option (Nat×Bool)} {sz n e esz:Nat} {ag:Bool} {zr:List Value} {b o j:Nat} {kd:IntKind}
  (ht:tiOk P T ⟨.arr n e esz,sz,ag,zr⟩=true) (hx:ρ x = .pointer (some ⟨b,o,none⟩)) (hi:ρ i = .int kd j) (hb:j<n) :
  (execOp ρ ⟨d,.indexAddr T x i,ty,pos,af,g⟩).run P w = .ok (.value (.pointer (some ⟨b,o+j*esz,none⟩))) w:=by
 obtain ⟨dd,xx,zz,hT⟩:=tiOk_und ht
 have hu:=hT.und
 obtain ⟨rfl,y,hy,hys⟩:=hT.ar _ _ _ rfl
 simp only [execOp,hx,hi]
 refine (run_bind_ok (P:=P) (x:=_) (w':=w) ?_).trans rfl
 simp only [Instr.indexAt]
 rw [run_bind_ok (show (asIntOf (.int kd j)).run P w = .ok (kd,(j:Int)) w from rfl)]
 simp only
 rw [run_bind_ok (und_run hu w)]
 simp only [Instr.sureAddr]
 rw [run_bind_ok (show (pure (⟨b,o,none⟩:Addr):Sem Addr).run P w = .ok ⟨b,o,none⟩ w from rfl)]
 rw [run_bind_ok (show (pure (some (⟨b,o,none⟩:Addr),n,e):Sem (Option Addr×Nat×TypeId)).run P w = .ok (some ⟨b,o,none⟩,n,e) w from rfl)]
 simp only
 rw [run_bind_ok (und_run hu w)]
 simp only
 rw [if_pos ⟨by omega,by omega⟩,run_bind_ok (size_run hy w),hys,Int.toNat_natCast,add_none]
 rfl
theorem ixa {md:Option Md} {ops:Array Oper} {T:TypeId} {x i:Operand} {d:Nat} {ty:TypeId} {pos:String} {af:Array Edge} {g:Option (Nat×Bool)} {rest:List Oper} {k:List Item} {l:Env} {c:CEnv} {n e esz sz:Nat} {ag:Bool} {zr:List Value} {b o j:Nat} {kd:IntKind} {i0:Int}
  (h:Wk C (.reg md ops rest k ((d,.pointer (some ⟨b,o+j*esz,none⟩))::l) c) w)
  (hs:adv C.tab C.n C.ks 400 s = .opn md ops ⟨some d,.indexAddr T x i,ty,pos,af,g⟩ rest k l c []:=by rfl) (ht:C.tab.at T=some ⟨.arr n e esz,sz,ag,zr⟩:=by rfl)
  (hx:evc l c [] x=some (.pointer (some ⟨b,o,none⟩)):=by rfl) (hi:evc l c [] i=some (.int kd i0):=by rfl) (hij:i0=(j:Int):=by rfl) (hf:fresh d l c []=true:=by rfl) (hb:j<n:=by omega):Wk C s w :=
 rd (p:=[]) (fun hT _ hA hp _ _=>exec_ixa (tab_at hT ht) (evc_ok hA.k hA.kc.c hp hx) (by rw [<-hij];exact evc_ok hA.k hA.kc.c hp hi) hb) h hs rfl hf (okR_no rfl)
theorem exec_ixv {P:Program} {ρ:Operand->Value} {w:World} {d:Option Nat} {T:TypeId} {x i:Operand} {ty:TypeId} {pos:String} {af:Array Edge} {g:Option (Nat×Bool)} {sz n e esz se:Nat} {ag:Bool} {zr:List Value} {j:Nat} {kd:IntKind} {cs:List Value} {v:Value} {tk:TK} {ze:List Value}
  (ht:tiOk P T ⟨.arr n e esz,sz,ag,zr⟩=true) (he:tiOk P e ⟨tk,se,false,ze⟩=true) (hx:ρ x = .agg cs.toArray) (hi:ρ i = .int kd j) (hb:j<n) (hv:cs[j*esz]? = some v) :
  (execOp ρ ⟨d,.index T x i,ty,pos,af,g⟩).run P w = .ok (.value v) w:=by
 obtain ⟨dd,xx,zz,hT⟩:=tiOk_und ht
 have hu:=hT.und
 obtain ⟨rfl,y,hy,hys⟩:=hT.ar _ _ _ rfl
 simp only [execOp,hx,hi]
 refine (run_bind_ok (P:=P) (x:=_) (w':=w) ?_).trans rfl
 simp only [Instr.index]
 rw [run_bind_ok (show (asIntOf (.int kd j)).run P w = .ok (kd,(j:Int)) w from rfl)]
 simp only
 rw [run_bind_ok (und_run hu w)]
 simp only
 rw [if_pos ⟨by omega,by omega⟩,run_bind_ok (size_run hy w),hys,Int.toNat_natCast]
 unfold part
 rw [run_bind_ok (ti_agg he w).1,if_neg (by simp)]
 simp only [List.getElem?_toArray,hv]
 rfl
theorem ixv {md:Option Md} {ops:Array Oper} {T:TypeId} {x i:Operand} {d:Nat} {ty:TypeId} {pos:String} {af:Array Edge} {g:Option (Nat×Bool)} {rest:List Oper} {k:List Item} {l:Env} {c:CEnv} {n e esz sz se:Nat} {ag:Bool} {zr:List Value} {j:Nat} {kd:IntKind} {i0:Int} {cs:List Value} {v:Value} {tk:TK} {ze:List Value}
  (hv:cs[j*esz]? = some v) (h:Wk C (.reg md ops rest k ((d,v)::l) c) w)
  (hs:adv C.tab C.n C.ks 400 s = .opn md ops ⟨some d,.index T x i,ty,pos,af,g⟩ rest k l c []:=by rfl) (ht:C.tab.at T=some ⟨.arr n e esz,sz,ag,zr⟩:=by rfl) (he:C.tab.at e=some ⟨tk,se,false,ze⟩:=by rfl)
  (hx:evc l c [] x=some (.agg cs.toArray):=by rfl) (hi:evc l c [] i=some (.int kd i0):=by rfl) (hij:i0=(j:Int):=by rfl) (hf:fresh d l c []=true:=by rfl) (hb:j<n:=by omega):Wk C s w :=
 rd (p:=[]) (fun hT _ hA hp _ _=>exec_ixv (tab_at hT ht) (tab_at hT he) (evc_ok hA.k hA.kc.c hp hx) (by rw [<-hij];exact evc_ok hA.k hA.kc.c hp hi) hb hv) h hs rfl hf (okR_no rfl)
theorem rtc2 {k:List Item} {l:Env} {dd d2:Nat} {t:TypeId} {tk:TK} {sz:Nat} {zr:List Value} {b o:Nat} {cs:List Value} {v:Value} (hc:At w b o cs) (hq:C.Q (.tuple #[.agg cs.toArray,v]) w) (hs:adv C.tab C.n C.ks 400 s = .code (.code .ret::k) l:=by rfl)
  (ho:C.fn.results=#[.cell dd t,.tmp d2]:=by rfl) (ht:C.tab.at t=some ⟨tk,sz,true,zr⟩:=by rfl) (hl:cs.length=sz:=by rfl) (hx:look l dd=some (.pointer (some ⟨b,o,none⟩)):=by rfl) (hy:look l d2=some v:=by rfl):Wk C s w :=
 by_adv hs ⟨fun hT hf a hA=>fin hf (by
  unfold results
  rw [ho]
  have e:a.tmps.getD dd undef = .pointer (some ⟨b,o,none⟩):=hA.k _ _ hx
  have e':a.tmps.getD d2 undef=v:=hA.k _ _ hy
  have e2:(loadVar t ⟨b,o,none⟩).run C.P w = .ok (.agg cs.toArray) w:=loadVar_agg (tab_at hT ht) hc hl
  simp only [List.mapM_toArray,List.mapM_cons,List.mapM_nil,e,e',asAddr]
  have e3:(do let x <-(do let p <-(pure (⟨b,o,none⟩:Addr):Sem Addr);loadVar t p);let y <-(do let z <-(pure v:Sem Value);let u <-(pure []:Sem (List Value));pure (z::u));pure (x::y):Sem (List Value)).run C.P w = .ok [.agg cs.toArray,v] w:=(run_bind_ok e2).trans rfl
  refine (run_bind_ok (P:=C.P) (x:=#[.agg cs.toArray,v]) (w':=w) ?_).trans rfl
  exact (run_bind_ok e3).trans rfl) hA.defers hq (fun _=>step_ret)⟩
theorem ovl_get:∀ (vs cs:List Value) (o j:Nat),o+vs.length<=cs.length->(ovl cs o vs)[j]? = if o<=j/\j<o+vs.length then vs[j-o]? else cs[j]?
 | [],cs,o,j,_=>by simp only [ovl,List.length_nil];rw [if_neg (by omega)]
 | v::vs,cs,o,j,h=>by
  simp only [List.length_cons] at h
  simp only [ovl,List.length_cons]
  rw [ovl_get vs _ _ _ (by simp;omega)]
  by_cases h1:j=o
  ·subst h1
   rw [if_neg (by omega),if_pos (by omega),List.getElem?_set_self (by omega)];simp
  ·by_cases h2:o+1<=j/\j<o+1+vs.length
   ·rw [if_pos h2,if_pos (by omega),show j-o=j-(o+1)+1 by omega];simp
   ·rw [if_neg h2,if_neg (by omega),List.getElem?_set_ne (by omega)]
theorem ovl_whole {vs cs:List Value} (h:vs.length=cs.length):ovl cs 0 vs=vs:=by
 apply List.ext_getElem?
 intro j
 rw [ovl_get _ _ _ _ (by omega)]
 by_cases h1:j<vs.length
 ·rw [if_pos (by omega)];rfl
 ·rw [if_neg (by omega),List.getElem?_eq_none (by omega),List.getElem?_eq_none (by omega)]
theorem stw {md:Option Md} {ops:Array Oper} {T:TypeId} {x y:Operand} {ty:TypeId} {pos:String} {af:Array Edge} {g:Option (Nat×Bool)} {rest:List Oper} {k:List Item} {l:Env} {c:CEnv} {tk:TK} {sz:Nat} {ag:Bool} {zr:List Value} {b:Nat} {t:TypeId} {vs cs:List Value}
  (hb:Box w b t cs) (hl:vs.length=sz) (hl2:cs.length=sz) (hv:vs.all Value.oneCell'=true) (h:∀ w',Wr w b w'->Box w' b t vs->Wk C (.reg md ops rest k l c) w')
  (hs:adv C.tab C.n C.ks 400 s = .opn md ops ⟨none,.store T x y,ty,pos,af,g⟩ rest k l c []:=by rfl) (ht:C.tab.at T=some ⟨tk,sz,ag,zr⟩:=by rfl)
  (hx:evc l c [] x=some (.pointer (some ⟨b,0,none⟩)):=by rfl) (hy:evc l c [] y=some (.agg vs.toArray):=by rfl) (hm:∀ w',Wr w b w'->mdW md w w':=by intros;exact True.intro) (hnt:notT md=true:=by rfl):Wk C s w :=
 op_unit (okW_of rfl hnt) (hm _ (setCells_ok hb).1) (w':=setCells w b 0 vs) (fun hT a hA=>by
  have hz:=(ti_agg (tab_at hT ht) w).2
  simp only [execOp,evc_ok hA.k hA.kc.c (p:=[]) trivial hx,evc_ok hA.k hA.kc.c (p:=[]) trivial hy,Instr.storeAt,Instr.sureAddr]
  refine (run_bind_ok (P:=C.P) (x:=()) (w':=setCells w b 0 vs) ?_).trans rfl
  show (storeVar T ⟨b,0,none⟩ (.agg vs.toArray)).run C.P w=_
  unfold storeVar
  rw [run_bind_ok hz,if_neg (by simp [Value.cells,hl])]
  exact storeCells_run (vs:=vs) (i:=0) hb (by omega) hv)
  (h _ (setCells_ok hb).1 (by have:=(setCells_ok (o:=0) (vs:=vs) hb).2;rw [ovl_whole (by omega)] at this;exact this)) hs rfl
theorem mx {md:Option Md} {ops:Array Oper} {x y:Operand} {tys:Array TypeId} {d:Nat} {ty:TypeId} {pos:String} {af:Array Edge} {g:Option (Nat×Bool)} {rest:List Oper} {k:List Item} {l:Env} {c:CEnv} {kd:IntKind} {a b:Int}
  (h:Wk C (.reg md ops rest k ((d,.int kd (max a b))::l) c) w)
  (hs:adv C.tab C.n C.ks 400 s = .opn md ops ⟨some d,.call ⟨.builtin .max,#[x,y],tys⟩,ty,pos,af,g⟩ rest k l c []:=by rfl) (hx:evc l c [] x=some (.int kd a):=by rfl) (hy:evc l c [] y=some (.int kd b):=by rfl) (hf:fresh d l c []=true:=by rfl):Wk C s w :=
 rd (p:=[]) (fun _ _ hA hp w' _=>by
  simp only [execOp,resolve,List.map_toArray,List.map_cons,List.map_nil,evc_ok hA.k hA.kc.c hp hx,evc_ok hA.k hA.kc.c hp hy]
  show (Sem.bind (Builtin.max_ _ ty #[_,_]) _).run C.P w'=_
  refine (run_bind_ok (P:=C.P) (x := .int kd (max a b)) (w':=w') ?_).trans rfl
  simp only [Builtin.max_,List.foldlM,Builtin.max2]
  by_cases hab:a<b
  ·simp [hab,pure,Int.max_def];omega
  ·simp [hab,pure,Int.max_def];omega) h hs rfl hf (okR_no rfl)
end
end Go.Proofs.YtdjkoljonlcemaaGreat.Eng

/- Brackets as a machine with a stack. No program stands here. -/
namespace Go.Proofs.YtdjkoljonlcemaaGreat
def opensB (op:Int):Bool:=decide (29<=op)&&decide (op<=33)
def stepB (s:List (Int×Bool)) (d:Nat) (op:Int):Option (List (Int×Bool)×Nat) :=
 if opensB op=true then some ((op,false)::s,max d (s.length+1))
 else if op=34 then match s with
  | (o,false)::r=>if o=29∨o=33 then some ((o,true)::r,d) else none
  | _=>none
 else if op=35 then match s with
  | (o,e)::r=>if o=33/\e=false then none else some (r,d)
  | []=>none
 else some (s,d)
def runB:List Int->List (Int×Bool)->Nat->Option (List (Int×Bool)×Nat)
 | [],s,d=>some (s,d)
 | op::c,s,d=>match stepB s d op with
  | some (s',d')=>runB c s' d'
  | none=>none
def okB (c:List Int):Bool:=match runB c [] 0 with
 | some ([],d)=>decide (d<=6)
 | _=>false
def badB (c:List Int):Prop:=∀ s d d',s.length<=d->runB c s d≠some ([],d')
theorem runB_plain {op:Int} {c:List Int} {s:List (Int×Bool)} {d:Nat} (h1:opensB op=false) (h2:op≠34) (h3:op≠35):runB (op::c) s d=runB c s d:=by
 simp [runB,stepB,h1,h2,h3]
theorem runB_open {op:Int} {c:List Int} {s:List (Int×Bool)} {d:Nat} (h1:opensB op=true):runB (op::c) s d=runB c ((op,false)::s) (max d (s.length+1)):=by
 simp [runB,stepB,h1]
theorem runB_else {o:Int} {e:Bool} {c:List Int} {s:List (Int×Bool)} {d:Nat}:runB (34::c) ((o,e)::s) d=if e=false/\(o=29∨o=33) then runB c ((o,true)::s) d else none:=by
 cases e
 ·by_cases h:o=29∨o=33 <;> simp [runB,stepB,opensB,h]
 ·simp [runB,stepB,opensB]
theorem runB_end {o:Int} {e:Bool} {c:List Int} {s:List (Int×Bool)} {d:Nat}:runB (35::c) ((o,e)::s) d=if o=33/\e=false then none else runB c s d:=by
 by_cases h:o=33/\e=false
 ·obtain ⟨rfl,rfl⟩:=h;simp [runB,stepB,opensB]
 ·rw [if_neg h]
  have:stepB ((o,e)::s) d 35=some (s,d):=by
   simp [stepB,opensB]
   intro h1
   cases e with
   | true=>rfl
   | false=>exact absurd ⟨h1,rfl⟩ h
  simp [runB,this]
theorem runB_top {op:Int} {c:List Int} {d:Nat} (h:op=34∨op=35):runB (op::c) [] d=none:=by
 rcases h with rfl | rfl <;> simp [runB,stepB,opensB]
def partsOk (c:List Int) (i:Nat) (next deep:Int):Prop :=
 (deep = -1/\badB (c.drop i))∨∃ n k:Nat,next=n/\deep=k/\i<=n/\n<=c.length/\k<=n-i/\(n=c.length∨c[n]? = some 34∨c[n]? = some 35)/\∀ s D,s.length<=D->runB (c.drop i) s D=runB (c.drop n) s (max D (s.length+k))
def bracketOk (c:List Int) (i:Nat) (next deep:Int):Prop :=
 (deep = -1/\badB (c.drop i))∨∃ n k:Nat,next=n/\deep=k/\i<n/\n<c.length/\k+1<=n+1-i/\∀ s D,s.length<=D->runB (c.drop i) s D=runB (c.drop (n+1)) s (max D (s.length+k+1))
end Go.Proofs.YtdjkoljonlcemaaGreat
