import Derived.Test.YtkmdfjpafkcleaaGreatDoorM2
import Derived.Test.YtkmdfjpafkcleaaGreatDoorM1
import Derived.Laws.IdiomRangeMap
import Derived.Lib.AppendZerosOnto
import Derived.Laws.AppendOwn
import Derived.Test.YtkmdfjpafkcleaaGreatDoorSeq
import Derived.Shelf.SlIter.Collect
import Derived.Shelf.SlIter.Sorted
import Derived.Lib.SlicesS
import Derived.Lib.LastIndexByte
/- Walks: the linker's readers: paths, what is declared. -/
namespace Go.Proofs.YtkmdfjpafkcleaaGreatDoor
open Eng Go.RowKit
def eUnt:El Unt :=
 {sz:=5,rel:=fun S w cs u=>∃ ua,cs=ucells u ua/\UnR S w u ua
  len:=fun ⟨_,e,_⟩=>by rw [e];rfl
  kp:=fun k ⟨a,e,h⟩=>⟨a,e,h.kp k⟩
  sub:=fun k ⟨a,e,h⟩=>⟨a,e,h.sub k⟩ }
abbrev encD:Nat×Nat->Value:=fun d => .agg #[I (d.1:Nat),I (d.2:Nat)]
theorem tD:MapT Tryz.prog 83 151 (encD (0,0)):=⟨⟨9,Tryz.underlying83,Tryz.underlying9⟩,Tryz.zeroValue151⟩
structure Rs where
 a:Option Addr
 c:Nat
 l:List ByteArray
abbrev encR:Rs->Value:=fun r => .slice r.a r.l.length r.c
theorem tN:MapT Tryz.prog 84 33 (encR ⟨none,0,[]⟩):=⟨⟨9,Tryz.underlying84,Tryz.underlying9⟩,Tryz.zeroValue33⟩
theorem tB:MapT Tryz.prog 85 4 (.bool false):=⟨⟨9,Tryz.underlying85,Tryz.underlying9⟩,Tryz.zeroValue4⟩
def mapV {α β:Type} (f:α->β) (m:Mp α):Mp β:=m.map fun p=>(p.1,f p.2)
theorem getM_mapV {α β:Type} (f:α->β) (m:Mp α) (k:ByteArray):getM (mapV f m) k=(getM m k).map f:=by
 induction m with
 | nil=>rfl
 | cons p m ih =>
  obtain ⟨k0,v0⟩:=p
  show (if k0=k then some (f v0) else getM (mapV f m) k)=_
  rw [ih]
  simp only [getM]
  split <;> rfl
theorem putM_mapV {α β:Type} (f:α->β) (m:Mp α) (k:ByteArray) (v:α):putM (mapV f m) k (f v)=mapV f (putM m k v):=by
 induction m with
 | nil=>rfl
 | cons p m ih =>
  obtain ⟨k0,v0⟩:=p
  show (if k0=k then (k,f v)::mapV f m else (k0,f v0)::putM (mapV f m) k (f v))=_
  rw [ih]
  simp only [putM]
  split <;> rfl
theorem At.sub {w:World} {b o:Nat} {cs:List Value} (h:At w b o cs) (i n:Nat):At w b (o+i) ((cs.drop i).take n):=fun j v hj=>by
 rw [List.getElem?_take] at hj
 split at hj
 ·rw [List.getElem?_drop] at hj
  rw [Nat.add_assoc];exact h _ _ hj
 ·cases hj
theorem Eng.Ow.nbox {w:World} {base e esz n cap:Nat} {a:Option Addr} {xs:List Value} (h:Ow w base e esz a n cap xs) {g:Nat} {t:TypeId} {cs:List Value} (hb:Box w g t cs) (hne:e≠t):a≠some ⟨g,0,none⟩:=by
 rintro rfl
 obtain ⟨cur,h1,_⟩:=h.box
 unfold Box at h1 hb
 rw [h1] at hb
 simp only [Option.some.injEq,Obj.cells.injEq] at hb
 exact hne hb.2.1
theorem keys_mapV {α β:Type} (f:α->β) (m:Mp α):keysM (mapV f m)=keysM m:=by
 unfold keysM mapV
 rw [List.map_map];rfl
theorem getD_enc {α:Type} (enc:α->Value) (o:Option α) (z:α):(o.map enc).getD (enc z)=enc (o.getD z):=by cases o <;> rfl
structure Lnk (w:World) (b:Nat) (us:List Unt) (D:Dcl):Prop where
 us:∃ a c,w.cell? ⟨b,0,none⟩=some (.slice a us.length c)/\Sl eUnt (· ≠ b) w a us
 cl:∃ m,w.cell? ⟨b,1,none⟩=some (.map (some m))/\MapIs encD w m D.classes
 st:∃ m,w.cell? ⟨b,2,none⟩=some (.map (some m))/\MapIs encD w m D.statics
 ca:∃ m,w.cell? ⟨b,3,none⟩=some (.map (some m))/\MapIs encD w m D.calls
 se:∃ m,w.cell? ⟨b,4,none⟩=some (.map (some m))/\MapIs encD w m D.sends
 na:∃ m M,w.cell? ⟨b,5,none⟩=some (.map (some m))/\MapIs encR w m M/\mapV Rs.l M=D.named/\∀ p∈M,Sl eStr (· ≠ b) w p.2.a p.2.l
 fi:∃ m,w.cell? ⟨b,6,none⟩=some (.map (some m))/\MapIs Value.bool w m D.fields
structure Nb (b:Nat) (w w':World):Prop where
 size:w.heap.size<=w'.heap.size
 blk:∀ i,i<w.heap.size->i≠b->w'.heap[i]? = w.heap[i]?
theorem Nb.of_bl {b:Nat} {w w':World} (h:Bl w w'):Nb b w w':=⟨h.size,fun i hi _=>h.block i hi⟩
theorem Nb.kp {b:Nat} {w w':World} (h:Nb b w w'):Kp (· ≠ b) w w':=fun i o v s x=>by
 rw [World.cell?_of_block (w:=w) (h.blk i (cell_lt x) s)];exact x
theorem cell_map_ne {α:Type} {enc:α->Value} {w:World} {m b o:Nat} {M:Mp α} {v:Value} (h:MapIs enc w m M) (hc:w.cell? ⟨b,o,none⟩=some v):m≠b:=by
 rintro rfl
 obtain ⟨es,clock,h1,_⟩:=h.is
 simp [World.cell?,h1] at hc
theorem MapIs.nb {α:Type} {enc:α->Value} {w w':World} {m b:Nat} {M:Mp α} (h:MapIs enc w m M) (k:Nb b w w') (hne:m≠b):MapIs enc w' m M:=h.same (k.blk m h.lt hne)
theorem Lnk.nb {w w':World} {b:Nat} {us:List Unt} {D:Dcl} (h:Lnk w b us D) (k:Nb b w w') (hc:∀ o,o<7->w'.cell? ⟨b,o,none⟩=w.cell? ⟨b,o,none⟩):Lnk w' b us D:=by
 obtain ⟨⟨a,c,h1,h2⟩,⟨m1,h3,h4⟩,⟨m2,h5,h6⟩,⟨m3,h7,h8⟩,⟨m4,h9,h10⟩,⟨m5,M,h11,h12,h13,h14⟩,⟨m6,h15,h16⟩⟩:=h
 exact ⟨⟨a,c,(hc 0 (by omega)).trans h1,h2.kp k.kp⟩,⟨m1,(hc 1 (by omega)).trans h3,h4.nb k (cell_map_ne h4 h3)⟩,⟨m2,(hc 2 (by omega)).trans h5,h6.nb k (cell_map_ne h6 h5)⟩,⟨m3,(hc 3 (by omega)).trans h7,h8.nb k (cell_map_ne h8 h7)⟩,
  ⟨m4,(hc 4 (by omega)).trans h9,h10.nb k (cell_map_ne h10 h9)⟩,⟨m5,M,(hc 5 (by omega)).trans h11,h12.nb k (cell_map_ne h12 h11),h13,fun p hp=>(h14 p hp).kp k.kp⟩,⟨m6,(hc 6 (by omega)).trans h15,h16.nb k (cell_map_ne h16 h15)⟩⟩
theorem Lnk.lt {w:World} {b:Nat} {us:List Unt} {D:Dcl} (h:Lnk w b us D):b<w.heap.size:=by
 obtain ⟨a,c,h1,_⟩:=h.us
 exact cell_lt h1
theorem Lnk.bl {w w':World} {b:Nat} {us:List Unt} {D:Dcl} (h:Lnk w b us D) (k:Bl w w'):Lnk w' b us D :=
 h.nb (Nb.of_bl k) fun _ _=>World.cell?_of_block (w:=w) (k.block b h.lt)
theorem Bl.cl {w w':World} (k:Bl w w') {b o:Nat} {v:Value} (h:w.cell? ⟨b,o,none⟩=some v):w'.cell? ⟨b,o,none⟩=some v:=(k.kp T) _ _ _ trivial h
theorem k_path {w:World} {b:Nat} {us:List Unt} {D:Dcl} (hL:Lnk w b us D) {n:Nat} {u:Unt} (hu:us[n]? = some u) {i:Int} (hi:inP u i) :
  Ret Tryz.prog 108 #[.pointer (some ⟨b,0,none⟩),I n,I i] w fun v w'=>v = .string (nm u i)/\w'=w:=by
 obtain ⟨a,c,h0,hS⟩:=hL.us
 obtain ⟨k,rfl,hk⟩:=inP_at hi
 obtain ⟨b1,o1,cs1,rfl,_,hAt,ua,rfl,hU⟩:=hS.el n u hu
 obtain ⟨b2,o2,cs2,e2,_,hAt2,rfl⟩:=hU.pool.el k _ hk
 have hn:n<us.length:=(List.getElem?_eq_some_iff.1 hu).1
 have hkl:k<u.pool.length:=(List.getElem?_eq_some_iff.1 hk).1
 refine entr (vs:=[.pointer (some ⟨b,0,none⟩),I n,I k]) [0,1,2,6] tabok Tryz.func108 (by kernel_rfl) ?_
 refine ld h0 ?_
 refine ix ?_
 refine ld (hAt 1 _ rfl) ?_
 rw [e2]
 refine ix ?_
 refine ld (hAt2 0 _ rfl) ?_
 exact rt1 ⟨rfl,rfl⟩
theorem k_has {w:World} {m:Nat} {M:Mp (Nat×Nat)} (hM:MapIs encD w m M) (key:ByteArray):Ret Tryz.prog 153 #[.map (some m),.string key] w fun v w'=>v = .bool (hasM M key)/\Bl w w':=by
 refine entr (vs:=[.map (some m),.string key]) [0,1,4,6] tabok Tryz.func153 (by kernel_rfl) ?_
 refine lko tD hM ?_
 rw [getD_enc]
 refine al fun b1 w1 h1 => ?_
 refine sta h1.box fun w2 k2 x2 => ?_
 exact rt1 ⟨rfl,h1.wr k2⟩
theorem k_hasN {w:World} {m:Nat} {M:Mp Rs} (hM:MapIs encR w m M) (key:ByteArray):Ret Tryz.prog 217 #[.map (some m),.string key] w fun v w'=>v = .bool (hasM M key)/\Bl w w':=by
 refine entr (vs:=[.map (some m),.string key]) [0,1,4,6] tabok Tryz.func217 (by kernel_rfl) ?_
 refine lko tN hM ?_
 exact rt1 ⟨rfl,Bl.refl _⟩
end Go.Proofs.YtkmdfjpafkcleaaGreatDoor
namespace Go.Proofs.YtkmdfjpafkcleaaGreatDoor
open Eng Go.RowKit
theorem k_isType {w:World} {b:Nat} {us:List Unt} {D:Dcl} (hL:Lnk w b us D) {n:Nat} {u:Unt} (hu:us[n]? = some u) {t:Ty} (ht:optP u t.cls) :
  Ret Tryz.prog 154 #[.pointer (some ⟨b,0,none⟩),I n,.agg (encTy t).toArray] w fun v w'=>v = .bool (isTypeL D u t)/\Bl w w':=by
 refine entr (vs:=[.pointer (some ⟨b,0,none⟩),I n,.agg (encTy t).toArray]) [0,1,2,5,6] tabok Tryz.func154 (by kernel_rfl) ?_
 refine bx (cs:=encTy t) fun b1 w1 k1 => ?_
 refine dh T (List.range 16) fun w2 k2 => ?_
 have B:=k1.bl.trans k2.bl
 have x2:=k2.box k1.box
 have L2:=hL.bl B
 obtain ⟨m,h1,hm⟩:=L2.cl
 refine ld (x2.cell rfl) ?_ (hm:=trivial)
 by_cases h0:t.cls<0
 ·refine spn (.map none) ?_
  refine spn (I 0) ?_
  refine spn (.string nost) ?_
  refine spn (.bool false) ?_
  refine rt1 ⟨vb ?_,B⟩
  unfold isTypeL
  rw [decide_eq_true h0];rfl
 ·refine spt (.map none) ?_ (hb:=decide_eq_false h0)
  refine ld h1 ?_ (hm:=trivial)
  refine spt (I 0) ?_
  refine ld (x2.cell rfl) ?_ (hm:=trivial)
  refine spt (.string nost) ?_
  refine cl (k_path L2 hu (ht.inP h0)) ?_
  rintro _ _ ⟨rfl,rfl⟩
  refine spt (.bool false) ?_
  refine cl (k_has hm _) ?_
  rintro _ w3 ⟨rfl,B3⟩
  refine rt1 ⟨vb ?_,B.trans B3⟩
  unfold isTypeL
  rw [decide_eq_false h0]
theorem k_operand {w:World} {b:Nat} {us:List Unt} {D:Dcl} (hL:Lnk w b us D) {n:Nat} {u:Unt} (hu:us[n]? = some u) {i:Ins}
  (ha:(i.op=14∨i.op=24∨i.op=17∨i.op=18∨i.op=22∨i.op=23∨i.op=25∨i.op=26)->inP u i.a) (hb:(i.op=16∨i.op=12/\¬i.a=3)->inP u i.b) :
  Ret Tryz.prog 157 #[.pointer (some ⟨b,0,none⟩),I n,.agg (encIns i).toArray] w fun v w'=>v = .bool (operL D u i)/\Bl w w':=by
 refine entr (vs:=[.pointer (some ⟨b,0,none⟩),I n,.agg (encIns i).toArray]) [0,1,2,5,6,8,9,22,34,51,64,77,89] tabok Tryz.func157 (by kernel_rfl) ?_
 refine bx (cs:=encIns i) fun b1 w1 k1 => ?_
 have B1:=k1.bl
 refine ld (k1.box.cell rfl) ?_
 by_cases e1:i.op=14∨i.op=24
 ·have eq:operL D u i=hasM D.classes (nm u i.a):=by unfold operL;rw [if_pos e1]
  have hi:=ha (by omega)
  rw [eq]
  obtain ⟨m,h1,hm⟩:=(hL.bl B1).cl
  by_cases e2:i.op=14
  ·refine brT ?_ (hp:=e2)
   refine brT ?_ (hp:=e2)
   refine dh T (List.range 11) fun w2 k2 => ?_
   have B2:=B1.trans k2.bl
   refine ld (k2.bl.cl h1) ?_ (hm:=trivial)
   refine ld ((k2.box k1.box).cell rfl) ?_ (hm:=trivial)
   refine cl (k_path (hL.bl B2) hu hi) ?_
   rintro _ _ ⟨rfl,rfl⟩
   refine cl (k_has (hm.bl k2.bl) _) ?_
   rintro _ w3 ⟨rfl,B3⟩
   exact rt1 ⟨rfl,B2.trans B3⟩
  ·refine brF ?_ (hp:=e2)
   refine brT ?_ (hp:=by omega)
   refine dh T (List.range 11) fun w2 k2 => ?_
   have B2:=B1.trans k2.bl
   refine ld (k2.bl.cl h1) ?_ (hm:=trivial)
   refine ld ((k2.box k1.box).cell rfl) ?_ (hm:=trivial)
   refine cl (k_path (hL.bl B2) hu hi) ?_
   rintro _ _ ⟨rfl,rfl⟩
   refine cl (k_has (hm.bl k2.bl) _) ?_
   rintro _ w3 ⟨rfl,B3⟩
   exact rt1 ⟨rfl,B2.trans B3⟩
 refine brF ?_ (hp:=by omega)
 refine brF ?_ (hp:=by omega)
 by_cases e2:i.op=16
 ·have eq:operL D u i=hasM D.classes (nm u i.b):=by unfold operL;rw [if_neg e1,if_pos e2]
  have hi:=hb (.inl e2)
  rw [eq]
  obtain ⟨m,h1,hm⟩:=(hL.bl B1).cl
  refine brT ?_ (hp:=e2)
  refine dh T (List.range 11) fun w2 k2 => ?_
  have B2:=B1.trans k2.bl
  refine ld (k2.bl.cl h1) ?_ (hm:=trivial)
  refine ld ((k2.box k1.box).cell rfl) ?_ (hm:=trivial)
  refine cl (k_path (hL.bl B2) hu hi) ?_
  rintro _ _ ⟨rfl,rfl⟩
  refine cl (k_has (hm.bl k2.bl) _) ?_
  rintro _ w3 ⟨rfl,B3⟩
  exact rt1 ⟨rfl,B2.trans B3⟩
 refine brF ?_ (hp:=e2)
 by_cases e3:i.op=12
 ·have eq:operL D u i=(decide (i.a=3)||hasM D.classes (nm u i.b)):=by unfold operL;rw [if_neg e1,if_neg e2,if_pos e3]
  rw [eq]
  obtain ⟨m,h1,hm⟩:=(hL.bl B1).cl
  refine brT ?_ (hp:=e3)
  refine dh T (List.range 16) fun w2 k2 => ?_
  have B2:=B1.trans k2.bl
  refine ld ((k2.box k1.box).cell rfl) ?_ (hm:=trivial)
  by_cases h3:i.a=3
  ·refine spn (.map none) ?_
   refine spn (I 0) ?_
   refine spn (.string nost) ?_
   refine spn (.bool false) ?_
   refine rt1 ⟨vb ?_,B2⟩
   simp [h3]
  ·have hi:=hb (.inr ⟨e3,h3⟩)
   refine spt (.map none) ?_ (hb:=decide_eq_false h3)
   refine ld (k2.bl.cl h1) ?_ (hm:=trivial)
   refine spt (I 0) ?_
   refine ld ((k2.box k1.box).cell rfl) ?_ (hm:=trivial)
   refine spt (.string nost) ?_
   refine cl (k_path (hL.bl B2) hu hi) ?_
   rintro _ _ ⟨rfl,rfl⟩
   refine spt (.bool false) ?_
   refine cl (k_has (hm.bl k2.bl) _) ?_
   rintro _ w3 ⟨rfl,B3⟩
   refine rt1 ⟨vb ?_,B2.trans B3⟩
   simp [h3]
 refine brF ?_ (hp:=e3)
 by_cases e4:i.op=17∨i.op=18
 ·have eq:operL D u i=(getM D.fields (nm u i.a)).getD false:=by unfold operL;rw [if_neg e1,if_neg e2,if_neg e3,if_pos e4]
  have hi:=ha (by omega)
  rw [eq]
  obtain ⟨m,h1,hm⟩:=(hL.bl B1).fi
  by_cases e5:i.op=17
  ·refine brT ?_ (hp:=e5)
   refine brT ?_ (hp:=e5)
   refine ds fun w2 k2 => ?_
   have B2:=B1.trans k2.bl
   refine ld (k2.bl.cl h1) ?_
   refine ld ((k2.box k1.box).cell rfl) ?_
   refine clq (k_path (hL.bl B2) hu hi) ?_
   refine lk tB (hm.bl k2.bl) ?_
   exact rt1 ⟨getD_enc Value.bool _ false,B2⟩
  ·refine brF ?_ (hp:=e5)
   refine brT ?_ (hp:=by omega)
   refine ds fun w2 k2 => ?_
   have B2:=B1.trans k2.bl
   refine ld (k2.bl.cl h1) ?_
   refine ld ((k2.box k1.box).cell rfl) ?_
   refine clq (k_path (hL.bl B2) hu hi) ?_
   refine lk tB (hm.bl k2.bl) ?_
   exact rt1 ⟨getD_enc Value.bool _ false,B2⟩
 refine brF ?_ (hp:=by omega)
 refine brF ?_ (hp:=by omega)
 by_cases e5:i.op=22∨i.op=23
 ·have eq:operL D u i=hasM D.statics (nm u i.a):=by unfold operL;rw [if_neg e1,if_neg e2,if_neg e3,if_neg e4,if_pos e5]
  have hi:=ha (by omega)
  rw [eq]
  obtain ⟨m,h1,hm⟩:=(hL.bl B1).st
  by_cases e6:i.op=22
  ·refine brT ?_ (hp:=e6)
   refine brT ?_ (hp:=e6)
   refine dh T (List.range 11) fun w2 k2 => ?_
   have B2:=B1.trans k2.bl
   refine ld (k2.bl.cl h1) ?_ (hm:=trivial)
   refine ld ((k2.box k1.box).cell rfl) ?_ (hm:=trivial)
   refine cl (k_path (hL.bl B2) hu hi) ?_
   rintro _ _ ⟨rfl,rfl⟩
   refine cl (k_has (hm.bl k2.bl) _) ?_
   rintro _ w3 ⟨rfl,B3⟩
   exact rt1 ⟨rfl,B2.trans B3⟩
  ·refine brF ?_ (hp:=e6)
   refine brT ?_ (hp:=by omega)
   refine dh T (List.range 11) fun w2 k2 => ?_
   have B2:=B1.trans k2.bl
   refine ld (k2.bl.cl h1) ?_ (hm:=trivial)
   refine ld ((k2.box k1.box).cell rfl) ?_ (hm:=trivial)
   refine cl (k_path (hL.bl B2) hu hi) ?_
   rintro _ _ ⟨rfl,rfl⟩
   refine cl (k_has (hm.bl k2.bl) _) ?_
   rintro _ w3 ⟨rfl,B3⟩
   exact rt1 ⟨rfl,B2.trans B3⟩
 refine brF ?_ (hp:=by omega)
 refine brF ?_ (hp:=by omega)
 by_cases e6:i.op=25
 ·have eq:operL D u i=hasM D.calls (nm u i.a):=by unfold operL;rw [if_neg e1,if_neg e2,if_neg e3,if_neg e4,if_neg e5,if_pos e6]
  have hi:=ha (by omega)
  rw [eq]
  obtain ⟨m,h1,hm⟩:=(hL.bl B1).ca
  refine brT ?_ (hp:=e6)
  refine dh T (List.range 11) fun w2 k2 => ?_
  have B2:=B1.trans k2.bl
  refine ld (k2.bl.cl h1) ?_ (hm:=trivial)
  refine ld ((k2.box k1.box).cell rfl) ?_ (hm:=trivial)
  refine cl (k_path (hL.bl B2) hu hi) ?_
  rintro _ _ ⟨rfl,rfl⟩
  refine cl (k_has (hm.bl k2.bl) _) ?_
  rintro _ w3 ⟨rfl,B3⟩
  exact rt1 ⟨rfl,B2.trans B3⟩
 refine brF ?_ (hp:=e6)
 by_cases e7:i.op=26
 ·have eq:operL D u i=hasM D.named (nm u i.a):=by unfold operL;rw [if_neg e1,if_neg e2,if_neg e3,if_neg e4,if_neg e5,if_neg e6,if_pos e7]
  have hi:=ha (by omega)
  rw [eq]
  obtain ⟨m,M,h1,hm,hN,_⟩:=(hL.bl B1).na
  refine brT ?_ (hp:=e7)
  refine dh T (List.range 11) fun w2 k2 => ?_
  have B2:=B1.trans k2.bl
  refine ld (k2.bl.cl h1) ?_ (hm:=trivial)
  refine ld ((k2.box k1.box).cell rfl) ?_ (hm:=trivial)
  refine cl (k_path (hL.bl B2) hu hi) ?_
  rintro _ _ ⟨rfl,rfl⟩
  refine cl (k_hasN (hm.bl k2.bl) _) ?_
  rintro _ w3 ⟨rfl,B3⟩
  refine rt1 ⟨vb ?_,B2.trans B3⟩
  rw [<-hN];unfold hasM;rw [getM_mapV];simp
 refine brF ?_ (hp:=e7)
 have eq:operL D u i=true:=by unfold operL;rw [if_neg e1,if_neg e2,if_neg e3,if_neg e4,if_neg e5,if_neg e6,if_neg e7]
 rw [eq]
 exact rt1 ⟨rfl,B1⟩
end Go.Proofs.YtkmdfjpafkcleaaGreatDoor
namespace Go.Proofs.YtkmdfjpafkcleaaGreatDoor
open Go Go.RowKit Eng
theorem utf8_one {n:Int} (h0:0<=n) (h1:n<128):Utf8.encode n=⟨#[UInt8.ofNat n.toNat]⟩:=by
 unfold Utf8.encode
 have hv:Utf8.valid n=true:=by unfold Utf8.valid;simp;omega
 simp only [hv,if_true]
 rw [if_pos (by omega)]
theorem range_run {P:Program} {T et:TypeId} {z:Value} (ht:MapT P T et z) {w:World} {b:Nat} {es:Array MapEntry} {clock:Nat} (hb:w.heap[b]? = some (.map es clock)) :
  (Instr.range T (.map (some b))).run P w = .ok (.pointer (some ⟨w.heap.size,0,none⟩)) (w.alloc (.mapIter (some b) clock #[] clock)):=by
 obtain ⟨kt,h1,_⟩:=ht.kt
 exact run_range_map w T kt et b es clock h1 hb
theorem next_run {P:Program} {ty:TypeId} {w:World} {it b:Nat} {es:Array MapEntry} {clock:Nat} {seen:Array Nat} (hb:w.heap[b]? = some (.map es clock)) (hi:w.heap[it]? = some (.mapIter (some b) clock seen clock)) (hs:MapKept.Stamped es clock) :
  ((leftOf es seen).size=0/\(Instr.next (.pointer (some ⟨it,0,none⟩)) false ty).run P w = .ok (.tuple #[.bool false]) w) ∨
  ∃ e∈(leftOf es seen).toList,∃ w',Wr w it w'/\w'.heap[it]? = some (.mapIter (some b) clock (seen.push e.born) clock)/\(Instr.next (.pointer (some ⟨it,0,none⟩)) false ty).run P w = .ok (.tuple #[.bool true,e.key,e.val]) w':=by
 have hold:=hs.1
 have hlt:it<w.heap.size:=(Array.getElem?_eq_some_iff.1 hi).1
 simp only [Instr.next,getObj,Sem.run_bind,Sem.run,hb,hi,Result.andThen,next_test_false seen es clock clock hold (Nat.le_refl _),Bool.false_eq_true,if_false]
 unfold leftOf
 have hmem:∀ x∈(Array.filter (fun e => !seen.contains e.born) es).toList,x.born<clock:=fun x hx=>hold x (by simp at hx ⊢;exact hx.1)
 generalize Array.filter (fun e => !seen.contains e.born) es=L at hmem ⊢
 have e1:L.filter (fun x=>decide (x.born<clock))=L:=Array.filter_eq_self.2 (fun x hx=>by simpa using hmem x (by simpa using hx))
 have e2:L.filter (fun x=>decide (x.born≥clock))=#[]:=by
  rw [Array.filter_eq_empty_iff]
  intro x hx
  have:=hmem x (by simpa using hx)
  simp
  omega
 simp only [e1,e2,Array.append_empty]
 by_cases h0:L.size=0
 ·left
  have:L=#[]:=Array.eq_empty_of_size_eq_zero h0
  subst this
  refine ⟨rfl,?_⟩
  simp [choose,Sem.run,Question.forced]
 ·right
  have hne:L.isEmpty=false:=by simp [Array.isEmpty,h0]
  have hne':(if L.isEmpty=true then #[none] else #[]:Array (Option MapEntry))=#[]:=by rw [hne];rfl
  have hcs:∀ n:Nat,∃ e,n % (L.map some).size<L.size/\(L.map some)[n % (L.map some).size]? = some (some e)/\e∈L.toList:=fun n=>by
   have h1:n % (L.map some).size<L.size:=by rw [Array.size_map];exact Nat.mod_lt _ (by omega)
   exact ⟨L[n % (L.map some).size],h1,by rw [Array.getElem?_map,Array.getElem?_eq_getElem h1];rfl,by simp⟩
  simp only [hne',Array.empty_append]
  by_cases hf:(Question.mapNext (L.map some).size).forced=true
  ·have hsz:L.size=1:=by simp [Question.forced] at hf;omega
   have hL:∃ e,L[0]? = some e/\e∈L.toList:=⟨L[0]'(by omega),Array.getElem?_eq_getElem (by omega),by simp⟩
   obtain ⟨e,he,hm⟩:=hL
   refine ⟨e,hm,{ w with heap:=w.heap.setIfInBounds it (.mapIter (some b) clock (seen.push e.born) clock) },setMap_wr ..,by simp [hlt],?_⟩
   have hf':(Question.mapNext L.size).forced=true:=by rw [Array.size_map] at hf;exact hf
   simp [choose,Sem.run,hf',Array.getElem?_map,he,setObj,hi,Result.andThen]
  ·obtain ⟨e,_,he,hm⟩:=hcs (w.tape w.drawn (Question.mapNext (L.map some).size))
   refine ⟨e,hm,{ w with drawn:=w.drawn+1,heap:=w.heap.setIfInBounds it (.mapIter (some b) clock (seen.push e.born) clock) },?_,by simp [hlt],?_⟩
   ·have h:=setMap_wr w it (.mapIter (some b) clock (seen.push e.born) clock)
    exact ⟨h.os,h.tape,h.output,h.size,h.block⟩
   ·simp only [choose,Sem.run,hf,Question.cut,Sem.run_bind,Result.andThen,he,Bool.false_eq_true,if_false]
    have hd:w.drew.heap[it]? = some (.mapIter (some b) clock seen clock):=hi
    simp [setObj,Sem.run,hd]
    exact ⟨rfl,rfl,rfl⟩
theorem entry_run {P:Program} {w:World} {it b:Nat} {es:Array MapEntry} {clock:Nat} {seen:Array Nat} {e:MapEntry} (hb:w.heap[b]? = some (.map es clock)) (hi:w.heap[it]? = some (.mapIter (some b) clock (seen.push e.born) clock)) (hs:MapKept.Stamped es clock) (he:e∈es.toList) :
  (Instr.entry (.pointer (some ⟨it,0,none⟩))).run P w = .ok (.tuple #[e.key,e.val]) w:=by
 have hf:es.find? (fun x=>x.born == e.born)=some e:=by
  rw [<-Array.find?_toList]
  have hn:=hs.2.1
  generalize es.toList=L at he hn
  induction L with
  | nil=>cases he
  | cons x L ih =>
   rw [List.map_cons,List.nodup_cons] at hn
   rw [List.find?_cons]
   by_cases hx:x.born=e.born
   ·rw [show (x.born == e.born)=true by simpa using hx]
    rcases List.mem_cons.1 he with rfl | he
    ·rfl
    ·exact absurd (List.mem_map.2 ⟨e,he,hx.symm⟩) hn.1
   ·rw [show (x.born == e.born)=false by simpa using hx]
    rcases List.mem_cons.1 he with rfl | he
    ·exact absurd rfl hx
    ·exact ih he hn.2
 simp only [Instr.entry,getObj,Sem.run_bind,Sem.run,hi,hb,Result.andThen,Array.back?_push]
 simp [hf]
theorem fsize (es:Array MapEntry) (p:MapEntry->Bool):(es.filter p).size=(es.toList.filter p).length:=by rw [<-Array.length_toList,Array.toList_filter]
theorem left_lt {es:Array MapEntry} {seen:Array Nat} {e:MapEntry} (he:e∈(leftOf es seen).toList):(leftOf es (seen.push e.born)).size<(leftOf es seen).size:=by
 unfold leftOf at *
 rw [fsize,fsize]
 rw [Array.toList_filter] at he
 generalize es.toList=L at he
 induction L with
 | nil=>simp at he
 | cons x L ih =>
  have mono:(List.filter (fun y => !(seen.push e.born).contains y.born) L).length<=(List.filter (fun y => !seen.contains y.born) L).length:=by
   rw [<-List.countP_eq_length_filter,<-List.countP_eq_length_filter]
   refine List.countP_mono_left fun y _ hy => ?_
   simp at hy ⊢
   exact hy.1
  by_cases hx:x=e
  ·subst hx
   rw [List.mem_filter] at he
   have h1:(!seen.contains x.born)=true:=he.2
   rw [List.filter_cons_of_pos (p:=fun y:MapEntry => !seen.contains y.born) h1,List.filter_cons_of_neg (p:=fun y:MapEntry => !(seen.push x.born).contains y.born) (by simp)]
   simp only [List.length_cons];omega
  ·have he':e∈List.filter (fun e => !seen.contains e.born) L:=by
    rw [List.mem_filter] at he ⊢
    exact ⟨(List.mem_cons.1 he.1).resolve_left (fun q=>hx q.symm),he.2⟩
   have:=ih he'
   by_cases h1:(!seen.contains x.born)=true
   ·rw [List.filter_cons_of_pos (p:=fun y:MapEntry => !seen.contains y.born) (by simpa using h1)]
    by_cases h2:(!(seen.push e.born).contains x.born)=true
    ·rw [List.filter_cons_of_pos (by simpa using h2)];simp only [List.length_cons];omega
    ·rw [List.filter_cons_of_neg (by simpa using h2)];simp only [List.length_cons];omega
   ·rw [List.filter_cons_of_neg (p:=fun y:MapEntry => !seen.contains y.born) (by simpa using h1)]
    by_cases h2:(!(seen.push e.born).contains x.born)=true
    ·simp at h1 h2
     exact absurd h1 h2.1
    ·rw [List.filter_cons_of_neg (by simpa using h2)];exact this
namespace Eng
variable {C:Cx} {s:St} {w:World}
theorem rg {ops:Array Oper} {T et:TypeId} {z:Value} {x:Operand} {d:Nat} {ty:TypeId} {pos:String} {af:Array Edge} {g:Option (Nat×Bool)} {rest:List Oper} {k:List Item} {l:Env} {c:CEnv} {b:Nat} {es:Array MapEntry} {clock:Nat}
  (ht:MapT C.P T et z) (hM:w.heap[b]? = some (.map es clock)) (h:∀ it w',it=w.heap.size->Bl w w'->w'.heap[it]? = some (.mapIter (some b) clock #[] clock)->Wk C (.reg none ops rest k ((d,.pointer (some ⟨it,0,none⟩))::l) c) w')
  (hs:adv C.tab C.n C.ks 400 s = .opn none ops ⟨some d,.range T x,ty,pos,af,g⟩ rest k l c []:=by rfl) (hx:evc l c [] x=some (.map (some b)):=by rfl) (hf:fresh d l c []=true:=by rfl):Wk C s w :=
 op_val (md:=none) (v := .pointer (some ⟨w.heap.size,0,none⟩)) (w':=w.alloc (.mapIter (some b) clock #[] clock)) rfl (show True from trivial) (fun _ a hA=>by
  simp only [execOp,evc_ok hA.k hA.kc.c (p:=[]) trivial hx]
  exact (run_bind_ok (range_run ht hM)).trans rfl) (h _ _ rfl ((Below.refl _ _).alloc (Nat.le_refl _) _) (by show (w.heap.push _)[w.heap.size]? = _;simp)) hs rfl hf
theorem nx {ops:Array Oper} {x:Operand} {d:Nat} {ty:TypeId} {pos:String} {af:Array Edge} {g:Option (Nat×Bool)} {rest:List Oper} {k:List Item} {l:Env} {c:CEnv} {it b:Nat} {es:Array MapEntry} {clock:Nat} {seen:Array Nat}
  (hb:w.heap[b]? = some (.map es clock)) (hi:w.heap[it]? = some (.mapIter (some b) clock seen clock)) (hst:MapKept.Stamped es clock)
  (h0:(leftOf es seen).size=0->Wk C (.reg none ops rest k ((d,.tuple #[.bool false])::l) c) w)
  (h1:∀ e w',e∈(leftOf es seen).toList->Wr w it w'->w'.heap[it]? = some (.mapIter (some b) clock (seen.push e.born) clock)->Wk C (.reg none ops rest k ((d,.tuple #[.bool true,e.key,e.val])::l) c) w')
  (hs:adv C.tab C.n C.ks 400 s = .opn none ops ⟨some d,.next x false,ty,pos,af,g⟩ rest k l c []:=by rfl) (hx:evc l c [] x=some (.pointer (some ⟨it,0,none⟩)):=by rfl) (hf:fresh d l c []=true:=by rfl):Wk C s w:=by
 rcases next_run (P:=C.P) (ty:=ty) hb hi hst with ⟨q,hr⟩ | ⟨e,he,w',hw,hi',hr⟩
 ·exact op_val (md:=none) rfl (show True from trivial) (fun _ a hA=>by
   simp only [execOp,evc_ok hA.k hA.kc.c (p:=[]) trivial hx]
   exact (run_bind_ok hr).trans rfl) (h0 q) hs rfl hf
 ·exact op_val (md:=none) rfl (show True from trivial) (fun _ a hA=>by
   simp only [execOp,evc_ok hA.k hA.kc.c (p:=[]) trivial hx]
   exact (run_bind_ok hr).trans rfl) (h1 e w' he hw hi') hs rfl hf
theorem ety {md:Option Md} {ops:Array Oper} {x:Operand} {d:Nat} {ty:TypeId} {pos:String} {af:Array Edge} {g:Option (Nat×Bool)} {rest:List Oper} {k:List Item} {l:Env} {c:CEnv} {it b:Nat} {es:Array MapEntry} {clock:Nat} {seen:Array Nat} {e:MapEntry}
  (hb:w.heap[b]? = some (.map es clock)) (hi:w.heap[it]? = some (.mapIter (some b) clock (seen.push e.born) clock)) (hst:MapKept.Stamped es clock) (he:e∈es.toList)
  (h:Wk C (.reg md ops rest k ((d,.tuple #[e.key,e.val])::l) c) w)
  (hs:adv C.tab C.n C.ks 400 s = .opn md ops ⟨some d,.entry x,ty,pos,af,g⟩ rest k l c []:=by rfl) (hx:evc l c [] x=some (.pointer (some ⟨it,0,none⟩)):=by rfl) (hf:fresh d l c []=true:=by rfl) (hnh:notH md=true:=by rfl):Wk C s w :=
 rd (p:=[]) (fun _ _ hA hp _ hk=>by
  rw [mdR_eq hnh hk]
  simp only [execOp,evc_ok hA.k hA.kc.c hp hx]
  exact (run_bind_ok (entry_run hb hi hst he)).trans rfl) h hs rfl hf (okR_no rfl)
theorem sln {md:Option Md} {ops:Array Oper} {T T':TypeId} {x y:Operand} {d:Nat} {ty:TypeId} {pos:String} {af:Array Edge} {g:Option (Nat×Bool)} {rest:List Oper} {k:List Item} {l:Env} {c:CEnv} {e esz by' sz:Nat} {ag:Bool} {zr:List Value} {a:Option Addr} {n cap:Nat}
  (h:Wk C (.reg md ops rest k ((d,.bool a.isNone)::l) c) w)
  (hs:adv C.tab C.n C.ks 400 s = .opn md ops ⟨some d,.binOp .eql T x y T',ty,pos,af,g⟩ rest k l c []:=by rfl) (ht:C.tab.at T=some ⟨.slice e esz by',sz,ag,zr⟩:=by rfl)
  (hx:evc l c [] x=some (.slice a n cap):=by rfl) (hy:evc l c [] y=some (.slice none 0 0):=by rfl) (hf:fresh d l c []=true:=by rfl):Wk C s w :=
 rd (p:=[]) (fun hT _ hA hp w' _=>by
  obtain ⟨dd,xx,zz,hT'⟩:=tiOk_und (tab_at hT ht)
  obtain ⟨rfl,_⟩:=hT'.sl _ _ _ rfl
  have hu:=hT'.und
  simp only [execOp,evc_ok hA.k hA.kc.c hp hx,evc_ok hA.k hA.kc.c hp hy]
  have hb:(binOp .eql T (.slice a n cap) (.slice none 0 0)).run C.P w' = .ok (.bool a.isNone) w':=by
   show (Sem.bind (Op.equal T (.slice a n cap) (.slice none 0 0)) _).run C.P w'=_
   refine (run_bind_ok (P:=C.P) (x:=a.isNone) (w':=w') ?_).trans rfl
   unfold Op.equal
   show (Op.equalIn (9999+1) T _ _).run C.P w'=_
   unfold Op.equalIn
   rw [run_bind_ok (und_run hu w')]
   cases a <;> rfl
  exact run_bind_ok (run_bind_ok (P:=C.P) (x:=()) (w':=w') rfl |>.trans hb) |>.trans rfl) h hs rfl hf (okR_no rfl)
theorem cvs {md:Option Md} {ops:Array Oper} {S T:TypeId} {x:Operand} {d:Nat} {ty:TypeId} {pos:String} {af:Array Edge} {g:Option (Nat×Bool)} {rest:List Oper} {k:List Item} {l:Env} {c:CEnv} {ka ks:IntKind} {a:Int}
  (hS:C.P.underlying S=some (.int ks)) (hT:C.P.underlying T=some .string) (h:Wk C (.reg md ops rest k ((d,.string (Utf8.encode a))::l) c) w)
  (hs:adv C.tab C.n C.ks 400 s = .opn md ops ⟨some d,.convert S T x,ty,pos,af,g⟩ rest k l c []:=by rfl) (hx:evc l c [] x=some (.int ka a):=by rfl) (hf:fresh d l c []=true:=by rfl):Wk C s w :=
 rd (p:=[]) (fun _ _ hA hp w' _=>by
  simp only [execOp,evc_ok hA.k hA.kc.c hp hx]
  refine (run_bind_ok (P:=C.P) (x := .string (Utf8.encode a)) (w':=w') ?_).trans rfl
  unfold convert
  rw [run_bind_ok (und_run hS w'),run_bind_ok (und_run hT w')]
  rfl) h hs rfl hf (okR_no rfl)
def advN (tab:Tab) (n:Nat) (ks:List Nat) (len:Nat):Nat->St->St
 | 0,s=>s
 | m+1,s=>match s with
  | .code k l=>match Nat.beq k.length len with
   | true => .code k l
   | false=>match adv1 tab n ks (.code k l) with
    | some s'=>advN tab n ks len m s'
    | none => .code k l
  | s=>match adv1 tab n ks s with
   | some s'=>advN tab n ks len m s'
   | none=>s
theorem advN_ok {len:Nat}:∀ (m:Nat) {s:St},Wk C (advN C.tab C.n C.ks len m s) w->Wk C s w
 | 0,_,h=>h
 | m+1,s,h=>by
  have key:∀ s:St,Wk C (match adv1 C.tab C.n C.ks s with | some s'=>advN C.tab C.n C.ks len m s' | none=>s) w->Wk C s w:=fun s h=>by
   cases hs:adv1 C.tab C.n C.ks s with
   | none=>rw [hs] at h;exact h
   | some s'=>rw [hs] at h;exact adv1_ok hs (advN_ok m h)
  cases s with
  | code k l =>
   simp only [advN] at h
   cases hb:Nat.beq k.length len with
   | true=>rw [hb] at h;exact h
   | false=>rw [hb] at h;exact key _ h
  | reg md ops rest k l c=>exact key _ h
  | opn md ops o rest k l c p=>exact key _ h
theorem jn {c:Operand} {x y:Code} {t:Bool} {k:List Item} {l:Env} (sel:List Nat) (keep:Env) (Mid:List Value->World->Prop)
  (h1:t=true->(∀ {s':St} {l'':Env} {vals:List Value} {w'':World},Mid vals w''->(hs':advN C.tab C.n C.ks k.length 400 s' = .code k l'':=by rfl)->(hsub:Sub keep l'':=by repeat (first | exact True.intro | (refine ⟨rfl,?_⟩)))->(hv:lookAll l'' sel=some vals:=by rfl)->Wk C s' w'')->Wk C (.code (.code x::k) l) w)
  (h2:t=false->(∀ {s':St} {l'':Env} {vals:List Value} {w'':World},Mid vals w''->(hs':advN C.tab C.n C.ks k.length 400 s' = .code k l'':=by rfl)->(hsub:Sub keep l'':=by repeat (first | exact True.intro | (refine ⟨rfl,?_⟩)))->(hv:lookAll l'' sel=some vals:=by rfl)->Wk C s' w'')->Wk C (.code (.code y::k) l) w)
  (h3:∀ vals w'',Mid vals w''->Wk C (.code k (pair sel vals keep)) w'')
  (hs:adv C.tab C.n C.ks 400 s = .code (.code (.cond c x y)::k) l:=by rfl) (hc:evq l c=some (.bool t):=by rfl):Wk C s w:=by
 have go:∀ {s':St} {l'':Env} {vals:List Value} {w'':World},Mid vals w''->advN C.tab C.n C.ks k.length 400 s' = .code k l''->Sub keep l''->lookAll l'' sel=some vals->Wk C s' w'':=fun hm hs' hsub hv =>
  advN_ok (len:=k.length) 400 (by rw [hs'];exact wk_forget (look_pair hsub hv) (h3 _ _ hm))
 exact br (fun h=>h1 h (fun hm hs' hsub hv=>go hm hs' hsub hv)) (fun h=>h2 h (fun hm hs' hsub hv=>go hm hs' hsub hv)) hs hc
theorem cut {c0:Item} {k:List Item} {l:Env} (sel:List Nat) (keep:Env) (Mid:List Value->World->Prop)
  (h1:(∀ {s':St} {l'':Env} {vals:List Value} {w'':World},Mid vals w''->(hs':advN C.tab C.n C.ks k.length 400 s' = .code k l'':=by rfl)->(hsub:Sub keep l'':=by repeat (first | exact True.intro | (refine ⟨rfl,?_⟩)))->(hv:lookAll l'' sel=some vals:=by rfl)->Wk C s' w'')->Wk C (.code (c0::k) l) w)
  (h3:∀ vals w'',Mid vals w''->Wk C (.code k (pair sel vals keep)) w'')
  (hs:adv C.tab C.n C.ks 400 s = .code (c0::k) l:=by rfl):Wk C s w :=
 by_adv hs (h1 fun hm hs' hsub hv=>advN_ok (len:=k.length) 400 (by rw [hs'];exact wk_forget (look_pair hsub hv) (h3 _ _ hm)))
end Eng
end Go.Proofs.YtkmdfjpafkcleaaGreatDoor
namespace Go.Proofs.YtkmdfjpafkcleaaGreatDoor.Eng
open Go Go.RowKit
def fpV:Value->Option Nat
 | .pointer (some a)=>some a.block
 | .slice (some a) _ _=>some a.block
 | _=>none
structure Pr where
 rd:List Nat
 nw:Bool
 sp:(Nat->Value)->World->Prop
structure PrOk (p:Pr) (d:Nat):Prop where
 mono:∀ {g w w'},Bl w w'->p.sp g w->p.sp g w'
 loc:∀ {g g' w},(∀ j∈p.rd,g j=g' j)->p.sp g w->p.sp g' w
 lt:∀ {g w b},p.nw=true->p.sp g w->fpV (g d)=some b->b<w.heap.size
def valsOf (a:Act):Nat->Value:=fun d=>a.tmps.getD d undef
def Pr.cst (d:Nat) (v:Value):Pr:=⟨[d],false,fun g _=>g d=v⟩
theorem Pr.cst_ok (d:Nat) (v:Value):PrOk (Pr.cst d v) d:=⟨fun _ h=>h,fun h k=>(h d (List.mem_singleton.2 rfl)).symm.trans k,fun h=>by cases h⟩
def Pr.box (d:Nat) (f:Nat->Value) (t:TypeId) (cs:List Value):Pr:=⟨[d],true,fun g w=>∃ b,g d=f b/\Box w b t cs⟩
theorem Pr.box_ok (d:Nat) (f:Nat->Value) (t:TypeId) (cs:List Value) (hf:∀ b,fpV (f b)=some b):PrOk (Pr.box d f t cs) d :=
 ⟨fun h ⟨b,e,k⟩=>⟨b,e,Bl.box h k⟩,fun h ⟨b,e,k⟩=>⟨b,(h d (List.mem_singleton.2 rfl)).symm.trans e,k⟩,fun _ ⟨b,e,k⟩ hb=>by
  rw [e,hf] at hb;cases hb;exact k.lt⟩
def Pr.fn (d:Nat) (rs:List Nat) (f:List Value->Value):Pr:=⟨d::rs,false,fun g _=>g d=f (rs.map g)⟩
theorem Pr.fn_ok (d:Nat) (rs:List Nat) (f:List Value->Value):PrOk (Pr.fn d rs f) d :=
 ⟨fun _ h=>h,fun {g g' w} h k=>by
  have e:rs.map g=rs.map g':=List.map_congr_left fun j hj=>h j (List.mem_cons_of_mem _ hj)
  show g' d=f (rs.map g')
  rw [<-e,<-h d (List.mem_cons_self ..)];exact k,fun h=>by cases h⟩
def nthD (ops:List Oper) (i:Nat):Option Nat:=match ops[i]? with
 | some o=>o.dst
 | none=>none
def memN (d:Nat):List Nat->Bool
 | []=>false
 | j::r=>Nat.beq j d||memN d r
theorem memN_iff {d:Nat}:∀ {l:List Nat},memN d l=true↔d∈l
 | []=>by simp [memN]
 | j::r=>by
  simp only [memN,Bool.or_eq_true,List.mem_cons,memN_iff (l:=r)]
  constructor
  ·rintro (h | h)
   ·exact .inl (Nat.eq_of_beq_eq_true h).symm
   ·exact .inr h
  ·rintro (h | h)
   ·exact .inl (by rw [h];exact Nat.beq_refl _)
   ·exact .inr h
def dstIs (ops:Array Oper) (j r:Nat):Bool:=match ops.toList[j]? with
 | some oj=>(match oj.dst with | some dj=>Nat.beq dj r | none=>false)
 | none=>false
theorem dstIs_of {ops:Array Oper} {j r:Nat} (h:dstIs ops j r=true):∃ o,ops[j]? = some o/\o.dst=some r:=by
 unfold dstIs at h
 split at h
 ·rename_i o ho
  split at h
  ·rename_i d hd
   exact ⟨o,by rw [<-Array.getElem?_toList];exact ho,by rw [hd,Nat.eq_of_beq_eq_true h]⟩
  ·cases h
 ·cases h
def parOp (n:Nat) (l:Env) (ops:Array Oper) (i:Nat) (o:Oper) (p:Pr):Bool:=match o.dst with
 | none=>false
 | some d=>Nat.blt d n&&isNone (look l d)&&o.guard.isNone&&(match o.op with | .select .. => false | _=>true) &&
  (o.after.all fun e => !Region.binds .any e||Nat.blt e.on i) &&
  (p.rd.all fun r=>Nat.beq r d||(o.after.any fun e=>Region.binds .any e&&dstIs ops e.on r))
def parB (n:Nat) (l:Env) (ops:Array Oper):Nat->List Pr->List Oper->Bool
 | _,[],_=>true
 | i,p::ps,o::os=>parOp n l ops i o p&&parB n l ops (i+1) ps os
 | _,_,_=>false
def waitB (m:Nat) (os:List Oper):Bool:=os.all fun o=>(List.range m).all fun j=>o.after.any fun e=>Region.binds .any e&&Nat.beq e.on j
def distB:List Nat->Bool
 | []=>true
 | d::r => !memN d r&&distB r
def dsts:List Oper->List Nat
 | []=>[]
 | o::os=>match o.dst with
  | some d=>d::dsts os
  | none=>dsts os
def penv:List Oper->(Nat->Value)->Env->Env
 | [],_,l=>l
 | o::os,g,l=>match o.dst with
  | some d=>(d,g d)::penv os g l
  | none=>penv os g l
theorem penv_knows {a:Act} {l:Env} (hk:Knows l a):∀ os:List Oper,Knows (penv os (valsOf a) l) a
 | []=>hk
 | o::os=>by
  simp only [penv]
  cases o.dst with
  | none=>exact penv_knows hk os
  | some d =>
   intro j v hj
   simp only [look] at hj
   cases hb:Nat.beq d j with
   | true=>simp only [hb,cond_true,Option.some.injEq] at hj;have:=Nat.eq_of_beq_eq_true hb;subst this;exact hj
   | false=>simp only [hb,cond_false] at hj;exact penv_knows hk os j v hj
theorem parB_at {n:Nat} {l:Env} {ops:Array Oper}:∀ {ps:List Pr} {os:List Oper} {i:Nat},parB n l ops i ps os=true->∀ {j:Nat} {p:Pr},ps[j]? = some p->∃ o,os[j]? = some o/\parOp n l ops (i+j) o p=true
 | [],_,_,_,j,p,hp=>by simp at hp
 | p::ps,[],_,h,_,_,_=>by simp [parB] at h
 | p::ps,o::os,i,h,0,q,hq=>by
  simp only [parB,Bool.and_eq_true] at h
  simp at hq;subst hq;exact ⟨o,rfl,h.1⟩
 | p::ps,o::os,i,h,j+1,q,hq=>by
  simp only [parB,Bool.and_eq_true] at h
  obtain ⟨o',h1,h2⟩:=parB_at h.2 (j:=j) (by simpa using hq)
  exact ⟨o',by simpa using h1,by rw [show i+(j+1)=i+1+j by omega];exact h2⟩
theorem dsts_ne:∀ {os:List Oper},distB (dsts os)=true->∀ {i j:Nat} {oi oj:Oper} {d:Nat},os[i]? = some oi->os[j]? = some oj->oi.dst=some d->oj.dst=some d->i=j
 | [],_,i,_,_,_,_,h,_,_,_=>by simp at h
 | o::os,h,i,j,oi,oj,d,hi,hj,di,dj=>by
  have mem:∀ {k:Nat} {ok:Oper},os[k]? = some ok->ok.dst=some d->d∈dsts os:=fun {k ok} hk dk=>by
   have:=List.mem_of_getElem? hk
   clear hk h hi hj
   induction os with
   | nil=>cases this
   | cons x os ih =>
    cases this with
    | head=>simp [dsts,dk]
    | tail _ hm =>
     simp only [dsts]
     split
     ·exact List.mem_cons_of_mem _ (ih hm)
     ·exact ih hm
  have h':distB (dsts os)=true:=by
   simp only [dsts] at h
   split at h
   ·simp only [distB,Bool.and_eq_true] at h;exact h.2
   ·exact h
  cases i with
  | zero =>
   simp at hi;subst hi
   cases j with
   | zero=>rfl
   | succ j =>
    exfalso
    simp only [dsts,di,distB,Bool.and_eq_true,Bool.not_eq_true'] at h
    have:=memN_iff.2 (mem (k:=j) (by simpa using hj) dj)
    rw [this] at h;exact absurd h.1 (by simp)
  | succ i =>
   cases j with
   | zero =>
    exfalso
    simp at hj;subst hj
    simp only [dsts,dj,distB,Bool.and_eq_true,Bool.not_eq_true'] at h
    have:=memN_iff.2 (mem (k:=i) (by simpa using hi) di)
    rw [this] at h;exact absurd h.1 (by simp)
   | succ j=>rw [dsts_ne h' (i:=i) (j:=j) (by simpa using hi) (by simpa using hj) di dj]
def StepOk (C:Cx) (l:Env) (w0:World) (o:Oper) (p:Pr) (deps:(Nat->Value)->World->Prop):Prop :=
 ∀ (a:Act) (w:World),Bl w0 w->Knows l a->deps (valsOf a) w->∃ v w',(execOp a.eval o).run C.P w = .ok (.value v) w'/\(∀ d,o.dst=some d->∀ g,(∀ j,j≠d->g j=valsOf a j)->g d=v->p.sp g w')/\Bl w w'/\(p.nw=true->∀ b,fpV v=some b->w.heap.size<=b)
def depsOf (prs:List Pr) (o:Oper) (g:Nat->Value) (w:World):Prop:=∀ e∈o.after,Region.binds .any e=true->∀ p,prs[e.on]? = some p->p.sp g w
theorem getD_ones (m k j:Nat):((List.replicate m true++List.replicate k false).toArray.getD j true)=decide (j<m∨m+k<=j):=by
 rw [Array.getD_eq_getD_getElem?,List.getElem?_toArray]
 by_cases h:j<m
 ·rw [List.getElem?_append_left (by simpa using h)];simp [h]
 ·rw [List.getElem?_append_right (by simpa using h),List.getElem?_replicate]
  simp only [List.length_replicate]
  by_cases h2:j-m<k
  ·rw [if_pos h2];simp;omega
  ·rw [if_neg h2];simp;omega
section
variable {C:Cx} {ops:Array Oper} {prs:List Pr} {l:Env} {w0:World} {k:List Item} {S:Nat->Prop}
structure PInv (C:Cx) (ops:Array Oper) (prs:List Pr) (l:Env) (w0:World) (listed:Array Bool) (a:Act) (w:World):Prop where
 ok:OkA C a l []
 bl:Bl w0 w
 sz:listed.size=ops.size
 hi:∀ j,prs.length<=j->j<ops.size->listed.getD j true=false
 sp:∀ j p,prs[j]? = some p->listed.getD j true=true->p.sp (valsOf a) w
 dep:∀ j o e,j<prs.length->ops[j]? = some o->listed.getD j true=true->e∈o.after->Region.binds .any e=true->listed.getD e.on true=true
 ge:∀ (i:Nat) (p:Pr) (o:Oper) (d b:Nat),prs[i]? = some p->ops[i]? = some o->o.dst=some d->listed.getD i true=true->p.nw=true->fpV (valsOf a d)=some b->w0.heap.size<=b
 dist:∀ (i j:Nat) (pi pj:Pr) (oi oj:Oper) (di dj bi bj:Nat),i≠j->prs[i]? = some pi->prs[j]? = some pj->ops[i]? = some oi->ops[j]? = some oj->oi.dst=some di->oj.dst=some dj->listed.getD i true=true->listed.getD j true=true->pi.nw=true->pj.nw=true->fpV (valsOf a di)=some bi->fpV (valsOf a dj)=some bj->bi≠bj
theorem valsOf_put {a:Act} {d:Nat} {v:Value} (hd:d<a.tmps.size) (j:Nat):valsOf (a.put (some d) v) j=if j=d then v else valsOf a j:=get_put hd
def unl (m:Nat) (listed:Array Bool):Nat:=((List.range m).filter fun j => !listed.getD j true).length
theorem unl_set {m i:Nat} {listed:Array Bool} (hi:i<m) (h:listed.getD i true=false):unl m (listed.setIfInBounds i true)+1=unl m listed:=by
 unfold unl
 have hil:i<listed.size:=by
  rcases Nat.lt_or_ge i listed.size with h' | h'
  ·exact h'
  ·rw [Array.getD_eq_getD_getElem?,Array.getElem?_eq_none h'] at h;cases h
 have key:∀ L:List Nat,L.Nodup->i∈L->(L.filter fun j => !(listed.setIfInBounds i true).getD j true).length+1=(L.filter fun j => !listed.getD j true).length:=by
  intro L
  induction L with
  | nil=>intro _ h;cases h
  | cons x L ih =>
   intro hn hm
   rw [List.nodup_cons] at hn
   by_cases hx:x=i
   ·subst hx
    have e1:(!(listed.setIfInBounds x true).getD x true)=false:=by
     rw [Array.getD_eq_getD_getElem?,Array.getElem?_setIfInBounds_self_of_lt hil];rfl
    have e2:(!listed.getD x true)=true:=by rw [h];rfl
    rw [List.filter_cons,if_neg (by rw [e1];simp),List.filter_cons,if_pos e2,List.length_cons]
    congr 1
    congr 1
    apply List.filter_congr
    intro y hy
    have hne:x≠y:=fun e=>hn.1 (e▸hy)
    rw [getD_set_ne true hne]
   ·have hm':i∈L:=by
     cases hm with
     | head=>exact absurd rfl hx
     | tail _ h=>exact h
    have e1:(listed.setIfInBounds i true).getD x true=listed.getD x true:=getD_set_ne true (Ne.symm hx)
    have:=ih hn.2 hm'
    rw [List.filter_cons,List.filter_cons,e1]
    split
    ·simp only [List.length_cons];omega
    ·exact this
 exact key _ List.nodup_range (List.mem_range.2 hi)
theorem unl_zero {m:Nat} {listed:Array Bool} (h:unl m listed=0) {j:Nat} (hj:j<m):listed.getD j true=true:=by
 unfold unl at h
 have:=List.eq_nil_of_length_eq_zero h
 by_cases hc:listed.getD j true=true
 ·exact hc
 ·exfalso
  have hm:j∈((List.range m).filter fun j => !listed.getD j true):=List.mem_filter.2 ⟨List.mem_range.2 hj,by simpa using hc⟩
  rw [this] at hm;cases hm
theorem par_run (hlen:prs.length<=ops.size) (hB:parB C.n l ops 0 prs (ops.toList.take prs.length)=true) (hd:distB (dsts (ops.toList.take prs.length))=true) (hwt:waitB prs.length (ops.toList.drop prs.length)=true)
  (hok:∀ (i:Nat) (o:Oper) (p:Pr) (d:Nat),ops[i]? = some o->prs[i]? = some p->o.dst=some d->PrOk p d) (hstep:∀ (i:Nat) (o:Oper) (p:Pr),ops[i]? = some o->prs[i]? = some p->StepOk C l w0 o p (depsOf prs o))
  (fuel0:Nat) {Q:Exit->Act->World->Prop}
  (hend:∀ a w,PInv C ops prs l w0 (List.replicate prs.length true++List.replicate (ops.size-prs.length) false).toArray a w->wpM C.P .any ops Q S (ops.size-0) fuel0 (List.replicate prs.length true++List.replicate (ops.size-prs.length) false).toArray a w) :
  ∀ (u:Nat) (listed:Array Bool) (a:Act) (w:World),unl prs.length listed=u->PInv C ops prs l w0 listed a w->wpM C.P .any ops Q S (ops.size-0) (fuel0+u) listed a w:=by
 have opOf:∀ {i:Nat} {p:Pr},prs[i]? = some p->∃ o,ops[i]? = some o/\parOp C.n l ops i o p=true:=fun {i p} hp=>by
  obtain ⟨o,h1,h2⟩:=parB_at hB hp
  rw [Nat.zero_add] at h2
  have hi:=(List.getElem?_eq_some_iff.1 hp).1
  rw [List.getElem?_take,if_pos hi,Array.getElem?_toList] at h1
  exact ⟨o,h1,h2⟩
 intro u
 induction u with
 | zero =>
  intro listed a w hu hI
  have e:listed=(List.replicate prs.length true++List.replicate (ops.size-prs.length) false).toArray:=by
   apply Array.ext
   ·rw [hI.sz];simp;omega
   ·intro j h1 h2
    have e1:listed[j]=listed.getD j true:=by simp [Array.getD,h1]
    have e2:(List.replicate prs.length true++List.replicate (ops.size-prs.length) false).toArray[j]=(List.replicate prs.length true++List.replicate (ops.size-prs.length) false).toArray.getD j true:=by unfold Array.getD;rw [dif_pos h2];rfl
    rw [e1,e2,getD_ones]
    by_cases hj:j<prs.length
    ·rw [unl_zero hu hj,decide_eq_true (.inl hj)]
    ·rw [hI.hi j (by omega) (by rw [<-hI.sz];exact h1),decide_eq_false]
     rw [hI.sz] at h1;omega
  rw [e] at hI ⊢
  exact hend a w hI
 | succ u ih =>
  intro listed a w hu hI
  have hun:∃ i,i<prs.length/\listed.getD i true=false/\∀ j,j<i->listed.getD j true=true:=by
   have hex:∃ i,i<prs.length/\listed.getD i true=false:=by
    unfold unl at hu
    obtain ⟨i,hi⟩:=List.exists_mem_of_ne_nil (l:=(List.range prs.length).filter fun j => !listed.getD j true) (by intro h0;rw [h0] at hu;cases hu)
    rw [List.mem_filter,List.mem_range] at hi
    exact ⟨i,hi.1,by simpa using hi.2⟩
   obtain ⟨i,h1,h2⟩:=hex
   induction i using Nat.strongRecOn with
   | _ i ihi =>
    by_cases hall:∀ j,j<i->listed.getD j true=true
    ·exact ⟨i,h1,h2,hall⟩
    ·have ⟨j,hj⟩:=Classical.not_forall.1 hall
     have ⟨hj1,hj2⟩:=Classical.not_imp.1 hj
     exact ihi j hj1 (by omega) (by simpa using hj2)
  refine ⟨fun h0 => ?_,fun i hi => ?_⟩
  ·exfalso
   obtain ⟨i,h1,h2,h3⟩:=hun
   obtain ⟨p,hp⟩:=some_of_lt h1
   obtain ⟨o,ho,hpo⟩:=opOf hp
   have:i∈Region.ready .any ops listed:=by
    rw [mem_ready]
    refine ⟨h2,o,ho,fun e he hb => ?_⟩
    unfold parOp at hpo
    cases hdst:o.dst with
    | none=>rw [hdst] at hpo;cases hpo
    | some d =>
     rw [hdst] at hpo
     simp only [Bool.and_eq_true] at hpo
     have:=Array.all_eq_true_iff_forall_mem.1 hpo.1.2 e he
     rw [hb] at this
     have hlt:e.on<i:=blt_lt (by simpa using this)
     have:=h3 e.on hlt
     have hsz:e.on<listed.size:=by rw [hI.sz];omega
     simpa [Array.getD,hsz] using this
   rw [h0] at this;cases this
  ·obtain ⟨hil,o,ho,hall⟩:=mem_ready.1 hi
   have hisz:i<ops.size:=(Array.getElem?_eq_some_iff.1 ho).1
   have him:i<prs.length:=by
    rcases Nat.lt_or_ge i prs.length with h | h
    ·exact h
    ·exfalso
     obtain ⟨i1,h1,h2,_⟩:=hun
     have hm:o∈ops.toList.drop prs.length:=by
      rw [List.mem_iff_getElem?]
      exact ⟨i-prs.length,by rw [List.getElem?_drop,show prs.length+(i-prs.length)=i by omega,Array.getElem?_toList];exact ho⟩
     have:=List.all_eq_true.1 (List.all_eq_true.1 hwt o hm) i1 (List.mem_range.2 h1)
     obtain ⟨e,he,hb⟩:=Array.any_eq_true'.1 this
     simp only [Bool.and_eq_true] at hb
     have e1:=hall e he hb.1
     rw [Nat.eq_of_beq_eq_true hb.2] at e1
     have hsz:i1<listed.size:=by rw [hI.sz];omega
     simp [Array.getD,hsz] at e1 h2
     rw [h2] at e1;cases e1
   obtain ⟨p,hp⟩:=some_of_lt him
   obtain ⟨o',ho',hpo⟩:=opOf hp
   rw [ho] at ho'
   obtain rfl:=Option.some.inj ho'
   unfold parOp at hpo
   cases hdst:o.dst with
   | none=>rw [hdst] at hpo;cases hpo
   | some d =>
    rw [hdst] at hpo
    simp only [Bool.and_eq_true] at hpo
    obtain ⟨⟨⟨⟨⟨g1,g2⟩,g3⟩,g4⟩,g5⟩,g6⟩:=hpo
    have hdn:d<a.tmps.size:=by rw [hI.ok.size];exact blt_lt g1
    have hdeps:depsOf prs o (valsOf a) w:=fun e he hb q hq=>by
     refine hI.sp e.on q hq ?_
     have:=hall e he hb
     have hsz:e.on<listed.size:=by
      rcases Nat.lt_or_ge e.on listed.size with h | h
      ·exact h
      ·rw [Array.getD_eq_getD_getElem?,Array.getElem?_eq_none h] at this;cases this
     simpa [Array.getD,hsz] using this
    obtain ⟨v,w',hr,hsp,hbl,hfp⟩:=hstep i o p ho hp a w hI.bl hI.ok.k hdeps
    have hwanted:Region.wanted o (yielded ops a.tmps)=true:=by
     unfold Region.wanted
     cases hg:o.guard with
     | none=>rfl
     | some x=>rw [hg] at g3;cases g3
    unfold wpOp
    simp only [ho,hwanted,if_true]
    left
    unfold Oper.wp
    rw [hr]
    show (_->Kb S w w')/\wpM C.P .any ops Q S (ops.size-0) (fuel0+u) (listed.setIfInBounds i true) (a.put o.dst v) w'
    rw [hdst]
    refine ⟨fun _=>hbl.kb S,ih _ _ _ ?_ ?_⟩
    ·have:=unl_set him hil;omega
    have hne:∀ j,j≠i->(listed.setIfInBounds i true).getD j true=listed.getD j true:=fun j hj=>getD_set_ne true (Ne.symm hj)
    have hpv:∀ j,j≠d->valsOf (a.put (some d) v) j=valsOf a j:=fun j hj=>by rw [valsOf_put hdn,if_neg hj]
    have hpd:valsOf (a.put (some d) v) d=v:=by rw [valsOf_put hdn,if_pos rfl]
    have hdne:∀ {j oj dj},j≠i->j<prs.length->ops[j]? = some oj->oj.dst=some dj->dj≠d:=fun {j oj dj} hj hjm hoj hdj e=>by
     subst e
     refine hj (dsts_ne hd (i:=j) (j:=i) ?_ ?_ hdj hdst)
     ·rw [List.getElem?_take,if_pos hjm,Array.getElem?_toList];exact hoj
     ·rw [List.getElem?_take,if_pos him,Array.getElem?_toList];exact ho
    have hspj:∀ j q,j≠i->prs[j]? = some q->listed.getD j true=true->q.sp (valsOf (a.put (some d) v)) w':=fun j q hj hq hl=>by
     have hjm:=(List.getElem?_eq_some_iff.1 hq).1
     obtain ⟨oj,hoj,hpj⟩:=opOf hq
     unfold parOp at hpj
     cases hdj:oj.dst with
     | none=>rw [hdj] at hpj;cases hpj
     | some dj =>
      have hq':=hok j oj q dj hoj hq hdj
      refine hq'.mono hbl (hq'.loc (fun r hr => ?_) (hI.sp j q hq hl))
      rw [hdj] at hpj
      simp only [Bool.and_eq_true] at hpj
      have hr':=List.all_eq_true.1 hpj.2 r hr
      rw [Bool.or_eq_true] at hr'
      refine (hpv r ?_).symm
      rcases hr' with hr' | hr'
      ·rw [Nat.eq_of_beq_eq_true hr'];exact hdne hj hjm hoj hdj
      ·obtain ⟨e,he,hb⟩:=Array.any_eq_true'.1 hr'
       rw [Bool.and_eq_true] at hb
       have hlt:e.on<j:=by
        have:=Array.all_eq_true_iff_forall_mem.1 hpj.1.2 e he
        rw [hb.1] at this
        exact blt_lt (by simpa using this)
       intro hrd
       subst hrd
       obtain ⟨oe,hoe,hde⟩:=dstIs_of hb.2
       have hei:e.on≠i:=fun hei=>by
        have:=hI.dep j oj e hjm hoj hl he hb.1
        rw [hei,hil] at this;cases this
       exact hdne hei (by omega) hoe hde rfl
    have hspi:p.sp (valsOf (a.put (some d) v)) w':=hsp d hdst _ hpv hpd
    have hIok:=hI.ok
    refine ⟨⟨by simp [Act.put,hIok.size],by simpa [Act.put] using hIok.defers,fun j x hx => ?_,knows_nil _⟩,Below.trans hI.bl (hbl.mono hI.bl.size),by simp [hI.sz],fun j h1 h2 => ?_,fun j q hq hl => ?_,fun j oj e hjm hoj hl he hb => ?_,fun j q oj dj b hq hoj hdj hl hm hb => ?_,fun i1 j1 pi pj oi oj di dj bi bj hij hpi hpj hoi hoj hdi hdj hli hlj hmi hmj hbi hbj => ?_⟩
    ·have hjd:j≠d:=fun e=>by
      subst e
      rw [hx] at g2;cases g2
     have:=hI.ok.k j x hx
     exact (hpv j hjd).trans this
    ·rw [hne j (by omega)];exact hI.hi j h1 h2
    ·by_cases hj:j=i
     ·subst hj;rw [hp] at hq;obtain rfl:=Option.some.inj hq;exact hspi
     ·rw [hne j hj] at hl;exact hspj j q hj hq hl
    ·have hlist:listed.getD e.on true=true:=by
      by_cases hj:j=i
      ·subst hj
       rw [ho] at hoj;obtain rfl:=Option.some.inj hoj
       have:=hall e he hb
       have hsz:e.on<listed.size:=by
        rcases Nat.lt_or_ge e.on listed.size with h | h
        ·exact h
        ·rw [Array.getD_eq_getD_getElem?,Array.getElem?_eq_none h] at this;cases this
       simpa [Array.getD,hsz] using this
      ·rw [hne j hj] at hl;exact hI.dep j oj e hjm hoj hl he hb
     by_cases he2:e.on=i
     ·rw [he2,hil] at hlist;cases hlist
     ·rw [hne _ he2];exact hlist
    ·by_cases hj:j=i
     ·subst hj
      rw [ho] at hoj;obtain rfl:=Option.some.inj hoj
      rw [hp] at hq;obtain rfl:=Option.some.inj hq
      rw [hdst] at hdj;obtain rfl:=Option.some.inj hdj
      rw [hpd] at hb
      exact Nat.le_trans hI.bl.size (hfp hm b hb)
     ·rw [hne j hj] at hl
      rw [hpv dj (hdne hj (List.getElem?_eq_some_iff.1 hq).1 hoj hdj)] at hb
      exact hI.ge j q oj dj b hq hoj hdj hl hm hb
    ·have old:∀ {j q oj dj b},j≠i->prs[j]? = some q->ops[j]? = some oj->oj.dst=some dj->listed.getD j true=true->q.nw=true->fpV (valsOf a dj)=some b->b<w.heap.size:=fun {j q oj dj b} hj hq hoj hdj hl hm hb=>(hok j oj q dj hoj hq hdj).lt hm (hI.sp j q hq hl) hb
     by_cases h1:i1=i
     ·subst h1
      have h2:j1≠i1:=Ne.symm hij
      rw [ho] at hoi;obtain rfl:=Option.some.inj hoi
      rw [hp] at hpi;obtain rfl:=Option.some.inj hpi
      rw [hdst] at hdi;obtain rfl:=Option.some.inj hdi
      rw [hpd] at hbi
      rw [hpv dj (hdne h2 (List.getElem?_eq_some_iff.1 hpj).1 hoj hdj)] at hbj
      rw [hne j1 h2] at hlj
      have:=hfp hmi bi hbi
      have:=old h2 hpj hoj hdj hlj hmj hbj
      omega
     ·rw [hne i1 h1] at hli
      rw [hpv di (hdne h1 (List.getElem?_eq_some_iff.1 hpi).1 hoi hdi)] at hbi
      by_cases h2:j1=i
      ·subst h2
       rw [ho] at hoj;obtain rfl:=Option.some.inj hoj
       rw [hp] at hpj;obtain rfl:=Option.some.inj hpj
       rw [hdst] at hdj;obtain rfl:=Option.some.inj hdj
       rw [hpd] at hbj
       have:=hfp hmj bj hbj
       have:=old h1 hpi hoi hdi hli hmi hbi
       omega
      ·rw [hne j1 h2] at hlj
       rw [hpv dj (hdne h2 (List.getElem?_eq_some_iff.1 hpj).1 hoj hdj)] at hbj
       exact hI.dist i1 j1 pi pj oi oj di dj bi bj hij hpi hpj hoi hoj hdi hdj hli hlj hmi hmj hbi hbj
def StepsOk (C:Cx) (l:Env) (w0:World) (prs:List Pr):List Oper->List Pr->Prop
 | o::os,p::ps=>StepOk C l w0 o p (depsOf prs o)/\StepsOk C l w0 prs os ps
 | _,_=>True
def PrsOk:List Oper->List Pr->Prop
 | o::os,p::ps=>(∀ d,o.dst=some d->PrOk p d)/\PrsOk os ps
 | _,_=>True
theorem stepsOk_at {C:Cx} {l:Env} {w0:World} {prs:List Pr}:∀ {os:List Oper} {ps:List Pr},StepsOk C l w0 prs os ps->∀ {i:Nat} {o:Oper} {p:Pr},os[i]? = some o->ps[i]? = some p->StepOk C l w0 o p (depsOf prs o)
 | o::os,p::ps,h,0,_,_,ho,hp=>by simp at ho hp;subst ho;subst hp;exact h.1
 | o::os,p::ps,h,i+1,_,_,ho,hp=>stepsOk_at h.2 (i:=i) (by simpa using ho) (by simpa using hp)
 | [],_,_,i,_,_,ho,_=>by simp at ho
 | _::_,[],_,i,_,_,_,hp=>by simp at hp
theorem prsOk_at:∀ {os:List Oper} {ps:List Pr},PrsOk os ps->∀ {i:Nat} {o:Oper} {p:Pr} {d:Nat},os[i]? = some o->ps[i]? = some p->o.dst=some d->PrOk p d
 | o::os,p::ps,h,0,_,_,d,ho,hp,hd=>by simp at ho hp;subst ho;subst hp;exact h.1 d hd
 | o::os,p::ps,h,i+1,_,_,d,ho,hp,hd=>prsOk_at h.2 (i:=i) (by simpa using ho) (by simpa using hp) hd
 | [],_,_,i,_,_,_,ho,_,_=>by simp at ho
 | _::_,[],_,i,_,_,_,_,hp,_=>by simp at hp
def distP:List Oper->List Pr->(Nat->Value)->Prop:=fun os ps g=>∀ (i j:Nat) (pi pj:Pr) (oi oj:Oper) (di dj bi bj:Nat),i≠j->ps[i]? = some pi->ps[j]? = some pj->os[i]? = some oi->os[j]? = some oj->oi.dst=some di->oj.dst=some dj->pi.nw=true->pj.nw=true->fpV (g di)=some bi->fpV (g dj)=some bj->bi≠bj
theorem dpar (prs:List Pr) (S:Nat->Prop) (ord:List Nat) {s:St} {w:World} {i:Nat} {ops:Array Oper} {k:List Item} {l:Env}
  (hs:adv C.tab C.n C.ks 400 s = .code (.code (.region i ops true)::k) l)
  (hok:PrsOk ops.toList prs) (hstep:tabOk C.P C.tab=true->∀ w0,Dr w w0->StepsOk C l w0 prs ops.toList prs)
  (h:∀ w0 w' g,Dr w w0->Bl w0 w'->(∀ (i:Nat) (p:Pr),prs[i]? = some p->p.sp g w')->(∀ (i:Nat) (p:Pr) (o:Oper) (d b:Nat),prs[i]? = some p->ops.toList[i]? = some o->o.dst=some d->p.nw=true->fpV (g d)=some b->w0.heap.size<=b)->distP ops.toList prs g ->
   ∃ l',Sub l' (penv (ops.toList.take prs.length) g l)/\Wk C (.reg (some (.h S 0)) ops (pickO ops.toList ord) k l' []) w')
  (hlen:Nat.ble prs.length ops.size=true:=by kernel_rfl) (hB:parB C.n l ops 0 prs (ops.toList.take prs.length)=true:=by kernel_rfl) (hd:distB (dsts (ops.toList.take prs.length))=true:=by kernel_rfl) (hwt:waitB prs.length (ops.toList.drop prs.length)=true:=by kernel_rfl)
  (hsel:Region.noSelect ops=true:=by kernel_rfl) (hn:Nat.beq (prs.length+ord.length) ops.size=true:=by kernel_rfl) (hH:heldB ops (ops.size-0) ord (List.replicate prs.length true++List.replicate (ops.size-prs.length) false).toArray=true:=by kernel_rfl):Wk C s w:=by
 refine by_adv hs ⟨fun ht hfn a hA=>runs_wp (wp_region_any (tab_mixed ht) ?_)⟩
 have hlen':=Nat.le_of_ble_eq_true hlen
 have hn':=Nat.eq_of_beq_eq_true hn
 have toL:∀ {j:Nat} {o:Oper},ops[j]? = some o->ops.toList[j]? = some o:=fun hj=>by rw [Array.getElem?_toList];exact hj
 refine wpAny_of_M (S:=S) (m:=ops.size-0) _ _ _ _ ?_
 have hun:unl prs.length (Array.replicate ops.size false)=prs.length:=by
  unfold unl
  rw [List.filter_eq_self.2,List.length_range]
  intro j hj
  have:=List.mem_range.1 hj
  simp [Array.getD,show j<ops.size by omega]
 have:=par_run (C:=C) (ops:=ops) (prs:=prs) (l:=l) (w0:=w.drew) (S:=S) hlen' hB hd hwt (fun i o p d ho hp hd=>prsOk_at hok (toL ho) hp hd) (fun i o p ho hp=>stepsOk_at (hstep ht _ ⟨rfl⟩) (toL ho) hp) (ord.length+(ops.size-(ops.size-0))) (Q:=nq C k) (fun a w' hI=>heldS_ok (Nat.sub_le ..) hsel (fun c a w hq=>by cases hq.1) ord _ a w' hH ?_) prs.length (Array.replicate ops.size false) a w.drew hun ?_
 ·rw [show ord.length+(ops.size-(ops.size-0))+prs.length=ops.size by omega] at this;exact this
 ·have ones:∀ j,j<prs.length->(List.replicate prs.length true++List.replicate (ops.size-prs.length) false).toArray.getD j true=true:=fun j hj=>by rw [getD_ones,decide_eq_true (.inl hj)]
  obtain ⟨l',hsub,hw⟩:=h w.drew w' (valsOf a) ⟨rfl⟩ hI.bl (fun i p hp=>hI.sp i p hp (ones i (List.getElem?_eq_some_iff.1 hp).1)) (fun i p o d b hp ho hd hm hb=>hI.ge i p o d b hp (by rw [<-Array.getElem?_toList];exact ho) hd (ones i (List.getElem?_eq_some_iff.1 hp).1) hm hb) (fun i j pi pj oi oj di dj bi bj hij hpi hpj hoi hoj hdi hdj hmi hmj hbi hbj =>
   hI.dist i j pi pj oi oj di dj bi bj hij hpi hpj (by rw [<-Array.getElem?_toList];exact hoi) (by rw [<-Array.getElem?_toList];exact hoj) hdi hdj (ones i (List.getElem?_eq_some_iff.1 hpi).1) (ones j (List.getElem?_eq_some_iff.1 hpj).1) hmi hmj hbi hbj)
  exact hw.run ht hfn a ⟨hI.ok.size,hI.ok.defers,fun j v hj=>penv_knows hI.ok.k _ j v (sub_look hsub hj),knows_nil a⟩
 ·have nof:∀ j,(Array.replicate ops.size false).getD j true=true->ops.size<=j:=fun j hj=>by
   rcases Nat.lt_or_ge j ops.size with h | h
   ·simp [Array.getD,h] at hj
   ·exact h
  refine ⟨hA,Bl.refl _,by simp,fun j _ h2=>by simp [Array.getD,h2],fun j p hp hl => ?_,fun j o e hj ho hl _ _ => ?_,fun i p _ _ _ hp _ _ hl _ _ => ?_,fun i j pi pj oi oj di dj bi bj _ hpi _ _ _ _ _ hl _ _ _ _ _ => ?_⟩
  ·have:=nof j hl;have:=(List.getElem?_eq_some_iff.1 hp).1;omega
  ·have:=nof j hl;omega
  ·have:=nof i hl;have:=(List.getElem?_eq_some_iff.1 hp).1;omega
  ·have:=nof i hl;have:=(List.getElem?_eq_some_iff.1 hpi).1;omega
theorem so_move {C:Cx} {l:Env} {w0:World} {d:Nat} {x:Operand} {ty:TypeId} {pos:String} {af:Array Edge} {g:Option (Nat×Bool)} {v:Value} {D:(Nat->Value)->World->Prop} (hx:evq l x=some v):StepOk C l w0 ⟨some d,.move x,ty,pos,af,g⟩ (Pr.cst d v) D :=
 fun a w _ hk _=>⟨v,w,by simp only [execOp,evq_ok hk hx];rfl,fun d' hd g _ hg=>by cases hd;exact hg,Bl.refl _,fun h=>by cases h⟩
theorem so_mk {C:Cx} (hT:tabOk C.P C.tab=true) {l:Env} {w0:World} {d:Nat} {T:TypeId} {x y:Operand} {ty:TypeId} {pos:String} {af:Array Edge} {g:Option (Nat×Bool)} {D:(Nat->Value)->World->Prop} {e esz by' sz m n:Nat} {ag:Bool} {zr:List Value} {tk:TK} {ag':Bool} {zr':List Value}
  (hx:∀ a w,Knows l a->D (valsOf a) w->a.eval x=I m) (hy:∀ a w,Knows l a->D (valsOf a) w->a.eval y=I n) (ht:C.tab.at T=some ⟨.slice e esz by',sz,ag,zr⟩:=by rfl) (he:C.tab.at e=some ⟨tk,esz,ag',zr'⟩:=by rfl) (hmn:m<=n:=by omega) (hn:n<=8388608:=by omega) (hb:Nat.ble by' 4096=true:=by rfl) :
  StepOk C l w0 ⟨some d,.makeSlice T x y,ty,pos,af,g⟩ (Pr.box d (fun b => .slice (some ⟨b,0,none⟩) m n) e (rep n zr')) D :=
 fun a w _ hk hD=>by
  refine ⟨_,_,exec_mk rfl (tab_at hT ht) (tab_at hT he) (hx a w hk hD) (hy a w hk hD) hmn hn hb,fun d' hd g _ hg => ?_,New.bl ⟨rfl,rfl⟩,fun _ b hb => ?_⟩
  ·cases hd;exact ⟨_,hg,New.box ⟨rfl,rfl⟩⟩
  ·simp only [fpV,Option.some.injEq] at hb;omega
theorem so_al {C:Cx} (hT:tabOk C.P C.tab=true) {l:Env} {w0:World} {d:Nat} {T:TypeId} {ty:TypeId} {pos:String} {af:Array Edge} {g:Option (Nat×Bool)} {D:(Nat->Value)->World->Prop} {tk:TK} {sz:Nat} {ag:Bool} {zr:List Value}
  (ht:C.tab.at T=some ⟨tk,sz,ag,zr⟩:=by rfl):StepOk C l w0 ⟨some d,.alloc T,ty,pos,af,g⟩ (Pr.box d (fun b => .pointer (some ⟨b,0,none⟩)) T zr) D :=
 fun a w _ hk hD=>by
  obtain ⟨z,hz,hc⟩:=zero_run (tab_at hT ht) w
  refine ⟨.pointer (some ⟨w.heap.size,0,none⟩),w.alloc (.cells zr.toArray T),?_,fun d' hd g _ hg => ?_,New.bl ⟨rfl,rfl⟩,fun _ b hb => ?_⟩
  ·simp only [execOp]
   refine (run_bind_ok (P:=C.P) (x := .pointer (some ⟨w.heap.size,0,none⟩)) (w':=w.alloc (.cells zr.toArray T)) ?_).trans rfl
   unfold Instr.alloc
   rw [run_bind_ok hz]
   simp only [newVar,newRow,hc];rfl
  ·cases hd;exact ⟨_,hg,New.box ⟨rfl,rfl⟩⟩
  ·simp only [fpV,Option.some.injEq] at hb;omega
end
end Go.Proofs.YtkmdfjpafkcleaaGreatDoor.Eng
namespace Go.Proofs.YtkmdfjpafkcleaaGreatDoor.Eng
open Go Go.RowKit
def fieldOne (P:Program) (T i o:Nat):Bool:=match P.underlying T with
 | some (.struct fs)=>match fs[i]? with
  | some f=>Nat.beq f.offset o&&(match P.underlying f.type with
   | some d => !isAggD d
   | none=>false)
  | none=>false
 | _=>false
theorem isAgg_run {P:Program} {t:TypeId} {d:TypeDesc} (h:P.underlying t=some d) (w:World):(isAgg t).run P w = .ok (isAggD d) w:=by
 unfold isAgg
 rw [run_bind_ok (und_run h w)]
 cases d <;> rfl
section
variable {C:Cx} {s:St} {w:World}
theorem exec_fld {P:Program} {ρ:Operand->Value} {w:World} {o:Oper} {T i off:Nat} {x:Operand} {cs:List Value} {v:Value} (ho:o.op = .field T x i) (hF:fieldOne P T i off=true) (hx:ρ x = .agg cs.toArray) (hv:cs[off]? = some v) :
  (execOp ρ o).run P w = .ok (.value v) w:=by
 unfold fieldOne at hF
 split at hF
 ·rename_i fs hu
  split at hF
  ·rename_i f hf
   rw [Bool.and_eq_true] at hF
   split at hF
   ·rename_i d hd
    unfold execOp
    simp only [ho,hx]
    refine (run_bind_ok (P:=P) (x:=v) (w':=w) ?_).trans rfl
    unfold Instr.field
    rw [run_bind_ok (und_run hu w)]
    simp only [hf]
    rw [run_bind_ok (show (asAgg (.agg cs.toArray)).run P w = .ok cs.toArray w from rfl)]
    unfold part
    have ha:isAggD d=false:=by simpa using hF.2
    rw [run_bind_ok (isAgg_run hd w),ha,if_neg (by simp),Nat.eq_of_beq_eq_true hF.1]
    simp only [List.getElem?_toArray,hv]
    rfl
   ·cases hF.2
  ·cases hF
 ·cases hF
theorem fd {md:Option Md} {ops:Array Oper} {T i:Nat} {x:Operand} {d:Nat} {ty:TypeId} {pos:String} {af:Array Edge} {g:Option (Nat×Bool)} {rest:List Oper} {k:List Item} {l:Env} {c:CEnv} {cs:List Value} {v:Value} (off:Nat)
  (h:Wk C (.reg md ops rest k ((d,v)::l) c) w)
  (hs:adv C.tab C.n C.ks 400 s = .opn md ops ⟨some d,.field T x i,ty,pos,af,g⟩ rest k l c []:=by rfl) (hF:fieldOne C.P T i off=true:=by kernel_rfl) (hx:evc l c [] x=some (.agg cs.toArray):=by rfl) (hv:cs[off]? = some v:=by rfl) (hf:fresh d l c []=true:=by rfl):Wk C s w :=
 rd (p:=[]) (fun _ _ hA hp _ _=>exec_fld rfl hF (evc_ok hA.k hA.kc.c hp hx) hv) h hs rfl hf (okR_no rfl)
theorem cp {md:Option Md} {ops:Array Oper} {x:Operand} {T:TypeId} {d:Nat} {ty:TypeId} {pos:String} {af:Array Edge} {g:Option (Nat×Bool)} {rest:List Oper} {k:List Item} {l:Env} {c:CEnv} {e esz by' sz:Nat} {ag:Bool} {zr:List Value} {a:Option Addr} {n cap:Nat}
  (h:Wk C (.reg md ops rest k ((d,I cap)::l) c) w)
  (hs:adv C.tab C.n C.ks 400 s = .opn md ops ⟨some d,.call ⟨.builtin .cap,#[x],#[T]⟩,ty,pos,af,g⟩ rest k l c []:=by rfl) (ht:C.tab.at T=some ⟨.slice e esz by',sz,ag,zr⟩:=by rfl) (hx:evc l c [] x=some (.slice a n cap):=by rfl) (hf:fresh d l c []=true:=by rfl):Wk C s w :=
 rd (p:=[]) (fun hT _ hA hp w' _=>by
  obtain ⟨dd,xx,zz,hTi⟩:=tiOk_und (tab_at hT ht)
  obtain ⟨rfl,_⟩:=hTi.sl _ _ _ rfl
  simp only [execOp,resolve,List.map_toArray,List.map_cons,List.map_nil,evc_ok hA.k hA.kc.c hp hx]
  show (Sem.bind (Builtin.cap_ _ ty #[_]) _).run C.P w'=_
  refine (run_bind_ok (P:=C.P) (x:=I cap) (w':=w') ?_).trans rfl
  simp [Builtin.cap_,run_underlying hTi.und]
  rfl) h hs rfl hf (okR_no rfl)
theorem apz {md:Option Md} {ops:Array Oper} {T U:TypeId} {x y:Operand} {d:Nat} {ty:TypeId} {pos:String} {af:Array Edge} {g:Option (Nat×Bool)} {rest:List Oper} {k:List Item} {l:Env} {c:CEnv} {e esz by' sz:Nat} {ag:Bool} {zr:List Value} {kd:IntKind} {n:Nat}
  (hn0:0<n) (hn:n<=8388608)
  (h:∀ cap w',Ow w' w.heap.size e esz (some ⟨w.heap.size,0,none⟩) 0 cap []->n<=cap->Bl w w'->Wk C (.reg md ops rest k ((d,.slice (some ⟨w.heap.size,0,none⟩) n cap)::l) c) w')
  (hs:adv C.tab C.n C.ks 400 s = .opn md ops ⟨some d,.call ⟨.builtin .append,#[x,y],#[T,U]⟩,ty,pos,af,g⟩ rest k l c []:=by rfl) (ht:C.tab.at T=some ⟨.slice e esz by',sz,ag,zr⟩:=by rfl)
  (hx:evc l c [] x=some (.slice none 0 0):=by rfl) (hy:evc l c [] y=some (I n):=by rfl) (hU:C.P.underlying U=some (.int kd):=by kernel_rfl) (hb:n*by'<=140737488355328:=by omega) (hsz:Nat.blt 0 esz=true:=by rfl) (hf:fresh d l c []=true:=by rfl) (hnt:notT md=true:=by rfl):Wk C s w:=by
 refine by_adv hs ⟨fun hT hfn => ?_⟩
 obtain ⟨dd,xx,zz,hTi⟩:=tiOk_und (tab_at hT ht)
 obtain ⟨rfl,hel⟩:=hTi.sl _ _ _ rfl
 obtain ⟨yi,zy,hyi,hys,hyb,hyz,hzc⟩:=elemOk_of hel
 have hpos:=blt_lt hsz
 have hns:Builtin.nextslicecap n 0=n:=nextslicecap_zero hn0
 have hrun:=Lib.run_append_grow_zeros (P:=C.P) w T U ty e yi zy .i64 kd hTi.und hU hyi hyz none 0 0 [] (by simp [Builtin.firstCells]) n hn0 (by rw [hys];exact hpos) (by omega) (by omega) (by rw [hyb];omega) (by rw [Nat.zero_add,hns,hyb];omega)
 rw [Nat.zero_add] at hrun
 have hge:=grownCap_ge w n 0 e
 have hcm:=grownCap_le_maxLen w n 0 e (by unfold maxLen;omega)
 obtain ⟨W',hW'⟩:∃ W',w.drew.alloc (.cells ([].toArray++Builtin.zeroCells zy.cells n++Builtin.zeroCells zy.cells (grownCap w n 0 e-n)) e)=W':=⟨_,rfl⟩
 rw [hW'] at hrun
 have hB:Bl w W':=by rw [<-hW'];exact ((Below.refl _ _).drew).alloc (Nat.le_refl _) _
 have hO:Ow W' w.heap.size e esz (some ⟨w.heap.size,0,none⟩) 0 (grownCap w n 0 e) []:=by
  refine ⟨⟨by simp,.inr ⟨w.heap.size,_,[].toArray++Builtin.zeroCells zy.cells n++Builtin.zeroCells zy.cells (grownCap w n 0 e-n),rfl,Nat.le_refl _,?_,Nat.zero_le _,hcm,?_,by simp⟩⟩⟩
  ·rw [<-hW'];show (w.heap.push _)[w.heap.size]? = _;simp
  ·have hz:zy.cells.size=esz:=hzc
   simp only [Array.size_append,size_zeroCells,hz]
   show 0+n*esz+_=_
   rw [Nat.zero_add,<-Nat.add_mul];congr 1;omega
 refine (op_val0 (okW_of rfl hnt) (mdW_bl hB) (fun _ a hA => ?_) (h _ W' hO hge hB) rfl hf).run hT hfn
 simp only [execOp,resolve,List.map_toArray,List.map_cons,List.map_nil,evc_ok hA.k hA.kc.c (p:=[]) trivial hx,evc_ok hA.k hA.kc.c (p:=[]) trivial hy]
 show (Sem.bind (Sem.pure _) _).run C.P w=_
 simp only [Sem.bind,invoke,builtin]
 exact (run_bind_ok hrun).trans rfl
end
end Go.Proofs.YtkmdfjpafkcleaaGreatDoor.Eng
namespace Go.Proofs.YtkmdfjpafkcleaaGreatDoor
open Eng Go.RowKit
def Has (w:World) (hs:List (Nat×TypeId×List Value)):Prop:=∀ (i b:Nat) (t:TypeId) (cs:List Value),hs[i]? = some (b,t,cs)->Box w b t cs
theorem Has.bl {w w':World} {hs:List (Nat×TypeId×List Value)} (h:Has w hs) (k:Bl w w'):Has w' hs:=fun i b t cs hi=>Bl.box k (h i b t cs hi)
theorem Has.wr {w w':World} {hs:List (Nat×TypeId×List Value)} (h:Has w hs) (nd:(hs.map (·.1)).Nodup) (i:Nat) {b:Nat} {t:TypeId} {cs cs':List Value} (hi:hs[i]? = some (b,t,cs)) (hW:Wr w b w') (hb:Box w' b t cs'):Has w' (hs.set i (b,t,cs')):=by
 intro j b' t' c' hj
 by_cases hij:i=j
 ·subst hij
  have hl:i<hs.length:=(List.getElem?_eq_some_iff.1 hi).1
  rw [List.getElem?_set_self hl] at hj
  simp only [Option.some.injEq,Prod.mk.injEq] at hj
  obtain ⟨rfl,rfl,rfl⟩:=hj;exact hb
 ·rw [List.getElem?_set_ne hij] at hj
  refine hW.box (h j b' t' c' hj) fun e=>hij ?_
  subst e
  have h1:(hs.map (·.1))[i]? = some b':=by rw [List.getElem?_map,hi];rfl
  have h2:(hs.map (·.1))[j]? = some b':=by rw [List.getElem?_map,hj];rfl
  obtain ⟨l1,e1⟩:=List.getElem?_eq_some_iff.1 h1
  obtain ⟨l2,e2⟩:=List.getElem?_eq_some_iff.1 h2
  have hp:=List.pairwise_iff_getElem.1 nd
  rcases Nat.lt_trichotomy i j with h3 | h3 | h3
  ·exact absurd (e1.trans e2.symm) (hp i j l1 l2 h3)
  ·exact h3
  ·exact absurd (e2.trans e1.symm) (hp j i l2 l1 h3)
theorem Has.ap {w w':World} {hs:List (Nat×TypeId×List Value)} (h:Has w hs) {a:Option Addr} (k:Ap w a w') (ha:∀ (i b:Nat) (t:TypeId) (cs:List Value),hs[i]? = some (b,t,cs)->a≠some ⟨b,0,none⟩):Has w' hs:=fun i b t cs hi=>k.box (h i b t cs hi) (ha i b t cs hi)
theorem Has.lt {w:World} {hs:List (Nat×TypeId×List Value)} (h:Has w hs) {i b:Nat} {t:TypeId} {cs:List Value} (hi:hs[i]? = some (b,t,cs)):b<w.heap.size:=(h i b t cs hi).lt
abbrev encNat:Nat->List Value:=fun i=>[I (i:Int)]
theorem owp_cell {w:World} {base e g cap:Nat} {l:List Nat} (hO:OwP 1 encNat w base e (some ⟨g,0,none⟩) cap l) {j x:Nat} (hx:l[j]? = some x):w.cell? ⟨g,j,none⟩=some (I (x:Int)):=by
 have:=flat_get (sz:=1) (enc:=encNat) (fun _=>rfl) hx 0 (by decide)
 have h2:=hO.at rfl (j*1+0) (I x) (by rw [this];rfl)
 simpa using h2
theorem Eng.Ow.cut {w:World} {base e esz n cap:Nat} {a:Option Addr} {xs:List Value} (h:Ow w base e esz a n cap xs) {m:Nat} (hm:m<=n):Ow w base e esz a m cap (xs.take (m*esz)):=by
 obtain ⟨h1,h2⟩:=h.own
 have hl:(xs.take (m*esz)).length=m*esz:=by rw [List.length_take,h1];exact Nat.min_eq_left (Nat.mul_le_mul_right _ hm)
 refine ⟨⟨hl,?_⟩⟩
 rcases h2 with ⟨h2,h3⟩ | ⟨g,cap',cur,h2,h3,h4,h5,h6,h7,h8⟩
 ·simp only [Value.slice.injEq] at h2
  obtain ⟨rfl,rfl,rfl⟩:=h2
  have:m=0:=by omega
  subst this
  exact .inl ⟨rfl,by simp⟩
 ·simp only [Value.slice.injEq] at h2
  obtain ⟨rfl,-,rfl⟩:=h2
  exact .inr ⟨g,cap,cur,rfl,h3,h4,by omega,h6,h7,by rw [<-h8,List.take_take,Nat.min_eq_left (Nat.mul_le_mul_right _ hm)]⟩
theorem owp_pop {w:World} {base e cap:Nat} {a:Option Addr} {l:List Nat} {x:Nat} (h:OwP 1 encNat w base e a cap (l++[x])):OwP 1 encNat w base e a cap l:=by
 have:=Eng.Ow.cut h (m:=l.length) (by simp)
 have e1:((l++[x]).flatMap encNat).take (l.length*1)=l.flatMap encNat:=by
  rw [List.flatMap_append,List.take_append_of_le_length (by rw [flat_length (sz:=1) (fun _=>rfl)];exact Nat.le_refl _),List.take_of_length_le (by rw [flat_length (sz:=1) (fun _=>rfl)];exact Nat.le_refl _)]
 rw [e1] at this;exact this
theorem rep_ints (n:Nat):rep n [I 0]=(List.replicate n (0:Int)).map I:=by
 induction n with
 | zero=>rfl
 | succ n ih=>rw [rep,ih,List.replicate_succ'];simp
theorem runB_app:∀ (c c':List Int) (s:List (Int×Bool)) (d:Nat),runB (c++c') s d=(match runB c s d with
 | some (s',d')=>runB c' s' d'
 | none=>none)
 | [],c',s,d=>rfl
 | op::c,c',s,d=>by
  simp only [List.cons_append,runB]
  cases stepB s d op with
  | none=>rfl
  | some sd=>exact runB_app c c' sd.1 sd.2
theorem runB_step {c:List Int} {k:Nat} {op:Int} (hk:c[k]? = some op) {s:List (Int×Bool)} {d:Nat} (h:runB (c.take k) [] 0=some (s,d)):runB (c.take (k+1)) [] 0=stepB s d op:=by
 rw [take_succ_some hk,runB_app,h]
 simp only [runB]
 cases stepB s d op with
 | none=>rfl
 | some sd=>rfl
theorem okB_fail {c:List Int} {k:Nat} (h:runB (c.take k) [] 0=none):okB c=false:=by
 have:runB c [] 0=none:=by
  rw [<-List.take_append_drop k c,runB_app,h]
 unfold okB;rw [this]
def stk (c:List Int) (E:List Int) (idx:List Nat):List (Int×Bool):=idx.reverse.map fun o=>(c.getD o 0,decide (0<=E.getD o (-1)))
theorem stk_push (c E:List Int) (idx:List Nat) (o:Nat):stk c E (idx++[o])=(c.getD o 0,decide (0<=E.getD o (-1)))::stk c E idx:=by simp [stk]
theorem stk_set {c E:List Int} {idx:List Nat} {k:Nat} {v:Int} (h:k ∉ idx):stk c (E.set k v) idx=stk c E idx:=by
 unfold stk
 apply List.map_congr_left
 intro o ho
 have:k≠o:=fun e=>h (by rw [e];exact List.mem_reverse.1 ho)
 rw [List.getD_eq_getElem?_getD (l:=E.set k v),List.getElem?_set_ne this,<-List.getD_eq_getElem?_getD]
theorem stk_length (c E:List Int) (idx:List Nat):(stk c E idx).length=idx.length:=by simp [stk]
theorem set_getD {E:List Int} {k:Nat} {v:Int} (h:k<E.length):(E.set k v).getD k (-1)=v:=by rw [List.getD_eq_getElem?_getD,List.getElem?_set_self h];rfl
theorem stepB_open {op:Int} {s:List (Int×Bool)} {d:Nat} (h:opensB op=true):stepB s d op=some ((op,false)::s,max d (s.length+1)):=by simp [stepB,h]
theorem stepB_plain {op:Int} {s:List (Int×Bool)} {d:Nat} (h1:opensB op=false) (h2:op≠34) (h3:op≠35):stepB s d op=some (s,d):=by simp [stepB,h1,h2,h3]
theorem stepB_else {o:Int} {e:Bool} {s:List (Int×Bool)} {d:Nat}:stepB ((o,e)::s) d 34=if e=false/\(o=29∨o=33) then some ((o,true)::s,d) else none:=by
 cases e
 ·by_cases h:o=29∨o=33 <;> simp [stepB,opensB,h]
 ·simp [stepB,opensB]
theorem stepB_end {o:Int} {e:Bool} {s:List (Int×Bool)} {d:Nat}:stepB ((o,e)::s) d 35=if o=33/\e=false then none else some (s,d):=by simp [stepB,opensB]
theorem stepB_top {op:Int} {d:Nat} (h:op=34∨op=35):stepB [] d op=none:=by rcases h with rfl | rfl <;> simp [stepB,opensB]
end Go.Proofs.YtkmdfjpafkcleaaGreatDoor
namespace Go.Proofs.YtkmdfjpafkcleaaGreatDoor
open Eng Go.RowKit
abbrev slv (b n:Nat):Value := .slice (some ⟨b,0,none⟩) n n
def shRows (b1 b3 b5 b7 b4 b2 n:Nat) (cO cN cD:List Value) (E:List Int) (D:Nat):List (Nat×TypeId×List Value) :=
 [(b1,3,cO),(b3,3,E.map I),(b5,3,cN),(b7,3,cD),(b4,246,[slv b1 n,slv b3 n,slv b5 n,slv b7 n,I D,.bool true]),(b2,246,[.slice none 0 0,.slice none 0 0,.slice none 0 0,.slice none 0 0,I 0,.bool false])]
structure ShI (c:List Int) (n b1 b3 b5 b7 b4 b2 B:Nat) (w0:World) (k:Nat) (a:Option Addr) (cap:Nat) (idx:List Nat) (cO cN cD:List Value) (E:List Int) (D:Nat) (w:World):Prop where
 own:OwP 1 encNat w B 3 a cap idx
 has:Has w (shRows b1 b3 b5 b7 b4 b2 n cO cN cD E D)
 lO:cO.length=n
 lN:cN.length=n
 lD:cD.length=n
 lE:E.length=n
 lt:∀ o∈idx,o<k
 nd:idx.Nodup
 len:idx.length<=k
 run:runB (c.take k) [] 0=some (stk c E idx,D)
 db:D<=k
 bl:Bl w0 w
 sz:B<=w.heap.size
theorem cut_addr {a:Option Addr} {n cap esz base:Nat} {xs:List Value} {w:World} {e:Nat} (h:(a=none/\n=0/\cap=0/\xs=[])∨∃ g cur,a=some ⟨g,0,none⟩/\base<=g/\w.heap[g]? = some (.cells cur e (0,0))/\n<=cap/\cur.size=cap*esz/\cur.toList.take (n*esz)=xs):a.map (·.add (0*1))=a:=by
 rcases h with ⟨rfl,_⟩ | ⟨g,_,rfl,_⟩ <;> rfl
theorem v_Opens (op:Int) (w:World):Ret Tryz.prog 257 #[I op] w fun v w'=>v = .bool (opensB op)/\w'=w:=by
 refine entr (vs:=[I op]) [0,2] tabok Tryz.func257 (by kernel_rfl) ?_
 refine rt1 ⟨vb ?_,rfl⟩
 unfold opensB
 rw [Bool.eq_iff_iff]
 simp only [Bool.or_eq_true,Bool.and_eq_true,decide_eq_true_eq]
 omega
set_option maxHeartbeats 1000000 in
theorem u_shapeOf (l:List Ins) (a0:Option Addr) (cap0:Nat) (S:Nat->Prop) (w:World) (hS:Sl eIns S w a0 l):Ret Tryz.prog 213 #[.slice a0 l.length cap0] w fun v w'=>(∃ c0 c1 c2 c3 c4,v = .agg #[c0,c1,c2,c3,c4,.bool (okB (l.map (·.op)))])/\Bl w w':=by
 have hbig:=hS.big
 refine entr (vs:=[.slice a0 l.length cap0]) [0,2,3,4,5,6,7,8,9,21,22,23,24,48,59,73,84,115,125,146] tabok Tryz.func213 (by kernel_rfl) ?_
 refine al fun b2 w1 h1 => ?_
 refine dpar [Pr.cst 12 (I l.length),Pr.box 13 (fun b=>slv b l.length) 3 (rep l.length [I 0]),Pr.cst 14 (I l.length),Pr.box 15 (fun b=>slv b l.length) 3 (rep l.length [I 0]),Pr.cst 16 (I l.length),Pr.box 17 (fun b=>slv b l.length) 3 (rep l.length [I 0]),Pr.cst 18 (I l.length),Pr.box 19 (fun b=>slv b l.length) 3 (rep l.length [I 0]),
  Pr.fn 20 [13,15,17,19] (fun vs => .agg (vs++[I 0,.bool true]).toArray),Pr.box 4 (fun b => .pointer (some ⟨b,0,none⟩)) 246 [.slice none 0 0,.slice none 0 0,.slice none 0 0,.slice none 0 0,I 0,.bool false]] (fun _=>False) [10] rfl ?_ ?_ ?_
 ·refine ⟨?_,?_,?_,?_,?_,?_,?_,?_,?_,?_,trivial⟩ <;> intro d hd <;> cases hd <;> first | exact Pr.cst_ok _ _ | exact Pr.box_ok _ _ _ _ (fun _=>rfl) | exact Pr.fn_ok _ _ _
 ·intro hT w2 h2
  refine ⟨so_move rfl,so_mk hT (fun a w _ hD=>hD ⟨0,.data⟩ (by simp) rfl _ rfl) (fun a w _ hD=>hD ⟨0,.data⟩ (by simp) rfl _ rfl),so_move rfl,so_mk hT (fun a w _ hD=>hD ⟨2,.data⟩ (by simp) rfl _ rfl) (fun a w _ hD=>hD ⟨2,.data⟩ (by simp) rfl _ rfl),
   so_move rfl,so_mk hT (fun a w _ hD=>hD ⟨4,.data⟩ (by simp) rfl _ rfl) (fun a w _ hD=>hD ⟨4,.data⟩ (by simp) rfl _ rfl),so_move rfl,so_mk hT (fun a w _ hD=>hD ⟨6,.data⟩ (by simp) rfl _ rfl) (fun a w _ hD=>hD ⟨6,.data⟩ (by simp) rfl _ rfl),?_,so_al hT,trivial⟩
  intro a w' _ _ hD
  obtain ⟨c1,e1,_⟩:=hD ⟨1,.data⟩ (by simp) rfl _ rfl
  obtain ⟨c3,e3,_⟩:=hD ⟨3,.data⟩ (by simp) rfl _ rfl
  obtain ⟨c5,e5,_⟩:=hD ⟨5,.data⟩ (by simp) rfl _ rfl
  obtain ⟨c7,e7,_⟩:=hD ⟨7,.data⟩ (by simp) rfl _ rfl
  refine ⟨.agg #[slv c1 l.length,slv c3 l.length,slv c5 l.length,slv c7 l.length,I 0,.bool true],w',exec_build (pv:=[(0,slv c1 l.length),(1,slv c3 l.length),(2,slv c5 l.length),(3,slv c7 l.length),(4,I 0),(5,.bool true)]) rfl (tab_at hT rfl) ?_ rfl,fun d hd g hg hgd => ?_,Bl.refl _,fun h=>by cases h⟩
  ·show [(0,valsOf a 13),(1,valsOf a 15),(2,valsOf a 17),(3,valsOf a 19),(4,I 0),(5,.bool true)]=_
   rw [e1,e3,e5,e7]
  ·cases hd
   show g 20 = .agg ([g 13,g 15,g 17,g 19]++[I 0,.bool true]).toArray
   rw [hgd,hg 13 (by decide),hg 15 (by decide),hg 17 (by decide),hg 19 (by decide),e1,e3,e5,e7];rfl
 intro w2 w3 g h2 hB3 hsp hge hdist
 obtain ⟨b1,e13,x1⟩:=hsp 1 _ rfl
 obtain ⟨b3,e15,x3⟩:=hsp 3 _ rfl
 obtain ⟨b5,e17,x5⟩:=hsp 5 _ rfl
 obtain ⟨b7,e19,x7⟩:=hsp 7 _ rfl
 obtain ⟨b4,e4,x4⟩:=hsp 9 _ rfl
 have e20:g 20 = .agg #[slv b1 l.length,slv b3 l.length,slv b5 l.length,slv b7 l.length,I 0,.bool true]:=by
  have:g 20 = .agg ([g 13,g 15,g 17,g 19]++[I 0,.bool true]).toArray:=hsp 8 _ rfl
  rw [this,e13,e15,e17,e19];rfl
 have f1:fpV (g 13)=some b1:=by rw [e13];rfl
 have f3:fpV (g 15)=some b3:=by rw [e15];rfl
 have f5:fpV (g 17)=some b5:=by rw [e17];rfl
 have f7:fpV (g 19)=some b7:=by rw [e19];rfl
 have f4:fpV (g 4)=some b4:=by rw [e4];rfl
 have d13:=hdist 1 3 _ _ _ _ 13 15 b1 b3 (by decide) rfl rfl rfl rfl rfl rfl rfl rfl f1 f3
 have d15:=hdist 1 5 _ _ _ _ 13 17 b1 b5 (by decide) rfl rfl rfl rfl rfl rfl rfl rfl f1 f5
 have d17:=hdist 1 7 _ _ _ _ 13 19 b1 b7 (by decide) rfl rfl rfl rfl rfl rfl rfl rfl f1 f7
 have d14:=hdist 1 9 _ _ _ _ 13 4 b1 b4 (by decide) rfl rfl rfl rfl rfl rfl rfl rfl f1 f4
 have d35:=hdist 3 5 _ _ _ _ 15 17 b3 b5 (by decide) rfl rfl rfl rfl rfl rfl rfl rfl f3 f5
 have d37:=hdist 3 7 _ _ _ _ 15 19 b3 b7 (by decide) rfl rfl rfl rfl rfl rfl rfl rfl f3 f7
 have d34:=hdist 3 9 _ _ _ _ 15 4 b3 b4 (by decide) rfl rfl rfl rfl rfl rfl rfl rfl f3 f4
 have d57:=hdist 5 7 _ _ _ _ 17 19 b5 b7 (by decide) rfl rfl rfl rfl rfl rfl rfl rfl f5 f7
 have d54:=hdist 5 9 _ _ _ _ 17 4 b5 b4 (by decide) rfl rfl rfl rfl rfl rfl rfl rfl f5 f4
 have d74:=hdist 7 9 _ _ _ _ 19 4 b7 b4 (by decide) rfl rfl rfl rfl rfl rfl rfl rfl f7 f4
 have g1:=hge 1 _ _ 13 b1 rfl rfl rfl rfl f1
 have g3:=hge 3 _ _ 15 b3 rfl rfl rfl rfl f3
 have g5:=hge 5 _ _ 17 b5 rfl rfl rfl rfl f5
 have g7:=hge 7 _ _ 19 b7 rfl rfl rfl rfl f7
 have g4:=hge 9 _ _ 4 b4 rfl rfl rfl rfl f4
 have l2:b2<w2.heap.size:=(h2.box h1.box).lt
 refine ⟨[(4,.pointer (some ⟨b4,0,none⟩)),(20,.agg #[slv b1 l.length,slv b3 l.length,slv b5 l.length,slv b7 l.length,I 0,.bool true]),(0,.slice a0 l.length cap0),(2,.pointer (some ⟨b2,0,none⟩)),(3,I l.length)],⟨congrArg some e4,congrArg some e20,rfl,rfl,rfl,trivial⟩,?_⟩
 refine sta x4 (fun w4 h4 y4 => ?_) (hm:=wrS (fun h=>h))
 have hB2:Bl w w2:=h1.bl.trans h2.bl
 have hB4:Bl w w4:=Below.trans (hB2.trans hB3) (h4.below (Nat.le_trans hB2.size g4))
 rw [rep_ints] at x1 x3 x5 x7
 have m1:b1<w4.heap.size:=by rw [h4.size];exact x1.lt
 have m3:b3<w4.heap.size:=by rw [h4.size];exact x3.lt
 have m5:b5<w4.heap.size:=by rw [h4.size];exact x5.lt
 have m7:b7<w4.heap.size:=by rw [h4.size];exact x7.lt
 have m4:b4<w4.heap.size:=y4.lt
 have m2:b2<w4.heap.size:=by have:=hB3.size;rw [h4.size];omega
 have u1:=Nat.le_trans hB2.size g1
 have u3:=Nat.le_trans hB2.size g3
 have u5:=Nat.le_trans hB2.size g5
 have u7:=Nat.le_trans hB2.size g7
 have u4:=Nat.le_trans hB2.size g4
 have u2:w.heap.size<=b2:=by have:=h1.blk;omega
 have nd:[b1,b3,b5,b7,b4,b2].Nodup:=by simp only [List.nodup_cons,List.mem_cons,List.mem_nil_iff,or_false,not_or];refine ⟨⟨d13,d15,d17,d14,by omega⟩,⟨d35,d37,d34,by omega⟩,⟨d57,d54,by omega⟩,⟨d74,by omega⟩,by omega,by simp⟩
 refine lpk l.length 23 [5] [(0,.slice a0 l.length cap0),(2,.pointer (some ⟨b2,0,none⟩)),(3,I l.length),(4,.pointer (some ⟨b4,0,none⟩)),(21,.slice a0 l.length cap0),(22,I l.length)]
  (fun k vals w'=>∃ a cap idx cO cN cD E D,vals=[.slice a idx.length cap]/\ShI (l.map (·.op)) l.length b1 b3 b5 b7 b4 b2 w4.heap.size w k a cap idx cO cN cD E D w') ?_ ?_
 ·refine ⟨none,0,[],(List.replicate l.length (0:Int)).map I,(List.replicate l.length (0:Int)).map I,(List.replicate l.length (0:Int)).map I,List.replicate l.length 0,0,rfl,Ow.nil _ _ _ _,?_,?_,?_,?_,?_,by simp,by simp,Nat.le_refl _,rfl,Nat.le_refl _,hB4,Nat.le_refl _⟩
  rotate_left
  ·simp
  ·simp
  ·simp
  ·simp
  intro i b t cs hi
  rcases i with _ | _ | _ | _ | _ | _ | i
  ·cases hi;exact h4.box x1 d14
  ·cases hi;exact h4.box x3 d34
  ·cases hi;exact h4.box x5 d54
  ·cases hi;exact h4.box x7 d74
  ·cases hi;exact y4
  ·cases hi;exact h4.box (Bl.box hB3 (h2.box h1.box)) (by omega)
  ·simp [shRows] at hi
 rintro k vals w5 hk ⟨a,cap,idx,cO,cN,cD,E,D,rfl,hI⟩ ih
 have ilen:=hI.len
 by_cases hlt:k<l.length
 ·refine brT ?_
  obtain ⟨x,bx,ox,_,hx,rfl,hSb,hAt,rfl⟩:=at_some (hS.bl hI.bl) hlt
  refine ix ?_
  refine lda hAt ?_
  refine al fun b7' w6 h6 => ?_
  refine sta h6.box (fun w7 h7 y7 => ?_)
  have hB7:Bl w5 w7:=Eng.New.wr h6 h7
  refine dh (· = b4) [0,1,2,3,4,5,6,7,8,9,10,11,12,13,14,15,16,17,18,19,20,21] fun w8 h8 => ?_
  have H8:=(hI.has.bl hB7).bl h8.bl
  have O8:=(hI.own.bl hB7).bl h8.bl
  refine ld ((H8 4 _ _ _ rfl).cell rfl) ?_ (hm:=rfl)
  refine ld ((H8 4 _ _ _ rfl).cell rfl) ?_ (hm:=rfl)
  refine ld ((H8 4 _ _ _ rfl).cell rfl) ?_ (hm:=rfl)
  refine ld ((H8 4 _ _ _ rfl).cell rfl) ?_ (hm:=rfl)
  have lO:=hI.lO
  have lN:=hI.lN
  have lD:=hI.lD
  have lE:=hI.lE
  refine ix ?_
  refine stx (H8 0 _ _ _ rfl) (fun w9 h9 y9 => ?_) (hm:=wrS d14)
  have H9:=H8.wr nd 0 rfl h9 y9
  refine ix ?_
  refine stx (H9 1 _ _ _ rfl) (fun w10 h10 y10 => ?_) (ho:=by rw [List.length_map];omega) (hm:=wrS d34)
  have H10:=H9.wr nd 1 rfl h10 y10
  refine ix ?_
  refine stx (H10 2 _ _ _ rfl) (fun w11 h11 y11 => ?_) (hm:=wrS d54)
  have H11:=H10.wr nd 2 rfl h11 y11
  refine ix ?_
  refine stx (H11 3 _ _ _ rfl) (fun w12 h12 y12 => ?_) (hm:=wrS d74)
  have H12:=H11.wr nd 3 rfl h12 y12
  rw [Nat.zero_add,Nat.mul_one] at H12
  have eE:(E.map I).set k (I (-1))=(E.set k (-1)).map I:=by rw [List.map_set]
  rw [eE] at H12
  have O12:=((((O8.wr h9 (fun g hg=>by have:=(O8.lt hg).1;omega)).wr h10 (fun g hg=>by have:=(O8.lt hg).1;omega)).wr h11 (fun g hg=>by have:=(O8.lt hg).1;omega)).wr h12 (fun g hg=>by have:=(O8.lt hg).1;omega))
  have hB12:Bl w w12:=Below.trans (Below.trans (Below.trans (Below.trans ((hI.bl.trans hB7).trans h8.bl) (h9.below u1)) (h10.below u3)) (h11.below u5)) (h12.below u7)
  have s12:w4.heap.size<=w12.heap.size:=by have:=hI.sz;have:=hB7.size;have:=h8.bl.size;rw [h12.size,h11.size,h10.size,h9.size];omega
  have v7:w4.heap.size<=b7':=by have:=hI.sz;have:=h6.blk;omega
  have y12:Box w12 b7' _ _:=h12.box (h11.box (h10.box (h9.box (h8.box y7) (by omega)) (by omega)) (by omega)) (by omega)
  have kn:k ∉ idx:=fun h=>Nat.lt_irrefl _ (hI.lt k h)
  have hop:(l.map (·.op))[k]? = some x.op:=by rw [List.getElem?_map,hx];rfl
  have hopD:(l.map (·.op)).getD k 0=x.op:=by rw [List.getD_eq_getElem?_getD,hop];rfl
  have hrun:runB ((l.map (·.op)).take k) [] 0=some (stk (l.map (·.op)) (E.set k (-1)) idx,D):=by rw [stk_set kn];exact hI.run
  have hst:=runB_step hop hrun
  have lE1:(E.set k (-1)).length=l.length:=by rw [List.length_set];exact lE
  have gE1:(E.set k (-1)).getD k (-1) = -1:=set_getD (by omega)
  have hdb:=hI.db
  refine br (fun h0 => ?_) (fun h0 => ?_)
  ·have h0:=of_decide_eq_true h0
   obtain ⟨o,ho⟩:=some_of_lt (l:=idx) (k:=idx.length-1) (by omega)
   rcases O12.shape with ⟨_,h00,_⟩ | ⟨g,cur,rfl,hg,_⟩
   ·omega
   refine dh (fun i=>i=b4∨i=g) [0,1,2,3,4,5,6,7,8,9,10] fun w13 h13 => ?_
   have H13:=H12.bl h13.bl
   have O13:=O12.bl h13.bl
   have hw1:IntKind.i64.wrap ((idx.length:Int)-1)=((idx.length-1:Nat):Int):=by rw [wrap_fit (by omega) (by omega)];omega
   refine ld ((H13 4 _ _ _ rfl).cell rfl) ?_ (hm:=(Or.inl rfl:b4=b4∨b4=g))
   refine ix (hij:=hw1) ?_
   refine ld (b:=g) (o:=0+(idx.length-1)*1) (v:=I o) (by simpa using owp_cell O13 ho) ?_ (hm:=(Or.inr rfl:g=b4∨g=g))
   refine ix ?_
   refine stx (H13 0 _ _ _ rfl) (fun w14 h14 y14 => ?_) (ho:=by simp;omega) (hm:=wrS (by rintro (e | e) <;> omega))
   have H14:=H13.wr nd 0 rfl h14 y14
   rw [Nat.zero_add,Nat.mul_one] at H14
   have O14:=O13.wr h14 (fun g hg=>by have:=(O13.lt hg).1;omega)
   have B14:Bl w w14:=Below.trans (hB12.trans h13.bl) (h14.below u1)
   have s14:w4.heap.size<=w14.heap.size:=by have:=h13.bl.size;rw [h14.size];omega
   have Y14:=h14.box (h13.box y12) (by omega)
   have lO14:((cO.set k (I (-1))).set k (I o)).length=l.length:=by simp [lO]
   have cO14:∀ o',idx[idx.length-1]? = some o'->((cO.set k (I (-1))).set k (I o))[k]? = some (I o'):=fun o' h'=>by rw [ho] at h';obtain rfl:=Option.some.inj h';rw [List.getElem?_set_self (by simp;omega)]
   refine ld (Y14.cell rfl) ?_
   refine cl (v_Opens x.op _) ?_
   rintro _ _ ⟨rfl,rfl⟩
   refine br (fun h1 => ?_) (fun h1 => ?_)
   ·
    refine bs fun b15 w15 h15 => ?_
    have H15:=H14.bl h15.bl
    have O15:=O14.bl h15.bl
    refine apl (l1:=[k]) O15 (.inr ⟨b15,0,rfl,h15.box.at⟩) (by have:=h15.bl.size;omega) (fun a' cap' w16 O16 hA _ => ?_)
    have H16:Has w16 _:=H15.ap hA (fun i b t cs hi e=>by
     have:=(O15.lt e).1
     have:b∈[b1,b3,b5,b7,b4,b2]:=(List.mem_map (f:=fun e:Nat×TypeId×List Value=>e.1)).2 ⟨(b,t,cs),List.mem_of_getElem? hi,rfl⟩
     simp only [List.mem_cons,List.mem_nil_iff,or_false] at this
     omega)
    have B16:Bl w w16:=Below.trans (B14.trans h15.bl) (hA.below (by have:=(B14.trans h15.bl).size;omega) (fun g hg=>by have:=(O15.lt hg).1;omega))
    refine ld ((H16 4 _ _ _ rfl).cell rfl) ?_
    refine mx ?_
    rw [max_nat]
    refine st (H16 4 _ _ _ rfl) (fun w17 h17 y17 => ?_)
    have H17:=H16.wr nd 4 rfl h17 y17
    have O17:=O16.wr h17 (fun g hg=>by have:=(O16.lt hg).1;omega)
    refine ih hlt ⟨a',cap',idx++[k],_,_,_,E.set k (-1),max D (idx++[k]).length,rfl,O17,H17,lO14,by simp [lN],by simp [lD],lE1,fun o ho => ?_,?_,by simp;omega,?_,?_,Below.trans B16 (h17.below u4),?_⟩
    ·rcases List.mem_append.1 ho with h | h
     ·have:=hI.lt o h;omega
     ·simp at h;omega
    ·rw [List.nodup_append]
     exact ⟨hI.nd,by simp,fun a ha b hb e=>by simp at hb;subst hb;subst e;exact kn ha⟩
    ·rw [hst,stepB_open h1,stk_push,hopD,gE1,stk_length,List.length_append];rfl
    ·simp;omega
    ·have:=hA.size;have:=h15.bl.size;rw [h17.size];omega
   refine ld (Y14.cell rfl) ?_
   refine ldg (fun _=>Y14.cell rfl) ?_
   refine br (t:=decide (x.op=34)||decide (x.op=35)) (fun h2 => ?_) (fun h2 => ?_)
   ·have h34:x.op=34∨x.op=35:=by simpa using h2
    refine br (fun h3 => ?_) (fun h3 => ?_)
    ·have h3:=of_decide_eq_true h3
     obtain rfl:idx=[]:=List.eq_nil_of_length_eq_zero (by omega)
     refine st (H14 4 _ _ _ rfl) (fun w15 h15 y15 => ?_)
     have H15:=H14.wr nd 4 rfl h15 y15
     refine lda (H15 4 _ _ _ rfl).at ?_
     refine sta (H15 5 _ _ _ rfl) (fun w16 h16 y16 => ?_)
     refine rtc y16.at ⟨⟨slv b1 l.length,slv b3 l.length,slv b5 l.length,slv b7 l.length,I D,?_⟩,Below.trans (Below.trans B14 (h15.below u4)) (h16.below u2)⟩
     rw [okB_fail (k:=k+1) (by rw [hst];exact stepB_top h34)]
    have h3:=of_decide_eq_false h3
    obtain ⟨idx0,o2,rfl⟩:∃ idx0 o2,idx=idx0++[o2]:=by
     rcases List.eq_nil_or_concat idx with h | ⟨i0,o2,h⟩
     ·rw [h] at h3;simp at h3
     ·exact ⟨i0,o2,by rw [h,List.concat_eq_append]⟩
    have e1:(idx0++[o2]).length=idx0.length+1:=by simp
    have hw2:IntKind.i64.wrap (((idx0++[o2]).length:Int)-1)=(idx0.length:Nat):=by rw [wrap_fit (by omega) (by omega)];omega
    have ok:o2<k:=hI.lt o2 (by simp)
    have on:o2<l.length:=by omega
    have ond:o2 ∉ idx0:=fun h=>by
     have:=(List.nodup_append.1 hI.nd).2.2 o2 h o2 (by simp)
     exact this rfl
    refine ld ((H14 4 _ _ _ rfl).cell rfl) ?_
    refine ix ?_
    refine stx (H14 3 _ _ _ rfl) (fun w15 h15 y15 => ?_) (ho:=by simp;omega)
    have H15:=H14.wr nd 3 rfl h15 y15
    have O15:=O14.wr h15 (fun g hg=>by have:=(O14.lt hg).1;omega)
    have B15:Bl w w15:=Below.trans B14 (h15.below u7)
    have Y15:=h15.box Y14 (by omega)
    refine ld ((H15 4 _ _ _ rfl).cell rfl) ?_
    refine ix ?_
    refine ld (b:=b1) (o:=0+k*1) (v:=I o2) ?_ ?_
    ·rw [Nat.zero_add,Nat.mul_one];exact (H15 0 _ _ _ rfl).cell (cO14 o2 (by simp))
    obtain ⟨y,b',o',_,hy,ey,_,hAty,rfl⟩:=at_some (hS.bl B15) (i:=o2) (by omega)
    simp only [Option.some.injEq,Addr.mk.injEq,and_true] at ey
    obtain ⟨rfl,rfl⟩:=ey
    have hyD:(l.map (·.op)).getD o2 0=y.op:=by rw [List.getD_eq_getElem?_getD,List.getElem?_map,hy];rfl
    obtain ⟨e,he⟩:=some_of_lt (l:=E.set k (-1)) (k:=o2) (by omega)
    have hEo:((E.set k (-1)).map I)[o2]? = some (I e):=by rw [List.getElem?_map,he];rfl
    have heD:(E.set k (-1)).getD o2 (-1)=e:=by rw [List.getD_eq_getElem?_getD,he];rfl
    have hst2:runB ((l.map (·.op)).take (k+1)) [] 0=stepB ((y.op,decide (0<=e))::stk (l.map (·.op)) (E.set k (-1)) idx0) D x.op:=by rw [hst,stk_push,hyD,heD]
    have fail:stepB ((y.op,decide (0<=e))::stk (l.map (·.op)) (E.set k (-1)) idx0) D x.op=none->okB (l.map (·.op))=false:=fun h=>okB_fail (k:=k+1) (by rw [hst2];exact h)
    refine ix ?_
    refine ld (hAty 0 _ rfl) ?_
    refine ixg (fun _=>on) ?_
    refine ldg (fun _=>hAty 0 _ rfl) ?_
    refine ld (Y15.cell rfl) ?_
    refine br (fun h4 => ?_) (fun h4 => ?_)
    ·have h4:=of_decide_eq_true h4
     refine ldg (fun _=>(H15 4 _ _ _ rfl).cell rfl) ?_
     refine ixg (fun _=>on) ?_
     refine ldg (b:=b3) (o:=0+o2*1) (v:=I e) (fun _ => ?_) ?_
     ·rw [Nat.zero_add,Nat.mul_one];exact (H15 1 _ _ _ rfl).cell hEo
     refine br (t:=(!(decide (y.op=29)||decide (y.op=33)))||decide (0<=e)) (fun h5 => ?_) (fun h5 => ?_)
     ·refine st (H15 4 _ _ _ rfl) (fun w16 h16 y16 => ?_)
      have H16:=H15.wr nd 4 rfl h16 y16
      refine lda (H16 4 _ _ _ rfl).at ?_
      refine sta (H16 5 _ _ _ rfl) (fun w17 h17 y17 => ?_)
      refine rtc y17.at ⟨⟨slv b1 l.length,slv b3 l.length,slv b5 l.length,slv b7 l.length,I D,?_⟩,Below.trans (Below.trans B15 (h16.below u4)) (h17.below u2)⟩
      rw [fail]
      rw [h4,stepB_else,if_neg]
      rintro ⟨h6,h7⟩
      simp only [Bool.or_eq_true,Bool.not_eq_true',Bool.or_eq_false_iff,decide_eq_true_eq,decide_eq_false_iff_not] at h5 h6
      omega
     ·simp only [Bool.or_eq_false_iff,Bool.not_eq_false',Bool.or_eq_true,decide_eq_true_eq,decide_eq_false_iff_not] at h5
      refine ld ((H15 4 _ _ _ rfl).cell rfl) ?_
      refine ix ?_
      refine stx (H15 1 _ _ _ rfl) (fun w16 h16 y16 => ?_) (ho:=by simp;omega)
      have H16:=H15.wr nd 1 rfl h16 y16
      have O16:=O15.wr h16 (fun g hg=>by have:=(O15.lt hg).1;omega)
      have eE2:((E.set k (-1)).map I).set (0+o2*1) (I k)=((E.set k (-1)).set o2 k).map I:=by rw [Nat.zero_add,Nat.mul_one,List.map_set (l:=E.set k (-1))]
      rw [eE2] at H16
      refine ih hlt ⟨_,_,idx0++[o2],_,_,_,(E.set k (-1)).set o2 k,D,rfl,O16,H16,lO14,by simp [lN],by simp [lD],by simp [lE],fun o ho => ?_,hI.nd,by omega,?_,by omega,Below.trans B15 (h16.below u3),?_⟩
      ·have:=hI.lt o ho;omega
      ·rw [hst2,h4,stepB_else,if_pos ⟨decide_eq_false h5.2,h5.1⟩,stk_push,stk_set ond,hyD,set_getD (by rw [List.length_set];omega),decide_eq_true (by omega)]
      ·rw [h16.size,h15.size];exact s14
    ·have h4:=of_decide_eq_false h4
     have h35:x.op=35:=by omega
     refine ix ?_
     refine ld (hAty 0 _ rfl) ?_
     refine ldg (fun _=>(H15 4 _ _ _ rfl).cell rfl) ?_
     refine ixg (fun _=>on) ?_
     refine ldg (b:=b3) (o:=0+o2*1) (v:=I e) (fun _ => ?_) ?_
     ·rw [Nat.zero_add,Nat.mul_one];exact (H15 1 _ _ _ rfl).cell hEo
     refine br (t:=decide (y.op=33)&&decide (e<0)) (fun h5 => ?_) (fun h5 => ?_)
     ·simp only [Bool.and_eq_true,decide_eq_true_eq] at h5
      refine st (H15 4 _ _ _ rfl) (fun w16 h16 y16 => ?_)
      have H16:=H15.wr nd 4 rfl h16 y16
      refine lda (H16 4 _ _ _ rfl).at ?_
      refine sta (H16 5 _ _ _ rfl) (fun w17 h17 y17 => ?_)
      refine rtc y17.at ⟨⟨slv b1 l.length,slv b3 l.length,slv b5 l.length,slv b7 l.length,I D,?_⟩,Below.trans (Below.trans B15 (h16.below u4)) (h17.below u2)⟩
      rw [fail]
      rw [h35,stepB_end,if_pos ⟨h5.1,decide_eq_false (by omega)⟩]
     ·simp only [Bool.and_eq_false_iff,decide_eq_false_iff_not] at h5
      refine ld ((H15 4 _ _ _ rfl).cell rfl) ?_
      refine ix ?_
      refine stx (H15 2 _ _ _ rfl) (fun w16 h16 y16 => ?_) (ho:=by simp;omega)
      have H16:=H15.wr nd 2 rfl h16 y16
      have O16:=O15.wr h16 (fun g hg=>by have:=(O15.lt hg).1;omega)
      have hcap:(idx0++[o2]).length<=cap:=by
       rcases O16.shape with ⟨_,h00,_⟩ | ⟨_,_,_,_,_,hc,_⟩
       ·omega
       ·exact hc
      refine sl 0 idx0.length ?_ (h2:=by exact ⟨.i64,vi hw2⟩)
      refine ih hlt ⟨_,cap,idx0,_,_,_,E.set k (-1),D,lst1 ?_,owp_pop O16,H16,lO14,by simp [lN],by simp [lD],lE1,fun o ho => ?_,(List.nodup_append.1 hI.nd).1,by omega,?_,by omega,Below.trans B15 (h16.below u5),?_⟩
      ·rw [if_neg (by omega),cut_addr O16.shape];rfl
      ·have:=hI.lt o (List.mem_append_left _ ho);omega
      ·rw [hst2,h35,stepB_end,if_neg (fun ⟨h6,h7⟩=>by have:=of_decide_eq_false h7;omega)]
      ·rw [h16.size,h15.size];exact s14
   ·simp only [Bool.or_eq_false_iff,decide_eq_false_iff_not] at h2
    refine ih hlt ⟨_,_,idx,_,_,_,E.set k (-1),D,rfl,O14,H14,lO14,by simp [lN],by simp [lD],lE1,fun o ho => ?_,hI.nd,by omega,?_,by omega,B14,s14⟩
    ·have:=hI.lt o ho;omega
    ·rw [hst,stepB_plain h1 h2.1 h2.2]
  ·have h0:=of_decide_eq_false h0
   have H14:=H12
   have O14:=O12
   have B14:=hB12
   have s14:=s12
   have Y14:=y12
   have lO14:(cO.set k (I (-1))).length=l.length:=by simp [lO]
   have cO14:∀ o,idx[idx.length-1]? = some o->(cO.set k (I (-1)))[k]? = some (I o):=fun o' ho'=>by have:=(List.getElem?_eq_some_iff.1 ho').1;omega
   refine ld (Y14.cell rfl) ?_
   refine cl (v_Opens x.op _) ?_
   rintro _ _ ⟨rfl,rfl⟩
   refine br (fun h1 => ?_) (fun h1 => ?_)
   ·
    refine bs fun b15 w15 h15 => ?_
    have H15:=H14.bl h15.bl
    have O15:=O14.bl h15.bl
    refine apl (l1:=[k]) O15 (.inr ⟨b15,0,rfl,h15.box.at⟩) (by have:=h15.bl.size;omega) (fun a' cap' w16 O16 hA _ => ?_)
    have H16:Has w16 _:=H15.ap hA (fun i b t cs hi e=>by
     have:=(O15.lt e).1
     have:b∈[b1,b3,b5,b7,b4,b2]:=(List.mem_map (f:=fun e:Nat×TypeId×List Value=>e.1)).2 ⟨(b,t,cs),List.mem_of_getElem? hi,rfl⟩
     simp only [List.mem_cons,List.mem_nil_iff,or_false] at this
     omega)
    have B16:Bl w w16:=Below.trans (B14.trans h15.bl) (hA.below (by have:=(B14.trans h15.bl).size;omega) (fun g hg=>by have:=(O15.lt hg).1;omega))
    refine ld ((H16 4 _ _ _ rfl).cell rfl) ?_
    refine mx ?_
    rw [max_nat]
    refine st (H16 4 _ _ _ rfl) (fun w17 h17 y17 => ?_)
    have H17:=H16.wr nd 4 rfl h17 y17
    have O17:=O16.wr h17 (fun g hg=>by have:=(O16.lt hg).1;omega)
    refine ih hlt ⟨a',cap',idx++[k],_,_,_,E.set k (-1),max D (idx++[k]).length,rfl,O17,H17,lO14,by simp [lN],by simp [lD],lE1,fun o ho => ?_,?_,by simp;omega,?_,?_,Below.trans B16 (h17.below u4),?_⟩
    ·rcases List.mem_append.1 ho with h | h
     ·have:=hI.lt o h;omega
     ·simp at h;omega
    ·rw [List.nodup_append]
     exact ⟨hI.nd,by simp,fun a ha b hb e=>by simp at hb;subst hb;subst e;exact kn ha⟩
    ·rw [hst,stepB_open h1,stk_push,hopD,gE1,stk_length,List.length_append];rfl
    ·simp;omega
    ·have:=hA.size;have:=h15.bl.size;rw [h17.size];omega
   refine ld (Y14.cell rfl) ?_
   refine ldg (fun _=>Y14.cell rfl) ?_
   refine br (t:=decide (x.op=34)||decide (x.op=35)) (fun h2 => ?_) (fun h2 => ?_)
   ·have h34:x.op=34∨x.op=35:=by simpa using h2
    refine br (fun h3 => ?_) (fun h3 => ?_)
    ·have h3:=of_decide_eq_true h3
     obtain rfl:idx=[]:=List.eq_nil_of_length_eq_zero (by omega)
     refine st (H14 4 _ _ _ rfl) (fun w15 h15 y15 => ?_)
     have H15:=H14.wr nd 4 rfl h15 y15
     refine lda (H15 4 _ _ _ rfl).at ?_
     refine sta (H15 5 _ _ _ rfl) (fun w16 h16 y16 => ?_)
     refine rtc y16.at ⟨⟨slv b1 l.length,slv b3 l.length,slv b5 l.length,slv b7 l.length,I D,?_⟩,Below.trans (Below.trans B14 (h15.below u4)) (h16.below u2)⟩
     rw [okB_fail (k:=k+1) (by rw [hst];exact stepB_top h34)]
    have h3:=of_decide_eq_false h3
    obtain ⟨idx0,o2,rfl⟩:∃ idx0 o2,idx=idx0++[o2]:=by
     rcases List.eq_nil_or_concat idx with h | ⟨i0,o2,h⟩
     ·rw [h] at h3;simp at h3
     ·exact ⟨i0,o2,by rw [h,List.concat_eq_append]⟩
    have e1:(idx0++[o2]).length=idx0.length+1:=by simp
    have hw2:IntKind.i64.wrap (((idx0++[o2]).length:Int)-1)=(idx0.length:Nat):=by rw [wrap_fit (by omega) (by omega)];omega
    have ok:o2<k:=hI.lt o2 (by simp)
    have on:o2<l.length:=by omega
    have ond:o2 ∉ idx0:=fun h=>by
     have:=(List.nodup_append.1 hI.nd).2.2 o2 h o2 (by simp)
     exact this rfl
    refine ld ((H14 4 _ _ _ rfl).cell rfl) ?_
    refine ix ?_
    refine stx (H14 3 _ _ _ rfl) (fun w15 h15 y15 => ?_) (ho:=by simp;omega)
    have H15:=H14.wr nd 3 rfl h15 y15
    have O15:=O14.wr h15 (fun g hg=>by have:=(O14.lt hg).1;omega)
    have B15:Bl w w15:=Below.trans B14 (h15.below u7)
    have Y15:=h15.box Y14 (by omega)
    refine ld ((H15 4 _ _ _ rfl).cell rfl) ?_
    refine ix ?_
    refine ld (b:=b1) (o:=0+k*1) (v:=I o2) ?_ ?_
    ·rw [Nat.zero_add,Nat.mul_one];exact (H15 0 _ _ _ rfl).cell (cO14 o2 (by simp))
    obtain ⟨y,b',o',_,hy,ey,_,hAty,rfl⟩:=at_some (hS.bl B15) (i:=o2) (by omega)
    simp only [Option.some.injEq,Addr.mk.injEq,and_true] at ey
    obtain ⟨rfl,rfl⟩:=ey
    have hyD:(l.map (·.op)).getD o2 0=y.op:=by rw [List.getD_eq_getElem?_getD,List.getElem?_map,hy];rfl
    obtain ⟨e,he⟩:=some_of_lt (l:=E.set k (-1)) (k:=o2) (by omega)
    have hEo:((E.set k (-1)).map I)[o2]? = some (I e):=by rw [List.getElem?_map,he];rfl
    have heD:(E.set k (-1)).getD o2 (-1)=e:=by rw [List.getD_eq_getElem?_getD,he];rfl
    have hst2:runB ((l.map (·.op)).take (k+1)) [] 0=stepB ((y.op,decide (0<=e))::stk (l.map (·.op)) (E.set k (-1)) idx0) D x.op:=by rw [hst,stk_push,hyD,heD]
    have fail:stepB ((y.op,decide (0<=e))::stk (l.map (·.op)) (E.set k (-1)) idx0) D x.op=none->okB (l.map (·.op))=false:=fun h=>okB_fail (k:=k+1) (by rw [hst2];exact h)
    refine ix ?_
    refine ld (hAty 0 _ rfl) ?_
    refine ixg (fun _=>on) ?_
    refine ldg (fun _=>hAty 0 _ rfl) ?_
    refine ld (Y15.cell rfl) ?_
    refine br (fun h4 => ?_) (fun h4 => ?_)
    ·have h4:=of_decide_eq_true h4
     refine ldg (fun _=>(H15 4 _ _ _ rfl).cell rfl) ?_
     refine ixg (fun _=>on) ?_
     refine ldg (b:=b3) (o:=0+o2*1) (v:=I e) (fun _ => ?_) ?_
     ·rw [Nat.zero_add,Nat.mul_one];exact (H15 1 _ _ _ rfl).cell hEo
     refine br (t:=(!(decide (y.op=29)||decide (y.op=33)))||decide (0<=e)) (fun h5 => ?_) (fun h5 => ?_)
     ·refine st (H15 4 _ _ _ rfl) (fun w16 h16 y16 => ?_)
      have H16:=H15.wr nd 4 rfl h16 y16
      refine lda (H16 4 _ _ _ rfl).at ?_
      refine sta (H16 5 _ _ _ rfl) (fun w17 h17 y17 => ?_)
      refine rtc y17.at ⟨⟨slv b1 l.length,slv b3 l.length,slv b5 l.length,slv b7 l.length,I D,?_⟩,Below.trans (Below.trans B15 (h16.below u4)) (h17.below u2)⟩
      rw [fail]
      rw [h4,stepB_else,if_neg]
      rintro ⟨h6,h7⟩
      simp only [Bool.or_eq_true,Bool.not_eq_true',Bool.or_eq_false_iff,decide_eq_true_eq,decide_eq_false_iff_not] at h5 h6
      omega
     ·simp only [Bool.or_eq_false_iff,Bool.not_eq_false',Bool.or_eq_true,decide_eq_true_eq,decide_eq_false_iff_not] at h5
      refine ld ((H15 4 _ _ _ rfl).cell rfl) ?_
      refine ix ?_
      refine stx (H15 1 _ _ _ rfl) (fun w16 h16 y16 => ?_) (ho:=by simp;omega)
      have H16:=H15.wr nd 1 rfl h16 y16
      have O16:=O15.wr h16 (fun g hg=>by have:=(O15.lt hg).1;omega)
      have eE2:((E.set k (-1)).map I).set (0+o2*1) (I k)=((E.set k (-1)).set o2 k).map I:=by rw [Nat.zero_add,Nat.mul_one,List.map_set (l:=E.set k (-1))]
      rw [eE2] at H16
      refine ih hlt ⟨_,_,idx0++[o2],_,_,_,(E.set k (-1)).set o2 k,D,rfl,O16,H16,lO14,by simp [lN],by simp [lD],by simp [lE],fun o ho => ?_,hI.nd,by omega,?_,by omega,Below.trans B15 (h16.below u3),?_⟩
      ·have:=hI.lt o ho;omega
      ·rw [hst2,h4,stepB_else,if_pos ⟨decide_eq_false h5.2,h5.1⟩,stk_push,stk_set ond,hyD,set_getD (by rw [List.length_set];omega),decide_eq_true (by omega)]
      ·rw [h16.size,h15.size];exact s14
    ·have h4:=of_decide_eq_false h4
     have h35:x.op=35:=by omega
     refine ix ?_
     refine ld (hAty 0 _ rfl) ?_
     refine ldg (fun _=>(H15 4 _ _ _ rfl).cell rfl) ?_
     refine ixg (fun _=>on) ?_
     refine ldg (b:=b3) (o:=0+o2*1) (v:=I e) (fun _ => ?_) ?_
     ·rw [Nat.zero_add,Nat.mul_one];exact (H15 1 _ _ _ rfl).cell hEo
     refine br (t:=decide (y.op=33)&&decide (e<0)) (fun h5 => ?_) (fun h5 => ?_)
     ·simp only [Bool.and_eq_true,decide_eq_true_eq] at h5
      refine st (H15 4 _ _ _ rfl) (fun w16 h16 y16 => ?_)
      have H16:=H15.wr nd 4 rfl h16 y16
      refine lda (H16 4 _ _ _ rfl).at ?_
      refine sta (H16 5 _ _ _ rfl) (fun w17 h17 y17 => ?_)
      refine rtc y17.at ⟨⟨slv b1 l.length,slv b3 l.length,slv b5 l.length,slv b7 l.length,I D,?_⟩,Below.trans (Below.trans B15 (h16.below u4)) (h17.below u2)⟩
      rw [fail]
      rw [h35,stepB_end,if_pos ⟨h5.1,decide_eq_false (by omega)⟩]
     ·simp only [Bool.and_eq_false_iff,decide_eq_false_iff_not] at h5
      refine ld ((H15 4 _ _ _ rfl).cell rfl) ?_
      refine ix ?_
      refine stx (H15 2 _ _ _ rfl) (fun w16 h16 y16 => ?_) (ho:=by simp;omega)
      have H16:=H15.wr nd 2 rfl h16 y16
      have O16:=O15.wr h16 (fun g hg=>by have:=(O15.lt hg).1;omega)
      have hcap:(idx0++[o2]).length<=cap:=by
       rcases O16.shape with ⟨_,h00,_⟩ | ⟨_,_,_,_,_,hc,_⟩
       ·omega
       ·exact hc
      refine sl 0 idx0.length ?_ (h2:=by exact ⟨.i64,vi hw2⟩)
      refine ih hlt ⟨_,cap,idx0,_,_,_,E.set k (-1),D,lst1 ?_,owp_pop O16,H16,lO14,by simp [lN],by simp [lD],lE1,fun o ho => ?_,(List.nodup_append.1 hI.nd).1,by omega,?_,by omega,Below.trans B15 (h16.below u5),?_⟩
      ·rw [if_neg (by omega),cut_addr O16.shape];rfl
      ·have:=hI.lt o (List.mem_append_left _ ho);omega
      ·rw [hst2,h35,stepB_end,if_neg (fun ⟨h6,h7⟩=>by have:=of_decide_eq_false h7;omega)]
      ·rw [h16.size,h15.size];exact s14
   ·simp only [Bool.or_eq_false_iff,decide_eq_false_iff_not] at h2
    refine ih hlt ⟨_,_,idx,_,_,_,E.set k (-1),D,rfl,O14,H14,lO14,by simp [lN],by simp [lD],lE1,fun o ho => ?_,hI.nd,by omega,?_,by omega,B14,s14⟩
    ·have:=hI.lt o ho;omega
    ·rw [hst,stepB_plain h1 h2.1 h2.2]
 refine brF ?_
 obtain rfl:k=l.length:=by omega
 have H:=hI.has
 have hrun:=hI.run
 rw [List.take_of_length_le (by simp)] at hrun
 refine ldg (fun _=>(H 4 _ _ _ rfl).cell rfl) ?_
 refine st (H 4 _ _ _ rfl) (fun w6 h6 y6 => ?_)
 have H6:=H.wr nd 4 rfl h6 y6
 refine lda (H6 4 _ _ _ rfl).at ?_
 refine sta (H6 5 _ _ _ rfl) (fun w7 h7 y7 => ?_)
 refine rtc y7.at ⟨⟨slv b1 l.length,slv b3 l.length,slv b5 l.length,slv b7 l.length,I D,?_⟩,Below.trans (Below.trans hI.bl (h6.below u4)) (h7.below u2)⟩
 have:okB (l.map (·.op))=(decide ((idx.length:Int)=0)&&decide ((D:Int)<=6)):=by
  unfold okB
  rw [hrun]
  cases idx with
  | nil =>
   show decide (D<=6)=(true&&decide ((D:Int)<=6))
   rw [Bool.true_and]
   by_cases h:D<=6
   ·rw [decide_eq_true h,decide_eq_true (by omega)]
   ·rw [decide_eq_false h,decide_eq_false (by omega)]
  | cons i0 idx =>
   have:((i0::idx).length:Int)≠0:=by simp;omega
   rw [decide_eq_false this]
   have h2:stk (l.map (·.op)) E (i0::idx)≠[]:=by simp [stk]
   cases hs:stk (l.map (·.op)) E (i0::idx) with
   | nil=>exact absurd hs h2
   | cons=>rfl
 rw [this]
theorem u_codeCheck (l:List Ins) (a:Option Addr) (cap:Nat) (p:Bool) (S:Nat->Prop) (w:World) (hS:Sl eIns S w a l):Ret Tryz.prog 149 #[.slice a l.length cap,.bool p] w fun v w'=>v=I (codeE l p)/\Bl w w':=by
 have hbig:=hS.big
 refine entr (vs:=[.slice a l.length cap,.bool p]) [0,1,3,4,5,9,13] tabok Tryz.func149 (by kernel_rfl) ?_
 refine bx (cs:=[.bool p]) fun b w1 h1 => ?_
 refine br (fun h => ?_) (fun h => ?_)
 ·have h:=of_decide_eq_true h
  exact rt1 ⟨vi (by unfold codeE;rw [if_pos (by omega)]),h1.bl⟩
 have h120:=of_decide_eq_false h
 have hS1:=hS.bl h1.bl
 refine cl (ContainsFunc_ins l _ cap 211 [.pointer (some ⟨b,0,none⟩)] (fun i => !validI i p) S w1 hS1 (fun x cs hx w2 hB2 hr => ?_)) ?_
 ·obtain rfl:cs=[I x.op,I x.a,I x.b]:=hr
  refine entr (vs:=[.agg #[I x.op,I x.a,I x.b],.pointer (some ⟨b,0,none⟩)]) [0,1,2,3] tabok Tryz.func211 (by kernel_rfl) ?_
  refine bx (cs:=[I x.op,I x.a,I x.b]) fun b3 w3 h3 => ?_
  refine lda h3.box.at ?_
  refine ld ((Bl.box h3.bl (Bl.box hB2 h1.box)).cell rfl) ?_
  refine cl (w_Valid x p _) ?_
  rintro _ w4 ⟨rfl,hB4⟩
  exact rt1 ⟨rfl,h3.bl.trans hB4⟩
 rintro _ w2 ⟨rfl,hB2⟩
 refine br (t:=l.any fun i => !validI i p) (fun h => ?_) (fun h => ?_)
 ·refine rt1 ⟨vi ?_,h1.bl.trans hB2⟩
  unfold codeE
  obtain ⟨x,hx,hv⟩:=List.any_eq_true.1 h
  rw [if_neg (by omega),if_neg (fun ha=>by have:=List.all_eq_true.1 ha x hx;rw [this] at hv;cases hv)]
 have hall:(l.all fun i=>validI i p)=true:=List.all_eq_true.2 fun x hx=>by have:=List.any_eq_false.1 h x hx;simpa using this
 have hc:codeE l p=if okB (l.map (·.op))=true then 0 else 7:=by unfold codeE;rw [if_neg (by omega),if_pos hall]
 refine cl (u_shapeOf l _ cap S _ (hS1.bl hB2)) ?_
 rintro _ w3 ⟨⟨c0,c1,c2,c3,c4,rfl⟩,hB3⟩
 refine fd 5 ?_
 refine br (t := !okB (l.map (·.op))) (fun h => ?_) (fun h => ?_)
 ·refine rt1 ⟨vi ?_,(h1.bl.trans hB2).trans hB3⟩
  rw [hc,if_neg (by simpa using h)]
 ·refine rt1 ⟨vi ?_,(h1.bl.trans hB2).trans hB3⟩
  rw [hc,if_pos (by simpa using h)]
end Go.Proofs.YtkmdfjpafkcleaaGreatDoor
namespace Go.Proofs.YtkmdfjpafkcleaaGreatDoor
open Eng Go.RowKit Go.Sort
abbrev toL (s:ByteArray):List UInt8:=s.data.toList
abbrev sEnc:List UInt8->Value:=Go.Proofs.encStr
theorem sEnc_toL (s:ByteArray):sEnc (toL s) = .string s:=by cases s;simp [sEnc,Go.Proofs.encStr]
theorem consec_nodup:∀ {l:List (List UInt8)},l.Pairwise (· <= ·)->((∀ (j:Nat) x y,l[j]? = some x->l[j+1]? = some y->x≠y)↔l.Nodup)
 | [],_=>by simp
 | [x],_=>by simp
 | x::y::r,h=>by
  rw [List.pairwise_cons] at h
  have ih:=consec_nodup h.2
  constructor
  ·intro hc
   have hxy:x≠y:=hc 0 x y rfl rfl
   have hn:=ih.1 fun j a b h1 h2=>hc (j+1) a b (by simpa using h1) (by simpa using h2)
   rw [List.nodup_cons]
   refine ⟨fun hm => ?_,hn⟩
   have h2:=List.pairwise_cons.1 h.2
   have hxley:=h.1 y (List.mem_cons_self ..)
   cases hm with
   | head=>exact hxy rfl
   | tail _ hm=>exact hxy (List.le_antisymm hxley (h2.1 x hm))
  ·intro hn j a b h1 h2 e
   subst e
   have hp:=List.pairwise_iff_getElem.1 hn
   obtain ⟨l1,e1⟩:=List.getElem?_eq_some_iff.1 h1
   obtain ⟨l2,e2⟩:=List.getElem?_eq_some_iff.1 h2
   exact hp j (j+1) l1 l2 (by omega) (e1.trans e2.symm)
theorem compact_len {zs:List (List UInt8)} (hs:zs.Pairwise (· <= ·)):((Lib.compact zs).length<zs.length↔¬zs.Nodup)/\(Lib.compact zs).length<=zs.length:=by
 have hlen:(Lib.compact zs).length=((List.range zs.length).filter (Lib.keeps zs.toArray)).length:=by unfold Lib.compact Lib.compactUpTo;rw [List.length_map]
 have hle:(Lib.compact zs).length<=zs.length:=by rw [hlen];exact Nat.le_trans (List.length_filter_le _ _) (by simp)
 refine ⟨?_,hle⟩
 have hall:(Lib.compact zs).length=zs.length↔∀ j,j<zs.length->Lib.keeps zs.toArray j=true:=by
  rw [hlen]
  constructor
  ·intro h j hj
   have h2:((List.range zs.length).filter (Lib.keeps zs.toArray)).length=(List.range zs.length).length:=by rw [h,List.length_range]
   exact (List.length_filter_eq_length_iff.1 h2) j (List.mem_range.2 hj)
  ·intro h
   rw [List.filter_eq_self.2 fun j hj=>h j (List.mem_range.1 hj),List.length_range]
 have hk:(∀ j,j<zs.length->Lib.keeps zs.toArray j=true)↔zs.Nodup:=by
  rw [<-consec_nodup hs]
  constructor
  ·intro h j x y hx hy e
   obtain ⟨l2,e2⟩:=List.getElem?_eq_some_iff.1 hy
   obtain ⟨l1,e1⟩:=List.getElem?_eq_some_iff.1 hx
   have:=h (j+1) l2
   unfold Lib.keeps at this
   simp [l1,l2,e1,e2,e] at this
  ·intro h j hj
   unfold Lib.keeps
   rw [decide_eq_true_eq]
   by_cases h0:j=0
   ·exact .inl h0
   ·right
    have hx:=List.getElem?_eq_getElem (l:=zs) (i:=j-1) (by omega)
    have hy:=List.getElem?_eq_getElem (l:=zs) (i:=j) hj
    have:=h (j-1) _ _ hx (by rw [show j-1+1=j by omega];exact hy)
    simp [hj,show j-1<zs.length by omega]
    exact fun e=>this e.symm
 rw [<-hk,<-hall];omega
theorem dup_nodup (l:List ByteArray):dup l=true↔¬(l.map toL).Nodup:=by
 have:l.Nodup↔(l.map toL).Nodup:=by
  rw [List.nodup_iff_pairwise_ne,List.nodup_iff_pairwise_ne,List.pairwise_map]
  exact ⟨fun h=>h.imp fun hne e=>hne (ba_ext e),fun h=>h.imp fun hne e=>hne (by rw [e])⟩
 rw [<-this]
 induction l with
 | nil=>simp [dup]
 | cons x r ih =>
  simp only [dup,Bool.or_eq_true,hasB_iff,List.nodup_cons]
  have ih':dup r=true↔¬r.Nodup:=by
   apply ih
   rw [List.nodup_iff_pairwise_ne,List.nodup_iff_pairwise_ne,List.pairwise_map]
   exact ⟨fun h=>h.imp fun hne e=>hne (ba_ext e),fun h=>h.imp fun hne e=>hne (by rw [e])⟩
  rw [ih']
  by_cases h1:x∈r <;> simp [h1]
theorem sorted_le (l:List (List UInt8)):(l.mergeSort fun x y=>decide (x<=y)).Pairwise (· <= ·):=by
 have:=List.pairwise_mergeSort (le:=fun x y:List UInt8=>decide (x<=y)) (fun a b c h1 h2=>by simp only [decide_eq_true_eq] at *;exact List.le_trans h1 h2) (fun a b=>by simp only [Bool.or_eq_true,decide_eq_true_eq];exact List.le_total a b) l
 exact this.imp fun h=>of_decide_eq_true h
theorem grown_bl {w w':World} {g:Nat} (h:w.grownBy w' (some g)) {B:Nat} (hB:B<=g) (hw:B<=w.heap.size) {w0:World} (h0:Below B w0 w):Below B w0 w' :=
 h0.grown h hw (fun k e=>by cases e;exact hB)
theorem u_twice (l:List ByteArray) (a:Option Addr) (cap:Nat) (S:Nat->Prop) (w:World) (hS:Sl eStr S w a l):Ret Tryz.prog 210 #[.slice a l.length cap] w fun v w'=>v = .bool (dup l)/\Bl w w':=by
 have hbig:=hS.big
 refine entr (vs:=[.slice a l.length cap]) [0,2] tabok Tryz.func210 (by kernel_rfl) ?_
 refine cl (R:=fun v w'=>∃ b,v = .func (.func 214) #[] #[.pointer (some ⟨b,0,none⟩)]/\New w b 33 [.slice a l.length cap] w') ?_ ?_
 ·refine entr (vs:=[.slice a l.length cap]) [0,1,2] tabok Tryz.func151 (by kernel_rfl) ?_
  refine bx (cs:=[.slice a l.length cap]) fun b w1 h1 => ?_
  exact rt1 ⟨b,rfl,h1⟩
 rintro _ w1 ⟨b,rfl,h1⟩
 have hS1:=hS.bl h1.bl
 have hlt1:∀ (j:Nat) x,(l.map toL)[j]? = some x->∃ b off,a=some ⟨b,off,none⟩/\b<w1.heap.size/\w1.cell? ⟨b,off+j,none⟩=some (sEnc x):=fun j x hx=>by
  rw [List.getElem?_map] at hx
  cases hl:l[j]? with
  | none=>rw [hl] at hx;cases hx
  | some s =>
   rw [hl] at hx
   obtain rfl:=Option.some.inj hx
   obtain ⟨b',o',cs,e,_,hAt,rfl⟩:=hS1.el j s hl
   have hc:=hAt 0 _ rfl
   have hc':w1.cell? ⟨b',o'+j,none⟩=some (.string s):=by simpa [eStr,plainEl] using hc
   exact ⟨b',o',e,cell_lt hc',by rw [hc',sEnc_toL]⟩
 have hlen:(l.map toL).length=l.length:=List.length_map ..
 refine cl (R:=fun v w'=>∃ a' cap',v = .slice a' l.length cap'/\Ow w' w1.heap.size 9 1 a' l.length cap' (((l.map toL).mergeSort fun x y=>decide (x<=y)).map sEnc)/\Bl w1 w') ⟨by kernel_rfl,(c_sorted (l.map toL) a cap b w1 (by rw [hlen];exact hbig) (by rw [hlen];exact h1.box.cell rfl) h1.box.lt hlt1).mono ?_⟩ ?_
 ·rintro e w2 ⟨v,rfl,hrow,hb⟩
  rw [hlen] at hrow
  have hr:=hrow
  rcases hrow.2 with ⟨rfl,h0⟩ | ⟨g,cap',cur,rfl,_⟩
  ·exact ⟨none,0,by rw [h0],⟨by rw [h0] at hr ⊢;exact hr⟩,hb⟩
  ·exact ⟨_,cap',rfl,⟨hr⟩,hb⟩
 rintro _ w2 ⟨a',cap',rfl,hO,hB2⟩
 have hsl:((l.map toL).mergeSort fun x y=>decide (x<=y)).length=l.length:=by rw [List.length_mergeSort,hlen]
 have hres:dup l=decide ((Lib.compact ((l.map toL).mergeSort fun x y=>decide (x<=y))).length<l.length):=by
  rw [Bool.eq_iff_iff,dup_nodup,decide_eq_true_eq,<-hsl,(compact_len (sorted_le _)).1,List.Perm.nodup_iff (List.mergeSort_perm _ _)]
 refine cl (R:=fun v w'=>∃ cap2,v = .slice a' (Lib.compact ((l.map toL).mergeSort fun x y=>decide (x<=y))).length cap2/\Bl w w') ?_ ?_
 ·rcases hO.shape with ⟨rfl,h0,rfl,_⟩ | ⟨g,cur,rfl,hg,hgb,hn,hcs,htk⟩
  ·refine ⟨by kernel_rfl,?_⟩
   have he:((l.map toL).mergeSort fun x y=>decide (x<=y))=[]:=List.eq_nil_of_length_eq_zero (by rw [hsl,h0])
   rw [h0,he]
   refine (Tryz.slices_Compact_string_empty none 0 w2).mono ?_
   rintro e w3 ⟨rfl,rfl⟩
   exact ⟨0,rfl,h1.bl.trans hB2⟩
  ·refine ⟨by kernel_rfl,?_⟩
   have hH:Holds sEnc w2 g 0 ((l.map toL).mergeSort fun x y=>decide (x<=y)).toArray:=holds_of_block hgb (by rw [hsl];simpa using htk)
   have:=Tryz.slices_Compact_string g 0 cap' ((l.map toL).mergeSort fun x y=>decide (x<=y)) w2 hH (by rw [hsl];omega) (by rw [hsl];exact hn)
   rw [hsl] at this
   refine this.mono ?_
   rintro e w3 ⟨rfl,q,hw3⟩
   refine ⟨cap',rfl,h1.bl.trans ?_⟩
   rw [<-Go.Sort.grow_empty (putRow _ _ _ _ _)] at hw3
   rw [hw3]
   exact grown_bl (grownBy_sorted _) hg hB2.size hB2
 rintro _ w3 ⟨cap2,rfl,hB3⟩
 refine rt1 ⟨vb ?_,hB3⟩
 rw [hres,Bool.eq_iff_iff,decide_eq_true_eq,decide_eq_true_eq];omega
end Go.Proofs.YtkmdfjpafkcleaaGreatDoor
namespace Go.Proofs.YtkmdfjpafkcleaaGreatDoor
open Eng Go.RowKit
structure ClsI (us:List Unt) (D:Dcl) (p:ByteArray) (n k:Nat) (u:Unt) (c:Cls):Prop where
 g:getM D.classes p=some (n,k)
 hu:us[n]? = some u
 hc:u.classes[k]? = some c
theorem ClsI.of {us:List Unt} {D:Dcl} {p:ByteArray} {n k:Nat} {u:Unt} {c:Cls} (h:ClsI us D p n k u c):clsOf us D p=some (u,c):=by
 unfold clsOf clsAt
 rw [h.g]
 simp [h.hu,h.hc]
theorem ClsI.sup {us:List Unt} {D:Dcl} {p:ByteArray} {n k:Nat} {u:Unt} {c:Cls} (h:ClsI us D p n k u c):supL us D p=if 0<=c.super then nm u c.super else nost:=by
 unfold supL;rw [h.of]
theorem ClsI.own {us:List Unt} {D:Dcl} {p:ByteArray} {n k:Nat} {u:Unt} {c:Cls} (h:ClsI us D p n k u c):ownL us D p=c.fields.map fun f=>nm u f.name:=by
 unfold ownL;rw [h.of]
def Deep (us:List Unt) (D:Dcl):Nat->ByteArray->Prop
 | 0,_=>False
 | m+1,p=>(∃ n k u c,ClsI us D p n k u c)/\(supL us D p=nost∨Deep us D m (supL us D p))
variable {w:World} {b:Nat} {us:List Unt} {D:Dcl}
theorem k_super (hL:Lnk w b us D) (hI:∀ u∈us,Ixs u) {p:ByteArray} {n k:Nat} {u:Unt} {c:Cls} (hc:ClsI us D p n k u c) :
  Ret Tryz.prog 96 #[.pointer (some ⟨b,0,none⟩),.string p] w fun v w'=>v = .string (supL us D p)/\Bl w w':=by
 refine entr (vs:=[.pointer (some ⟨b,0,none⟩),.string p]) [0,1,4,5,6,28] tabok Tryz.func96 (by kernel_rfl) ?_
 obtain ⟨m,h1,hm⟩:=hL.cl
 refine ld h1 ?_
 refine lk tD hm ?_
 rw [hc.g]
 refine al fun b1 w1 k1 => ?_
 refine sta (vs:=[I n,I k]) (cs':=[I n,I k]) k1.box fun w2 k2 x2 => ?_
 have B2:=k1.wr k2
 refine ds fun w3 k3 => ?_
 have B3:=B2.trans k3.bl
 have x3:=k3.box x2
 have L3:=hL.bl B3
 obtain ⟨a,cc,h0,hS⟩:=L3.us
 obtain ⟨b4,o4,cs4,rfl,_,hAt,ua,rfl,hU⟩:=hS.el n u hc.hu
 obtain ⟨b5,o5,cs5,e5,_,hAt5,af,cf,rfl,hF⟩:=hU.cls.el k c hc.hc
 have hn:n<us.length:=(List.getElem?_eq_some_iff.1 hc.hu).1
 have hk:k<u.classes.length:=(List.getElem?_eq_some_iff.1 hc.hc).1
 refine ld h0 ?_
 refine ld (x3.cell rfl) ?_
 refine ix ?_
 refine ld (hAt 2 _ rfl) ?_
 refine ld (x3.cell rfl) ?_
 rw [e5]
 refine ix ?_
 refine ld (hAt5 1 _ rfl) ?_
 rw [hc.sup]
 by_cases h:0<=c.super
 ·refine brT ?_ (hp:=h)
  refine ld (x3.cell rfl) ?_
  refine cl (k_path L3 hc.hu (((hI u (List.mem_of_getElem? hc.hu)).sup c (List.mem_of_getElem? hc.hc)).inP (by omega))) ?_
  rintro _ _ ⟨rfl,rfl⟩
  rw [if_pos h]
  exact rt1 ⟨rfl,B3⟩
 ·refine brF ?_ (hp:=h)
  rw [if_neg h]
  exact rt1 ⟨rfl,B3⟩
theorem k_layout (hI:∀ u∈us,Ixs u) (hF7:∀ u∈us,∀ c∈u.classes,c.fields.length<=7):∀ (m:Nat) (p:ByteArray) (w:World),m<=1000->Lnk w b us D->Deep us D m p ->
  Ret Tryz.prog 97 #[.pointer (some ⟨b,0,none⟩),.string p] w fun v w'=>∃ a c,v = .slice a (layL us D m p).length c/\OwP 1 encStr w' w.heap.size 9 a c (layL us D m p)/\(layL us D m p).length<=7*m/\Bl w w'
 | 0,_,_,_,_,h=>h.elim
 | m+1,p,w,hm,hL,⟨⟨n,k,u,c,hc⟩,hd⟩=>by
  have hum:=List.mem_of_getElem? hc.hu
  have hcm:=List.mem_of_getElem? hc.hc
  have hf7:=hF7 u hum c hcm
  refine entr (vs:=[.pointer (some ⟨b,0,none⟩),.string p]) [0,1,4,5,6,7,9,14,37,38,39,40] tabok Tryz.func97 (by kernel_rfl) ?_
  refine cl (k_super hL hI hc) ?_
  rintro _ w1 ⟨rfl,B1⟩
  have hlay:layL us D (m+1) p=(if supL us D p=nost then [] else layL us D m (supL us D p))++c.fields.map fun f=>nm u f.name:=by
   rw [<-hc.own];rfl
  refine jn [5] [(0,.pointer (some ⟨b,0,none⟩)),(1,.string p)] (fun vals w2=>∃ up a c,vals=[.slice a up.length c]/\OwP 1 encStr w2 w.heap.size 9 a c up/\up=(if supL us D p=nost then [] else layL us D m (supL us D p))/\up.length<=7*m/\Bl w w2) (fun h jo => ?_) (fun h jo => ?_) ?_
  ·have hs:¬supL us D p=nost:=of_decide_eq_true h
   refine cl (k_layout hI hF7 m _ w1 (by omega) (hL.bl B1) (hd.resolve_left hs)) ?_
   rintro _ w2 ⟨a,cc,rfl,hO,hlen,B2⟩
   exact jo ⟨_,a,cc,rfl,hO.base B1.size,by rw [if_neg hs],hlen,B1.trans B2⟩
  ·have hs:supL us D p=nost:=Classical.byContradiction fun q=>of_decide_eq_false h q
   exact jo ⟨[],none,0,rfl,Ow.nil ..,by rw [if_pos hs],by simp,B1⟩
  rintro _ w2 ⟨up,a0,c0,rfl,hO2,hup,hlen,B2⟩
  rw [<-hup] at hlay
  obtain ⟨m1,h1,hm1⟩:=(hL.bl B2).cl
  refine ld h1 ?_
  refine lk tD hm1 ?_
  rw [hc.g]
  refine al fun b3 w3 k3 => ?_
  refine sta (vs:=[I n,I k]) (cs':=[I n,I k]) k3.box fun w4 k4 x4 => ?_
  have B4:=B2.trans (k3.wr k4)
  refine ds fun w5 k5 => ?_
  have B5:=B4.trans k5.bl
  have x5:=k5.box x4
  obtain ⟨a,cc,h0,hS⟩:=hL.us
  obtain ⟨b6,o6,cs6,rfl,_,hAt,ua,rfl,hU⟩:=hS.el n u hc.hu
  obtain ⟨b7,o7,cs7,e7,_,hAt7,af,cf,rfl,hF⟩:=hU.cls.el k c hc.hc
  have hn:n<us.length:=(List.getElem?_eq_some_iff.1 hc.hu).1
  have hk:k<u.classes.length:=(List.getElem?_eq_some_iff.1 hc.hc).1
  refine ld (B5.cl h0) ?_
  refine ld (x5.cell rfl) ?_
  refine ix ?_
  refine ld ((hAt.bl B5) 2 _ rfl) ?_
  refine ld (x5.cell rfl) ?_
  rw [e7]
  refine ix ?_
  refine ld ((hAt7.bl B5) 2 _ rfl) ?_
  have hO5:=hO2.bl ((k3.wr k4).trans k5.bl)
  refine lpk (vals:=[.slice a0 up.length c0]) c.fields.length 39 [5] [(0,.pointer (some ⟨b,0,none⟩)),(7,.pointer (some ⟨b3,0,none⟩)),(37,.slice af c.fields.length cf),(38,I c.fields.length)]
   (fun j vals w'=>∃ a9 c9,vals=[.slice a9 (up++(c.fields.take j).map fun f=>nm u f.name).length c9]/\OwP 1 encStr w' w.heap.size 9 a9 c9 (up++(c.fields.take j).map fun f=>nm u f.name)/\Bl w w'/\Box w' b3 151 [I n,I k]) ⟨a0,c0,by simp,by simpa using hO5,B5,x5⟩ ?_
  rintro j vals w6 hj ⟨a9,c9,rfl,hO6,B6,x6⟩ ih
  by_cases hlt:j<c.fields.length
  ·refine brT ?_
   obtain ⟨f,bf,off,csf,hf,rfl,_,hAtf,rfl⟩:=at_some (hF.bl B6) hlt
   refine ix ?_
   refine lda hAtf ?_
   refine al fun b8 w8 k8 => ?_
   refine sta k8.box fun w9 k9 x9 => ?_
   have B69:=k8.wr k9
   have x69:=Bl.box B69 x6
   refine ld (x69.cell rfl) ?_
   refine ld (x9.cell rfl) ?_
   refine cl (k_path (hL.bl (B6.trans B69)) hc.hu ((hI u hum).plc.fn c hcm f (List.mem_of_getElem? hf))) ?_
   rintro _ _ ⟨rfl,rfl⟩
   refine bs fun b10 w10 k10 => ?_
   have B10:=(B6.trans B69).trans k10.bl
   have O10:=(hO6.bl B69).bl k10.bl
   have hl:(up++(c.fields.take j).map fun f=>nm u f.name).length<=7*m+7:=by rw [List.length_append,List.length_map,List.length_take];omega
   have e1:up++(c.fields.take (j+1)).map (fun f=>nm u f.name)=(up++(c.fields.take j).map fun f=>nm u f.name)++[nm u f.name]:=by rw [map_snoc hf,List.append_assoc]
   refine apl (l1:=[nm u f.name]) O10 (.inr ⟨b10,0,rfl,k10.box.at⟩) B10.size (fun a11 c11 w11 hO11 hA11 _ => ?_) (hb:=by simp only [List.length_cons,List.length_nil];omega) (hn:=by simp only [List.length_cons,List.length_nil];omega)
   have x10:=Bl.box k10.bl x69
   exact ih hlt ⟨a11,c11,by rw [e1],by rw [e1];exact hO11,Eng.Ow.below O10 hA11 B10 B10.size,hA11.box x10 (O10.nbox x10 (by decide))⟩
  ·refine brF ?_
   obtain rfl:j=c.fields.length:=by omega
   rw [List.take_length,<-hlay] at hO6 ⊢
   exact rt1 ⟨a9,c9,rfl,hO6,by rw [hlay,List.length_append,List.length_map];omega,B6⟩
end Go.Proofs.YtkmdfjpafkcleaaGreatDoor
namespace Go.Proofs.YtkmdfjpafkcleaaGreatDoor
open Eng Go.RowKit
structure MthI (us:List Unt) (d:Option (Nat×Nat)) (n k:Nat) (u:Unt) (m:Mth):Prop where
 g:d=some (n,k)
 hu:us[n]? = some u
 hm:u.methods[k]? = some m
theorem MthI.of {us:List Unt} {d:Option (Nat×Nat)} {n k:Nat} {u:Unt} {m:Mth} (h:MthI us d n k u m):d.bind (mthAt us)=some (u,m):=by
 unfold mthAt
 rw [h.g]
 simp [h.hu,h.hm]
theorem getM_mem {α:Type}:∀ {m:Mp α} {k:ByteArray} {v:α},getM m k=some v->(k,v)∈m
 | [],_,_,h=>by cases h
 | (k0,v0)::m,k,v,h=>by
  simp only [getM] at h
  split at h
  ·rename_i e;subst e;obtain rfl:=Option.some.inj h;exact List.mem_cons_self ..
  ·exact List.mem_cons_of_mem _ (getM_mem h)
abbrev rs0:Rs:=⟨none,0,[]⟩
theorem rows_at {S:Nat->Prop} {w:World} {M:Mp Rs} (h:∀ p∈M,Sl eStr S w p.2.a p.2.l) (k:ByteArray):Sl eStr S w ((getM M k).getD rs0).a ((getM M k).getD rs0).l:=by
 cases hg:getM M k with
 | none=>exact Sl.nil ..
 | some r=>exact h (k,r) (getM_mem hg)
theorem named_at {D:Dcl} {M:Mp Rs} (h:mapV Rs.l M=D.named) (k:ByteArray):((getM M k).getD rs0).l=(getM D.named k).getD []:=by
 rw [<-h,getM_mapV]
 cases getM M k <;> rfl
variable {w:World} {b:Nat} {us:List Unt} {D:Dcl}
theorem calI_len {u:Unt} {i:Ins} (hN:∀ p∈D.named,p.2.length<=1000):(calI D u i).length<=1000:=by
 unfold calI
 split
 ·simp
 ·split
  ·cases hg:getM D.named (nm u i.a) with
   | none=>simp
   | some l=>exact hN _ (getM_mem hg)
  ·simp
theorem k_callees (hL:Lnk w b us D) (hI:∀ u∈us,Ixs u) (hN:∀ p∈D.named,p.2.length<=1000) {p:ByteArray} {n k:Nat} {u:Unt} {m:Mth} (hm:MthI us (mthD D p) n k u m) (hcl:m.code.length<=120) :
  Ret Tryz.prog 102 #[.pointer (some ⟨b,0,none⟩),.string p] w fun v w'=>∃ a c,v = .slice a (calL us D p).length c/\OwP 1 encStr w' w.heap.size 9 a c (calL us D p)/\(calL us D p).length<=120000/\Bl w w':=by
 have hum:=List.mem_of_getElem? hm.hu
 have hmm:=List.mem_of_getElem? hm.hm
 have hcal:calL us D p=m.code.flatMap (calI D u):=by
  unfold calL mthOf;rw [hm.of]
 have hB:=flatMap_le (f:=calI D u) (B:=1000) (l:=m.code) fun x _=>calI_len hN
 have hg:=hm.g
 unfold mthD at hg
 refine entr (vs:=[.pointer (some ⟨b,0,none⟩),.string p]) [0,1,4,5,6,7,9,20,40,41,42,43,47,48,59] tabok Tryz.func102 (by kernel_rfl) ?_
 obtain ⟨m1,h1,hm1⟩:=hL.ca
 refine ld h1 ?_
 refine lko tD hm1 ?_
 rw [getD_enc]
 refine al fun b1 w1 k1 => ?_
 refine sta k1.box fun w2 k2 x2 => ?_
 have B2:=k1.wr k2
 refine jn [] [(0,.pointer (some ⟨b,0,none⟩)),(5,.pointer (some ⟨b1,0,none⟩))] (fun vals w'=>vals=[]/\Box w' b1 151 [I n,I k]/\Bl w w') (fun h jo => ?_) (fun h jo => ?_) ?_
 ·have hn:getM D.calls p=none:=by
   simp only [hasM,Bool.not_eq_true'] at h
   cases hc:getM D.calls p with
   | none=>rfl
   | some d=>rw [hc] at h;cases h
  have hg2:getM D.sends p=some (n,k):=by rw [hn] at hg;exact hg
  obtain ⟨m2,h2,hm2⟩:=(hL.bl B2).se
  refine ld h2 ?_
  refine lk tD hm2 ?_
  rw [hg2]
  refine sta (vs:=[I n,I k]) (cs':=[I n,I k]) x2 fun w3 k3 x3 => ?_
  exact jo ⟨rfl,x3,Below.trans B2 (k3.below (Nat.le_of_eq k1.blk.symm))⟩
 ·simp only [hasM,Bool.not_eq_false'] at h
  obtain ⟨d,hd⟩:=Option.isSome_iff_exists.1 h
  have hd2:d=(n,k):=by rw [hd] at hg;exact Option.some.inj hg
  rw [hd,hd2] at x2
  exact jo ⟨rfl,x2,B2⟩
 rintro _ w3 ⟨rfl,x3,B3⟩
 refine ds fun w5 k5 => ?_
 have B5:=B3.trans k5.bl
 have x5:=k5.box x3
 obtain ⟨a,cc,h0,hS⟩:=hL.us
 obtain ⟨b6,o6,cs6,rfl,_,hAt,ua,rfl,hU⟩:=hS.el n u hm.hu
 obtain ⟨b7,o7,cs7,e7,_,hAt7,a1,c1,a2,c2,a3,c3,rfl,hF1,hF2,hF⟩:=hU.mth.el k m hm.hm
 have hn:n<us.length:=(List.getElem?_eq_some_iff.1 hm.hu).1
 have hk:k<u.methods.length:=(List.getElem?_eq_some_iff.1 hm.hm).1
 refine ld (B5.cl h0) ?_
 refine ld (x5.cell rfl) ?_
 refine ix ?_
 refine ld ((hAt.bl B5) 4 _ rfl) ?_
 refine ld (x5.cell rfl) ?_
 rw [e7]
 refine ix ?_
 refine ld ((hAt7.bl B5) 6 _ rfl) ?_
 refine lpk m.code.length 42 [7] [(0,.pointer (some ⟨b,0,none⟩)),(5,.pointer (some ⟨b1,0,none⟩)),(40,.slice a3 m.code.length c3),(41,I m.code.length)]
  (fun j vals w'=>∃ a9 c9,vals=[.slice a9 ((m.code.take j).flatMap (calI D u)).length c9]/\OwP 1 encStr w' w.heap.size 9 a9 c9 ((m.code.take j).flatMap (calI D u))/\Bl w w'/\Box w' b1 151 [I n,I k]) ⟨none,0,rfl,Ow.nil ..,B5,x5⟩ ?_
 rintro j vals w6 hj ⟨a9,c9,rfl,hO6,B6,x6⟩ ih
 by_cases hlt:j<m.code.length
 ·refine brT ?_
  obtain ⟨i,bf,off,csf,hi,rfl,_,hAtf,rfl⟩:=at_some (hF.bl B6) hlt
  have him:=List.mem_of_getElem? hi
  have hIx:=hI u hum
  have hBj:=flatMap_take_le (f:=calI D u) (B:=1000) (l:=m.code) (fun x _=>calI_len hN) (Nat.le_of_lt hlt)
  have e1:(m.code.take (j+1)).flatMap (calI D u)=(m.code.take j).flatMap (calI D u)++calI D u i:=flatMap_snoc hi
  refine ix ?_
  refine lda hAtf ?_
  refine al fun b8 w8 k8 => ?_
  refine sta k8.box fun w9 k9 x9 => ?_
  have B69:=k8.wr k9
  have x69:=Bl.box B69 x6
  have B9:=B6.trans B69
  have O9:=hO6.bl B69
  refine ld (x9.cell rfl) ?_
  by_cases e25:i.op=25
  ·have eI:calI D u i=[nm u i.a]:=by unfold calI;rw [if_pos e25]
   refine brT ?_ (hp:=e25)
   refine ld (x69.cell rfl) ?_
   refine ld (x9.cell rfl) ?_
   refine cl (k_path (hL.bl B9) hm.hu (hIx.opa m hmm i him (by omega))) ?_
   rintro _ _ ⟨rfl,rfl⟩
   refine bs fun b10 w10 k10 => ?_
   have B10:=B9.trans k10.bl
   have O10:=O9.bl k10.bl
   refine apl (l1:=[nm u i.a]) O10 (.inr ⟨b10,0,rfl,k10.box.at⟩) B10.size (fun a11 c11 w11 hO11 hA11 _ => ?_) (hb:=by simp only [List.length_cons,List.length_nil];omega) (hn:=by simp only [List.length_cons,List.length_nil];omega)
   rw [<-eI,<-e1] at hO11 ⊢
   have x10:=Bl.box k10.bl x69
   exact ih hlt ⟨a11,c11,rfl,hO11,Eng.Ow.below O10 hA11 B10 B10.size,hA11.box x10 (O10.nbox x10 (by decide))⟩
  refine brF ?_ (hp:=e25)
  by_cases e26:i.op=26
  ·have eI:calI D u i=(getM D.named (nm u i.a)).getD []:=by unfold calI;rw [if_neg e25,if_pos e26]
   refine brT ?_ (hp:=e26)
   obtain ⟨m5,M,h5,hm5,hNm,hR⟩:=hL.na
   refine dt 2 fun w10 k10 => ?_
   have B10:=B9.trans k10.bl
   have O10:=O9.bl k10.bl
   have x610:=k10.box x69
   refine ld (B10.cl h5) ?_
   refine ld (x610.cell rfl) ?_
   refine ld ((k10.box x9).cell rfl) ?_
   refine clq (k_path (hL.bl B10) hm.hu (hIx.opa m hmm i him (by omega))) ?_
   refine lk tN (hm5.bl B10) ?_
   rw [getD_enc]
   have hrow:=rows_at hR (nm u i.a)
   have hnm:=named_at hNm (nm u i.a)
   have hlen:=calI_len (u:=u) (i:=i) hN
   rw [eI,<-hnm] at hlen
   refine apl O10 (src_of (hrow.bl B10)) B10.size (fun a11 c11 w11 hO11 hA11 _ => ?_)
   rw [hnm,<-eI,<-e1] at hO11 ⊢
   exact ih hlt ⟨a11,c11,rfl,hO11,Eng.Ow.below O10 hA11 B10 B10.size,hA11.box x610 (O10.nbox x610 (by decide))⟩
  refine brF ?_ (hp:=e26)
  have eI:calI D u i=[]:=by unfold calI;rw [if_neg e25,if_neg e26]
  rw [eI,List.append_nil] at e1
  exact ih hlt ⟨a9,c9,by rw [e1],by rw [e1];exact O9,B9,x69⟩
 ·refine brF ?_
  obtain rfl:j=m.code.length:=by omega
  rw [List.take_length,<-hcal] at hO6 ⊢
  exact rt1 ⟨a9,c9,rfl,hO6,by rw [hcal];omega,B6⟩
end Go.Proofs.YtkmdfjpafkcleaaGreatDoor
namespace Go.Proofs.YtkmdfjpafkcleaaGreatDoor
open Eng Go.RowKit
theorem slNone {α:Type} {E:El α} {S:Nat->Prop} {w:World} {a:Option Addr} {l:List α} (h:Sl E S w a l) (ha:a.isNone=true):l=[]:=by
 cases l with
 | nil=>rfl
 | cons x l =>
  obtain ⟨b,o,cs,e,_⟩:=h.el 0 x rfl
  rw [e] at ha;cases ha
theorem blAp {w w' w'':World} {a:Option Addr} (h:Bl w w') (k:Ap w' a w'') (ha:∀ g,a=some ⟨g,0,none⟩->w.heap.size<=g):Bl w w'':=Below.trans h (k.below h.size ha)
theorem k_CloneTy (l:List Ty) (a:Option Addr) (cap:Nat) (S:Nat->Prop) (w:World) (hS:Sl eTy S w a l) :
  Ret Tryz.prog 216 #[.slice a l.length cap] w fun v w'=>∃ a' cap',v = .slice a' l.length cap'/\OwP 2 encTy w' w.heap.size 77 a' cap' l/\Bl w w':=by
 have hbig:=hS.big
 refine entr (vs:=[.slice a l.length cap]) [0,2,4] tabok Tryz.func216 (by kernel_rfl) ?_
 refine sln ?_
 refine br (t:=a.isNone) (fun h => ?_) (fun h => ?_)
 ·have hl:=slNone hS h
  subst hl
  exact rt1 ⟨none,0,rfl,Ow.nil ..,Bl.refl _⟩
 refine bs (cs:=[]) fun b1 w1 h1 => ?_
 refine apl (enc:=encTy) (base:=w.heap.size) (l0:=[]) (l1:=l) (Ow.base (Ow.made (n:=0) h1 rfl (by omega)) (by rw [h1.blk];exact Nat.le_refl _)) (src_of (hS.bl h1.bl)) (by rw [h1.size];omega) (fun a' cap' w2 hO hA hf => ?_)
 exact rt1 ⟨a',cap',rfl,hO,blAp h1.bl hA fun g hg=>by
  simp only [Option.some.injEq,Addr.mk.injEq,and_true] at hg
  rw [<-hg,h1.blk];exact Nat.le_refl _⟩
theorem k_types {w:World} (m:Mth) (a1:Option Addr) (c1:Nat) (a2:Option Addr) (c2:Nat) (a3:Option Addr) (c3:Nat) (h1:Sl eTy T w a1 m.params) (h2:Sl eTy T w a2 m.locals) (hp:m.params.length<=100) (hl:m.locals.length<=100) :
  Ret Tryz.prog 156 #[.agg (mcells m a1 c1 a2 c2 a3 c3).toArray] w fun v w'=>∃ a c,v = .slice a (m.params++m.locals++[m.result]).length c/\OwP 2 encTy w' w.heap.size 77 a c (m.params++m.locals++[m.result])/\Bl w w':=by
 refine entr (vs:=[.agg (mcells m a1 c1 a2 c2 a3 c3).toArray]) [0,1,2] tabok Tryz.func156 (by kernel_rfl) ?_
 refine bx (cs:=mcells m a1 c1 a2 c2 a3 c3) fun b1 w1 k1 => ?_
 have z1:=k1.size
 have y1:=k1.blk
 refine dhb (· < w1.heap.size) (.row [0,1,3,4,6,7] (.two 2 (.two 5 (.row [8,9,10] .done) 8 (.row [5,9,10] .done)) 8 (.row [2,5,9,10] .done))) fun w2 k2 => ?_
 have B2:=k1.bl.trans k2.bl
 have x2:=k2.box k1.box
 have z2:w2.heap.size=w1.heap.size:=by rw [k2.heap]
 have hb1:b1<w1.heap.size:=by omega
 refine ld (x2.cell rfl) ?_ (hm:=hb1)
 refine ld (x2.cell rfl) ?_ (hm:=hb1)
 refine lda (x2.at.sub 4 2) ?_ (hm:=hb1)
 refine bt ?_ ?_
 ·refine cl (k_CloneTy m.params a1 c1 T w2 (h1.bl B2)) ?_ (hm:=fun _ _ r=>by obtain ⟨_,_,_,_,hB⟩:=r;exact mdW_bl hB)
  rintro _ w3 ⟨a5,c5,rfl,O3,B23⟩
  have B3:=B2.trans B23
  refine bt ?_ ?_
  ·refine apl O3 (src_of (h2.bl B3)) B23.size (fun a6 c6 w4 O4 A4 f4 => ?_) (hm:=apB fun g hg=>by have:=(O3.lt hg).1;omega)
   have B4:Bl w w4:=Below.trans B3 (A4.below B3.size fun g hg=>by have:=(O3.lt hg).1;omega)
   refine bs fun b5 w5 k5 => ?_
   have O5:=O4.bl k5.bl
   refine apl (l1:=[m.result]) O5 (.inr ⟨b5,0,rfl,k5.box.at⟩) (by have:=A4.size;have:=k5.size;have:=B23.size;omega) (fun a7 c7 w6 O6 A6 f6 => ?_) (hm:=apB fun g hg=>by have:=(O5.lt hg).1;omega)
   exact rt1 ⟨a7,c7,rfl,O6.base B2.size,Below.trans (B4.trans k5.bl) (A6.below (B4.trans k5.bl).size fun g hg=>by have:=(O5.lt hg).1;omega)⟩
  ·refine bs fun b5 w5 k5 => ?_
   have O5:=O3.bl k5.bl
   have B5:=B3.trans k5.bl
   refine apl O5 (src_of (h2.bl B5)) (by have:=k5.size;have:=B23.size;omega) (fun a6 c6 w6 O6 A6 f6 => ?_) (hm:=apB fun g hg=>by have:=(O5.lt hg).1;omega)
   have B6:Bl w w6:=Below.trans B5 (A6.below B5.size fun g hg=>by have:=(O5.lt hg).1;omega)
   have x5:=A6.box k5.box fun e=>by have:=(O3.lt e).2;have:=k5.blk;omega
   refine apl (l1:=[m.result]) O6 (.inr ⟨b5,0,rfl,x5.at⟩) (by have:=A6.size;have:=k5.size;have:=B23.size;omega) (fun a7 c7 w7 O7 A7 f7 => ?_) (hm:=apB fun g hg=>by have:=(O6.lt hg).1;omega)
   exact rt1 ⟨a7,c7,rfl,O7.base B2.size,Below.trans B6 (A7.below B6.size fun g hg=>by have:=(O6.lt hg).1;omega)⟩
 ·refine bs fun b5 w3 k5 => ?_
  have B3:=B2.trans k5.bl
  refine cl (k_CloneTy m.params a1 c1 T w3 (h1.bl B3)) ?_ (hm:=fun _ _ r=>by obtain ⟨_,_,_,_,hB⟩:=r;exact mdW_bl hB)
  rintro _ w4 ⟨a5,c5,rfl,O4,B34⟩
  have B4:=B3.trans B34
  have x4:=Bl.box B34 k5.box
  have y5:=k5.blk
  have z5:=k5.size
  refine apl O4 (src_of (h2.bl B4)) B34.size (fun a6 c6 w6 O6 A6 f6 => ?_) (hm:=apB fun g hg=>by have:=(O4.lt hg).1;omega)
  have B6:Bl w w6:=Below.trans B4 (A6.below B4.size fun g hg=>by have:=(O4.lt hg).1;omega)
  have x6:=A6.box x4 fun e=>by have:=(O4.lt e).1;omega
  refine apl (l1:=[m.result]) O6 (.inr ⟨b5,0,rfl,x6.at⟩) (by have:=A6.size;have:=B34.size;omega) (fun a7 c7 w7 O7 A7 f7 => ?_) (hm:=apB fun g hg=>by have:=(O6.lt hg).1;omega)
  exact rt1 ⟨a7,c7,rfl,O7.base B3.size,Below.trans B6 (A7.below B6.size fun g hg=>by have:=(O6.lt hg).1;have:=B3.size;omega)⟩
end Go.Proofs.YtkmdfjpafkcleaaGreatDoor
namespace Go.Proofs.YtkmdfjpafkcleaaGreatDoor
open Eng Go.RowKit
variable {w:World} {b:Nat} {us:List Unt} {D:Dcl}
theorem nm_mem {u:Unt} {i:Int} (h:inP u i):nm u i∈u.pool:=by
 obtain ⟨k,rfl,hk⟩:=inP_at h
 exact List.mem_of_getElem? hk
theorem Lnk.sz (hL:Lnk w b us D) {n:Nat} {u:Unt} (hu:us[n]? = some u):u.name.size<=1048576/\∀ i,inP u i->(nm u i).size<=1048576:=by
 obtain ⟨a,c,_,hS⟩:=hL.us
 obtain ⟨b1,o1,cs1,_,_,_,ua,rfl,hU⟩:=hS.el n u hu
 exact ⟨hU.nm,fun i hi=>hU.ps _ (nm_mem hi)⟩
theorem dig_size (k:Int):(dig k).size=1:=rfl
theorem dig_enc {k:Int} (h0:0<=k) (h1:k<=4):Utf8.encode (IntKind.i32.wrap (IntKind.i64.wrap (48+k)))=dig k:=by
 have e1:IntKind.i64.wrap (48+k)=48+k:=wrap_fit (by omega) (by omega)
 have e2:IntKind.i32.wrap (48+k)=48+k:=by
  have:k=0∨k=1∨k=2∨k=3∨k=4:=by omega
  rcases this with rfl | rfl | rfl | rfl | rfl <;> rfl
 rw [e1,e2,utf8_one (by omega) (by omega)];rfl
def kindOk (t:Ty):Prop:=0<=t.kind/\t.kind<=4
theorem shown_size {u:Unt} {t:Ty} (hs:∀ i,inP u i->(nm u i).size<=1048576) (ht:optP u t.cls):(shownL u t).size<=1048577:=by
 unfold shownL
 split
 ·have:=hs t.cls (ht.inP (by omega))
  rw [ByteArray.size_append,dig_size];omega
 ·rw [dig_size];omega
theorem k_shown (hL:Lnk w b us D) {n:Nat} {u:Unt} (hu:us[n]? = some u) {t:Ty} (ht:optP u t.cls) (hk:kindOk t) :
  Ret Tryz.prog 219 #[.pointer (some ⟨b,0,none⟩),I n,.agg (encTy t).toArray] w fun v w'=>v = .string (shownL u t)/\Bl w w':=by
 refine entr (vs:=[.pointer (some ⟨b,0,none⟩),I n,.agg (encTy t).toArray]) [0,1,2,5,6,7,15] tabok Tryz.func219 (by kernel_rfl) ?_
 refine bx (cs:=encTy t) fun b1 w1 k1 => ?_
 refine ld (k1.box.cell rfl) ?_
 refine cv Tryz.underlying3 Tryz.underlying21 ?_
 refine cvs Tryz.underlying21 Tryz.underlying9 ?_
 rw [dig_enc hk.1 hk.2]
 refine ld (k1.box.cell rfl) ?_
 by_cases h0:0<=t.cls
 ·have hi:=ht.inP (by omega)
  refine brT ?_ (hp:=h0)
  refine ld (k1.box.cell rfl) ?_
  refine cl (k_path (hL.bl k1.bl) hu hi) ?_
  rintro _ _ ⟨rfl,rfl⟩
  have:=(hL.sz hu).2 _ hi
  refine cat ?_ (hab:=by rw [dig_size];omega)
  exact rt1 ⟨by unfold shownL;rw [if_pos h0],k1.bl⟩
 ·refine brF ?_ (hp:=h0)
  exact rt1 ⟨by unfold shownL;rw [if_neg h0],k1.bl⟩
def sigK (u:Unt) (m:Mth) (j:Nat):ByteArray:=(m.params.take j).foldl (fun s t=>s++(⟨#[44]⟩++shownL u t)) (shownL u m.result)
theorem sigK_succ {u:Unt} {m:Mth} {j:Nat} {t:Ty} (h:m.params[j]? = some t):sigK u m (j+1)=sigK u m j++(⟨#[44]⟩++shownL u t):=by
 unfold sigK
 rw [take_succ_some h,List.foldl_append];rfl
theorem k_signature (hL:Lnk w b us D) {n k:Nat} {u:Unt} {m:Mth} (hu:us[n]? = some u) (hmk:u.methods[k]? = some m) (ht:∀ t∈m.params++m.locals++[m.result],optP u t.cls/\kindOk t) (hp:m.params.length<=100) :
  Ret Tryz.prog 163 #[.pointer (some ⟨b,0,none⟩),encD (n,k)] w fun v w'=>v = .string (sigL u m)/\Bl w w':=by
 have hsz:=(hL.sz hu).2
 refine entr (vs:=[.pointer (some ⟨b,0,none⟩),.agg #[I n,I k]]) [0,1,3,4,5,6,8,29,30,31,32] tabok Tryz.func163 (by kernel_rfl) ?_
 refine bx (cs:=[I n,I k]) fun b1 w1 k1 => ?_
 obtain ⟨a,cc,h0,hS⟩:=hL.us
 obtain ⟨b6,o6,cs6,rfl,_,hAt,ua,rfl,hU⟩:=hS.el n u hu
 obtain ⟨b7,o7,cs7,e7,_,hAt7,a1,c1,a2,c2,a3,c3,rfl,hF1,hF2,hF⟩:=hU.mth.el k m hmk
 have hn:n<us.length:=(List.getElem?_eq_some_iff.1 hu).1
 have hk:k<u.methods.length:=(List.getElem?_eq_some_iff.1 hmk).1
 refine dh (· < w1.heap.size) (List.range 15) fun w2 k2 => ?_
 have B2:=k1.bl.trans k2.bl
 have x2:=k2.box k1.box
 have z2:w2.heap.size=w1.heap.size:=by rw [k2.heap]
 have lt1:∀ {b o:Nat} {v:Value},w.cell? ⟨b,o,none⟩=some v->b<w1.heap.size:=fun h=>Nat.lt_of_lt_of_le (cell_lt h) k1.bl.size
 refine ld (B2.cl h0) ?_ (hm:=lt1 h0)
 refine ld (x2.cell rfl) ?_ (hm:=k1.box.lt)
 refine ix ?_
 refine ld ((hAt.bl B2) 4 _ rfl) ?_ (hm:=lt1 (hAt 4 _ rfl))
 refine ld (x2.cell rfl) ?_ (hm:=k1.box.lt)
 rw [e7]
 refine ix ?_
 refine lda (hAt7.bl B2) ?_ (hm:=lt1 (hAt7 0 _ rfl))
 refine al fun b3 w3 k3 => ?_
 refine sta (cs':=mcells m a1 c1 a2 c2 a3 c3) k3.box (fun w4 k4 x4 => ?_) (hm:=wrS (by have:=k3.blk;omega))
 have B24:=k3.wr k4
 have B4:=B2.trans B24
 have x14:=Bl.box B24 x2
 refine ld (x14.cell rfl) ?_
 refine lda (x4.at.sub 4 2) ?_
 have hr:=ht m.result (by simp)
 refine cl (k_shown (hL.bl B4) hu hr.1 hr.2) ?_
 rintro _ w5 ⟨rfl,B45⟩
 have B5:=B4.trans B45
 have x15:=Bl.box B45 x14
 have x5:=Bl.box B45 x4
 refine ld (x5.cell rfl) ?_
 refine lpk (vals:=[.string (shownL u m.result)]) m.params.length 31 [6] [(0,.pointer (some ⟨b,0,none⟩)),(3,.pointer (some ⟨b1,0,none⟩)),(5,.pointer (some ⟨b3,0,none⟩)),(29,.slice a1 m.params.length c1),(30,I m.params.length)]
  (fun j vals w'=>vals=[.string (sigK u m j)]/\(sigK u m j).size<=1048577+j*1048578/\Bl w5 w') ⟨rfl,by have:=shown_size hsz hr.1;show (shownL u m.result).size<=_;omega,Bl.refl _⟩ ?_
 rintro j vals w6 hj ⟨rfl,hs6,B56⟩ ih
 have B6:=B5.trans B56
 by_cases hlt:j<m.params.length
 ·refine brT ?_
  obtain ⟨t,bf,off,csf,hi,rfl,_,hAtf,rfl⟩:=at_some (hF1.bl B6) hlt
  have htt:=ht t (by simp [List.mem_of_getElem? hi])
  refine ix ?_
  refine lda hAtf ?_
  refine al fun b8 w8 k8 => ?_
  refine sta k8.box fun w9 k9 x9 => ?_
  have B69:=k8.wr k9
  have B9:=B6.trans B69
  refine ld ((Bl.box (B56.trans B69) x15).cell rfl) ?_
  refine lda x9.at ?_
  refine cl (k_shown (hL.bl B9) hu htt.1 htt.2) ?_
  rintro _ w10 ⟨rfl,B910⟩
  have hss:=shown_size hsz htt.1
  refine cat ?_ (hab:=by show 1+_<=_;omega)
  have hs2:(⟨#[44]⟩++shownL u t:ByteArray).size=1+(shownL u t).size:=by rw [ByteArray.size_append];rfl
  refine cat ?_ (hab:=by rw [hs2];omega)
  exact ih hlt ⟨by rw [sigK_succ hi],by rw [sigK_succ hi,ByteArray.size_append,hs2];omega,(B56.trans B69).trans B910⟩
 ·refine brF ?_
  obtain rfl:j=m.params.length:=by omega
  refine rt1 ⟨?_,B6⟩
  unfold sigK sigL
  rw [List.take_length]
end Go.Proofs.YtkmdfjpafkcleaaGreatDoor
namespace Go.Proofs.YtkmdfjpafkcleaaGreatDoor
open Eng Go.RowKit
variable {w:World} {b:Nat} {us:List Unt} {D:Dcl}
def TyOk (u:Unt):Prop:=∀ m∈u.methods,m.params.length<=100/\∀ t∈m.params++m.locals++[m.result],optP u t.cls/\kindOk t
def badP (us:List Unt) (D:Dcl) (l:List ByteArray) (p:ByteArray):Bool := !decide (sigD us D p=sigD us D (l.getD 0 nost))
theorem sig_of {p:ByteArray} {n k:Nat} {u:Unt} {m:Mth} (h:MthI us (getM D.sends p) n k u m):sigD us D p=sigL u m:=by
 unfold sigD;rw [h.of]
theorem nodup_inj {α β:Type} {f:α->β}:∀ {l:List α},(l.map f).Nodup->∀ {a b:α},a∈l->b∈l->f a=f b->a=b
 | [],_,_,_,ha,_,_=>by cases ha
 | x::l,h,a,b,ha,hb,e=>by
  rw [List.map_cons,List.nodup_cons] at h
  rcases List.mem_cons.1 ha with ea | ha'
  ·rcases List.mem_cons.1 hb with eb | hb'
   ·rw [ea,eb]
   ·rw [ea] at e;exact absurd (List.mem_map.2 ⟨b,hb',e.symm⟩) h.1
  ·rcases List.mem_cons.1 hb with eb | hb'
   ·rw [eb] at e;exact absurd (List.mem_map.2 ⟨a,ha',e⟩) h.1
   ·exact nodup_inj h.2 ha' hb' e
theorem mem_one {α:Type} {M:Mp α} (h:(keysM M).Nodup) {k:ByteArray} {r r':α} (h1:(k,r)∈M) (h2:(k,r')∈M):r=r':=congrArg Prod.snd (nodup_inj h h1 h2 rfl)
set_option maxHeartbeats 1000000 in
theorem k_unlike (hL:Lnk w b us D) (hT:∀ u∈us,TyOk u) (hS:∀ q∈D.named,∀ p∈q.2,∃ n k u m,MthI us (getM D.sends p) n k u m) :
  Ret Tryz.prog 98 #[.pointer (some ⟨b,0,none⟩)] w fun v w'=>v = .bool (unlikeL us D)/\Bl w w':=by
 obtain ⟨mb,M,h5,hm5,hNm,hR⟩:=hL.na
 obtain ⟨es,clock,hes,hkv,hst⟩:=hm5.is
 have hent:∀ e∈es.toList,∃ k r,(k,r)∈M/\e.key = .string k/\e.val=encR r:=fun e he=>by
  have:kv e∈M.map (kvm encR):=hkv▸List.mem_map.2 ⟨e,he,rfl⟩
  obtain ⟨p,hp,h2⟩:=List.mem_map.1 this
  exact ⟨p.1,p.2,hp,(congrArg Prod.fst h2).symm,(congrArg Prod.snd h2).symm⟩
 have hback:∀ q∈D.named,∃ e∈es.toList,∃ k r,(k,r)∈M/\e.key = .string k/\r.l=q.2:=fun q hq=>by
  rw [<-hNm] at hq
  obtain ⟨p,hp,rfl⟩:=List.mem_map.1 hq
  have:kvm encR p∈es.toList.map kv:=hkv▸List.mem_map.2 ⟨p,hp,rfl⟩
  obtain ⟨e,he,h2⟩:=List.mem_map.1 this
  exact ⟨e,he,p.1,p.2,hp,congrArg Prod.fst h2,rfl⟩
 have hin:∀ {k r},(k,r)∈M->(k,r.l)∈D.named:=fun h=>by rw [<-hNm];exact List.mem_map.2 ⟨_,h,rfl⟩
 refine entr (vs:=[.pointer (some ⟨b,0,none⟩)]) [0,2,4,6,11,13,16,17,18,19,40] tabok Tryz.func98 (by kernel_rfl) ?_
 refine ld h5 ?_
 refine rg tN hes (fun it w1 hit B1 i1 => ?_)
 refine lp [] [(0,.pointer (some ⟨b,0,none⟩)),(11,.pointer (some ⟨it,0,none⟩))]
  (fun q vals w'=>∃ seen,q=(leftOf es seen).size/\vals=[]/\Bl w w'/\w'.heap[it]? = some (.mapIter (some mb) clock seen clock)/\∀ e∈es.toList,seen.contains e.born=true->∀ k r,(k,r)∈M->e.key = .string k->r.l.any (badP us D r.l)=false)
  ⟨rfl,rfl,trivial⟩ ⟨#[],rfl,rfl,B1,i1,fun e _ h=>by simp at h⟩ ?_
 rintro q vals w2 ⟨seen,rfl,rfl,B2,i2,hgood⟩ ih
 have hes2:w2.heap[mb]? = some (.map es clock):=(B2.block mb hm5.lt).trans hes
 refine nx hes2 i2 hst (fun h0 => ?_) (fun e w3 he hw3 i3 => ?_)
 ·refine brf ?_
  refine rt1 ⟨vb ?_,B2⟩
  symm
  unfold unlikeL
  rw [<-Bool.not_eq_true,List.any_eq_true]
  rintro ⟨q,hq,hb⟩
  obtain ⟨e,he,k,r,hkr,hek,hrl⟩:=hback q hq
  have hs:seen.contains e.born=true:=by
   have:(leftOf es seen)=#[]:=Array.eq_empty_of_size_eq_zero h0
   unfold leftOf at this
   rw [Array.filter_eq_empty_iff] at this
   have:=this e (Array.mem_toList_iff.1 he)
   simpa using this
  have:=hgood e he hs k r hkr hek
  rw [hrl] at this
  unfold badP at this
  rw [this] at hb;cases hb
 ·have heM:e∈es.toList:=by unfold leftOf at he;simp at he ⊢;exact he.1
  obtain ⟨key,r,hkr,hkey,hval⟩:=hent e heM
  have hlt:=left_lt he
  have B3:Bl w w3:=Below.trans B2 (hw3.below (Nat.le_of_eq hit.symm))
  have hes3:w3.heap[mb]? = some (.map es clock):=(B3.block mb hm5.lt).trans hes
  refine brt ?_
  refine ety hes3 i3 hst heM ?_
  rw [hval]
  have hrow:Sl eStr (· ≠ b) w r.a r.l:=hR (key,r) hkr
  have hbig:=hrow.big
  have hnam:=hin hkr
  refine lpk (vals:=[]) r.l.length 18 [] [(0,.pointer (some ⟨b,0,none⟩)),(11,.pointer (some ⟨it,0,none⟩)),(4,.slice r.a r.l.length r.c),(16,.slice r.a r.l.length r.c),(17,I r.l.length)]
   (fun j vals w'=>vals=[]/\Bl w3 w'/\(r.l.take j).any (badP us D r.l)=false) ⟨rfl,Bl.refl _,rfl⟩ ?_
  rintro j vals w4 hj ⟨rfl,B34,hany⟩ ih2
  have B4:=B3.trans B34
  by_cases hjl:j<r.l.length
  ·refine brT ?_
   have L4:=hL.bl B4
   obtain ⟨p,b5,o5,cs5,hp,ha5,_,hAt5,rfl⟩:=at_some (hrow.bl B4) hjl
   obtain ⟨p0,b6,o6,cs6,hp0,ha6,_,hAt6,rfl⟩:=at_some (hrow.bl B4) (i:=0) (by omega)
   obtain ⟨n1,k1,u1,m1,hM1⟩:=hS _ hnam p (List.mem_of_getElem? hp)
   obtain ⟨n2,k2,u2,m2,hM2⟩:=hS _ hnam p0 (List.mem_of_getElem? hp0)
   have T1:=hT u1 (List.mem_of_getElem? hM1.hu) m1 (List.mem_of_getElem? hM1.hm)
   have T2:=hT u2 (List.mem_of_getElem? hM2.hu) m2 (List.mem_of_getElem? hM2.hm)
   have hd0:r.l.getD 0 nost=p0:=by rw [List.getD_eq_getElem?_getD,hp0];rfl
   have hbad:badP us D r.l p = !decide (sigL u1 m1=sigL u2 m2):=by unfold badP;rw [hd0,sig_of hM1,sig_of hM2]
   rw [ha5]
   refine ix ?_
   refine ld (hAt5 0 _ rfl) ?_
   refine dh T [0,1,2,3,4,5,6,8,9,10,11,12,13,14,15,16,7,17,18] fun w5 k5 => ?_
   have B45:Bl w4 w5:=k5.bl
   have B5:=B4.trans B45
   obtain ⟨m4,h4,hm4⟩:=(hL.bl B5).se
   refine ld h4 ?_ (hm:=trivial)
   refine lk tD hm4 ?_ (hm:=trivial)
   rw [hM1.g]
   refine ld h4 ?_ (hm:=trivial)
   rw [ha5] at ha6
   obtain ⟨rfl,rfl⟩:b5=b6/\o5=o6:=by simpa using ha6
   refine ix (j:=0) ?_
   refine ld ((hAt6.bl B45) 0 _ rfl) ?_ (hm:=trivial)
   refine lk tD hm4 ?_ (hm:=trivial)
   rw [hM2.g]
   refine cl (k_signature (hL.bl B5) hM1.hu hM1.hm T1.2 T1.1) ?_
   rintro _ w6 ⟨rfl,B56⟩
   have B6:=B5.trans B56
   refine cl (k_signature (hL.bl B6) hM2.hu hM2.hm T2.2 T2.1) ?_
   rintro _ w7 ⟨rfl,B67⟩
   have B7:=B6.trans B67
   by_cases hq:sigL u1 m1=sigL u2 m2
   ·refine brF ?_ (hp:=by exact fun h=>h hq)
    have:badP us D r.l p=false:=by rw [hbad,decide_eq_true hq];rfl
    exact ih2 hjl ⟨rfl,((B34.trans B45).trans B56).trans B67,any_snoc hp hany this⟩ (hsub:=by simp only [ha5];repeat (first | exact True.intro | (refine ⟨rfl,?_⟩)))
   ·refine brT ?_ (hp:=hq)
    refine rt1 ⟨vb ?_,B7⟩
    symm
    unfold unlikeL
    have h1:badP us D r.l p=true:=by rw [hbad,decide_eq_false hq];rfl
    exact List.any_eq_true.2 ⟨_,hnam,any_hit hp h1⟩
  ·refine brF ?_
   obtain rfl:j=r.l.length:=by omega
   have hany':=any_end hany
   refine again (ih _ _ _ _ hlt ⟨rfl,rfl,trivial⟩ rfl ⟨seen.push e.born,rfl,rfl,B4,(B34.block it (Array.getElem?_eq_some_iff.1 i3).1).trans i3,fun e' he' hs' k' r' hkr' hek' => ?_⟩)
   rw [Array.contains_push,Bool.or_eq_true] at hs'
   rcases hs' with hs' | hs'
   ·exact hgood e' he' hs' k' r' hkr' hek'
   ·have hb:e'.born=e.born:=by simpa using hs'
    obtain rfl:=nodup_inj hst.2.1 he' heM hb
    rw [hkey] at hek'
    obtain rfl:=Value.string.inj hek'
    rw [mem_one (keys_nodup hm5) hkr' hkr];exact hany'
end Go.Proofs.YtkmdfjpafkcleaaGreatDoor
namespace Go.Proofs.YtkmdfjpafkcleaaGreatDoor
open Eng Go.RowKit Go.Sort
theorem map_sEnc (l:List (List UInt8)):l.map sEnc=(l.map ofL).flatMap encStr:=by
 rw [List.flatMap_map]
 induction l with
 | nil=>rfl
 | cons x l ih=>rw [List.map_cons,List.flatMap_cons,ih];rfl
theorem sortL_len (l:List ByteArray):(sortL l).length=l.length:=by unfold sortL;rw [List.length_map,List.length_mergeSort,List.length_map]
theorem Eng.Ow.shrink {w:World} {base e esz n m cap:Nat} {a:Option Addr} {xs:List Value} (h:Ow w base e esz a n cap xs) (hm:m<=n):Ow w base e esz a m cap (xs.take (m*esz)):=by
 obtain ⟨h1,h2⟩:=h.own
 have hle:m*esz<=n*esz:=Nat.mul_le_mul_right _ hm
 refine ⟨by rw [List.length_take,h1];omega,?_⟩
 rcases h2 with ⟨h2,h3⟩ | ⟨g,cap',cur,h2,h3,h4,h5,h6,h7,h8⟩
 ·simp only [Value.slice.injEq] at h2
  obtain ⟨rfl,rfl,rfl⟩:=h2
  obtain rfl:m=0:=by omega
  exact .inl ⟨rfl,rfl⟩
 ·simp only [Value.slice.injEq] at h2
  obtain ⟨rfl,-,rfl⟩:=h2
  refine .inr ⟨g,cap,cur,rfl,h3,h4,by omega,h6,h7,?_⟩
  rw [<-h8,List.take_take,Nat.min_eq_left hle]
theorem k_values (a:Option Addr) (n cap:Nat) (w:World):Ret Tryz.prog 151 #[.slice a n cap] w fun v w'=>∃ b,v = .func (.func 214) #[] #[.pointer (some ⟨b,0,none⟩)]/\New w b 33 [.slice a n cap] w':=by
 refine entr (vs:=[.slice a n cap]) [0,1,2] tabok Tryz.func151 (by kernel_rfl) ?_
 refine bx (cs:=[.slice a n cap]) fun b w1 h1 => ?_
 exact rt1 ⟨b,rfl,h1⟩
theorem own_of_row {w w':World} {l:List (List UInt8)} {v:Value} {n:Nat} (hn:n=l.length) (hrow:w'.ownsRow w.heap.size 9 1 v n (l.map sEnc)):∃ a' cap',v = .slice a' (l.map ofL).length cap'/\OwP 1 encStr w' w.heap.size 9 a' cap' (l.map ofL):=by
 subst hn
 have hr:=hrow
 unfold OwP
 rw [List.length_map,<-map_sEnc]
 rcases hrow.2 with ⟨rfl,h0⟩ | ⟨g,cap',cur,rfl,_⟩
 ·exact ⟨none,0,by rw [h0],⟨by rw [h0] at hr ⊢;exact hr⟩⟩
 ·exact ⟨_,cap',rfl,⟨hr⟩⟩
theorem k_sortV (l:List ByteArray) (a:Option Addr) (cap:Nat) (S:Nat->Prop) (w0 w:World) (b:Nat) (hS:Sl eStr S w a l) (h1:New w0 b 33 [.slice a l.length cap] w) :
  Ret Tryz.prog 99 #[.func (.func 214) #[] #[.pointer (some ⟨b,0,none⟩)]] w fun v w'=>∃ a' cap',v = .slice a' (sortL l).length cap'/\OwP 1 encStr w' w.heap.size 9 a' cap' (sortL l)/\Bl w w':=by
 have hbig:=hS.big
 have hlt1:∀ (j:Nat) x,(l.map toL)[j]? = some x->∃ b off,a=some ⟨b,off,none⟩/\b<w.heap.size/\w.cell? ⟨b,off+j,none⟩=some (sEnc x):=fun j x hx=>by
  rw [List.getElem?_map] at hx
  cases hl:l[j]? with
  | none=>rw [hl] at hx;cases hx
  | some s =>
   rw [hl] at hx
   obtain rfl:=Option.some.inj hx
   obtain ⟨b',o',cs,e,_,hAt,rfl⟩:=hS.el j s hl
   have hc:=hAt 0 _ rfl
   have hc':w.cell? ⟨b',o'+j,none⟩=some (.string s):=by simpa [eStr,plainEl] using hc
   exact ⟨b',o',e,cell_lt hc',by rw [hc',sEnc_toL]⟩
 have hlen:(l.map toL).length=l.length:=List.length_map ..
 refine ⟨by kernel_rfl,(c_sorted (l.map toL) a cap b w (by rw [hlen];exact hbig) (by rw [hlen];exact h1.box.cell rfl) h1.box.lt hlt1).mono ?_⟩
 rintro e w2 ⟨v,rfl,hrow,hb⟩
 obtain ⟨a',cap',rfl,hO⟩:=own_of_row (by rw [List.length_mergeSort]) hrow
 exact ⟨a',cap',rfl,hO,hb⟩
theorem dup_sort (l:List ByteArray):dup l=decide ((Lib.compact ((l.map toL).mergeSort fun x y=>decide (x<=y))).length<l.length):=by
 have hsl:((l.map toL).mergeSort fun x y=>decide (x<=y)).length=l.length:=by rw [List.length_mergeSort,List.length_map]
 rw [Bool.eq_iff_iff,dup_nodup,decide_eq_true_eq,<-hsl,(compact_len (sorted_le _)).1,List.Perm.nodup_iff (List.mergeSort_perm _ _)]
theorem k_doubled (l:List ByteArray) (a:Option Addr) (cap:Nat) (S:Nat->Prop) (w:World) (hS:Sl eStr S w a l):Ret Tryz.prog 90 #[.slice a l.length cap] w fun v w'=>v = .bool (dup l)/\Bl w w':=by
 have hbig:=hS.big
 refine entr (vs:=[.slice a l.length cap]) [0,2,3] tabok Tryz.func90 (by kernel_rfl) ?_
 refine cl (k_values a l.length cap w) ?_
 rintro _ w1 ⟨b,rfl,h1⟩
 refine cl (k_sortV l a cap S w w1 b (hS.bl h1.bl) h1) ?_
 rintro _ w2 ⟨a',cap',rfl,hO,hB2⟩
 have hsl:=sortL_len l
 have hsm:((l.map toL).mergeSort fun x y=>decide (x<=y)).length=l.length:=by rw [List.length_mergeSort,List.length_map]
 refine cl (R:=fun v w'=>∃ cap2,v = .slice a' (Lib.compact ((l.map toL).mergeSort fun x y=>decide (x<=y))).length cap2/\Bl w w') ?_ ?_
 ·rcases hO.shape with ⟨rfl,h0,rfl,_⟩ | ⟨g,cur,rfl,hg,hgb,hn,hcs,htk⟩
  ·refine ⟨by kernel_rfl,?_⟩
   have he:((l.map toL).mergeSort fun x y=>decide (x<=y))=[]:=List.eq_nil_of_length_eq_zero (by rw [hsm];omega)
   rw [he,h0]
   refine (Tryz.slices_Compact_string_empty none 0 w2).mono ?_
   rintro e w3 ⟨rfl,rfl⟩
   exact ⟨0,rfl,h1.bl.trans hB2⟩
  ·refine ⟨by kernel_rfl,?_⟩
   have hH:Holds sEnc w2 g 0 ((l.map toL).mergeSort fun x y=>decide (x<=y)).toArray:=holds_of_block hgb (by rw [map_sEnc,hsm,<-hsl];show _=(sortL l).flatMap encStr;simpa using htk)
   have:=Tryz.slices_Compact_string g 0 cap' ((l.map toL).mergeSort fun x y=>decide (x<=y)) w2 hH (by rw [hsm];omega) (by rw [hsm,<-hsl];exact hn)
   rw [hsm] at this
   rw [hsl]
   refine this.mono ?_
   rintro e w3 ⟨rfl,q,hw3⟩
   refine ⟨cap',rfl,h1.bl.trans ?_⟩
   rw [<-Go.Sort.grow_empty (putRow _ _ _ _ _)] at hw3
   rw [hw3]
   exact grown_bl (grownBy_sorted _) hg hB2.size hB2
 rintro _ w3 ⟨cap2,rfl,hB3⟩
 refine rt1 ⟨vb ?_,hB3⟩
 rw [dup_sort,Bool.eq_iff_iff,decide_eq_true_eq,decide_eq_true_eq];omega
theorem k_Delete {w:World} {base cap:Nat} {a:Option Addr} {l:List ByteArray} (hO:OwP 1 encStr w base 9 a cap l) {k:Nat} (hk:k<l.length) :
  Ret Tryz.prog 161 #[.slice a l.length cap,I k,I ((k+1:Nat):Int)] w fun v w'=>v = .slice a (l.eraseIdx k).length cap/\OwP 1 encStr w' base 9 a cap (l.eraseIdx k)/\Ap w a w':=by
 refine ⟨by kernel_rfl,?_⟩
 rcases hO.shape with ⟨_,h0,_⟩ | ⟨g,cur,rfl,hg,hgb,hn,hcs,htk⟩
 ·omega
 obtain ⟨_,hown⟩:=hO.own
 rcases hown with ⟨h1,_⟩ | ⟨g',cap',cur',h1,_,hgb',hn',hmx,hcs',htk'⟩
 ·cases h1
 simp only [Value.slice.injEq,Option.some.injEq,Addr.mk.injEq,and_true,true_and] at h1
 obtain ⟨rfl,rfl⟩:=h1
 have hfm:(l.map toL).map sEnc=l.flatMap encStr:=by rw [map_sEnc,List.map_map,show ofL ∘ toL=id from funext ofL_toL,List.map_id]
 have hH:Holds sEnc w g 0 (l.map toL).toArray:=holds_of_block hgb (by rw [hfm,List.length_map];simpa using htk)
 have:=Tryz.slices_Delete_string g 0 cap k (k+1) (l.map toL) w hH (by rw [List.length_map];exact hn) (by unfold maxLen at hmx;omega) (by omega) (by rw [List.length_map];omega)
 rw [List.length_map] at this
 refine this.mono ?_
 rintro e w3 ⟨rfl,q,hw3⟩
 rw [<-Go.Sort.grow_empty (putRow _ _ _ _ _)] at hw3
 have hlen:l.length-(k+1-k)=(l.eraseIdx k).length:=by rw [List.length_eraseIdx_of_lt hk];omega
 have htl:(List.take k (l.map toL)++List.drop (k+1) (l.map toL)++List.replicate (k+1-k) []).length=l.length:=by
  simp only [List.length_append,List.length_take,List.length_drop,List.length_map,List.length_replicate];omega
 have hrow:=ownsRow_sorted (w:=w) (base:=base) (g:=g) (cap:=cap) (n:=q) (e:=9) (os:=#[]) (ss:=l.map toL) (ts:=List.take k (l.map toL)++List.drop (k+1) (l.map toL)++List.replicate (k+1-k) []) (by rw [htl,List.length_map]) hg hgb (by rw [List.length_map];exact hn) hmx (by simpa using hcs)
 rw [<-hw3,List.length_map] at hrow
 have hO3:Ow w3 base 9 1 (some ⟨g,0,none⟩) l.length cap _:=⟨hrow⟩
 have hO4:=hO3.shrink (m:=(l.eraseIdx k).length) (by rw [List.length_eraseIdx_of_lt hk];omega)
 refine ⟨by rw [hlen],?_,?_⟩
 ·have e:List.take ((l.eraseIdx k).length*1) ((List.take k (l.map toL)++List.drop (k+1) (l.map toL)++List.replicate (k+1-k) []).map Go.Proofs.encStr)=(l.eraseIdx k).flatMap encStr:=by
   have e1:List.take k (l.map toL)++List.drop (k+1) (l.map toL)=(l.eraseIdx k).map toL:=by rw [List.eraseIdx_eq_take_drop_succ,List.map_append,List.map_take,List.map_drop]
   have e2:((l.eraseIdx k).map toL).map sEnc=(l.eraseIdx k).flatMap encStr:=by rw [map_sEnc,List.map_map,show ofL ∘ toL=id from funext ofL_toL,List.map_id]
   rw [e1,List.map_append,<-e2,Nat.mul_one]
   exact List.take_left' (by simp)
  unfold OwP
  rw [e] at hO4;exact hO4
 ·have hgr:w.grownBy w3 (some g):=by rw [hw3];exact grownBy_sorted _
  exact ⟨hgr.os,hgr.tape,hgr.output,hgr.size,fun i hi hne=>hgr.block i hi fun e=>by
   simp only [Option.some.injEq] at e;exact hne (by rw [e])⟩
def idxI (o:Option Nat):Int:=match o with
 | some k=>k
 | none => -1
theorem find_snoc {p:ByteArray->Bool} {l:List ByteArray} {k:Nat} {x:ByteArray} (hx:l[k]? = some x) (h:(l.take k).any p=false) (h2:p x=true):l.findIdx? p=some k:=by
 have hk:k<l.length:=(List.getElem?_eq_some_iff.1 hx).1
 rw [List.findIdx?_eq_some_iff_getElem]
 refine ⟨hk,?_,fun j hj => ?_⟩
 ·have:=List.getElem?_eq_some_iff.1 hx;obtain ⟨_,e⟩:=this;rw [e];exact h2
 ·have:l[j]'(by omega)∈l.take k:=List.mem_take_iff_getElem.2 ⟨j,by omega,rfl⟩
  have h3:=List.any_eq_false.1 h _ this
  simpa using h3
theorem find_none {p:ByteArray->Bool} {l:List ByteArray} (h:l.any p=false):l.findIdx? p=none:=by
 rw [List.findIdx?_eq_none_iff]
 intro x hx
 have:=List.any_eq_false.1 h x hx
 simpa using this
theorem k_IndexFunc (l:List ByteArray) (a:Option Addr) (cap:Nat) (g:FuncId) (caps:List Value) (p:ByteArray->Bool) (S:Nat->Prop) (w:World) (hS:Sl eStr S w a l)
  (hp:∀ x,x∈l->∀ w',Bl w w'->Ret Tryz.prog g ([Value.string x]++caps).toArray w' fun v w''=>v = .bool (p x)/\Bl w' w'') :
  Ret Tryz.prog 158 #[.slice a l.length cap,.func (.func g) #[] caps.toArray] w fun v w'=>v=I (idxI (l.findIdx? p))/\Bl w w':=by
 refine entr (vs:=[.slice a l.length cap,.func (.func g) #[] caps.toArray]) [0,1,4,5,7,8,9,16] tabok Tryz.func158 (by kernel_rfl) ?_
 have hbig:=hS.big
 refine lp [8] [(0,.slice a l.length cap),(1,.func (.func g) #[] caps.toArray),(7,I l.length)] (fun m vals w'=>∃ k:Nat,m=l.length-k/\k<=l.length/\vals=[I k]/\(l.take k).any p=false/\Bl w w') ⟨rfl,rfl,rfl,trivial⟩ ⟨0,rfl,Nat.zero_le _,rfl,rfl,Bl.refl _⟩ ?_
 rintro m vals w1 ⟨k,rfl,hk,rfl,ha,hB⟩ ih
 by_cases hlt:k<l.length
 ·refine brT ?_
  obtain ⟨x,b,o,cs,hx,rfl,hSb,hAt,rfl⟩:=at_some (hS.bl hB) hlt
  refine ix ?_
  refine ld (hAt 0 _ rfl) ?_
  refine cl (hp x (List.mem_of_getElem? hx) _ hB) ?_
  rintro _ w2 ⟨rfl,hB2⟩
  refine br (fun h => ?_) (fun h => ?_)
  ·exact rt1 ⟨by rw [find_snoc hx ha h],hB.trans hB2⟩
  ·refine again (ih _ _ _ _ (by omega) ⟨rfl,rfl,rfl,trivial⟩ rfl ⟨k+1,rfl,by omega,lst1 (inc hlt),any_snoc hx ha h,hB.trans hB2⟩)
 ·refine brF ?_
  obtain rfl:k=l.length:=by omega
  exact rt1 ⟨by rw [find_none (any_end ha)],hB⟩
end Go.Proofs.YtkmdfjpafkcleaaGreatDoor
namespace Go.Proofs.YtkmdfjpafkcleaaGreatDoor
open Eng Go.RowKit
structure NeedF (S:List ByteArray) (g:FuncId) (first caps:List Value) (needs:ByteArray->List ByteArray) (w:World):Prop where
 run:∀ x∈S,∀ w',Bl w w'->Ret Tryz.prog g (first++([Value.string x]++caps)).toArray w' fun v w''=>∃ a c,v = .slice a (needs x).length c/\Sl eStr T w'' a (needs x)/\Bl w' w''
theorem k_placed {w:World} {b mb:Nat} {P:Mp Bool} (hb:w.cell? ⟨b,0,none⟩=some (.map (some mb))) (hM:MapIs Value.bool w mb P) (x:ByteArray) :
  Ret Tryz.prog 160 #[.string x,.pointer (some ⟨b,0,none⟩)] w fun v w'=>v = .bool (!((getM P x).getD false))/\w'=w:=by
 refine entr (vs:=[.string x,.pointer (some ⟨b,0,none⟩)]) [0,1,3] tabok Tryz.func160 (by kernel_rfl) ?_
 refine ld hb ?_
 refine lk tB hM ?_
 rw [show ((getM P x).map Value.bool).getD (.bool false) = .bool ((getM P x).getD false) from getD_enc Value.bool _ false]
 exact rt1 ⟨rfl,rfl⟩
theorem k_ready {w:World} {S:List ByteArray} {g:FuncId} {first caps:List Value} {needs:ByteArray->List ByteArray} (hN:NeedF S g first caps needs w) {b3 b mb:Nat} {P:Mp Bool} (h3:w.cell? ⟨b3,0,none⟩=some (.func (.func g) first.toArray caps.toArray))
  (hb:w.cell? ⟨b,0,none⟩=some (.map (some mb))) (hM:MapIs Value.bool w mb P) {x:ByteArray} (hx:x∈S) :
  Ret Tryz.prog 159 #[.string x,.pointer (some ⟨b3,0,none⟩),.pointer (some ⟨b,0,none⟩)] w fun v w'=>v = .bool ((needs x).all fun y=>(getM P y).getD false)/\Bl w w':=by
 refine entr (vs:=[.string x,.pointer (some ⟨b3,0,none⟩),.pointer (some ⟨b,0,none⟩)]) [0,1,2,4] tabok Tryz.func159 (by kernel_rfl) ?_
 refine ld h3 ?_
 refine cl (hN.run x hx w (Bl.refl w)) ?_ (hav:=by simp)
 rintro _ w1 ⟨a,c,rfl,hS,B1⟩
 refine cl (ContainsFunc_str (needs x) a c 160 [.pointer (some ⟨b,0,none⟩)] (fun y => !((getM P y).getD false)) T w1 hS fun y cs hy w' k hr => ?_) ?_
 ·obtain rfl:cs=[.string y]:=hr
  exact (k_placed ((B1.trans k).cl hb) (hM.bl (B1.trans k)) y).mono fun v w'' r=>⟨r.1,by rw [r.2];exact Bl.refl _⟩
 rintro _ w2 ⟨rfl,B2⟩
 refine rt1 ⟨vb ?_,B1.trans B2⟩
 rw [List.not_any_eq_all_not]
 congr 1
 funext y
 simp
theorem Eng.Ow.apart {w w':World} {base e esz n cap:Nat} {a a2:Option Addr} {xs:List Value} (h:Ow w base e esz a n cap xs) (k:Ap w a2 w') (hne:∀ g,a=some ⟨g,0,none⟩->a2≠some ⟨g,0,none⟩):Ow w' base e esz a n cap xs:=h.same fun g hg=>k.block g (h.lt hg).2 (hne g hg)
theorem hasB_snoc (O:List ByteArray) (x y:ByteArray):hasB (O++[x]) y=(hasB O y||decide (x=y)):=by
 unfold hasB
 rw [List.any_append];simp
structure PlI (needs:ByteArray->List ByteArray) (names:List ByteArray) (w0:World) (b3 b7 mb:Nat) (fv:Value) (L O:List ByteArray) (a6:Option Addr) (c6:Nat) (a8:Option Addr) (c8:Nat) (P:Mp Bool) (w:World):Prop where
 o6:OwP 1 encStr w w0.heap.size 9 a6 c6 L
 o8:OwP 1 encStr w w0.heap.size 9 a8 c8 O
 ne:∀ g,a6=some ⟨g,0,none⟩->a8≠some ⟨g,0,none⟩
 mp:MapIs Value.bool w mb P
 hp:∀ x,(getM P x).getD false=hasB O x
 x7:Box w b7 85 [.map (some mb)]
 x3:Box w b3 153 [fv]
 bl:Bl w0 w
 mb0:w0.heap.size<=mb
 sub:∀ x∈L,x∈names
 eq:placeL needs L.length L O=orderL needs names
 len:O.length+L.length=names.length
set_option maxHeartbeats 1000000 in
theorem k_place {w:World} {names:List ByteArray} {an:Option Addr} {cn:Nat} {g:FuncId} {first caps:List Value} {needs:ByteArray->List ByteArray} (hS:Sl eStr T w an names) (hN:NeedF names g first caps needs w) :
  Ret Tryz.prog 93 #[.slice an names.length cn,.func (.func g) first.toArray caps.toArray] w fun v w'=>Bl w w'/\match orderL needs names with
   | none=>v = .tuple #[.slice none 0 0,.bool false]
   | some o=>∃ a c,v = .tuple #[.slice a o.length c,.bool true]/\OwP 1 encStr w' w.heap.size 9 a c o:=by
 have hbig:=hS.big
 refine entr (vs:=[.slice an names.length cn,.func (.func g) first.toArray caps.toArray]) [0,1,3,4,5,6,7,8,9,16,21] tabok Tryz.func93 (by kernel_rfl) ?_
 refine bx (cs:=[.func (.func g) first.toArray caps.toArray]) fun b3 w1 k1 => ?_
 refine cl (k_values an names.length cn w1) ?_
 rintro _ w2 ⟨b2,rfl,h2⟩
 have B2:=k1.bl.trans h2.bl
 refine cl (k_sortV names an cn T w1 w2 b2 (hS.bl B2) h2) ?_
 rintro _ w3 ⟨a6,c6,rfl,O6,B23⟩
 have B3:=B2.trans B23
 refine mm fun mb w4 k4 => ?_
 refine al fun b7 w5 k5 => ?_
 refine st k5.box fun w6 k6 x6 => ?_
 have B36:Bl w3 w6:=k4.bl.trans (k5.wr k6)
 have B6:=B3.trans B36
 have hne7:mb≠b7:=by have:=k4.blk;have:=k4.size;have:=k5.blk;omega
 have hM6:MapIs Value.bool w6 mb []:=(k4.is Value.bool).bl (k5.wr k6)
 have x36:Box w6 b3 153 [.func (.func g) first.toArray caps.toArray]:=Bl.box ((h2.bl.trans B23).trans B36) k1.box
 refine lp [6,8] [(3,.pointer (some ⟨b3,0,none⟩)),(7,.pointer (some ⟨b7,0,none⟩))]
  (fun m vals w'=>∃ L O a6 c6 a8 c8 P,m=L.length/\vals=[.slice a6 L.length c6,.slice a8 O.length c8]/\PlI needs names w b3 b7 mb (.func (.func g) first.toArray caps.toArray) L O a6 c6 a8 c8 P w')
  ⟨rfl,rfl,trivial⟩ ⟨sortL names,[],a6,c6,none,0,[],rfl,rfl,⟨(O6.bl B36).base (by have:=B2.size;omega),Ow.nil ..,(fun _ _ h=>by cases h),hM6,(fun _=>rfl),x6,x36,B6,(by have:=k4.blk;have:=B3.size;omega),(fun x hx => ?_),?_,?_⟩⟩ ?_
 ·unfold sortL at hx
  obtain ⟨y,hy,rfl⟩:=List.mem_map.1 hx
  obtain ⟨z,hz,rfl⟩:=List.mem_map.1 (List.mem_mergeSort.1 hy)
  rw [ofL_toL];exact hz
 ·unfold orderL;rw [sortL_len]
 ·rw [sortL_len];simp
 clear hM6 x36 x6 O6
 rintro m vals w7 ⟨L,O,a6,c6,a8,c8,P,rfl,rfl,hI⟩ ih
 cases hL:L with
 | nil =>
  subst hL
  refine brF ?_ (hp:=by simp)
  have:=hI.eq
  simp only [List.length_nil,placeL] at this
  refine rt2 ⟨hI.bl,?_⟩
  rw [<-this]
  exact ⟨a8,c8,rfl,hI.o8⟩
 | cons x0 L0 =>
  rw [<-hL]
  have hpos:0<L.length:=by rw [hL];simp
  refine brT ?_
  have N7:NeedF L g first caps needs w7:=⟨fun x hx w' k=>hN.run x (hI.sub x hx) w' (hI.bl.trans k)⟩
  have hlL:L.length<=4194304:=by have:=hI.len;omega
  have hlO:O.length<=4194304:=by have:=hI.len;omega
  refine cl (k_IndexFunc L a6 c6 159 [.pointer (some ⟨b3,0,none⟩),.pointer (some ⟨b7,0,none⟩)] (fun x=>(needs x).all fun y=>hasB O y) T w7 (owp_sl hI.o6 hlL fun _ _=>trivial) fun x hx w' k => ?_) ?_
  ·have:=k_ready (S:=L) (g:=g) (first:=first) (caps:=caps) (needs:=needs) (w:=w') ⟨fun x hx w'' k'=>N7.run x hx w'' (k.trans k')⟩ (b3:=b3) (b:=b7) (mb:=mb) (P:=P) (k.cl (hI.x3.cell rfl)) (k.cl (hI.x7.cell rfl)) (hI.mp.bl k) hx
   refine this.mono fun v w'' r=>⟨?_,r.2⟩
   rw [r.1]
   congr 2
   funext y
   exact hI.hp y
  rintro _ w8 ⟨rfl,B78⟩
  have heq:=hI.eq
  obtain ⟨n,hn⟩:∃ n,L.length=n+1:=⟨L.length-1,by omega⟩
  rw [hn] at heq
  simp only [placeL] at heq
  cases hf:L.findIdx? (fun x=>(needs x).all fun y=>hasB O y) with
  | none =>
   rw [hf] at heq
   refine brT ?_ (hp:=by decide)
   refine rt2 ⟨hI.bl.trans B78,?_⟩
   rw [<-heq]
  | some k =>
   rw [hf] at heq
   have hk:k<L.length:=by
    obtain ⟨h1,_⟩:=List.findIdx?_eq_some_iff_getElem.1 hf
    exact h1
   obtain ⟨x,hx⟩:=some_of_lt hk
   have hgx:L.getD k nost=x:=by rw [List.getD_eq_getElem?_getD,hx];rfl
   simp only [hgx] at heq
   refine brF ?_ (hp:=by show ¬((k:Int)<0);omega)
   have o68:=hI.o6.bl B78
   have S8:=owp_sl (S:=T) o68 hlL fun _ _=>trivial
   obtain ⟨x',b9,o9,cs9,hx',rfl,_,hAt9,rfl⟩:=at_some S8 hk
   rw [hx] at hx'
   obtain rfl:=Option.some.inj hx'
   refine dt 1 fun w9 k9 => ?_
   have B79:=B78.trans k9.bl
   refine ld (B79.cl (hI.x7.cell rfl)) ?_
   refine ix (j:=k) ?_
   refine ld ((hAt9.bl k9.bl) 0 _ rfl) ?_
   refine mu true tB (hI.mp.bl B79) fun w10 k10 hM10 => ?_
   have hmb0:=hI.mb0
   have B10:Bl w w10:=Below.trans (hI.bl.trans B79) (k10.below hmb0)
   have hM9:=hI.mp.bl B79
   have x79:=Bl.box B79 hI.x7
   have x39:=Bl.box B79 hI.x3
   have x710:=k10.box x79 (hM9.ne x79).symm
   have x310:=k10.box x39 (hM9.ne x39).symm
   have o69:=o68.bl k9.bl
   have o89:=hI.o8.bl B79
   have o610:=o69.wr k10 fun g hg e=>hM9.ow o69 (by rw [hg,e])
   have o810:=o89.wr k10 fun g hg e=>hM9.ow o89 (by rw [hg,e])
   obtain ⟨x',b10,o10,cs10,hx',e10,_,hAt10,rfl⟩:=at_some (owp_sl (S:=T) o610 hlL fun _ _=>trivial) hk
   rw [hx] at hx'
   obtain rfl:=Option.some.inj hx'
   simp only [Option.some.injEq,Addr.mk.injEq,and_true] at e10
   obtain ⟨rfl,rfl⟩:=e10
   refine ix (j:=k) ?_
   refine ld (hAt10 0 _ rfl) ?_
   refine bs fun b11 w11 k11 => ?_
   have B11:=B10.trans k11.bl
   have o611:=o610.bl k11.bl
   have o811:=o810.bl k11.bl
   refine apl (l1:=[x]) o811 (.inr ⟨b11,0,rfl,k11.box.at⟩) B11.size (fun a12 c12 w12 o812 A12 f12 => ?_) (hb:=by simp only [List.length_cons,List.length_nil];omega) (hn:=by simp only [List.length_cons,List.length_nil];omega)
   have B12:Bl w w12:=Eng.Ow.below o811 A12 B11 B11.size
   have o612:=o611.apart A12 fun g hg e=>hI.ne g hg e
   have x712:=A12.box (Bl.box k11.bl x710) (o811.nbox (Bl.box k11.bl x710) (by decide))
   have x312:=A12.box (Bl.box k11.bl x310) (o811.nbox (Bl.box k11.bl x310) (by decide))
   have hM12:=(hM10.bl k11.bl).ap A12 ((hM10.bl k11.bl).ow o811)
   have ne12:∀ g,some (⟨b9,o9,none⟩:Addr)=some ⟨g,0,none⟩->a12≠some ⟨g,0,none⟩:=fun g hg e=>by
    rcases f12 g e with q | q
    ·exact hI.ne g hg q
    ·have:=(o611.lt hg).2;omega
   have hD:=k_Delete o612 hk
   rw [<-inc hk] at hD
   refine cl hD ?_
   rintro _ w13 ⟨rfl,o613,A13⟩
   have hle:(L.eraseIdx k).length=n:=by rw [List.length_eraseIdx_of_lt hk];omega
   refine again (ih _ _ _ _ (by rw [hle,hn];exact Nat.lt_succ_self n) ⟨rfl,rfl,trivial⟩ rfl ⟨L.eraseIdx k,O++[x],_,c6,a12,c12,putM P x true,rfl,rfl,⟨o613,o812.apart A13 (fun g hg e=>ne12 g e hg),ne12,hM12.ap A13 (hM12.ow o612),fun y => ?_,A13.box x712 (o612.nbox x712 (by decide)),A13.box x312 (o612.nbox x312 (by decide)),
    Eng.Ow.below o612 A13 B12 B12.size,hmb0,fun y hy=>hI.sub y (List.mem_of_mem_eraseIdx hy),?_,?_⟩⟩)
   ·rw [putM_get,hasB_snoc,<-hI.hp y]
    by_cases hxy:x=y
    ·simp [hxy]
    ·simp [hxy]
   ·rw [hle,<-heq]
   ·rw [hle,List.length_append]
    have:=hI.len
    simp only [List.length_cons,List.length_nil];omega
end Go.Proofs.YtkmdfjpafkcleaaGreatDoor
namespace Go.Proofs.YtkmdfjpafkcleaaGreatDoor
open Eng Go.RowKit Go.Sort Go.Maps
open Go.WideShapes (sorted_perm)
abbrev anyR:Value->Option (DataW Unit×List MemPlace):=fun _=>some (.lit (.bool true),[])
theorem owns_of {α:Type} {enc:α->Value} {w:World} {b:Nat} {m:Mp α} (hM:MapIs enc w b m) (hn:m.length<=1000) (hs:∀ p∈m,p.1.size<=maxLen) :
  ∃ D:DataW Unit,w.ownsMap Tryz.prog 9 anyR b m.length D/\(strKeys D).Perm ((keysM m).map toL)/\Maps.size D=m.length:=by
 obtain ⟨es,clock,h1,h2,h3⟩:=hM.is
 have hlen:es.size=m.length:=by have:=congrArg List.length h2;simpa using this
 have hk:∀ x∈es.toList,∃ s:ByteArray,x.key = .string s/\s.size<=maxLen:=fun x hx=>by
  have:kv x∈m.map (kvm enc):=h2▸List.mem_map.2 ⟨x,hx,rfl⟩
  obtain ⟨p,hp,e⟩:=List.mem_map.1 this
  exact ⟨p.1,(congrArg Prod.fst e).symm,hs p hp⟩
 have hrd:∀ x∈es.toList,∀ s:ByteArray,x.key = .string s->Go.WideElems.rd Tryz.prog 9 anyR x=some (.string s.data.toList,.lit (.bool true)):=fun x hx s e=>by
  obtain ⟨s',e',hs'⟩:=hk x hx
  rw [e] at e'
  obtain rfl:=Value.string.inj e'
  unfold Go.WideElems.rd
  rw [e,Go.WideMaps.keyOf_string_mk Tryz.underlying9 hs'];rfl
 refine ⟨_,⟨es,clock,h1,⟨by rw [hlen];unfold maxLen;omega,h3,fun x hx => ?_⟩,Nat.le_of_eq hlen,rfl⟩,?_,?_⟩
 ·obtain ⟨s,e,_⟩:=hk x hx
  exact ⟨_,hrd x hx s e⟩
 ·have hp:=(sorted_perm (es.toList.map (Go.WideElems.rg Tryz.prog 9 anyR))).map fun p:Lit×DataW Unit=>strOf p.1
  refine hp.trans (List.Perm.of_eq ?_)
  have key:∀ (L:List MapEntry) (m:Mp α),(∀ x∈L,x∈es.toList)->L.map kv=m.map (kvm enc)->(L.map (Go.WideElems.rg Tryz.prog 9 anyR)).map (fun p:Lit×DataW Unit=>strOf p.1)=(keysM m).map toL:=by
   intro L
   induction L with
   | nil=>intro m _ h;cases m with
    | nil=>rfl
    | cons p m=>simp at h
   | cons x L ih =>
    intro m hin h
    cases m with
    | nil=>simp at h
    | cons p m =>
     simp only [List.map_cons,List.cons.injEq] at h
     have:=hrd x (hin x (List.mem_cons_self ..)) p.1 (congrArg Prod.fst h.1)
     have ih':=ih m (fun y hy=>hin y (List.mem_cons_of_mem _ hy)) h.2
     have e1:strOf (Go.WideElems.rg Tryz.prog 9 anyR x).1=toL p.1:=by rw [Go.WideElems.rg_of this];rfl
     exact congr (congrArg List.cons e1) ih'
  exact key es.toList m (fun _ h=>h) h2
 ·rw [Maps.size_eq,(sorted_perm _).length_eq,List.length_map,Array.length_toList,hlen]
theorem map_tL (L:List (List UInt8)):(L.map ofL).map toL=L:=by
 rw [List.map_map]
 conv=>rhs;rw [<-List.map_id L]
 exact List.map_congr_left fun x _=>toL_ofL x
theorem k_KeysD (b:Nat) (w:World):Ret Tryz.prog 100 #[.map (some b)] w fun v w'=>∃ b1,v = .func (.func 165) #[] #[.pointer (some ⟨b1,0,none⟩)]/\New w b1 83 [.map (some b)] w':=by
 refine entr (vs:=[.map (some b)]) [0,1,2] tabok Tryz.func100 (by kernel_rfl) ?_
 refine bx (cs:=[.map (some b)]) fun b1 w1 h1 => ?_
 exact rt1 ⟨b1,rfl,h1⟩
theorem k_KeysN (b:Nat) (w:World):Ret Tryz.prog 101 #[.map (some b)] w fun v w'=>∃ b1,v = .func (.func 166) #[] #[.pointer (some ⟨b1,0,none⟩)]/\New w b1 84 [.map (some b)] w':=by
 refine entr (vs:=[.map (some b)]) [0,1,2] tabok Tryz.func101 (by kernel_rfl) ?_
 refine bx (cs:=[.map (some b)]) fun b1 w1 h1 => ?_
 exact rt1 ⟨b1,rfl,h1⟩
theorem k_keys {w:World} {b:Nat} {m:Mp (Nat×Nat)} (hM:MapIs encD w b m) (hn:m.length<=1000) (hs:∀ p∈m,p.1.size<=maxLen) :
  Ret Tryz.prog 94 #[.map (some b)] w fun v w'=>∃ a c l,v = .slice a l.length c/\OwP 1 encStr w' w.heap.size 9 a c l/\(l.map toL).Perm ((keysM m).map toL)/\Bl w w':=by
 refine entr (vs:=[.map (some b)]) [0,2] tabok Tryz.func94 (by kernel_rfl) ?_
 refine cl (k_KeysD b w) ?_
 rintro _ w1 ⟨b1,rfl,h1⟩
 refine cl (R:=fun v w'=>∃ a c l,v = .slice a l.length c/\OwP 1 encStr w' w1.heap.size 9 a c l/\(l.map toL).Perm ((keysM m).map toL)/\Bl w1 w') ?_ ?_
 ·refine ⟨by kernel_rfl,?_⟩
  obtain ⟨D,hown,hperm,hsz⟩:=owns_of (hM.bl h1.bl) hn hs
  have key:=AnyZ.collect_in Tryz.zCollect Fence.wide 6 trivial trivial rfl (by omega) 165 #[.pointer (some ⟨b1,0,none⟩)] trivial (enters_of Tryz.func165 (by kernel_rfl) rfl)
   (fun ss=>ss.Perm (strKeys D)) (Maps.size D) (by rw [hsz];unfold maxLen;omega) (by rw [hsz];omega) w1 (AnyZ.keys_gives Tryz.zItD Fence.wide _ trivial rfl (by omega) b1 b m.length D w1 h1.box.lt (h1.box.cell rfl) hown)
  refine (callsIn_wide.1 key).mono ?_
  rintro e w' ⟨v,ss,rfl,hp,hrow,_,hb⟩
  obtain ⟨a',cap',rfl,hO⟩:=own_of_row rfl hrow
  exact ⟨a',cap',_,rfl,hO,by rw [map_tL];exact hp.trans hperm,hb⟩
 rintro _ w2 ⟨a,c,l,rfl,hO,hp,B2⟩
 exact rt1 ⟨a,c,l,rfl,hO.base (by rw [h1.size];omega),hp,h1.bl.trans B2⟩
theorem sort_perm {a b:List (List UInt8)} (h:a.Perm b):a.mergeSort (fun x y=>decide (x<=y))=b.mergeSort (fun x y=>decide (x<=y)):=mergeSort_of_perm h
theorem sortL_perm {a b:List ByteArray} (h:(a.map toL).Perm (b.map toL)):sortL a=sortL b:=by
 show ((a.map toL).mergeSort _).map ofL=((b.map toL).mergeSort _).map ofL
 rw [sort_perm h]
theorem k_sortK {α:Type} {enc:α->Value} {g:FuncId} {w0 w:World} {b1 b:Nat} {t:TypeId} {m:Mp α} (hM:MapIs enc w b m) (hn:m.length<=1000) (hs:∀ p∈m,p.1.size<=maxLen) (_h1:New w0 b1 t [.map (some b)] w)
  (hg:∀ args w,(callFunc g args).run Tryz.prog w = .ok (.enter g args) w) (hgives:∀ D:DataW Unit,w.ownsMap Tryz.prog 9 anyR b m.length D->SeqGives Fence.wide 3 Tryz.prog g #[.pointer (some ⟨b1,0,none⟩)] Go.Proofs.encStr (fun ss=>ss.Perm (strKeys D)) (Maps.size D) w) :
  Ret Tryz.prog 99 #[.func (.func g) #[] #[.pointer (some ⟨b1,0,none⟩)]] w fun v w'=>∃ a c,v = .slice a (sortL (keysM m)).length c/\OwP 1 encStr w' w.heap.size 9 a c (sortL (keysM m))/\Bl w w':=by
 obtain ⟨D,hown,hperm,hsz⟩:=owns_of hM hn hs
 refine ⟨by kernel_rfl,?_⟩
 have key:=AnyZ.sorted_in Tryz.zSorted Fence.wide 6 trivial trivial trivial trivial rfl (by omega)
  ⟨fun blk off cap ss W hH hblk hsz=>callsIn_wide.2 (Tryz.slices_Sort_string blk off cap ss W hH hblk hsz),fun p cap W=>callsIn_wide.2 (Tryz.slices_Sort_string_none p cap W)⟩ (enters_of Tryz.func164 (by kernel_rfl) rfl)
  g #[.pointer (some ⟨b1,0,none⟩)] trivial hg (fun ss=>ss.Perm (strKeys D)) (Maps.size D) (by rw [hsz];unfold maxLen;omega) (by rw [hsz];omega) w (hgives D hown)
 refine (callsIn_wide.1 key).mono ?_
 rintro e w' ⟨v,ss,rfl,hp,hrow,_,hb⟩
 have e2:ss.mergeSort (fun x y=>decide (x<=y))=((keysM m).map toL).mergeSort (fun x y=>decide (x<=y)):=sort_perm (hp.trans hperm)
 rw [e2] at hrow
 obtain ⟨a',cap',rfl,hO⟩:=own_of_row (by rw [List.length_mergeSort,<-(hp.trans hperm).length_eq]) hrow
 exact ⟨a',cap',rfl,hO,hb⟩
theorem k_sortD {w0 w:World} {b1 b:Nat} {m:Mp (Nat×Nat)} (hM:MapIs encD w b m) (hn:m.length<=1000) (hs:∀ p∈m,p.1.size<=maxLen) (h1:New w0 b1 83 [.map (some b)] w) :
  Ret Tryz.prog 99 #[.func (.func 165) #[] #[.pointer (some ⟨b1,0,none⟩)]] w fun v w'=>∃ a c,v = .slice a (sortL (keysM m)).length c/\OwP 1 encStr w' w.heap.size 9 a c (sortL (keysM m))/\Bl w w' :=
 k_sortK hM hn hs h1 (enters_of Tryz.func165 (by kernel_rfl) rfl) fun D hown=>AnyZ.keys_gives Tryz.zItD Fence.wide 3 trivial rfl (by omega) b1 b m.length D w h1.box.lt (h1.box.cell rfl) hown
theorem k_sortN {w0 w:World} {b1 b:Nat} {m:Mp Rs} (hM:MapIs encR w b m) (hn:m.length<=1000) (hs:∀ p∈m,p.1.size<=maxLen) (h1:New w0 b1 84 [.map (some b)] w) :
  Ret Tryz.prog 99 #[.func (.func 166) #[] #[.pointer (some ⟨b1,0,none⟩)]] w fun v w'=>∃ a c,v = .slice a (sortL (keysM m)).length c/\OwP 1 encStr w' w.heap.size 9 a c (sortL (keysM m))/\Bl w w' :=
 k_sortK hM hn hs h1 (enters_of Tryz.func166 (by kernel_rfl) rfl) fun D hown=>AnyZ.keys_gives Tryz.zItN Fence.wide 3 trivial rfl (by omega) b1 b m.length D w h1.box.lt (h1.box.cell rfl) hown
end Go.Proofs.YtkmdfjpafkcleaaGreatDoor
namespace Go.Proofs.YtkmdfjpafkcleaaGreatDoor
open Go.RowKit
def Placed (needs:ByteArray->List ByteArray) (o:List ByteArray):Prop:=∀ (i:Nat) x,o[i]? = some x->∀ y∈needs x,y∈o.take i
theorem placeL_placed {needs:ByteArray->List ByteArray}:∀ {n:Nat} {left out o:List ByteArray},Placed needs out->placeL needs n left out=some o->Placed needs o
 | 0,left,out,o,h,e=>by simp only [placeL] at e;obtain rfl:=Option.some.inj e;exact h
 | n+1,left,out,o,h,e=>by
  simp only [placeL] at e
  cases hf:left.findIdx? (fun x=>(needs x).all fun y=>hasB out y) with
  | none=>rw [hf] at e;cases e
  | some k =>
   rw [hf] at e
   refine placeL_placed ?_ e
   obtain ⟨hk,hp,_⟩:=List.findIdx?_eq_some_iff_getElem.1 hf
   have hx:left.getD k nost=left[k]:=by rw [List.getD_eq_getElem?_getD,List.getElem?_eq_getElem hk];rfl
   rw [hx]
   intro i x hi y hy
   rcases Nat.lt_or_ge i out.length with q | q
   ·rw [List.getElem?_append_left q] at hi
    rw [List.take_append_of_le_length (Nat.le_of_lt q)]
    exact h i x hi y hy
   ·rw [List.getElem?_append_right q] at hi
    have h0:i-out.length=0:=by
     have:=(List.getElem?_eq_some_iff.1 hi).1
     simp at this;omega
    rw [h0] at hi
    simp only [List.getElem?_cons_zero,Option.some.injEq] at hi
    subst hi
    have hi2:i=out.length:=by omega
    subst hi2
    rw [List.take_left]
    exact hasB_iff.1 (List.all_eq_true.1 hp y hy)
theorem placeL_perm {needs:ByteArray->List ByteArray}:∀ {n:Nat} {left out o:List ByteArray},left.length=n->placeL needs n left out=some o->o.Perm (out++left)
 | 0,left,out,o,h,e=>by
  simp only [placeL] at e
  obtain rfl:=Option.some.inj e
  rw [List.eq_nil_of_length_eq_zero h,List.append_nil]
 | n+1,left,out,o,h,e=>by
  simp only [placeL] at e
  cases hf:left.findIdx? (fun x=>(needs x).all fun y=>hasB out y) with
  | none=>rw [hf] at e;cases e
  | some k =>
   rw [hf] at e
   obtain ⟨hk,hp,_⟩:=List.findIdx?_eq_some_iff_getElem.1 hf
   have hx:left.getD k nost=left[k]:=by rw [List.getD_eq_getElem?_getD,List.getElem?_eq_getElem hk];rfl
   simp only [hx] at e
   have:=placeL_perm (by rw [List.length_eraseIdx_of_lt hk];omega) e
   refine this.trans ?_
   rw [List.append_assoc]
   refine List.Perm.append_left _ ?_
   have e2:left=left.take k++left[k]::left.drop (k+1):=by rw [<-List.drop_eq_getElem_cons hk,List.take_append_drop]
   rw [List.eraseIdx_eq_take_drop_succ]
   conv=>rhs;rw [e2]
   exact (List.perm_middle (a:=left[k]) (l₁:=left.take k) (l₂:=left.drop (k+1))).symm
theorem sortL_perm' (l:List ByteArray):(sortL l).Perm l:=by
 unfold sortL
 refine ((List.mergeSort_perm _ _).map ofL).trans ?_
 rw [List.map_map,show (ofL ∘ fun s:ByteArray=>s.data.toList)=id from funext ofL_toL,List.map_id]
theorem orderL_perm {needs:ByteArray->List ByteArray} {names o:List ByteArray} (h:orderL needs names=some o):o.Perm names:=by
 have:=placeL_perm (sortL_len names) h
 rw [List.nil_append] at this
 exact this.trans (sortL_perm' names)
theorem orderL_placed {needs:ByteArray->List ByteArray} {names o:List ByteArray} (h:orderL needs names=some o):Placed needs o :=
 placeL_placed (fun i x hi=>by simp at hi) h
theorem orderL_names {needs:ByteArray->List ByteArray} {a b:List ByteArray} (h:(a.map toL).Perm (b.map toL)):orderL needs a=orderL needs b:=by
 unfold orderL
 rw [sortL_perm h,show a.length=b.length by simpa using h.length_eq]
theorem mem_keys {α:Type} {m:Mp α} {k:ByteArray} (h:k∈keysM m):∃ v,getM m k=some v:=by
 induction m with
 | nil=>cases h
 | cons p m ih =>
  obtain ⟨k0,v0⟩:=p
  simp only [getM]
  by_cases e:k0=k
  ·exact ⟨v0,by rw [if_pos e]⟩
  ·rw [if_neg e]
   rcases List.mem_cons.1 h with q | q
   ·exact absurd q.symm e
   ·exact ih q
theorem hasM_keys {α:Type} {m:Mp α} {k:ByteArray} (h:hasM m k=true):k∈keysM m:=by
 unfold hasM at h
 cases hg:getM m k with
 | none=>rw [hg] at h;cases h
 | some v=>exact List.mem_map.2 ⟨_,getM_in hg,rfl⟩
variable {us:List Unt}
theorem clsI_of {c s m:Nat} {D:Dcl} (h:DOk us c s m D) {p:ByteArray} (hp:p∈keysM D.classes):∃ n k u x,ClsI us D p n k u x:=by
 obtain ⟨⟨n,k⟩,hg⟩:=mem_keys hp
 obtain ⟨⟨u,x⟩,hx⟩:=h.cl p _ hg
 unfold clsAt at hx
 simp only [Option.bind_eq_some_iff,Option.map_eq_some_iff,Prod.mk.injEq] at hx
 obtain ⟨u',hu,x',hx',rfl,rfl⟩:=hx
 exact ⟨n,k,u',x',hg,hu,hx'⟩
theorem mthI_at {d:Option (Nat×Nat)} {e:Nat×Nat} (hd:d=some e) (h:∃ x,mthAt us e=some x):∃ n k u m,MthI us d n k u m:=by
 obtain ⟨⟨u,x⟩,hx⟩:=h
 unfold mthAt at hx
 simp only [Option.bind_eq_some_iff,Option.map_eq_some_iff,Prod.mk.injEq] at hx
 obtain ⟨u',hu,x',hx',rfl,rfl⟩:=hx
 exact ⟨e.1,e.2,u',x',hd,hu,hx'⟩
theorem mthI_of {c s m:Nat} {D:Dcl} (h:DOk us c s m D) {p:ByteArray} (hp:p∈keysM D.calls++keysM D.sends):∃ n k u x,MthI us (mthD D p) n k u x:=by
 unfold mthD
 cases hg:getM D.calls p with
 | some d=>exact mthI_at rfl (h.ca p d hg)
 | none =>
  rcases List.mem_append.1 hp with q | q
  ·obtain ⟨v,hv⟩:=mem_keys q;rw [hg] at hv;cases hv
  ·obtain ⟨v,hv⟩:=mem_keys q
   exact mthI_at hv (h.se p v hv)
theorem sendI_of {c s m:Nat} {D:Dcl} (h:DOk us c s m D):∀ q∈D.named,∀ p∈q.2,∃ n k u x,MthI us (getM D.sends p) n k u x:=fun q hq p hp=>by
 obtain ⟨v,hv⟩:=Option.isSome_iff_exists.1 (h.na q hq p hp)
 exact mthI_at hv (h.se p v hv)
theorem deep_mono {D:Dcl}:∀ {m:Nat} {p:ByteArray},Deep us D m p->Deep us D (m+1) p
 | 0,_,h=>h.elim
 | _+1,_,⟨h1,h2⟩=>⟨h1,h2.imp id deep_mono⟩
theorem deep_le {D:Dcl} {m n:Nat} {p:ByteArray} (h:Deep us D m p) (hmn:m<=n):Deep us D n p:=by
 induction hmn with
 | refl=>exact h
 | step _ ih=>exact deep_mono ih
theorem deep_of {D:Dcl} {o:List ByteArray} (hcl:∀ p∈o,∃ n k u c,ClsI us D p n k u c) (hp:Placed (neeC us D) o):∀ (i:Nat) x,o[i]? = some x->Deep us D (i+1) x:=by
 intro i
 induction i using Nat.strongRecOn with
 | _ i ih =>
  intro x hx
  refine ⟨hcl x (List.mem_of_getElem? hx),?_⟩
  by_cases hs:supL us D x=nost
  ·exact .inl hs
  ·right
   have hy:supL us D x∈o.take i:=hp i x hx _ (by unfold neeC;rw [if_neg hs];simp)
   obtain ⟨j,hj⟩:=List.mem_iff_getElem?.1 hy
   rw [List.getElem?_take] at hj
   split at hj
   ·rename_i hji
    exact deep_le (ih j hji _ hj) (by omega)
   ·cases hj
theorem tyOk_of {u:Unt} (hC:CkU u):TyOk u:=fun m hm=>by
 have hI:=ixs_of hC
 refine ⟨by have:=(lim_of hC.lim).pars m hm;omega,fun t ht=>⟨hI.mty m hm t ht,?_⟩⟩
 have hk:=hC.kd
 unfold kinds at hk
 simp only [Bool.and_eq_true] at hk
 have:=List.all_eq_true.1 hk.2 m hm
 unfold kmth at this
 simp only [Bool.and_eq_true] at this
 obtain ⟨⟨h1,h2⟩,h3⟩:=this
 unfold kindOk
 simp only [List.mem_append,List.mem_singleton] at ht
 rcases ht with (ht | ht) | rfl
 ·have:=List.all_eq_true.1 h1 t ht
  simp only [kin,Bool.and_eq_true,decide_eq_true_eq] at this;omega
 ·have:=List.all_eq_true.1 h2 t ht
  simp only [kin,Bool.and_eq_true,decide_eq_true_eq] at this;omega
 ·simp only [kout,Bool.and_eq_true,decide_eq_true_eq] at h3;omega
theorem code_len {u:Unt} (hC:CkU u) {m:Mth} (hm:m∈u.methods):m.code.length<=120:=by
 have h1:=mErr_zero hC.me m hm
 unfold codeE at h1
 split at h1
 ·cases h1
 ·omega
end Go.Proofs.YtkmdfjpafkcleaaGreatDoor
namespace Go.Proofs.YtkmdfjpafkcleaaGreatDoor
open Eng Go.RowKit
theorem flatten_get {sz:Nat}:∀ {xs:List (List Value)} (_:∀ c∈xs,c.length=sz) {i:Nat} {c:List Value},xs[i]? = some c->∀ j,j<sz->xs.flatten[i*sz+j]? = c[j]?
 | [],_,i,c,hx,_,_=>by simp at hx
 | y::l,h,0,c,hx,j,hj=>by
  simp at hx;subst hx
  rw [List.flatten_cons,Nat.zero_mul,Nat.zero_add,List.getElem?_append_left (by rw [h _ (List.mem_cons_self ..)];exact hj)]
 | y::l,h,i+1,c,hx,j,hj=>by
  have hy:=h y (List.mem_cons_self ..)
  have:=flatten_get (xs:=l) (fun c hc=>h c (List.mem_cons_of_mem _ hc)) (i:=i) (by simpa using hx) j hj
  rw [List.flatten_cons,List.getElem?_append_right (by rw [hy,Nat.succ_mul];omega),hy,<-this]
  congr 1;rw [Nat.succ_mul];omega
structure OwC {α:Type} (E:El α) (R:Nat->Prop) (w:World) (base e:Nat) (a:Option Addr) (cap:Nat) (l:List α):Prop where
 row:∃ xs:List (List Value),xs.length=l.length/\(∀ c∈xs,c.length=E.sz)/\Ow w base e E.sz a l.length cap xs.flatten /\
  ∀ (i:Nat) (cs:List Value) (x:α),xs[i]? = some cs->l[i]? = some x->E.rel (fun b=>R b/\a≠some ⟨b,0,none⟩/\b<w.heap.size) w cs x
theorem OwC.nil {α:Type} (E:El α) (R:Nat->Prop) (w:World) (base e:Nat):OwC E R w base e none 0 ([]:List α) :=
 ⟨[],rfl,(fun _ h=>by simp at h),Ow.nil ..,(fun i cs x h=>by simp at h)⟩
theorem OwC.bl {α:Type} {E:El α} {R:Nat->Prop} {w w':World} {base e cap:Nat} {a:Option Addr} {l:List α} (h:OwC E R w base e a cap l) (k:Bl w w'):OwC E R w' base e a cap l:=by
 obtain ⟨xs,h1,h2,h3,h4⟩:=h.row
 exact ⟨xs,h1,h2,h3.bl k,fun i cs x hi hl=>E.sub (fun b hb=>⟨hb.1,hb.2.1,Nat.lt_of_lt_of_le hb.2.2 k.size⟩) (E.kp (k.kp _) (h4 i cs x hi hl))⟩
theorem OwC.wr {α:Type} {E:El α} {R:Nat->Prop} {w w':World} {base e cap:Nat} {a:Option Addr} {l:List α} (h:OwC E R w base e a cap l) {b:Nat} (k:Wr w b w') (hb:b<base) (hR:∀ i,R i->i≠b):OwC E R w' base e a cap l:=by
 obtain ⟨xs,h1,h2,h3,h4⟩:=h.row
 exact ⟨xs,h1,h2,h3.wr k fun g hg=>by have:=(h3.lt hg).1;omega,fun i cs x hi hl=>E.sub (fun b hb=>⟨hb.1,hb.2.1,by rw [k.size];exact hb.2.2⟩) (E.kp (k.kp fun i hi=>hR i hi.1) (h4 i cs x hi hl))⟩
theorem OwC.ow {α:Type} {E:El α} {R:Nat->Prop} {w:World} {base e cap:Nat} {a:Option Addr} {l:List α} (h:OwC E R w base e a cap l):∃ xs,Ow w base e E.sz a l.length cap xs:=by
 obtain ⟨xs,h1,h2,h3,h4⟩:=h.row
 exact ⟨_,h3⟩
theorem OwC.lt {α:Type} {E:El α} {R:Nat->Prop} {w:World} {base e cap:Nat} {a:Option Addr} {l:List α} (h:OwC E R w base e a cap l) {g:Nat} (hg:a=some ⟨g,0,none⟩):base<=g/\g<w.heap.size:=by
 obtain ⟨xs,h3⟩:=h.ow
 exact h3.lt hg
theorem OwC.push {α:Type} {E:El α} {R:Nat->Prop} {w w':World} {base e cap':Nat} {a a':Option Addr} {l:List α} {x:α} {cs:List Value} {xs:List (List Value)} (h1:xs.length=l.length) (h2:∀ c∈xs,c.length=E.sz)
  (h4:∀ (i:Nat) (cs:List Value) (x:α),xs[i]? = some cs->l[i]? = some x->E.rel (fun b=>R b/\a≠some ⟨b,0,none⟩/\b<w.heap.size) w cs x)
  (hO:Ow w' base e E.sz a' (l.length+1) cap' (xs.flatten++cs)) (hA:Ap w a w') (hf:∀ g,a'=some ⟨g,0,none⟩->a=some ⟨g,0,none⟩∨w.heap.size<=g)
  (hr:E.rel (fun b=>R b/\a≠some ⟨b,0,none⟩/\b<w.heap.size) w cs x):OwC E R w' base e a' cap' (l++[x]):=by
 have hsub:∀ b,(R b/\a≠some ⟨b,0,none⟩/\b<w.heap.size)->(R b/\a'≠some ⟨b,0,none⟩/\b<w'.heap.size):=fun b ⟨q1,q2,q3⟩=>by
  refine ⟨q1,fun e => ?_,Nat.lt_of_lt_of_le q3 hA.size⟩
  rcases hf b e with h | h
  ·exact q2 h
  ·omega
 have hkp:Kp (fun b=>R b/\a≠some ⟨b,0,none⟩/\b<w.heap.size) w w':=hA.kp.sub fun i hi=>hi.2.1
 refine ⟨xs++[cs],by simp [h1],fun c hc => ?_,by rw [List.length_append,List.flatten_append];simpa using hO,fun i c y hi hl => ?_⟩
 ·rcases List.mem_append.1 hc with hc | hc
  ·exact h2 c hc
  ·rw [List.mem_singleton.1 hc];exact E.len hr
 ·rcases Nat.lt_or_ge i l.length with hlt | hge
  ·rw [List.getElem?_append_left (by omega)] at hi
   rw [List.getElem?_append_left hlt] at hl
   exact E.sub hsub (E.kp hkp (h4 i c y hi hl))
  ·rw [List.getElem?_append_right (by omega),h1] at hi
   rw [List.getElem?_append_right hge] at hl
   rcases Nat.eq_zero_or_pos (i-l.length) with h0 | h0
   ·rw [h0] at hi hl
    simp at hi hl
    subst hi hl
    exact E.sub hsub (E.kp hkp hr)
   ·rw [List.getElem?_eq_none (by simp;omega)] at hi
    cases hi
theorem OwC.sl2 {α:Type} {E:El α} {w:World} {base e cap:Nat} {a:Option Addr} {l:List α} (h:OwC E (fun b=>base<=b) w base e a cap l) (hl:l.length<=4194304):Sl E (fun b=>base<=b/\b<w.heap.size) w a l:=by
 obtain ⟨xs,h1,h2,h3,h4⟩:=h.row
 refine ⟨hl,fun i x hx => ?_⟩
 have hi:i<l.length:=(List.getElem?_eq_some_iff.1 hx).1
 obtain ⟨cs,hc⟩:=some_of_lt (l:=xs) (k:=i) (by omega)
 have hcl:=h2 cs (List.mem_of_getElem? hc)
 rcases h3.shape with ⟨_,h0,_⟩ | ⟨g,cur,rfl,_⟩
 ·omega
 ·refine ⟨g,0,cs,rfl,h3.lt rfl,fun j v hj => ?_,E.sub (fun b hb=>⟨hb.1,hb.2.2⟩) (h4 i cs x hc hx)⟩
  have hj':j<E.sz:=by rw [<-hcl];exact (List.getElem?_eq_some_iff.1 hj).1
  have:=h3.at rfl (i*E.sz+j) v (by rw [flatten_get h2 hc j hj'];exact hj)
  rw [Nat.zero_add] at this
  rw [Nat.zero_add];exact this
end Go.Proofs.YtkmdfjpafkcleaaGreatDoor
namespace Go.Proofs.YtkmdfjpafkcleaaGreatDoor
open Go.RowKit Eng
theorem Eng.Ow.capn {w:World} {base e esz n cap:Nat} {a:Option Addr} {xs:List Value} (h:Ow w base e esz a n cap xs):n<=cap/\(a=none->cap=0):=by
 rcases h.shape with ⟨rfl,rfl,rfl,_⟩ | ⟨g,cur,rfl,_,_,h,_⟩
 ·exact ⟨Nat.le_refl _,fun _=>rfl⟩
 ·exact ⟨h,fun e=>by cases e⟩
structure MC where
 name:ByteArray
 super:Int
 fields:List Ty
 table:List Int
deriving DecidableEq
structure MM where
 name:ByteArray
 cls:Int
 params:List Ty
 locals:List Ty
 result:Ty
 code:List Ins
deriving DecidableEq
structure Mod where
 classes:List MC
 statics:List Ty
 methods:List MM
 sels:Int
def mod0:Mod:=⟨[],[],[],0⟩
abbrev mccells (c:MC) (a1:Option Addr) (c1:Nat) (a2:Option Addr) (c2:Nat):List Value:=[.string c.name,I c.super,.slice a1 c.fields.length c1,.slice a2 c.table.length c2]
abbrev mmcells (m:MM) (a1:Option Addr) (c1:Nat) (a2:Option Addr) (c2:Nat) (a3:Option Addr) (c3:Nat):List Value :=
 [.string m.name,I m.cls,.slice a1 m.params.length c1,.slice a2 m.locals.length c2,I m.result.kind,I m.result.cls,.slice a3 m.code.length c3]
def eMC:El MC :=
 {sz:=4,rel:=fun S w cs c=>∃ a1 c1 a2 c2,cs=mccells c a1 c1 a2 c2/\Sl eTy S w a1 c.fields/\Sl eInt S w a2 c.table/\c.name.size<=1048576/\c.fields.length<=c1
  len:=fun ⟨_,_,_,_,e,_⟩=>by rw [e];rfl
  kp:=fun k ⟨a1,c1,a2,c2,e,h1,h2,h3⟩=>⟨a1,c1,a2,c2,e,h1.kp k,h2.kp k,h3⟩
  sub:=fun k ⟨a1,c1,a2,c2,e,h1,h2,h3⟩=>⟨a1,c1,a2,c2,e,h1.sub k,h2.sub k,h3⟩ }
def eMM:El MM :=
 {sz:=7
  rel:=fun S w cs m=>∃ a1 c1 a2 c2 a3 c3,cs=mmcells m a1 c1 a2 c2 a3 c3/\Sl eTy S w a1 m.params/\Sl eTy S w a2 m.locals/\Sl eIns S w a3 m.code/\m.name.size<=1048576
  len:=fun ⟨_,_,_,_,_,_,e,_⟩=>by rw [e];rfl
  kp:=fun k ⟨a1,c1,a2,c2,a3,c3,e,h1,h2,h3,h4⟩=>⟨a1,c1,a2,c2,a3,c3,e,h1.kp k,h2.kp k,h3.kp k,h4⟩
  sub:=fun k ⟨a1,c1,a2,c2,a3,c3,e,h1,h2,h3,h4⟩=>⟨a1,c1,a2,c2,a3,c3,e,h1.sub k,h2.sub k,h3.sub k,h4⟩ }
structure MA where
 a1:Option Addr
 c1:Nat
 a2:Option Addr
 c2:Nat
 a3:Option Addr
 c3:Nat
def modcells (m:Mod) (a:MA):List Value:=[.slice a.a1 m.classes.length a.c1,.slice a.a2 m.statics.length a.c2,.slice a.a3 m.methods.length a.c3,I m.sels]
structure MdR (S:Nat->Prop) (w:World) (m:Mod) (a:MA):Prop where
 cls:Sl eMC S w a.a1 m.classes
 sta:Sl eTy S w a.a2 m.statics
 mth:Sl eMM S w a.a3 m.methods
theorem MdR.kp {S:Nat->Prop} {w w':World} {m:Mod} {a:MA} (h:MdR S w m a) (k:Kp S w w'):MdR S w' m a:=⟨h.cls.kp k,h.sta.kp k,h.mth.kp k⟩
theorem MdR.bl {S:Nat->Prop} {w w':World} {m:Mod} {a:MA} (h:MdR S w m a) (k:Bl w w'):MdR S w' m a:=h.kp (k.kp S)
theorem MdR.sub {S S':Nat->Prop} {w:World} {m:Mod} {a:MA} (h:MdR S w m a) (k:∀ i,S i->S' i):MdR S' w m a:=⟨h.cls.sub k,h.sta.sub k,h.mth.sub k⟩
abbrev idxB (l:List ByteArray) (x:ByteArray):Int:=Lib.idxOfS l x
def kindM (oc:List ByteArray) (u:Unt) (t:Ty):Ty:=if t.cls<0 then ⟨t.kind,0⟩ else ⟨t.kind,idxB oc (nm u t.cls)⟩
def cutI (p:ByteArray):Nat:=(Lib.lastIndexByte p 46).toNat
def layA (us:List Unt) (oc:List ByteArray) (q:ByteArray):List ByteArray:=if hasB oc q=true then lay us q else []
def fldM (us:List Unt) (oc:List ByteArray) (p:ByteArray):Int:=idxB (layA us oc (p.extract 0 (cutI p))) (p.extract (cutI p+1) p.size)
structure Ords where
 oc:List ByteArray
 os:List ByteArray
 om:List ByteArray
 oz:List ByteArray
def instM (us:List Unt) (O:Ords) (u:Unt) (i:Ins):Ins :=
 if i.op=14∨i.op=24 then ⟨i.op,idxB O.oc (nm u i.a),i.b⟩
 else if i.op=16 then ⟨i.op,i.a,idxB O.oc (nm u i.b)⟩
 else if i.op=12 then (if i.a=3 then i else ⟨i.op,i.a,idxB O.oc (nm u i.b)⟩)
 else if i.op=17∨i.op=18 then ⟨i.op,fldM us O.oc (nm u i.a),i.b⟩
 else if i.op=22∨i.op=23 then ⟨i.op,idxB O.os (nm u i.a),i.b⟩
 else if i.op=25 then ⟨i.op,idxB O.om (nm u i.a),i.b⟩
 else if i.op=26 then ⟨i.op,idxB O.oz (nm u i.a),i.b⟩
 else i
def ownT (us:List Unt) (D:Dcl) (oc:List ByteArray) (p:ByteArray):List Ty:=match clsOf us D p with
 | some (u,c)=>c.fields.map fun f=>kindM oc u f.ty
 | none=>[]
def ftL (us:List Unt) (D:Dcl) (oc:List ByteArray):Nat->ByteArray->List Ty
 | 0,_=>[]
 | n+1,p=>(if supL us D p=nost then [] else ftL us D oc n (supL us D p))++ownT us D oc p
def nearM (us:List Unt) (D:Dcl) (om:List ByteArray):Nat->ByteArray->ByteArray->Int
 | 0,_,_ => -1
 | n+1,p,s=>if p=nost then -1 else if 0<=idxB om (dots p s) then idxB om (dots p s) else nearM us D om n (supL us D p) s
def clsM (us:List Unt) (O:Ords) (p:ByteArray):MC :=
 ⟨p,idxB O.oc (supL us (decl us) p),ftL us (decl us) O.oc (keysM (decl us).classes).length p,O.oz.map fun s=>nearM us (decl us) O.om ((keysM (decl us).classes).length+1) p s⟩
def staM (us:List Unt) (O:Ords) (p:ByteArray):Ty:=match (getM (decl us).statics p).bind fun d=>(us[d.1]?).bind fun u=>(u.statics[d.2]?).map fun f=>(u,f) with
 | some (u,f)=>kindM O.oc u f.ty
 | none=>⟨0,0⟩
def mthM (us:List Unt) (O:Ords) (p:ByteArray):MM:=match mthOf us (decl us) p with
 | some (u,m)=>⟨p,if 0<=m.cls then idxB O.oc (nm u m.cls) else -1,m.params.map (kindM O.oc u),m.locals.map (kindM O.oc u),kindM O.oc u m.result,m.code.map (instM us O u)⟩
 | none=>⟨p,-1,[],[],⟨0,0⟩,[]⟩
def ordsL (us:List Unt):Ords:=⟨(ordC us).getD [],sortL (keysM (decl us).statics),(ordM us).getD [],sortL (keysM (decl us).named)⟩
def modO (us:List Unt) (O:Ords):Mod:=⟨O.oc.map (clsM us O),O.os.map (staM us O),O.om.map (mthM us O),(O.oz.length:Int)⟩
def modL (us:List Unt):Mod:=if runE us=0 then modO us (ordsL us) else mod0
end Go.Proofs.YtkmdfjpafkcleaaGreatDoor
namespace Go.Proofs.YtkmdfjpafkcleaaGreatDoor
open Eng Go.ChangeShapes Go.WideShapes Go.ChangeAt Go.RowKit
section
variable {H:Type} {enc:TypeId×Value->H} {w:World} {base:Nat} {sp:Nat->Bool} {hd:Bool}
set_option maxRecDepth 100000 in
theorem open_units {r:Reach} {b0:Nat} {v:Value} {d:DataW H} {p:List MemPlace} (hval:Value.okWide Tryz.prog w r b0 22 v) (h:DataW.Trod enc Tryz.prog w base sp hd 22 v d p) (hb:Rows.uptoBulk d<=1048576) :
  ∃ (a:Option Addr) (l:List Unt) (cap:Nat),v = .slice a l.length cap/\Sl eUnt T w a l/\l.length<=cap:=by
 obtain ⟨a0,len,cap0,rfl⟩:=okWide_slice Tryz.underlying22 hval
 obtain ⟨n,h⟩:=h
 obtain ⟨a,l,cap,e,hS,hc⟩:=reads_sliceC (E:=eUnt) (t:=22) (e:=38) (by kernel_rfl) (by kernel_rfl) (by decide) (fun n cs y h hb=>by
  obtain ⟨u,a,e,hU⟩:=rd_unit n cs y h hb
  exact ⟨u,a,e,hU⟩) n _ _ h hb
 simp only [Value.cells,List.cons.injEq,and_true] at e
 exact ⟨a,l,cap,e,hS,hc⟩
end
end Go.Proofs.YtkmdfjpafkcleaaGreatDoor
namespace Go.Proofs.YtkmdfjpafkcleaaGreatDoor
open Eng Go.RowKit
structure Nc (b:Nat) (w w':World):Prop where
 os:w'.os=w.os
 tape:w'.tape=w.tape
 output:w'.output=w.output
 size:w.heap.size<=w'.heap.size
 blk:∀ i,i<w.heap.size->i≠b->w'.heap[i]? = w.heap[i]?
theorem Nc.nb {b:Nat} {w w':World} (h:Nc b w w'):Nb b w w':=⟨h.size,h.blk⟩
theorem Nc.of_bl {b:Nat} {w w':World} (h:Bl w w'):Nc b w w':=⟨h.os,h.tape,h.output,h.size,fun i hi _=>h.block i hi⟩
theorem Nc.trans {b:Nat} {w w1 w2:World} (h:Nc b w w1) (k:Nc b w1 w2):Nc b w w2:=⟨k.os.trans h.os,k.tape.trans h.tape,k.output.trans h.output,Nat.le_trans h.size k.size,fun i hi hne=>(k.blk i (Nat.lt_of_lt_of_le hi h.size) hne).trans (h.blk i hi hne)⟩
theorem Nc.bl {b:Nat} {w w1 w2:World} (h:Nc b w w1) (k:Bl w1 w2):Nc b w w2:=h.trans (Nc.of_bl k)
theorem Nc.wr {b c:Nat} {w w1 w2:World} (h:Nc b w w1) (k:Wr w1 c w2) (hc:c=b∨w.heap.size<=c):Nc b w w2 :=
 ⟨k.os.trans h.os,k.tape.trans h.tape,k.output.trans h.output,by rw [k.size];exact h.size,fun i hi hne=>(k.block i (by rcases hc with rfl | hc <;> omega)).trans (h.blk i hi hne)⟩
theorem Nc.ap {b:Nat} {w w1 w2:World} {a:Option Addr} (h:Nc b w w1) (k:Ap w1 a w2) (ha:∀ g,a=some ⟨g,0,none⟩->w.heap.size<=g):Nc b w w2 :=
 ⟨k.os.trans h.os,k.tape.trans h.tape,k.output.trans h.output,Nat.le_trans h.size k.size,fun i hi hne=>(k.block i (Nat.lt_of_lt_of_le hi h.size) fun e=>by have:=ha i e;omega).trans (h.blk i hi hne)⟩
theorem Nc.below {b B:Nat} {w0 w w':World} (h:Below B w0 w) (k:Nc b w w') (hb:B<=b) (hB:B<=w.heap.size):Below B w0 w':=h.trans ⟨k.os,k.tape,k.output,k.size,fun i hi=>k.blk i (by omega) (by omega)⟩
abbrev lcells (u m1 m2 m3 m4 m5 m6 o1 o2 o3 o4 ly:Value):List Value:=[u,m1,m2,m3,m4,m5,m6,o1,o2,o3,o4,ly]
abbrev nilS:Value := .slice none 0 0
abbrev mpv (m:Nat):Value := .map (some m)
structure RowsD (w:World) (base:Nat) (M:Mp Rs):Prop where
 ow:∀ k r,getM M k=some r->OwP 1 encStr w base 9 r.a r.c r.l
 ne:∀ k k' r r',getM M k=some r->getM M k'=some r'->k≠k'->∀ g,r.a=some ⟨g,0,none⟩->r'.a≠some ⟨g,0,none⟩
theorem RowsD.nil (w:World) (base:Nat):RowsD w base []:=⟨fun _ _ h=>(by cases h),fun _ _ _ _ h=>(by cases h)⟩
theorem RowsD.bl {w w':World} {base:Nat} {M:Mp Rs} (h:RowsD w base M) (k:Bl w w'):RowsD w' base M:=⟨fun x r hr=>(h.ow x r hr).bl k,h.ne⟩
theorem RowsD.wr {w w':World} {base m:Nat} {M:Mp Rs} (h:RowsD w base M) (k:Wr w m w') {α:Type} {enc:α->Value} {X:Mp α} (hm:MapIs enc w m X):RowsD w' base M :=
 ⟨fun x r hr=>(h.ow x r hr).wr k fun g hg e=>hm.ow (h.ow x r hr) (by rw [hg,e]),h.ne⟩
theorem RowsD.at0 {w:World} {base:Nat} {M:Mp Rs} (h:RowsD w base M) (k:ByteArray):OwP 1 encStr w base 9 ((getM M k).getD rs0).a ((getM M k).getD rs0).c ((getM M k).getD rs0).l:=by
 cases hg:getM M k with
 | none=>exact Ow.nil ..
 | some r=>exact h.ow k r hg
theorem RowsD.app {w w':World} {base:Nat} {M:Mp Rs} (h:RowsD w base M) (k:ByteArray) {x:ByteArray} {a':Option Addr} {c':Nat} (hA:Ap w ((getM M k).getD rs0).a w') (hO:OwP 1 encStr w' base 9 a' c' (((getM M k).getD rs0).l++[x]))
  (hf:∀ g,a'=some ⟨g,0,none⟩->((getM M k).getD rs0).a=some ⟨g,0,none⟩∨w.heap.size<=g):RowsD w' base (putM M k ⟨a',c',((getM M k).getD rs0).l++[x]⟩):=by
 have hne:∀ k' r',k'≠k->getM M k'=some r'->∀ g,r'.a=some ⟨g,0,none⟩->((getM M k).getD rs0).a≠some ⟨g,0,none⟩:=fun k' r' hk hr g hg=>by
  cases hq:getM M k with
  | none=>intro e;cases e
  | some r=>exact fun e=>h.ne k k' r r' hq hr (fun q=>hk q.symm) g e hg
 have hnew:∀ k' r',k'≠k->getM M k'=some r'->∀ g,r'.a=some ⟨g,0,none⟩->a'≠some ⟨g,0,none⟩:=fun k' r' hk hr g hg e=>by
  rcases hf g e with q | q
  ·exact hne k' r' hk hr g hg q
  ·have:=((h.ow k' r' hr).lt hg).2;omega
 refine ⟨fun k' r hr => ?_,fun k1 k2 r1 r2 h1 h2 hk g hg => ?_⟩
 ·rw [putM_get] at hr
  split at hr
  ·obtain rfl:=Option.some.inj hr;exact hO
  ·rename_i hk
   exact (h.ow k' r hr).apart hA (hne k' r (fun e=>hk e.symm) hr)
 ·rw [putM_get] at h1 h2
  split at h1
  ·rename_i e1
   obtain rfl:=Option.some.inj h1
   split at h2
   ·rename_i e2;exact absurd (e1.symm.trans e2) hk
   ·rename_i e2;exact fun e=>hnew k2 r2 (fun q=>e2 q.symm) h2 g e hg
  ·rename_i e1
   split at h2
   ·obtain rfl:=Option.some.inj h2
    exact hnew k1 r1 (fun q=>e1 q.symm) h1 g hg
   ·exact h.ne k1 k2 r1 r2 h1 h2 hk g hg
structure DcW (w0:World) (b:Nat) (u:Value) (m1 m2 m3 m4 m5 m6:Nat) (D:Dcl) (M:Mp Rs) (N:Nat) (w:World):Prop where
 box:Box w b 88 (lcells u (mpv m1) (mpv m2) (mpv m3) (mpv m4) (mpv m5) (mpv m6) nilS nilS nilS nilS (.map none))
 cl:MapIs encD w m1 D.classes
 st:MapIs encD w m2 D.statics
 ca:MapIs encD w m3 D.calls
 se:MapIs encD w m4 D.sends
 na:MapIs encR w m5 M
 nm:mapV Rs.l M=D.named
 fi:MapIs Value.bool w m6 D.fields
 rw:RowsD w w0.heap.size M
 nd:m1≠m2/\m1≠m3/\m1≠m4/\m1≠m5/\m1≠m6/\m2≠m3/\m2≠m4/\m2≠m5/\m2≠m6/\m3≠m4/\m3≠m5/\m3≠m6/\m4≠m5/\m4≠m6/\m5≠m6
 ge:w0.heap.size<=m1/\w0.heap.size<=m2/\w0.heap.size<=m3/\w0.heap.size<=m4/\w0.heap.size<=m5/\w0.heap.size<=m6
 nc:Nc b w0 w
 ln:∀ p∈D.named,p.2.length<=N
variable {w0 w w':World} {b:Nat} {u:Value} {m1 m2 m3 m4 m5 m6:Nat} {D:Dcl} {M:Mp Rs} {N:Nat}
theorem DcW.bl (h:DcW w0 b u m1 m2 m3 m4 m5 m6 D M N w) (k:Bl w w'):DcW w0 b u m1 m2 m3 m4 m5 m6 D M N w' :=
 ⟨Bl.box k h.box,h.cl.bl k,h.st.bl k,h.ca.bl k,h.se.bl k,h.na.bl k,h.nm,h.fi.bl k,h.rw.bl k,h.nd,h.ge,h.nc.bl k,h.ln⟩
theorem DcW.cls (h:DcW w0 b u m1 m2 m3 m4 m5 m6 D M N w) (k:Wr w m1 w') {X:Mp (Nat×Nat)} (hX:MapIs encD w' m1 X):DcW w0 b u m1 m2 m3 m4 m5 m6 { D with classes:=X } M N w':=by
 obtain ⟨n1,n2,n3,n4,n5,n6,n7,n8,n9,n10,n11,n12,n13,n14,n15⟩:=h.nd
 exact ⟨k.box h.box (h.cl.ne h.box).symm,hX,h.st.wr k n1.symm,h.ca.wr k n2.symm,h.se.wr k n3.symm,h.na.wr k n4.symm,h.nm,h.fi.wr k n5.symm,h.rw.wr k h.cl,h.nd,h.ge,h.nc.wr k (.inr h.ge.1),h.ln⟩
theorem DcW.sta (h:DcW w0 b u m1 m2 m3 m4 m5 m6 D M N w) (k:Wr w m2 w') {X:Mp (Nat×Nat)} (hX:MapIs encD w' m2 X):DcW w0 b u m1 m2 m3 m4 m5 m6 { D with statics:=X } M N w':=by
 obtain ⟨n1,n2,n3,n4,n5,n6,n7,n8,n9,n10,n11,n12,n13,n14,n15⟩:=h.nd
 exact ⟨k.box h.box (h.st.ne h.box).symm,h.cl.wr k n1,hX,h.ca.wr k n6.symm,h.se.wr k n7.symm,h.na.wr k n8.symm,h.nm,h.fi.wr k n9.symm,h.rw.wr k h.st,h.nd,h.ge,h.nc.wr k (.inr h.ge.2.1),h.ln⟩
theorem DcW.cal (h:DcW w0 b u m1 m2 m3 m4 m5 m6 D M N w) (k:Wr w m3 w') {X:Mp (Nat×Nat)} (hX:MapIs encD w' m3 X):DcW w0 b u m1 m2 m3 m4 m5 m6 { D with calls:=X } M N w':=by
 obtain ⟨n1,n2,n3,n4,n5,n6,n7,n8,n9,n10,n11,n12,n13,n14,n15⟩:=h.nd
 exact ⟨k.box h.box (h.ca.ne h.box).symm,h.cl.wr k n2,h.st.wr k n6,hX,h.se.wr k n10.symm,h.na.wr k n11.symm,h.nm,h.fi.wr k n12.symm,h.rw.wr k h.ca,h.nd,h.ge,h.nc.wr k (.inr h.ge.2.2.1),h.ln⟩
theorem DcW.sen (h:DcW w0 b u m1 m2 m3 m4 m5 m6 D M N w) (k:Wr w m4 w') {X:Mp (Nat×Nat)} (hX:MapIs encD w' m4 X):DcW w0 b u m1 m2 m3 m4 m5 m6 { D with sends:=X } M N w':=by
 obtain ⟨n1,n2,n3,n4,n5,n6,n7,n8,n9,n10,n11,n12,n13,n14,n15⟩:=h.nd
 exact ⟨k.box h.box (h.se.ne h.box).symm,h.cl.wr k n3,h.st.wr k n7,h.ca.wr k n10,hX,h.na.wr k n13.symm,h.nm,h.fi.wr k n14.symm,h.rw.wr k h.se,h.nd,h.ge,h.nc.wr k (.inr h.ge.2.2.2.1),h.ln⟩
theorem DcW.fld (h:DcW w0 b u m1 m2 m3 m4 m5 m6 D M N w) (k:Wr w m6 w') {X:Mp Bool} (hX:MapIs Value.bool w' m6 X):DcW w0 b u m1 m2 m3 m4 m5 m6 { D with fields:=X } M N w':=by
 obtain ⟨n1,n2,n3,n4,n5,n6,n7,n8,n9,n10,n11,n12,n13,n14,n15⟩:=h.nd
 exact ⟨k.box h.box (h.fi.ne h.box).symm,h.cl.wr k n5,h.st.wr k n9,h.ca.wr k n12,h.se.wr k n14,h.na.wr k n15,h.nm,hX,h.rw.wr k h.fi,h.nd,h.ge,h.nc.wr k (.inr h.ge.2.2.2.2.2),h.ln⟩
theorem putM_mem {α:Type}:∀ {m:Mp α} {k:ByteArray} {v:α} {p:ByteArray×α},p∈putM m k v->p=(k,v)∨p∈m
 | [],_,_,_,h => .inl (by simpa [putM] using h)
 | (k0,v0)::m,k,v,p,h=>by
  simp only [putM] at h
  split at h
  ·rcases List.mem_cons.1 h with e | h
   ·exact .inl e
   ·exact .inr (List.mem_cons_of_mem _ h)
  ·rcases List.mem_cons.1 h with e | h
   ·exact .inr (by rw [e];exact List.mem_cons_self ..)
   ·rcases putM_mem h with e | e
    ·exact .inl e
    ·exact .inr (List.mem_cons_of_mem _ e)
theorem DcW.nam {w1:World} (h:DcW w0 b u m1 m2 m3 m4 m5 m6 D M N w) (key:ByteArray) {x:ByteArray} {a':Option Addr} {c':Nat} (hA:Ap w ((getM M key).getD rs0).a w1) (hO:OwP 1 encStr w1 w0.heap.size 9 a' c' (((getM M key).getD rs0).l++[x]))
  (hf:∀ g,a'=some ⟨g,0,none⟩->((getM M key).getD rs0).a=some ⟨g,0,none⟩∨w.heap.size<=g) (k:Wr w1 m5 w') (hX:MapIs encR w' m5 (putM M key ⟨a',c',((getM M key).getD rs0).l++[x]⟩)) :
  DcW w0 b u m1 m2 m3 m4 m5 m6 { D with named:=putM D.named key ((getM D.named key).getD []++[x]) } (putM M key ⟨a',c',((getM M key).getD rs0).l++[x]⟩) (N+1) w':=by
 obtain ⟨n1,n2,n3,n4,n5,n6,n7,n8,n9,n10,n11,n12,n13,n14,n15⟩:=h.nd
 have o:=h.rw.at0 key
 have hl:=named_at h.nm key
 have na1:=h.na.ap hA (h.na.ow o)
 have box1:=hA.box h.box (o.nbox h.box (by decide))
 refine ⟨k.box box1 (na1.ne box1).symm,(h.cl.ap hA (h.cl.ow o)).wr k n4,(h.st.ap hA (h.st.ow o)).wr k n8,(h.ca.ap hA (h.ca.ow o)).wr k n11,(h.se.ap hA (h.se.ow o)).wr k n13,hX,?_,(h.fi.ap hA (h.fi.ow o)).wr k n15.symm,
  (h.rw.app key hA hO hf).wr k na1,h.nd,h.ge,(h.nc.ap hA fun g hg=>(o.lt hg).1).wr k (.inr h.ge.2.2.2.2.1),fun p hp => ?_⟩
 ·rw [<-putM_mapV,h.nm,hl]
 ·rcases putM_mem hp with rfl | hp
  ·have:((getM D.named key).getD []).length<=N:=by
    cases hg:getM D.named key with
    | none=>exact Nat.zero_le _
    | some l=>exact h.ln _ (getM_mem hg)
   simp only [List.length_append,List.length_cons,List.length_nil];omega
  ·have:=h.ln p hp;omega
end Go.Proofs.YtkmdfjpafkcleaaGreatDoor
