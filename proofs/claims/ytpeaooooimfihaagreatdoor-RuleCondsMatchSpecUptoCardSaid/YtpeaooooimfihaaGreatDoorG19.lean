/-
Plain law: the order of versions and cuts is a total one.
The abstract machine, part 20: slices.SortFunc.
Cuts in order.
Plain law: the sweep over cuts in order; a cut that comes twice changes nothing.
Plain law: two ranges put together.
The abstract machine: functions that return a slice of their own, arguments and elements taken for what they stand for.
slices.SortFunc at cuts off the kit's shelf, at this program (turned from the text for spans).
-/
import Derived.Test.YtpeaooooimfihaaGreatDoorG16
import Derived.Test.YtpeaooooimfihaaGreatDoorG9
import Derived.Shelf.SlSortCmp.InsertionK
import Derived.Sort.AssemblyPlain
import Derived.Test.YtpeaooooimfihaaGreatDoorG18
import Derived.Test.YtpeaooooimfihaaGreatDoorG10
import Derived.Shelf.SlSortCmp.WholeK
import Derived.Shelf.SlSortCmp.NoneTotal
import Derived.Test.YtpeaooooimfihaaGreatDoorProg
set_option maxRecDepth 8000
namespace Go.Proofs.YtpeaooooimfihaaGreatDoor
open Go.Proofs.Tryz
open Go.RowKit Go.AM
structure TO {α:Type} (c:α→α→Int):Prop where
 refl:∀x,c x x=0
 flip:∀x y,c x y<0↔0<c y x
 tr:∀x y z,c x y≤0→c y z≤0→c x z≤0
theorem TO.le {α:Type} {c:α→α→Int} (h:TO c) (x y:α):c x y≤0↔0≤c y x:=by
 have:=h.flip y x
 omega
theorem TO.eq {α:Type} {c:α→α→Int} (h:TO c) (x y:α):c x y=0↔c y x=0:=by
 have h1:=h.flip y x
 have h2:=h.flip x y
 omega
theorem TO.trans {α:Type} {c:α→α→Int} (h:TO c) {x y z:α} (h1:c x y<0) (h2:c y z<0):c x z<0:=by
 have h3:=h.tr x y z (by omega) (by omega)
 rcases Int.lt_or_eq_of_le h3 with h4 | h4
 ·exact h4
 ·have h5:=(h.eq x z).1 h4
  have h6:=h.tr z x y (by omega) (by omega)
  have:=(h.flip y z).1 h2
  omega
theorem TO.ntrans {α:Type} {c:α→α→Int} (h:TO c) {x y z:α} (h1:0≤c x y) (h2:0≤c y z):0≤c x z :=
 (h.le z x).1 (h.tr z y x ((h.le z y).2 h2) ((h.le y x).2 h1))
theorem TO.pull {α β:Type} {c:β→β→Int} (h:TO c) (f:α→β):TO fun x y=>c (f x) (f y):=⟨fun _=>h.refl _,fun _ _=>h.flip _ _,fun _ _ _=>h.tr _ _ _⟩
def lexC {α:Type} (c d:α→α→Int) (x y:α):Int:=if c x y=0 then d x y else c x y
theorem TO.lex {α:Type} {c d:α→α→Int} (hc:TO c) (hd:TO d):TO (lexC c d) where
 refl x:=by simp[lexC,hc.refl,hd.refl]
 flip x y:=by
  unfold lexC
  have h1:=hc.flip x y
  have h2:=hc.flip y x
  have h3:=hd.flip x y
  by_cases h:c x y=0
  ·rw[if_pos h,if_pos ((hc.eq x y).1 h)];exact h3
  ·rw[if_neg h,if_neg (fun e=>h ((hc.eq x y).2 e))];exact h1
 tr x y z:=by
  unfold lexC
  intro h1 h2
  by_cases a:c x y=0<;>by_cases b:c y z=0
  ·rw[if_pos a] at h1
   rw[if_pos b] at h2
   have e1:=hc.tr x y z (by omega) (by omega)
   have e2:=hc.tr z y x (by have:=(hc.eq y z).1 b;omega) (by have:=(hc.eq x y).1 a;omega)
   have e3:=(hc.le z x).1 e2
   rw[if_pos (by omega)]
   exact hd.tr x y z h1 h2
  ·rw[if_neg b] at h2
   have e1:=hc.tr x y z (by omega) h2
   by_cases e:c x z=0
   ·exfalso
    have e2:=hc.tr z x y (by have:=(hc.eq x z).1 e;omega) (by omega)
    have:=(hc.flip y z).1 (by omega)
    omega
   ·rw[if_neg e];exact e1
  ·rw[if_neg a] at h1
   have e1:=hc.tr x y z h1 (by omega)
   by_cases e:c x z=0
   ·exfalso
    have e2:=hc.tr y z x (by omega) (by have:=(hc.eq x z).1 e;omega)
    have:=(hc.flip x y).1 (by omega)
    omega
   ·rw[if_neg e];exact e1
  ·rw[if_neg a] at h1
   rw[if_neg b] at h2
   have:=hc.trans (x:=x) (y:=y) (z:=z) (by omega) (by omega)
   rw[if_neg (by omega)]
   omega
theorem TO.zero {α:Type}:TO fun (_ _:α)=>(0:Int):=⟨fun _=>rfl,fun _ _=>by simp,fun _ _ _ _ _=>Int.le_refl _⟩
theorem lexL_to {α:Type} {c:α→α→Int} (h:TO c):TO (lexL c) where
 refl l:=by
  induction l with
  | nil=>rfl
  | cons x l ih=>simp[lexL,h.refl,ih]
 flip a b:=by
  induction a generalizing b with
  | nil=>cases b<;>simp[lexL]
  | cons x a ih =>
    cases b with
    | nil=>simp[lexL]
    | cons y b =>
      simp only[lexL]
      by_cases e:c x y=0
      ·rw[if_pos e,if_pos ((h.eq x y).1 e)];exact ih b
      ·rw[if_neg e,if_neg (fun e'=>e ((h.eq x y).2 e'))];exact h.flip x y
 tr a b d:=by
  induction a generalizing b d with
  | nil=>cases d<;>simp[lexL]
  | cons x a ih =>
    cases b with
    | nil=>simp[lexL]
    | cons y b =>
      cases d with
      | nil=>simp[lexL]
      | cons z d =>
        simp only[lexL]
        intro h1 h2
        by_cases p:c x y=0<;>by_cases q:c y z=0
        ·rw[if_pos p] at h1
         rw[if_pos q] at h2
         have e1:=h.tr x y z (by omega) (by omega)
         have e2:=h.tr z y x (by have:=(h.eq y z).1 q;omega) (by have:=(h.eq x y).1 p;omega)
         have e3:=(h.le z x).1 e2
         rw[if_pos (by omega)]
         exact ih b d h1 h2
        ·rw[if_neg q] at h2
         have e1:=h.tr x y z (by omega) h2
         by_cases e:c x z=0
         ·exfalso
          have e2:=h.tr z x y (by have:=(h.eq x z).1 e;omega) (by omega)
          have:=(h.flip y z).1 (by omega)
          omega
         ·rw[if_neg e];exact e1
        ·rw[if_neg p] at h1
         have e1:=h.tr x y z h1 (by omega)
         by_cases e:c x z=0
         ·exfalso
          have e2:=h.tr y z x (by omega) (by have:=(h.eq x z).1 e;omega)
          have:=(h.flip x y).1 (by omega)
          omega
         ·rw[if_neg e];exact e1
        ·rw[if_neg p] at h1
         rw[if_neg q] at h2
         have:=h.trans (x:=x) (y:=y) (z:=z) (by omega) (by omega)
         rw[if_neg (by omega)]
         omega
theorem cmpI_to:TO cmpI:=⟨fun x=>by simp[cmpI],fun x y=>by unfold cmpI;split<;>split<;>(try split)<;>omega,fun x y z=>by unfold cmpI;repeat' split<;>omega⟩
theorem cmpB_lex:∀a b:List UInt8,cmpB a b=lexL (fun x y:UInt8=>cmpI x.toNat y.toNat) a b
 | [],[]=>rfl
 | [],_::_=>rfl
 | _::_,[]=>rfl
 | x::a,y::b=>by
   have ih:=cmpB_lex a b
   simp only[lexL]
   unfold cmpB at ih ⊢
   simp only[Lib.compareBytes]
   rcases Nat.lt_trichotomy x.toNat y.toNat with h | h | h
   ·have h1:x<y:=h
    have e:cmpI x.toNat y.toNat=-1:=by unfold cmpI;rw[if_pos (by omega)]
    simp[h1,e]
   ·have e:cmpI x.toNat y.toNat=0:=by unfold cmpI;rw[if_neg (by omega),if_neg (by omega)]
    have h1:¬x<y:=by show ¬x.toNat<y.toNat;omega
    have h2:¬y<x:=by show ¬y.toNat<x.toNat;omega
    simp[h1,h2,e,ih]
   ·have h1:¬x<y:=by show ¬x.toNat<y.toNat;omega
    have h2:y<x:=h
    have e:cmpI x.toNat y.toNat=1:=by unfold cmpI;rw[if_neg (by omega),if_pos (by omega)]
    simp[h1,h2,e]
theorem cmpB_to:TO cmpB:=by
 have:cmpB=lexL (fun x y:UInt8=>cmpI x.toNat y.toNat):=by funext a b;exact cmpB_lex a b
 rw[this]
 exact lexL_to (cmpI_to.pull fun x:UInt8=>(x.toNat:Int))
noncomputable def preKey (a:List UInt8):Int×Int×List UInt8×List UInt8:=if yP a=true then (0,(Lib.trimLeftB a 48).length,Lib.trimLeftB a 48,[]) else (1,0,[],a)
theorem cmpPreB_key (a b:List UInt8):zT a b=lexC (fun x y=>cmpI x.1 y.1) (lexC (fun x y=>cmpI x.2.1 y.2.1) (lexC (fun x y=>cmpB x.2.2.1 y.2.2.1) fun x y=>cmpB x.2.2.2 y.2.2.2)) (preKey a) (preKey b):=by
 unfold zT preKey lexC
 have r:=cmpB_to.refl []
 have r1:cmpI 0 0=0:=rfl
 have r2:cmpI 1 1=0:=rfl
 by_cases h1:yP a=true<;>by_cases h2:yP b=true
 ·simp only[h1,h2,if_true,r1,r,orL]
 ·simp[h1,h2,cmpI]
 ·simp[h1,h2,cmpI]
 ·simp[h1,h2,r1,r2,r]
theorem cmpPreB_to:TO zT:=by
 have:zT=fun a b=>lexC (fun x y=>cmpI x.1 y.1) (lexC (fun x y=>cmpI x.2.1 y.2.1) (lexC (fun x y=>cmpB x.2.2.1 y.2.2.1) fun x y=>cmpB x.2.2.2 y.2.2.2)) (preKey a) (preKey b):=by funext a b;exact cmpPreB_key a b
 rw[this]
 exact TO.pull (TO.lex (cmpI_to.pull fun x:Int×Int×List UInt8×List UInt8=>x.1) (TO.lex (cmpI_to.pull fun x:Int×Int×List UInt8×List UInt8=>x.2.1) (TO.lex (cmpB_to.pull fun x:Int×Int×List UInt8×List UInt8=>x.2.2.1) (cmpB_to.pull fun x:Int×Int×List UInt8×List UInt8=>x.2.2.2)))) preKey
def preNo (v:Ver):Int:=if v.pre.length=0 then 1 else 0
theorem cmpV_lex (v w:Ver):cmpV v w=lexC (fun x y=>cmpI x.a y.a) (lexC (fun x y=>cmpI x.b y.b) (lexC (fun x y=>cmpI x.c y.c) (lexC (fun x y=>cmpI (preNo x) (preNo y)) fun x y=>lexL zT x.pre y.pre))) v w:=by
 unfold cmpV lexC
 by_cases h1:cmpI v.a w.a=0
 ·by_cases h2:cmpI v.b w.b=0
  ·by_cases h3:cmpI v.c w.c=0
   ·simp only[orL,h1,h2,h3,if_true]
    by_cases p:v.pre.length=0<;>by_cases q:w.pre.length=0
    ·have e1:v.pre=[]:=List.length_eq_zero_iff.1 p
     have e2:w.pre=[]:=List.length_eq_zero_iff.1 q
     simp[preNo,p,q,cmpI,e1,e2,lexL]
    ·simp[preNo,p,q,cmpI]
    ·simp[preNo,p,q,cmpI]
    ·simp[preNo,p,q,cmpI]
   ·simp[orL,h1,h2,h3]
  ·simp[orL,h1,h2]
 ·simp[orL,h1]
theorem cmpV_to:TO cmpV:=by
 have:cmpV=lexC (fun x y=>cmpI x.a y.a) (lexC (fun x y=>cmpI x.b y.b) (lexC (fun x y=>cmpI x.c y.c) (lexC (fun x y=>cmpI (preNo x) (preNo y)) fun x y=>lexL zT x.pre y.pre))):=by funext a b;exact cmpV_lex a b
 rw[this]
 exact TO.lex (cmpI_to.pull fun x:Ver=>x.a) (TO.lex (cmpI_to.pull fun x:Ver=>x.b) (TO.lex (cmpI_to.pull fun x:Ver=>x.c) (TO.lex (cmpI_to.pull preNo) ((lexL_to cmpPreB_to).pull fun x:Ver=>x.pre))))
def aftI (c:Cut):Int:=if c.after=true then 1 else 0
theorem cmpC_lex (a b:Cut):cmpC a b=lexC (fun x y=>cmpV x.v y.v) (fun x y=>cmpI (aftI x) (aftI y)) a b:=by
 unfold cmpC lexC
 by_cases h:cmpV a.v b.v=0
 ·simp only[h,if_true]
  cases ha:a.after<;>cases hb:b.after<;>simp[aftI,ha,hb,cmpI]
 ·simp[h]
theorem cmpC_to:TO cmpC:=by
 have:cmpC=lexC (fun x y=>cmpV x.v y.v) (fun x y=>cmpI (aftI x) (aftI y)):=by funext a b;exact cmpC_lex a b
 rw[this]
 exact TO.lex (cmpV_to.pull fun x:Cut=>x.v) (cmpI_to.pull aftI)
end Go.Proofs.YtpeaooooimfihaaGreatDoor
namespace Go.AM
open Go.RowKit Go.Sort Go.Proofs
variable {dr:Prop}
def elAt (xs:List (List PV)) (i:Nat):List PV:=xs.getD (if i<xs.length then i else 0) []
theorem wd {xs:List (List PV)} (h:xs≠[]) (i:Nat):elAt xs i∈xs:=by
 have h0:0<xs.length:=List.length_pos_iff.2 h
 have hl:(if i<xs.length then i else 0)<xs.length:=by split<;>assumption
 unfold elAt
 rw[List.getD_eq_getElem?_getD,List.getElem?_eq_getElem hl]
 exact List.getElem_mem _
theorem elAt_get {xs:List (List PV)} {i:Nat} (h:i<xs.length):elAt xs i=xs[i]:=by
 unfold elAt
 rw[if_pos h,List.getD_eq_getElem?_getD,List.getElem?_eq_getElem h]
 rfl
def cfAt (cf:List PV→List PV→Int) (xs:List (List PV)) (i j:Nat):Int:=cf (elAt xs i) (elAt xs j)
def yF (cf:List PV→List PV→Int) (xs:List (List PV)):Array Nat:=pdq (ltOf (cfAt cf xs)) (Array.range xs.length) 0 xs.length (Lib.bitLen xs.length) true true
def vp (cf:List PV→List PV→Int) (xs:List (List PV)):List (List PV):=if xs.length=0 then [] else (yF cf xs).toList.map (elAt xs)
structure WeakOn (cf:List PV→List PV→Int) (xs:List (List PV)):Prop where
 irrefl:∀x∈xs,0≤cf x x
 trans:∀x∈xs,∀y∈xs,∀z∈xs,cf x y<0→cf y z<0→cf x z<0
 ntrans:∀x∈xs,∀y∈xs,∀z∈xs,0≤cf x y→0≤cf y z→0≤cf x z
section
variable {cf:List PV→List PV→Int} {xs:List (List PV)}
theorem lt_true {i j:Nat} (h:ltOf (cfAt cf xs) i j=true):cf (elAt xs i) (elAt xs j)<0:=of_decide_eq_true h
theorem lt_false {i j:Nat} (h:ltOf (cfAt cf xs) i j=false):0≤cf (elAt xs i) (elAt xs j):=Int.not_lt.1 (of_decide_eq_false h)
theorem lt_intro {i j:Nat} (h:cf (elAt xs i) (elAt xs j)<0):ltOf (cfAt cf xs) i j=true:=decide_eq_true h
theorem lt_none {i j:Nat} (h:0≤cf (elAt xs i) (elAt xs j)):ltOf (cfAt cf xs) i j=false:=decide_eq_false (Int.not_lt.2 h)
theorem WeakOn.swo (h:WeakOn cf xs) (hx:xs≠[]):SWO (ltOf (cfAt cf xs)) where
 irrefl i:=lt_none (h.irrefl _ (wd hx i))
 trans i j k h1 h2:=lt_intro (h.trans _ (wd hx i) _ (wd hx j) _ (wd hx k) (lt_true h1) (lt_true h2))
 ntrans i j k h1 h2:=lt_none (h.ntrans _ (wd hx i) _ (wd hx j) _ (wd hx k) (lt_false h1) (lt_false h2))
theorem vq (h:WeakOn cf xs) (hx:xs≠[]):PermIn 0 xs.length (Array.range xs.length) (yF cf xs)∧SortedIn (ltOf (cfAt cf xs)) 0 xs.length (yF cf xs) :=
 pdq_sorts (ltOf (cfAt cf xs)) (h.swo hx) (Array.range xs.length) 0 xs.length (Lib.bitLen xs.length) true true (Nat.zero_le _) (by simp) (Or.inl rfl)
theorem vr (h:WeakOn cf xs) (hx:xs≠[]):(yF cf xs).size=xs.length:=by
 have:=(vq h hx).1.1
 simpa using this
theorem sortL_perm (h:WeakOn cf xs):(vp cf xs).Perm xs:=by
 unfold vp
 split
 ·rename_i h0
  have:xs=[]:=List.length_eq_zero_iff.1 h0
  subst this
  exact .refl _
 ·rename_i h0
  have hx:xs≠[]:=by rintro rfl;simp at h0
  obtain⟨h1,_,h3⟩:=(vq h hx).1
  have hs:=vr h hx
  have e1:(yF cf xs).extract 0 xs.length=yF cf xs:=by rw[←hs];simp
  have e2:(Array.range xs.length).extract 0 xs.length=Array.range xs.length:=by
   conv=>lhs;rw[show xs.length=(Array.range xs.length).size by simp]
   simp
  rw[e1,e2] at h3
  have h4:=h3.map (elAt xs)
  have e3:(Array.range xs.length).toList.map (elAt xs)=xs:=by
   apply List.ext_getElem
   ·simp
   ·intro i hi hi'
    simp[elAt_get hi']
  rw[e3] at h4
  exact h4
theorem sortL_sorted (h:WeakOn cf xs):(vp cf xs).Pairwise (fun x y=>0≤cf y x):=by
 unfold vp
 split
 ·exact List.Pairwise.nil
 ·rename_i h0
  have hx:xs≠[]:=by rintro rfl;simp at h0
  have hs:=vr h hx
  have h2:=(vq h hx).2
  rw[List.pairwise_map,List.pairwise_iff_getElem]
  intro i j hi hj hij
  have h3:=h2 i j (Nat.zero_le _) hij (by simp at hj;omega)
  simp at hi hj
  rw[getElem!_pos _ i hi,getElem!_pos _ j hj] at h3
  simpa using lt_false h3
theorem sortL_length (h:WeakOn cf xs):(vp cf xs).length=xs.length:=(sortL_perm h).length_eq
end
def SortOk (P:Program) (f k:Nat):Prop :=
 (∀(α:Type) [Inhabited α] (enc:α→List Value) (_:∀x,(enc x).length=k) (_:∀x,∀v∈enc x,v.oneCell'=true) (cf:α→α→Int) (_:SWO (ltOf cf)) (g:Nat) (blk off cap:Nat) (d:Array α) (w:World)
  (_:∀args w,(callFunc g args).run P w=.ok (.enter g args) w) (_:CmpLays P g #[] enc k cf blk off d.size w) (_:HoldsK enc k w blk off d) (_:blk<w.heap.size) (_:d.size<4611686018427387904),
  Calls P f #[.slice (some ⟨blk,off,none⟩) d.size cap,.func (.func g) #[] #[]] w fun e w' =>
   e=.returned (.tuple #[])∧∃n os,w'=sortWorldK enc k w blk off n (pdq (ltOf cf) d 0 d.size (Lib.bitLen d.size) true true) os) ∧
 ∀(p:Option Addr) (cap:Nat) (fv:Value) (w:World),Calls P f #[.slice p 0 cap,fv] w fun e w'=>e=.returned (.tuple #[])∧w'=w
def CmpOk (P:Program) (g k:Nat) (cf:List PV→List PV→Int) (dom:List PV→Prop):Prop :=
 (∀args w,(callFunc g args).run P w=.ok (.enter g args) w)∧∃spec,za P g spec∧∀x y,x.length=k→y.length=k→dom x→dom y→spec [.agg x,.agg y] (fun _=>none) 0=some (.v (.int .i64 (cf x y)),fun _=>none,0)
open Classical in
noncomputable def hSort (k:Nat) (g:Nat) (cf:List PV→List PV→Int) (dom:List PV→Prop):AM.Spec:=fun args hp nx =>
 match args with
 | [.nil,.fn _ _ _]=>some (.tup [],hp,nx)
 | [.own id off n,.fn (.func g') [] []]=>if n=0 then some (.tup [],hp,nx) else match hp id with
   | some b=>if g'=g∧b.arr=true∧b.s=k∧off+n≤b.es.length∧n<4611686018427387904∧WeakOn cf ((b.es.drop off).take n)∧∀x∈(b.es.drop off).take n,dom x then
     some (.tup [],upd hp id (some ⟨b.e,b.s,b.arr,b.es.take off++vp cf ((b.es.drop off).take n)++b.es.drop (off+n)⟩),nx) else none
   | none=>none
 | _=>none
theorem grow_of_fr {W w':World} (h:Fr True W (fun _=>False) w'):∃q os',w'=grow (W.drewN q) os':=by
 refine⟨w'.drawn - W.drawn,w'.heap.extract W.heap.size w'.heap.size,?_⟩
 obtain⟨heap,tape,drawn,os,output⟩:=w'
 obtain⟨h1,h2,h3,h4,h5,h6⟩:=h
 simp only at h1 h2 h3 h4 h5 h6
 unfold grow World.drewN
 simp only[World.mk.injEq]
 refine⟨?_,h2,by have:=h5 trivial;omega,h1,h3⟩
 apply Array.ext_getElem?
 intro i
 by_cases hi:i<W.heap.size
 ·rw[h6 i hi (fun h=>h),Array.getElem?_append_left hi]
 ·rw[Array.getElem?_append_right (by omega),Array.getElem?_extract]
  by_cases hj:i<heap.size
  ·rw[if_pos (by omega)];congr 1;omega
  ·rw[if_neg (by omega),Array.getElem?_eq_none (by omega)]
theorem Stp.grown {P:Program} {hp:Hp} {nx:Nat} {S:Nat→Prop} {G:Nat→GI} {w w':World} (h:Inv P w S G hp nx) (fr:Fr dr w (fun _=>False) w'):Stp dr P hp nx S G w hp nx S G w':=by
 have hS:∀b,b<w.heap.size→w'.heap[b]?=w.heap[b]?:=fun b hb=>fr.block b hb (fun h=>h)
 refine⟨⟨fun b hb=>Nat.lt_of_lt_of_le (h.st b hb) fr.size,h.top,fun id b hb=>?_,h.apart,h.inj,h.glo.mono fun b hb=>⟨hb,hS b (h.st b hb)⟩⟩,Nat.le_refl _,fun _ _=>rfl,fun _ hb=>hb,fun _ hb=>.inl hb,fun id b hb=>.inl ⟨id,b,hb,rfl⟩,⟨fr.os,fr.tape,fr.output,fr.size,fr.drawn,fun k hk _=>fr.block k hk (fun h=>h)⟩⟩
 have hl:=h.live id b hb
 exact hl.mono (fun b hb=>⟨hb,hS b (h.st b hb)⟩) (Nat.le_refl _) (fun _ _=>rfl) (hS _ hl.lt)
theorem vt {α:Type} [Inhabited α] (enc:α→List Value) (k:Nat) (w:World) (blk off m:Nat) (d:Array α) (os:Array Obj):Fr dr (putRowK enc k w blk off d) (fun _=>False) (sortWorldK enc k w blk off m d os):=by
 refine⟨rfl,rfl,rfl,?_,fun _=>?_,fun b hb _=>?_⟩
 ·show _≤(_++os).size
  rw[Array.size_append]
  exact Nat.le_add_right _ _
 ·exact Nat.le_add_right _ _
 ·exact Array.getElem?_append_left hb
theorem yQ {α:Type} [Inhabited α] (enc:α→List Value) (k:Nat) (w:World) (blk off:Nat) (d:Array α) {cur:Array Value} {e:TypeId} (h:w.heap[blk]?=some (.cells cur e (0,0))) :
  putRowK enc k w blk off d=w.setRow blk (putCells (fun v:Value=>v) off (flatK enc k d) cur):=by
 unfold putRowK putRow mapBlock World.setRow
 congr 1
 apply Array.ext_getElem?
 intro i
 simp only[Array.getElem?_modify]
 by_cases hi:blk=i
 ·subst hi
  simp only[if_true,h,Option.map_some,onCells]
  rfl
 ·simp[hi]
section
variable {P:Program} {f k g:Nat} {cf:List PV→List PV→Int} {dom:List PV→Prop}
theorem hSort_sound (h0:0<k) (hfn:∃fn,P.funcs[f]?=some fn∧(fn.name== "runtime.NumGoroutine")=false∧fn.body.isNone=false) (hso:SortOk P f k) (hco:CmpOk P g k cf dom):SpecD dr P f (hSort k g cf dom):=by
 refine⟨hfn,?_⟩
 intro args hp nx r hp' nx' h w S G vs hi hz
 unfold hSort at h
 split at h
 ·injection h with h
  injection h with e1 h
  injection h with e2 e3
  subst e1;subst e2;subst e3
  obtain⟨u,us,rfl,hu,hz'⟩:=hz.uncons
  obtain⟨v,us,rfl,hv,hz'⟩:=hz'.uncons
  obtain rfl:=hz'.unnil
  obtain rfl:=hu.nil_inv
  refine (hso.2 none 0 v w).mono fun e w' hh=>?_
  obtain⟨rfl,rfl⟩:=hh
  exact⟨_,_,_,rfl,.refl hi,ww⟩
 ·rename_i id off n g'
  obtain⟨u,us,rfl,hu,hz'⟩:=hz.uncons
  obtain⟨v,us,rfl,hv,hz'⟩:=hz'.uncons
  obtain rfl:=hz'.unnil
  have hop:=hu.own_pos
  obtain⟨cap,g1,g2,g3,g4,rfl⟩:=hu.own_inv
  split at h
  ·rename_i hn0
   subst hn0
   injection h with h
   injection h with e1 h
   injection h with e2 e3
   subst e1;subst e2;subst e3
   refine (hso.2 _ cap v w).mono fun e w' hh=>?_
   obtain⟨rfl,rfl⟩:=hh
   exact⟨_,_,_,rfl,.refl hi,ww⟩
  rename_i hn0
  split at h
  case h_2=>cases h
  rename_i b hb
  split at h
  case isFalse=>cases h
  rename_i hc
  obtain⟨rfl,harr,hbk,hfit,hn,hW,hdom⟩:=hc
  injection h with h
  injection h with e1 h
  injection h with e2 e3
  subst e1;subst e2;subst e3
  have hbr:=hi.live id b hb
  obtain⟨us,ts,rfl,hus,hts,_,_⟩:=hv.fn_inv
  obtain rfl:us=#[]:=Array.eq_empty_of_size_eq_zero (by simpa using hus.symm)
  obtain rfl:ts=#[]:=Array.eq_empty_of_size_eq_zero (by simpa using hts.symm)
  have hgs:(G id).s=k:=by rw[←hbr.bs];exact hbk
  obtain⟨cur,c1,c2,c3⟩:=hbr.row hop
  rw[hgs] at c3 g4
  obtain⟨xs,hxs⟩:∃xs,(b.es.drop off).take n=xs:=⟨_,rfl⟩
  rw[hxs] at hW hdom
  have hxl:xs.length=n:=by rw[←hxs];simp;omega
  have hx:xs≠[]:=by rintro rfl;simp at hxl;omega
  have hxk:∀x∈xs,x.length=k:=fun x hx=>by
   rw[←hgs];rw[←hxs] at hx
   exact hbr.len hop x (List.mem_of_mem_drop (List.mem_of_mem_take hx))
  have hxg:∀i,i<n→xs[i]?=b.es[off+i]?:=fun i hi=>by
   rw[←hxs,List.getElem?_take,if_pos hi,List.getElem?_drop]
  let ix:Nat→Nat:=fun i=>if i<n then i else 0
  have hix:∀i,ix i<n:=fun i=>by show (if i<n then i else 0)<n;split<;>omega
  have hel:∀i,xs[ix i]?=some (elAt xs i):=fun i=>by
   unfold elAt
   rw[List.getD_eq_getElem?_getD]
   show xs[if i<n then i else 0]?=_
   have:(if i<n then i else 0)<xs.length:=by rw[hxl];exact hix i
   rw[hxl,List.getElem?_eq_getElem this]
   rfl
  let enc:Nat→List Value:=fun i=>(List.range k).map fun j=>(cur[(off+ix i)*k+j]?).getD undef
  have hek:∀x,(enc x).length=k:=fun x=>by simp[enc]
  have hcell:∀i j pv,(elAt xs i)[j]?=some pv→∃u,cur[(off+ix i)*k+j]?=some u∧(enc i)[j]?=some u∧RepC w S pv u∧u.oneCell'=true:=fun i j pv hj=>by
   have hlj:j<k:=by
    have:=(List.getElem?_eq_some_iff.1 hj).1
    rw[hxk _ (wd hx i)] at this
    exact this
   obtain⟨u,q1,q2⟩:=c3 (off+ix i) j (elAt xs i) pv (by rw[←hxg _ (hix i)];exact hel i) hj
   rw[harr] at q2
   refine⟨u,q1,?_,q2.1 rfl,q2.2.2⟩
   simp[enc,hlj,q1]
  have hcell':∀i j,j<k→∃pv,(elAt xs i)[j]?=some pv:=fun i j hj=>by
   have:j<(elAt xs i).length:=by rw[hxk _ (wd hx i)];exact hj
   exact⟨_,List.getElem?_eq_getElem this⟩
  have h1c:∀x,∀v∈enc x,v.oneCell'=true:=fun x v hv=>by
   obtain⟨j,hj,rfl⟩:=List.mem_map.1 hv
   obtain⟨pv,hpv⟩:=hcell' x j (List.mem_range.1 hj)
   obtain⟨u,q1,_,_,q4⟩:=hcell x j pv hpv
   rw[q1]
   exact q4
  have hblk:(G id).g<w.heap.size:=hbr.lt
  have hother:∀m os (dk:Array Nat) b',S b'→(sortWorldK enc k w (G id).g (off*k) m dk os).heap[b']?=w.heap[b']?:=fun m os dk b' hb'=>by
   have hlt:b'<(putRowK enc k w (G id).g (off*k) dk).heap.size:=by
    rw[yQ enc k w _ _ dk c1,size_setRow]
    exact hi.st b' hb'
   rw[(vt (dr:=True) enc k w (G id).g (off*k) m dk os).block b' hlt (fun h=>h),yQ enc k w _ _ dk c1]
   exact setRow_other _ _ _ _ fun e=>hi.apart id b hb (e ▸ hb')
  have hsize:∀m os (dk:Array Nat),w.heap.size≤(sortWorldK enc k w (G id).g (off*k) m dk os).heap.size:=fun m os dk=>by
   have:=(vt (dr:=True) enc k w (G id).g (off*k) m dk os).size
   rw[yQ enc k w _ _ dk c1,size_setRow] at this
   exact this
  obtain⟨eg,spec,hsp,hcall⟩:=hco
  have hcmp:CmpLays P g' #[] enc k (cfAt cf xs) (G id).g (off*k) n w:=by
   intro m os dk hdk x y
   have hagg:∀x,RepC (sortWorldK enc k w (G id).g (off*k) m dk os) S (.agg (elAt xs x)) (.agg (enc x).toArray):=fun x=>by
    refine .agg (by simp[hek,hxk _ (wd hx x)]) fun j pv u hj hu=>?_
    obtain⟨u',_,q2,q3,_⟩:=hcell x j pv hj
    have:u=u':=by simpa[q2] using hu.symm
    subst this
    exact q3.mono fun b' hb'=>⟨hb',hother m os dk b' hb'⟩
   have:=hsp.2 _ _ _ _ _ _ (hcall _ _ (hxk _ (wd hx x)) (hxk _ (wd hx y)) (hdom _ (wd hx x)) (hdom _ (wd hx y))) (sortWorldK enc k w (G id).g (off*k) m dk os) S G [.agg (enc x).toArray,.agg (enc y).toArray]
    ⟨fun b' hb'=>Nat.lt_of_lt_of_le (hi.st b' hb') (hsize m os dk),fun _ _ h=>(nomatch h),fun _ _ h=>(nomatch h),fun _ _ h=>(nomatch h),fun _ _ _ _ h=>(nomatch h),hi.glo.mono fun b' hb'=>⟨hb',hother m os dk b' hb'⟩⟩ (.cons (.c (hagg x)) (.cons (.c (hagg y)) .nil))
   refine this.mono fun e w' hh=>?_
   obtain⟨v,S',G',rfl,st,hv⟩:=hh
   obtain⟨rfl,_⟩:=hv.v_inv
   refine⟨rfl,grow_of_fr ⟨st.fr.os,st.fr.tape,st.fr.output,st.fr.size,st.fr.drawn,fun k hk _=>st.fr.block k hk ?_⟩⟩
   rintro⟨_,_,h,_⟩
   cases h
  have hH:HoldsK enc k w (G id).g (off*k) (Array.range n):=by
   intro t ht
   have ht':t<n*k:=by simpa using ht
   have hd:=Nat.div_add_mod t k
   have hm:=Nat.mod_lt t h0
   have hdl:t / k<n:=(Nat.div_lt_iff_lt_mul h0).2 ht'
   rw[get_flatK _ _ _ _ (by simpa using ht')]
   have hr:(Array.range n)[t / k]! = t / k:=by rw[getElem!_pos _ _ (by simpa using hdl)];simp
   obtain⟨pv,hpv⟩:=hcell' (t / k) (t % k) hm
   obtain⟨u,q1,q2,_,_⟩:=hcell (t / k) (t % k) pv hpv
   have hixe:ix (t / k)=t / k:=if_pos hdl
   constructor
   ·rw[cell_of_row w _ _ cur _ _ c1,hr,List.getElem!_eq_getElem?_getD,q2]
    rw[hixe] at q1
    have:off*k+t=(off+t / k)*k+t % k:=by rw[Nat.add_mul,Nat.mul_comm (t / k) k];omega
    rw[this,q1]
    rfl
   ·simp[World.frozen?,c1]
  have hsw:=hW.swo hx
  have key:=hso.1 Nat enc hek h1c (cfAt cf xs) hsw g' (G id).g (off*k) cap (Array.range n) w eg (by simpa using hcmp) hH hblk (by simpa using hn)
  have es1:(Array.range n).size=n:=by simp
  rw[es1] at key
  rw[hgs]
  refine key.mono fun e w' hh=>?_
  obtain⟨rfl,m,os,rfl⟩:=hh
  have hidx:pdq (ltOf (cfAt cf xs)) (Array.range n) 0 n (Lib.bitLen n) true true=yF cf xs:=by unfold yF;rw[hxl]
  rw[hidx]
  have hds:(yF cf xs).size=n:=by rw[vr hW hx,hxl]
  have hsl:(vp cf xs).length=n:=by rw[sortL_length hW,hxl]
  have hpl:off+(vp cf xs).length≤b.es.length:=by rw[hsl];exact hfit
  have hsg:∀i,i<n→(vp cf xs)[i]?=some (elAt xs (yF cf xs)[i]!):=fun i hin=>by
   unfold vp
   rw[if_neg (by omega),List.getElem?_map,Array.getElem?_toList,getElem!_pos _ i (by omega),Array.getElem?_eq_getElem (by omega)]
   rfl
  refine⟨_,S,G,rfl,?_,ww⟩
  rw[hxs]
  have hst:=Stp.set (dr:=dr) hi hb hop (putCells (fun v:Value=>v) (off*k) (flatK enc k (yF cf xs)) cur) (b.es.take off++vp cf xs++b.es.drop (off+n)) (by simp[putCells,c2])
   (fun c hc=>by
    rw[List.append_assoc] at hc
    rcases List.mem_append.1 hc with hc | hc
    ·exact hbr.len hop c (List.mem_of_mem_take hc)
    rcases List.mem_append.1 hc with hc | hc
    ·rw[hgs];exact hxk c ((sortL_perm hW).mem_iff.1 hc)
    ·exact hbr.len hop c (List.mem_of_mem_drop hc))
   (by
    have:=yO b.es (vp cf xs) off hpl
    rw[hsl] at this
    rw[this]
    exact hbr.fit hop)
   (fun i j c pv hci hcj=>by
    have hspl:=we b.es (vp cf xs) off i hpl
    rw[hsl] at hspl
    rw[hspl] at hci
    rw[hgs]
    split at hci
    ·rename_i hin
     rw[hsg _ (by omega)] at hci
     injection hci with hci
     subst hci
     have hlj:j<k:=by
      have:=(List.getElem?_eq_some_iff.1 hcj).1
      rw[hxk _ (wd hx _)] at this
      exact this
     obtain⟨u,q1,q2,q3,q4⟩:=hcell _ j pv hcj
     refine⟨u,?_,fun _=>q3,.c q3,q4⟩
     obtain⟨i',rfl⟩:∃i',i=off+i':=⟨i - off,by omega⟩
     have e1:off+i' - off=i':=by omega
     rw[e1] at q2
     have e2:(off+i')*k+j=off*k+(i'*k+j):=by rw[Nat.add_mul];omega
     have hlt:i'*k+j<n*k:=y9 (by omega) hlj
     have hcl:off*k+(i'*k+j)<cur.size:=by
      rw[c2]
      have:=hbr.fit hop
      rw[hgs] at this
      have h5:(off+n)*k≤b.es.length*k:=Nat.mul_le_mul_right k hfit
      rw[Nat.add_mul] at h5
      omega
     rw[e2]
     unfold putCells
     rw[Array.getElem?_mapIdx,Array.getElem?_eq_getElem hcl]
     simp only[Option.map_some,size_flatK,hds]
     rw[if_pos ⟨by omega,by omega⟩,show off*k+(i'*k+j) - off*k=i'*k+j by omega,get_flatK _ _ _ _ (by rw[hds];exact hlt)]
     have e3:(i'*k+j) / k=i':=by rw[Nat.mul_comm,Nat.mul_add_div h0,Nat.div_eq_of_lt hlj];rfl
     have e4:(i'*k+j) % k=j:=by rw[Nat.mul_comm,Nat.mul_add_mod,Nat.mod_eq_of_lt hlj]
     rw[e3,e4,List.getElem!_eq_getElem?_getD,q2]
     rfl
    ·rename_i hin
     obtain⟨u,q1,q2⟩:=c3 i j c pv hci hcj
     refine⟨u,?_,q2⟩
     have hlj:j<k:=by
      have:=(List.getElem?_eq_some_iff.1 hcj).1
      rw[hbr.len hop c (List.mem_of_getElem? hci),hgs] at this
      exact this
     unfold putCells
     rw[Array.getElem?_mapIdx,q1]
     simp only[Option.map_some,size_flatK,hds]
     rw[if_neg]
     rintro⟨a1,a2⟩
     apply hin
     constructor
     ·apply Nat.not_lt.1
      intro hlt
      have:(i+1)*k≤off*k:=Nat.mul_le_mul_right k hlt
      rw[Nat.add_mul] at this
      omega
     ·apply Nat.not_le.1
      intro hle
      have:(off+n)*k≤i*k:=Nat.mul_le_mul_right k hle
      rw[Nat.add_mul] at this
      omega)
  rw[←yQ enc k w _ _ _ c1] at hst
  exact hst.trans (Stp.grown hst.inv (vt enc k w (G id).g (off*k) m (yF cf xs) os))
 ·cases h
end
end Go.AM
namespace Go.Proofs.YtpeaooooimfihaaGreatDoor
open Go.Proofs.Tryz
open Go.RowKit Go.AM
open Classical in
noncomputable def cfC (x y:List PV):Int:=if h:∃a b:Cut,x=a.enc∧y=b.enc then cmpC (Classical.choose h) (Classical.choose (Classical.choose_spec h)) else 0
theorem kD (a b:Cut):cfC a.enc b.enc=cmpC a b:=by
 have h:∃c d:Cut,a.enc=c.enc∧b.enc=d.enc:=⟨a,b,rfl,rfl⟩
 unfold cfC
 rw[dif_pos h]
 have h2:=Classical.choose_spec (Classical.choose_spec h)
 exact congr (congrArg cmpC (jj h2.1).symm) (jj h2.2).symm
def zU (l:List Cut):List (List PV):=l.map Cut.enc
theorem weakC (l:List Cut):WeakOn cfC (zU l) where
 irrefl x hx:=by
  obtain⟨a,_,rfl⟩:=List.mem_map.1 hx
  rw[kD,cmpC_to.refl]
  exact Int.le_refl _
 trans x hx y hy z hz:=by
  obtain⟨a,_,rfl⟩:=List.mem_map.1 hx
  obtain⟨b,_,rfl⟩:=List.mem_map.1 hy
  obtain⟨c,_,rfl⟩:=List.mem_map.1 hz
  rw[kD,kD,kD]
  exact cmpC_to.trans
 ntrans x hx y hy z hz:=by
  obtain⟨a,_,rfl⟩:=List.mem_map.1 hx
  obtain⟨b,_,rfl⟩:=List.mem_map.1 hy
  obtain⟨c,_,rfl⟩:=List.mem_map.1 hz
  rw[kD,kD,kD]
  exact cmpC_to.ntrans
def domC (x:List PV):Prop:=∃a:Cut,x=a.enc∧a.v.small
theorem cmpOkC:CmpOk prog 108 5 cfC domC:=by
 refine⟨fun args w=>?_,_,yp,fun x y _ _ hx hy=>?_⟩
 ·have h:prog.funcs[108]?=some f108:=func108
  simp[callFunc,h,f108]
 ·obtain⟨a,rfl,ha⟩:=hx
  obtain⟨b,rfl,hb⟩:=hy
  rw[kD]
  exact vR a b _ _ ha hb
open Classical in
noncomputable def decC (x:List PV):Cut:=if h:∃a:Cut,x=a.enc then Classical.choose h else leastC
theorem decC_enc (a:Cut):decC a.enc=a:=by
 have h:∃c:Cut,a.enc=c.enc:=⟨a,rfl⟩
 unfold decC
 rw[dif_pos h]
 exact (jj (Classical.choose_spec h)).symm
theorem decC_map (l:List Cut):(zU l).map decC=l:=by
 induction l with
 | nil=>rfl
 | cons a l ih =>
   show decC a.enc::(zU l).map decC=_
   rw[decC_enc,ih]
theorem xp (l:List Cut):∃s:List Cut,vp cfC (zU l)=zU s∧s.Perm l∧s.Pairwise fun a b=>cmpC a b≤0:=by
 have hp:=sortL_perm (weakC l)
 have hs:=sortL_sorted (weakC l)
 have key:∀(r:List (List PV)),(∀x∈r,∃a:Cut,x=a.enc)→∃s:List Cut,r=zU s:=by
  intro r
  induction r with
  | nil=>intro _;exact⟨[],rfl⟩
  | cons x r ih =>
    intro h
    obtain⟨a,rfl⟩:=h x (by simp)
    obtain⟨s,rfl⟩:=ih fun y hy=>h y (by simp[hy])
    exact⟨a::s,rfl⟩
 obtain⟨s,e⟩:=key (vp cfC (zU l)) fun x hx=>by
  have:=hp.mem_iff.1 hx
  obtain⟨a,_,rfl⟩:=List.mem_map.1 this
  exact⟨a,rfl⟩
 rw[e] at hp hs
 refine⟨s,e,?_,?_⟩
 ·have:=hp.map decC
  rwa [decC_map,decC_map] at this
 ·rw[zU,List.pairwise_map] at hs
  refine hs.imp fun {a b} h=>?_
  rw[kD] at h
  exact (cmpC_to.le a b).2 h
def jk (out:List Str) (c:Cut):List Str:=match out.getLast? with
 | some s=>out.dropLast++[⟨s.lo,c,false⟩]
 | none=>out
def swS (is:Cut→Bool) (st:Bool×List Str) (c:Cut):Bool×List Str:=(is c,if (is c&&!st.1)=true then st.2++[qn c] else if (!is c&&st.1)=true then jk st.2 c else st.2)
theorem swS_twice (is:Cut→Bool) (st:Bool×List Str) (c:Cut):swS is (swS is st c) c=swS is st c:=by
 unfold swS
 cases is c<;>simp
def swL (is:Cut→Bool) (l:List Cut) (st:Bool×List Str):Bool×List Str:=l.foldl (swS is) st
open Classical in
noncomputable def uniqC:List Cut→List Cut
 | []=>[]
 | a::l=>match uniqC l with
   | []=>[a]
   | b::r=>if a=b then b::r else a::b::r
theorem swL_uniq (is:Cut→Bool):∀(l:List Cut) (st:Bool×List Str),swL is l st=swL is (uniqC l) st
 | [],st=>rfl
 | a::l,st=>by
   have ih:=swL_uniq is l (swS is st a)
   show swL is l (swS is st a)=_
   rw[ih]
   simp only[uniqC]
   split
   ·rename_i e;rw[e];rfl
   ·rename_i b r e
    rw[e]
    split
    ·rename_i h
     subst h
     show swL is r (swS is (swS is st a) a)=swL is r (swS is st a)
     rw[swS_twice]
    ·rfl
theorem uniqC_mem:∀(l:List Cut) (c:Cut),c∈uniqC l↔c∈l
 | [],c=>by simp[uniqC]
 | a::l,c=>by
   have ih:=uniqC_mem l c
   simp only[uniqC]
   split
   ·rename_i e
    rw[e] at ih
    simp only[List.mem_cons,List.not_mem_nil,or_false]
    rw[←ih]
    simp
   ·rename_i b r e
    rw[e] at ih
    split
    ·rename_i h
     subst h
     rw[List.mem_cons (b:=a) (l:=l),←ih]
     simp
    ·rw[List.mem_cons,List.mem_cons (b:=a) (l:=l),ih]
theorem uniqC_sorted:∀(l:List Cut) (_:∀a∈l,∀b∈l,cmpC a b=0→a=b),(l.Pairwise fun a b=>cmpC a b≤0)→(uniqC l).Pairwise fun a b=>cmpC a b<0
 | [],_,_=>.nil
 | a::l,he,hs=>by
   obtain⟨h1,h2⟩:=List.pairwise_cons.1 hs
   have ih:=uniqC_sorted l (fun x hx y hy=>he x (by simp[hx]) y (by simp[hy])) h2
   simp only[uniqC]
   split
   ·simp
   ·rename_i b r e
    rw[e] at ih
    split
    ·exact ih
    ·rename_i hab
     refine List.pairwise_cons.2 ⟨fun c hc=>?_,ih⟩
     have hb:b∈l:=(uniqC_mem l b).1 (by rw[e];simp)
     have hlt:cmpC a b<0:=by
      rcases Int.lt_or_eq_of_le (h1 b hb) with h | h
      ·exact h
      ·exact absurd (he a (by simp) b (by simp[hb]) h) hab
     rcases List.mem_cons.1 hc with rfl | hc
     ·exact hlt
     ·exact cmpC_to.trans hlt ((List.pairwise_cons.1 ih).1 c hc)
theorem sorted_eq:∀(x y:List Cut),(x.Pairwise fun a b=>cmpC a b<0)→(y.Pairwise fun a b=>cmpC a b<0)→(∀c,c∈x↔c∈y)→x=y
 | [],[],_,_,_=>rfl
 | [],b::y,_,_,h=>absurd ((h b).2 (by simp)) (by simp)
 | a::x,[],_,_,h=>absurd ((h a).1 (by simp)) (by simp)
 | a::x,b::y,hx,hy,h=>by
   obtain⟨x1,x2⟩:=List.pairwise_cons.1 hx
   obtain⟨y1,y2⟩:=List.pairwise_cons.1 hy
   have irr:∀c:Cut,¬cmpC c c<0:=fun c=>by rw[cmpC_to.refl];omega
   have hab:a=b:=by
    rcases List.mem_cons.1 ((h a).1 (by simp)) with e | ha
    ·exact e
    ·rcases List.mem_cons.1 ((h b).2 (by simp)) with e | hb
     ·exact e.symm
     ·exact absurd (cmpC_to.trans (x1 b hb) (y1 a ha)) (irr a)
   subst hab
   rw[sorted_eq x y x2 y2 fun c=>?_]
   constructor
   ·intro hc
    rcases List.mem_cons.1 ((h c).1 (by simp[hc])) with e | hc'
    ·subst e;exact absurd (x1 c hc) (irr c)
    ·exact hc'
   ·intro hc
    rcases List.mem_cons.1 ((h c).2 (by simp[hc])) with e | hc'
    ·subst e;exact absurd (y1 c hc) (irr c)
    ·exact hc'
def zI:List Str→List Cut
 | []=>[]
 | s::l=>(if s.endless=true then [s.lo] else [s.lo,s.hi])++zI l
theorem yR (a b:List Str):zI (a++b)=zI a++zI b:=by
 induction a with
 | nil=>rfl
 | cons s a ih=>simp only[List.cons_append,zI,ih,List.append_assoc]
theorem yr (a:List Str):(zI a).length≤2*a.length:=by
 induction a with
 | nil=>simp[zI]
 | cons s a ih=>simp only[zI,List.length_append,List.length_cons];split<;>simp<;>omega
theorem kd {Q:Cut→Prop} {a:List Str} (h:∀s∈a,Q s.lo∧Q s.hi):∀c∈zI a,Q c:=by
 induction a with
 | nil=>intro c hc;cases hc
 | cons s a ih =>
   intro c hc
   obtain⟨h1,h2⟩:=h s (by simp)
   simp only[zI,List.mem_append] at hc
   rcases hc with hc | hc
   ·split at hc
    ·rw[List.mem_singleton] at hc;rw[hc];exact h1
    ·simp only[List.mem_cons,List.not_mem_nil,or_false] at hc
     rcases hc with rfl | rfl
     ·exact h1
     ·exact h2
   ·exact ih (fun x hx=>h x (by simp[hx])) c hc
noncomputable def jD (l:List Cut):List Cut:=(vp cfC (zU l)).map decC
theorem sortCu_enc (l:List Cut):vp cfC (zU l)=zU (jD l):=by
 obtain⟨s,h,_⟩:=xp l
 unfold jD
 rw[h,decC_map]
theorem wN (l:List Cut):(jD l).Perm l:=by
 obtain⟨s,h,h1,_⟩:=xp l
 unfold jD
 rw[h,decC_map]
 exact h1
theorem sortCu_sorted (l:List Cut):(jD l).Pairwise fun a b=>cmpC a b≤0:=by
 obtain⟨s,h,_,h1⟩:=xp l
 unfold jD
 rw[h,decC_map]
 exact h1
noncomputable def wO (f:Bool→Bool→Bool) (a b:List Str):List Str:=(swL (fun c=>f (covA a c) (covA b c)) (jD (zI a++zI b)) (false,[])).2
theorem setLast_len (out:List Str) (c:Cut):(jk out c).length=out.length:=by
 unfold jk
 split
 ·rename_i s h
  have:out≠[]:=by rintro rfl;cases h
  have:=List.length_pos_iff.2 this
  simp
  omega
 ·rfl
theorem swL_len (is:Cut→Bool):∀(l:List Cut) (st:Bool×List Str),2*(swL is l st).2.length+(if st.1=true then 1 else 0)≤2*st.2.length+l.length+(if (swL is l st).1=true then 1 else 0)
 | [],st=>by
   show 2*st.2.length+(if st.1=true then 1 else 0)≤2*st.2.length+0+(if st.1=true then 1 else 0)
   omega
 | c::l,st=>by
   have ih:=swL_len is l (swS is st c)
   have e:swL is (c::l) st=swL is l (swS is st c):=rfl
   rw[e]
   have hs:2*(swS is st c).2.length+(if st.1=true then 1 else 0)≤2*st.2.length+1+(if (swS is st c).1=true then 1 else 0):=by
    obtain⟨o,out⟩:=st
    unfold swS
    cases is c<;>cases o<;>simp[setLast_len]<;>omega
   simp only[List.length_cons]
   omega
theorem vu (f:Bool→Bool→Bool) (a b:List Str):(wO f a b).length≤a.length+b.length:=by
 have h:=swL_len (fun c=>f (covA a c) (covA b c)) (jD (zI a++zI b)) (false,[])
 have h1:=(wN (zI a++zI b)).length_eq
 have h2:=yr a
 have h3:=yr b
 rw[List.length_append] at h1
 unfold wO
 simp only[Bool.false_eq_true,if_false,List.length_nil] at h
 split at h<;>omega
theorem setLast_all {Q:Cut→Prop} {out:List Str} {c:Cut} (h:∀s∈out,Q s.lo∧Q s.hi) (hc:Q c):∀s∈jk out c,Q s.lo∧Q s.hi:=by
 unfold jk
 split
 ·rename_i s hs
  intro x hx
  rcases List.mem_append.1 hx with hx | hx
  ·exact h x (List.dropLast_subset _ hx)
  ·rw[List.mem_singleton] at hx
   rw[hx]
   exact⟨(h s (List.mem_of_getLast? hs)).1,hc⟩
 ·exact h
theorem swL_all {Q:Cut→Prop} (h0:Q cut0) (is:Cut→Bool):∀(l:List Cut) (st:Bool×List Str),(∀c∈l,Q c)→(∀s∈st.2,Q s.lo∧Q s.hi)→∀s∈(swL is l st).2,Q s.lo∧Q s.hi
 | [],st,_,h=>h
 | c::l,st,hl,h=>by
   refine swL_all h0 is l (swS is st c) (fun x hx=>hl x (by simp[hx])) ?_
   have hc:=hl c (by simp)
   unfold swS
   dsimp only
   split
   ·intro s hs
    rcases List.mem_append.1 hs with hs | hs
    ·exact h s hs
    ·rw[List.mem_singleton] at hs
     rw[hs]
     exact⟨hc,h0⟩
   ·split
    ·exact setLast_all h hc
    ·exact h
theorem combL_all {Q:Cut→Prop} (h0:Q cut0) (f:Bool→Bool→Bool) {a b:List Str} (ha:∀s∈a,Q s.lo∧Q s.hi) (hb:∀s∈b,Q s.lo∧Q s.hi):∀s∈wO f a b,Q s.lo∧Q s.hi :=
 swL_all h0 _ _ _ (fun c hc=>by
  have:=(wN _).mem_iff.1 hc
  rcases List.mem_append.1 this with h | h
  ·exact kd ha c h
  ·exact kd hb c h) (fun s hs=>by cases hs)
end Go.Proofs.YtpeaooooimfihaaGreatDoor
namespace Go.AM
open Go.RowKit
variable {dr:Prop}
def fixB (p:List (Option Nat)) (b:Blk):Blk:=⟨b.e,b.s,b.arr,b.es.map (fixC p)⟩
theorem BlkRep.fixed {P:Program} {w:World} {S:Nat→Prop} {G:Nat→GI} {nx:Nat} {gi:GI} {b:Blk} (h:BlkRep P w S G nx gi b) (h0:0<gi.s) (ha:b.arr=true) (p:List (Option Nat)):BlkRep P w S G nx gi (fixB p b):=by
 refine BlkRep.ofCells h0 h.bs ⟨h.size h0,fun c hc=>?_,by simpa[fixB] using h.fit h0,?_⟩
 ·obtain⟨c',hc',rfl⟩:=List.mem_map.1 hc
  rw[wp]
  exact h.len h0 c' hc'
 ·obtain⟨cur,h1,h2,h3⟩:=h.row h0
  refine⟨cur,h1,h2,fun i j c pv hi hj=>?_⟩
  simp only[fixB,List.getElem?_map] at hi
  obtain⟨c',hc',rfl⟩:∃c',b.es[i]?=some c'∧fixC p c'=c:=by
   cases hh:b.es[i]? with
   | none=>rw[hh] at hi;cases hi
   | some c'=>rw[hh] at hi;injection hi with hi;exact⟨c',rfl,hi⟩
  have hjl:j<c'.length:=by
   have:=(List.getElem?_eq_some_iff.1 hj).1
   rwa [wp] at this
  obtain⟨u,h4,h5,_,h6⟩:=h3 i j c' c'[j] hc' (List.getElem?_eq_getElem hjl)
  have hr:=(wP p c').get (List.getElem?_eq_getElem hjl) hj _ _ _ (h5 ha)
  exact⟨u,h4,fun _=>hr,.c hr,h6⟩
theorem Stp.fixed {P:Program} {hp:Hp} {nx:Nat} {S:Nat→Prop} {G:Nat→GI} {w:World} {hp2:Hp} {nx2:Nat} {S2:Nat→Prop} {G2:Nat→GI} {w2:World} (k:Stp dr P hp nx S G w hp2 nx2 S2 G2 w2)
  {id:Nat} {b:Blk} (hb:hp2 id=some b) (ha:b.arr=true) (h0:0<(G2 id).s) (p:List (Option Nat)):Stp dr P hp nx S G w (upd hp2 id (some (fixB p b))) nx2 S2 G2 w2:=by
 have hex:∀k c,upd hp2 id (some (fixB p b)) k=some c→∃c0,hp2 k=some c0:=fun k c hk=>by
  by_cases e:k=id
  ·subst e;exact⟨b,hb⟩
  ·rw[zp _ _ _ _ e] at hk;exact⟨c,hk⟩
 refine⟨⟨k.inv.st,fun i c hc=>?_,fun i c hc=>?_,fun i c hc=>?_,fun i i' c c' hc hc' he=>?_,k.inv.glo⟩,k.up,k.loc,k.keep,k.from_,fun i c hc=>?_,k.fr⟩
 ·obtain⟨c0,h⟩:=hex i c hc;exact k.inv.top i c0 h
 ·by_cases e:i=id
  ·subst e
   rw[zQ] at hc
   injection hc with hc
   subst hc
   exact (k.inv.live i b hb).fixed h0 ha p
  ·rw[zp _ _ _ _ e] at hc
   exact k.inv.live i c hc
 ·obtain⟨c0,h⟩:=hex i c hc;exact k.inv.apart i c0 h
 ·obtain⟨c0,h⟩:=hex i c hc
  obtain⟨c1,h'⟩:=hex i' c' hc'
  exact k.inv.inj i i' c0 c1 h h' he
 ·obtain⟨c0,h⟩:=hex i c hc;exact k.own i c0 h
def wF (shs:List Sh) (F:List PV→Option (Option Blk)):AM.Spec:=qT [] fun args=>F (fixL shs args)
def OwnRN (p:List (Option Nat)) (r:Option Blk) (x:PV) (hp:Hp) (_:Nat):Prop:=match r with
 | none=>x=.nil
 | some b=>∃id b0,x=.own id 0 b0.es.length∧hp id=some b0∧b0.arr=true∧b=fixB p b0
section
variable {C:Ctx} {pf:FuncId→Bool} {f:FuncId} {fn:Func} {code:Code}
theorem kE (hg:GoodD dr C pf) (hk:KnownF C pf f fn) (shs:List Sh) (p:List (Option Nat)) (F:List PV→Option (Option Blk)) (hF:∀args r,F args=some r→args.length≤fn.ntmps∧∃x hp nx,qj C fn args (fun _=>none) 0=some (x,hp,nx)∧OwnRN p r x hp nx) :
  SpecD dr C.P f (wF shs F):=by
 obtain⟨_,hk⟩:=hk
 refine⟨⟨fn,hk.func,hk.name,by rw[hk.body];rfl⟩,?_⟩
 intro args hp nx r hp' nx' h w S G vs hi hz
 unfold wF qT at h
 split at h
 ·rename_i aZ hp1 hfr
  obtain⟨S1,k1,hz1,_⟩:=qz (dr:=dr) hi hfr hz
  have hsub:∀id b,hp1 id=some b→hp1 id=some b∧¬False:=fun id b h=>⟨h,fun h=>h⟩
  split at h
  ·rename_i hF0
   obtain⟨hn,x,hpe,nxe,hef,hx0⟩:=hF _ none hF0
   injection h with h
   injection h with e1 h
   injection h with e2 e3
   subst e1;subst e2;subst e3
   simp only[OwnRN] at hx0
   subst hx0
   refine (yk hg hk hef hn k1.inv.st k1.inv.glo (vI (kw hz1))).mono fun e w' hh=>?_
   obtain⟨v,S',G',he,fr,inv',hx,hs0,hs1,_⟩:=hh
   have k2:=xI (dr:=dr) (D:=fun _=>False) (hp2:=hp1) k1.inv hsub (fun _ h=>h.elim) fr inv' hs0 (fun b hb=>(hs1 b hb).imp (fun h=>h) .inr)
   have:=hx.nil_inv
   subst this
   exact⟨_,_,_,he,k1.trans k2,.c .nil⟩
  ·rename_i b hF0
   obtain⟨hn,x,hpe,nxe,hef,hx0⟩:=hF _ (some b) hF0
   injection h with h
   injection h with e1 h
   injection h with e2 e3
   subst e1;subst e2;subst e3
   obtain⟨id,b0,rfl,hid,harr,rfl⟩:=hx0
   refine (yk hg hk hef hn k1.inv.st k1.inv.glo (vI (kw hz1))).mono fun e w' hh=>?_
   obtain⟨v,S',G',he,fr,inv',hx,hs0,hs1,hown⟩:=hh
   have k2:=back_own (dr:=dr) (D:=fun _=>False) (hp2:=hp1) k1.inv hsub (fun _ h=>h.elim) fr inv' hs0 (fun b hb=>(hs1 b hb).imp (fun h=>h) .inr) hid harr (.inr (hown id b0 hid))
   have hx':=own_back (nx:=nx) (G:=G) hx
   have k3:=k2.fixed (id:=nx) (by simp) harr hx'.own_pos p
   rw[show upd (upd hp1 nx (some b0)) nx (some (fixB p b0))=upd hp1 nx (some (fixB p b0)) by funext i;unfold upd;split<;>rfl] at k3
   refine⟨_,_,_,he,k1.trans k3,?_⟩
   rw[show (fixB p b0).es.length=b0.es.length by simp[fixB]]
   exact hx'
  ·cases h
 ·cases h
end
end Go.AM
namespace Go.Proofs
open Go.Shelf
def Tryz.sortC_ren:Go.Shelf.Ren:=⟨fun | 6=>107 | 15=>148 | 14=>147 | 28=>192 | 29=>193 | 20=>184 | 21=>185 | 22=>186 | 23=>187 | 24=>188 | 25=>189 | 26=>190 | 27=>191 | 46=>219 | 47=>220 | 48=>221 | 49=>222 | 50=>223 | 57=>236 | n=>n,fun | 22=>133 | 24=>104 | 25=>136 | 3=>3 | 39=>162 | 0=>0 | 53=>196 | 55=>199 | 4=>4 | 46=>205 | 45=>204 | 50=>57 | 5=>5 | 9=>9 | 66=>223 | 70=>227 | 76=>239 | 77=>39 | n=>n,fun | n=>n⟩
theorem Tryz.sortC:Go.Proofs.SlLaysF0.n6 prog Tryz.sortC_ren:={
 mixed:=by kernel_rfl
 f6:=⟨f107.name,by decide,func107.trans (congrArg some (by kernel_rfl))⟩
 f14:=⟨f147.name,by decide,func147.trans (congrArg some (by kernel_rfl))⟩
 f15:=func148.trans (congrArg some (by kernel_rfl))
 f20:=⟨f184.name,by decide,func184.trans (congrArg some (by kernel_rfl))⟩
 f21:=⟨f185.name,by decide,func185.trans (congrArg some (by kernel_rfl))⟩
 f22:=⟨f186.name,by decide,func186.trans (congrArg some (by kernel_rfl))⟩
 f23:=⟨f187.name,by decide,func187.trans (congrArg some (by kernel_rfl))⟩
 f24:=⟨f188.name,by decide,func188.trans (congrArg some (by kernel_rfl))⟩
 f25:=⟨f189.name,by decide,func189.trans (congrArg some (by kernel_rfl))⟩
 f26:=⟨f190.name,by decide,func190.trans (congrArg some (by kernel_rfl))⟩
 f27:=⟨f191.name,by decide,func191.trans (congrArg some (by kernel_rfl))⟩
 f28:=func192.trans (congrArg some (by kernel_rfl))
 f29:=func193.trans (congrArg some (by kernel_rfl))
 f46:=⟨f219.name,by decide,func219.trans (congrArg some (by kernel_rfl))⟩
 f47:=func220.trans (congrArg some (by kernel_rfl))
 f48:=func221.trans (congrArg some (by kernel_rfl))
 f49:=⟨f222.name,by decide,func222.trans (congrArg some (by kernel_rfl))⟩
 f50:=⟨f223.name,by decide,func223.trans (congrArg some (by kernel_rfl))⟩
 f57:=⟨f236.name,by decide,func236.trans (congrArg some (by kernel_rfl))⟩
 t0:=underlying0
 a0:=isAgg0
 z0:=sizeOf0
 v0:=zeroValue0
 t3:=underlying3
 a3:=isAgg3
 z3:=sizeOf3
 v3:=zeroValue3
 t4:=underlying4
 a4:=isAgg4
 z4:=sizeOf4
 v4:=zeroValue4
 t5:=underlying5
 a5:=isAgg5
 z5:=sizeOf5
 v5:=zeroValue5
 t9:=underlying9
 a9:=isAgg9
 z9:=sizeOf9
 v9:=zeroValue9
 t22:=underlying133
 a22:=isAgg133
 z22:=sizeOf133
 v22:=zeroValue133
 t25:=underlying136
 a25:=isAgg136
 z25:=sizeOf136
 v25:=zeroValue136
 t39:=underlying162
 a39:=isAgg162
 z39:=sizeOf162
 v39:=zeroValue162
 t45:=underlying204
 a45:=isAgg204
 z45:=sizeOf204
 v45:=zeroValue204
 t46:=underlying205
 a46:=isAgg205
 z46:=sizeOf205
 v46:=zeroValue205
 t50:=underlying57
 a50:=isAgg57
 z50:=sizeOf57
 v50:=zeroValue57
 t53:=underlying196
 a53:=isAgg196
 z53:=sizeOf196
 v53:=zeroValue196
 t55:=underlying199
 a55:=isAgg199
 z55:=sizeOf199
 v55:=zeroValue199
 t66:=underlying223
 a66:=isAgg223
 z66:=sizeOf223
 v66:=zeroValue223
 t70:=underlying227
 a70:=isAgg227
 z70:=sizeOf227
 v70:=zeroValue227
 t76:=underlying239
 a76:=isAgg239
 z76:=sizeOf239
 v76:=zeroValue239
 t77:=underlying39
 a77:=isAgg39
 z77:=sizeOf39
 v77:=zeroValue39 }
open Go.AM
theorem Tryz.sortC_ok:SortOk prog 107 5:=⟨fun _ _ enc hk h1 cf hO g blk off cap d w eg hcmp hH hblk hsz=>AnyQ.slices_SortFunc_eq Tryz.sortC 5 isAgg104 sizeOf104 enc hk h1 cf hO g #[] blk off cap d w eg hcmp hH hblk hsz,
 fun p cap fv w=>AnyF.slices_SortFunc_none Tryz.sortC p cap fv w⟩
end Go.Proofs
