/-
The plain law of spans: lists of pairs (from, to); what they hold; the one form that a set has.
Spans: the checks and the sizes, of the program and of the reference.
Spans: sizes, first.
Spans: minus of the program.
Spans: the reference's put.
The abstract machine, part 29: slices.Grow of nil; append of a whole slice.
-/
import Derived.Test.YtdkfdoeijcfbhaaGreatDoorG10
import Derived.Test.YtdkfdoeijcfbhaaGreatDoorG12
import Derived.Test.YtdkfdoeijcfbhaaGreatDoorG14
import Derived.Test.YtdkfdoeijcfbhaaGreatDoorG17
import Derived.Shelf.Spec.SlicesGrow
set_option maxRecDepth 8000
namespace Go.SpanLaw
abbrev Sp:=Int×Int
def qY:Int→List Sp→Prop
 | _,[]=>True
 | lo,s::l=>lo<s.1∧s.1<s.2∧qY s.2 l
def mem (l:List Sp) (k:Int):Prop:=∃s∈l,s.1≤k∧k<s.2
theorem Wu (k:Int):¬mem [] k:=by simp[mem]
theorem mem_cons (s:Sp) (l:List Sp) (k:Int):mem (s::l) k↔(s.1≤k∧k<s.2)∨mem l k:=by simp[mem]
theorem Z5 (f t k:Int):mem [(f,t)] k↔f≤k∧k<t:=by simp[mem]
theorem mem_append (l m:List Sp) (k:Int):mem (l++m) k↔mem l k∨mem m k:=by simp[mem,or_and_right,exists_or]
theorem yR:∀{lo:Int} {l:List Sp},qY lo l→∀{k:Int},mem l k→lo<k
 | _,[],_,k,h=>absurd h (Wu k)
 | lo,s::l,hc,k,h=>by
   rcases (mem_cons s l k).1 h with h | h
   ·have:=hc.1;omega
   ·have:=yR hc.2.2 h
    have:=hc.1;have:=hc.2.1;omega
theorem zbw {lo lo':Int} {l:List Sp} (h:qY lo l) (hl:lo'≤lo):qY lo' l:=by
 cases l with
 | nil=>trivial
 | cons s l=>exact⟨by have:=h.1;omega,h.2⟩
theorem Yq:∀{lo:Int} {l m:List Sp},qY lo l→qY lo m→(∀k,mem l k↔mem m k)→l=m
 | _,[],[],_,_,_=>rfl
 | _,[],s::m,_,hm,h=>by
   exfalso
   have:=(h s.1).2 ((mem_cons s m s.1).2 (.inl ⟨Int.le_refl _,hm.2.1⟩))
   exact Wu _ this
 | _,s::l,[],hl,_,h=>by
   exfalso
   have:=(h s.1).1 ((mem_cons s l s.1).2 (.inl ⟨Int.le_refl _,hl.2.1⟩))
   exact Wu _ this
 | lo,s::l,r::m,hl,hm,h=>by
   have low:∀{x:Sp} {q:List Sp},qY lo (x::q)→∀{k},mem (x::q) k→x.1≤k:=fun {x q} hc {k} hk=>by
    rcases (mem_cons x q k).1 hk with g | g
    ·exact g.1
    ·have:=yR hc.2.2 g;have:=hc.2.1;omega
   have h1:s.1=r.1:=by
    have a:=low hm ((h s.1).1 ((mem_cons s l s.1).2 (.inl ⟨Int.le_refl _,hl.2.1⟩)))
    have b:=low hl ((h r.1).2 ((mem_cons r m r.1).2 (.inl ⟨Int.le_refl _,hm.2.1⟩)))
    omega
   have high:∀{x:Sp} {q:List Sp},qY lo (x::q)→¬mem (x::q) x.2:=fun {x q} hc hk=>by
    rcases (mem_cons x q x.2).1 hk with g | g
    ·omega
    ·have:=yR hc.2.2 g;omega
   have h2:s.2=r.2:=by
    rcases Int.lt_trichotomy s.2 r.2 with g | g | g
    ·exact absurd ((h s.2).2 ((mem_cons r m s.2).2 (.inl ⟨by have:=hl.2.1;omega,g⟩))) (high hl)
    ·exact g
    ·exact absurd ((h r.2).1 ((mem_cons s l r.2).2 (.inl ⟨by have:=hm.2.1;omega,g⟩))) (high hm)
   have h3:s=r:=Prod.ext h1 h2
   subst h3
   rw[Yq hl.2.2 hm.2.2 fun k=>?_]
   have hk:=h k
   rw[mem_cons,mem_cons] at hk
   constructor
   ·intro g
    have:=yR hl.2.2 g
    rcases hk.1 (.inr g) with g' | g'
    ·omega
    ·exact g'
   ·intro g
    have:=yR hm.2.2 g
    rcases hk.2 (.inr g) with g' | g'
    ·omega
    ·exact g'
def tog:Sp→List Sp→List Sp
 | c,[]=>[c]
 | c,s::l=>if s.1≤c.2 then tog (c.1,max c.2 s.2) l else c::tog s l
def togL:List Sp→List Sp
 | []=>[]
 | s::l=>tog s l
def ZP:Int→List Sp→Prop
 | _,[]=>True
 | lo,s::l=>lo≤s.1∧s.1<s.2∧ZP s.1 l
theorem XJ {lo lo':Int} {l:List Sp} (h:ZP lo l) (hl:lo'≤lo):ZP lo' l:=by
 cases l with
 | nil=>trivial
 | cons s l=>exact⟨by have:=h.1;omega,h.2⟩
theorem Jm:∀{lo:Int} {c:Sp} {l:List Sp},lo<c.1→c.1<c.2→ZP c.1 l→qY lo (tog c l)
 | lo,c,[],h1,h2,_=>⟨h1,h2,trivial⟩
 | lo,c,s::l,h1,h2,h3=>by
   unfold tog
   split
   ·exact Jm h1 (by show c.1<max c.2 s.2;omega) (XJ h3.2.2 h3.1)
   ·exact⟨h1,h2,Jm (by omega) h3.2.1 h3.2.2⟩
theorem zax:∀{c:Sp} {l:List Sp},c.1<c.2→ZP c.1 l→∀k,mem (tog c l) k↔(c.1≤k∧k<c.2)∨mem l k
 | c,[],_,_,k=>by simp[tog,mem]
 | c,s::l,h2,h3,k=>by
   unfold tog
   split
   ·rw[zax (c:=(c.1,max c.2 s.2)) (by show c.1<max c.2 s.2;omega) (XJ h3.2.2 h3.1) k,mem_cons]
    have:=h3.1;have:=h3.2.1
    show (c.1≤k∧k<max c.2 s.2)∨mem l k↔_
    constructor
    ·rintro (h | h)
     ·by_cases hk:k<c.2
      ·exact .inl ⟨h.1,hk⟩
      ·exact .inr (.inl ⟨by omega,by omega⟩)
     ·exact .inr (.inr h)
    ·rintro (h | h | h)
     ·exact .inl ⟨h.1,by omega⟩
     ·exact .inl ⟨by omega,by omega⟩
     ·exact .inr h
   ·rw[mem_cons,zax h3.2.1 h3.2.2 k,mem_cons]
theorem KE {lo:Int} {l:List Sp} (h:ZP (lo+1) l):qY lo (togL l):=by
 cases l with
 | nil=>trivial
 | cons s l=>exact Jm (by have:=h.1;omega) h.2.1 h.2.2
theorem zbx {lo:Int} {l:List Sp} (h:ZP lo l) (k:Int):mem (togL l) k↔mem l k:=by
 cases l with
 | nil=>exact Iff.rfl
 | cons s l=>rw[mem_cons];exact zax h.2.1 h.2.2 k
def jR (from_ to:Int):List Sp→List Sp
 | []=>if from_<to then [(from_,to)] else []
 | b::l=>if b.1<to then (if from_<b.1 then (from_,b.1)::jR (max from_ b.2) to l else jR (max from_ b.2) to l) else if from_<to then [(from_,to)] else []
def skip (x:Int):List Sp→List Sp
 | []=>[]
 | b::l=>if b.2≤x then skip x l else b::l
def mins:List Sp→List Sp→List Sp
 | [],_=>[]
 | s::a,b=>jR s.1 s.2 (skip s.1 b)++mins a (skip s.1 b)
theorem vw:∀{lo x:Int} {b:List Sp},qY lo b→qY lo (skip x b)
 | _,_,[],_=>trivial
 | lo,x,s::b,h=>by
   unfold skip
   split
   ·exact vw (zbw h.2.2 (by have:=h.1;have:=h.2.1;omega))
   ·exact h
theorem zby:∀{x:Int} {b:List Sp} {k:Int},x≤k→(mem (skip x b) k↔mem b k)
 | _,[],_,_=>Iff.rfl
 | x,s::b,k,h=>by
   unfold skip
   split
   ·rw[zby h,mem_cons]
    constructor
    ·exact .inr
    ·rintro (g | g)
     ·omega
     ·exact g
   ·exact Iff.rfl
theorem XK:∀{lo f t:Int} {b:List Sp} {k:Int},qY lo b→(mem (jR f t b) k↔f≤k∧k<t∧¬mem b k)
 | _,f,t,[],k,_=>by
   unfold jR
   split
   ·simp[mem]
   ·simp[mem];omega
 | lo,f,t,s::b,k,h=>by
   have hs:=h.2.1
   have hb:mem b k→s.2<k:=fun g=>yR h.2.2 g
   have ih:=@XK s.2 (max f s.2) t b k h.2.2
   have m1:f≤max f s.2:=Int.le_max_left _ _
   have m2:s.2≤max f s.2:=Int.le_max_right _ _
   have m3:max f s.2=f∨max f s.2=s.2:=by omega
   rw[mem_cons]
   unfold jR
   generalize max f s.2=m at ih m1 m2 m3 ⊢
   split
   ·split
    ·rw[mem_cons,ih]
     show (f≤k∧k<s.1)∨_↔_
     by_cases g:mem b k
     ·have:=hb g;simp only[g,not_true_eq_false,and_false,or_true,or_false,iff_false];omega
     ·simp only[g,not_false_eq_true,and_true,or_false];omega
    ·rw[ih]
     by_cases g:mem b k
     ·simp only[g,not_true_eq_false,and_false,or_true]
     ·simp only[g,not_false_eq_true,and_true,or_false];omega
   ·split
    ·rw[Z5]
     by_cases g:mem b k
     ·have:=hb g;simp only[g,or_true,not_true_eq_false,and_false,iff_false];omega
     ·simp only[g,or_false];omega
    ·constructor
     ·intro g;exact absurd g (Wu k)
     ·intro g;omega
def Below (hi:Int) (l:List Sp):Prop:=∀s∈l,s.2≤hi
theorem W6:∀{lo hi:Int} {l m:List Sp},qY lo l→lo≤hi→Below hi l→qY hi m→qY lo (l++m)
 | _,_,[],m,_,hh,_,hm=>zbw hm hh
 | lo,hi,s::l,m,hl,hh,hb,hm=>⟨hl.1,hl.2.1,W6 hl.2.2 (hb s (by simp)) (fun x hx=>hb x (by simp[hx])) hm⟩
theorem Z6:∀{lo blo f t:Int} {b:List Sp},qY blo b→lo<f→qY lo (jR f t b)∧Below t (jR f t b)
 | lo,_,f,t,[],_,hf=>by
   unfold jR
   split
   ·rename_i h;exact⟨⟨hf,h,trivial⟩,fun s hs=>by simp at hs;subst hs;exact Int.le_refl _⟩
   ·exact⟨trivial,fun s hs=>by cases hs⟩
 | lo,blo,f,t,s::b,h,hf=>by
   have hs:=h.2.1
   unfold jR
   split
   ·rename_i h1
    split
    ·rename_i h2
     obtain⟨g1,g2⟩:=@Z6 s.1 s.2 (max f s.2) t b h.2.2 (by omega)
     exact⟨⟨hf,h2,g1⟩,fun x hx=>by
      rcases List.mem_cons.1 hx with rfl | hx
      ·show s.1≤t;omega
      ·exact g2 x hx⟩
    ·exact @Z6 lo s.2 (max f s.2) t b h.2.2 (by omega)
   ·split
    ·rename_i h;exact⟨⟨hf,h,trivial⟩,fun s hs=>by simp at hs;subst hs;exact Int.le_refl _⟩
    ·exact⟨trivial,fun s hs=>by cases hs⟩
theorem Yr:∀{lo blo:Int} {a b:List Sp} {k:Int},qY lo a→qY blo b→(mem (mins a b) k↔mem a k∧¬mem b k)
 | _,_,[],b,k,_,_=>by simp[mins,mem]
 | lo,blo,s::a,b,k,ha,hb=>by
   have hs:=ha.2.1
   rw[mins,mem_append,XK (vw hb),Yr ha.2.2 (vw hb),mem_cons]
   have hk:mem a k→s.2<k:=fun g=>yR ha.2.2 g
   by_cases g:s.1≤k
   ·rw[zby g]
    by_cases g1:mem a k<;>by_cases g2:mem b k<;>simp[g1,g2]
   ·have g1:¬mem a k:=fun h=>by have:=hk h;omega
    simp only[g1,or_false,false_and]
    constructor
    ·intro h;omega
    ·intro h;omega
theorem Zn:∀{lo blo:Int} {a b:List Sp},qY lo a→qY blo b→qY lo (mins a b)
 | _,_,[],_,_,_=>trivial
 | lo,blo,s::a,b,ha,hb=>by
   have hs:=ha.2.1
   obtain⟨g1,g2⟩:=Z6 (lo:=lo) (t:=s.2) (vw (x:=s.1) hb) ha.1
   exact W6 g1 (by have:=ha.1;omega) g2 (Zn ha.2.2 (vw hb))
def yS (at_:Int):Int→List Sp→Int
 | out,[]=>out
 | out,s::l=>yS at_ (if at_<s.2 then min (if at_<s.1 then min out s.1 else out) s.2 else (if at_<s.1 then min out s.1 else out)) l
theorem Zo (at_:Int):∀(l:List Sp) (out:Int),yS at_ out l≤out
 | [],_=>Int.le_refl _
 | s::l,out=>by
   refine Int.le_trans (Zo at_ l _) ?_
   split<;>split<;>omega
theorem QI {at_:Int}:∀{l:List Sp} {out:Int},at_<out→at_<yS at_ out l
 | [],_,h=>h
 | s::l,out,h=>by
   refine QI (l:=l) ?_
   split<;>split<;>omega
theorem Jn {at_:Int}:∀{l:List Sp} {out:Int} {s:Sp},s∈l→(at_<s.1→yS at_ out l≤s.1)∧(at_<s.2→yS at_ out l≤s.2)
 | r::l,out,s,hs=>by
   rcases List.mem_cons.1 hs with rfl | hs
   ·have h:=Zo at_ l (if at_<s.2 then min (if at_<s.1 then min out s.1 else out) s.2 else (if at_<s.1 then min out s.1 else out))
    constructor
    ·intro g
     refine Int.le_trans h ?_
     simp only[g,if_true]
     split<;>omega
    ·intro g
     refine Int.le_trans h ?_
     simp only[g,if_true]
     split<;>omega
   ·exact Jn (l:=l) hs
theorem Zp {at_ out k:Int} {l:List Sp} (h1:at_≤k) (h2:k<yS at_ out l):mem l k↔mem l at_:=by
 constructor
 ·rintro⟨s,hs,g1,g2⟩
  obtain⟨e1,_⟩:=Jn (at_:=at_) (out:=out) hs
  refine⟨s,hs,?_,by omega⟩
  exact Int.not_lt.1 fun h=>by have:=e1 h;omega
 ·rintro⟨s,hs,g1,g2⟩
  obtain⟨_,e2⟩:=Jn (at_:=at_) (out:=out) hs
  have:=e2 g2
  exact⟨s,hs,by omega,by omega⟩
def putL (l:List Sp) (f t:Int):List Sp:=match l.getLast? with
 | some s=>if s.2=f then l.dropLast++[(s.1,t)] else l++[(f,t)]
 | none=>[(f,t)]
structure Swept (op:Int→Prop) (at_:Int) (out:List Sp):Prop where
 canon:qY (-1) out
 below:Below at_ out
 holds:∀k,mem out k↔0≤k∧k<at_∧op k
theorem XL:∀{lo:Int} {l:List Sp} {s:Sp} {t:Int},qY lo (l++[s])→s.2≤t→qY lo (l++[(s.1,t)])
 | lo,[],s,t,h,ht=>⟨h.1,by have:=h.2.1;show s.1<t;omega,trivial⟩
 | lo,r::l,s,t,h,ht=>⟨h.1,h.2.1,XL h.2.2 ht⟩
theorem KF:∀{lo:Int} {l:List Sp} {f t:Int},qY lo l→lo<f→(∀s∈l,s.2<f)→f<t→qY lo (l++[(f,t)])
 | lo,[],f,t,_,hf,_,ht=>⟨hf,ht,trivial⟩
 | lo,r::l,f,t,h,hf,hb,ht=>⟨h.1,h.2.1,KF h.2.2 (hb r (by simp)) (fun s hs=>hb s (by simp[hs])) ht⟩
theorem canon_last:∀{lo:Int} {l:List Sp} {s:Sp},qY lo (l++[s])→∀x∈l,x.2<s.2
 | lo,r::l,s,h,x,hx=>by
   rcases List.mem_cons.1 hx with rfl | hx
   ·have hm:mem (l++[s]) (s.2 - 1):=(mem_append _ _ _).2 (.inr ⟨s,by simp,by have:=canon_tail h.2.2;omega,by omega⟩)
    have:=yR h.2.2 hm
    omega
   ·exact canon_last h.2.2 x hx
where
 canon_tail:∀{lo:Int} {l:List Sp} {s:Sp},qY lo (l++[s])→s.1<s.2
 | _,[],_,h=>h.2.1
 | _,_::_,_,h=>canon_tail h.2.2
theorem KG (op:Int→Prop):Swept op 0 []:=⟨trivial,fun s hs=>absurd hs (by simp),fun k=>by simp only[Wu,false_iff];omega⟩
theorem KH {op:Int→Prop} {at_ to:Int} {out:List Sp} (h:Swept op at_ out) (hlt:at_<to) (hs:∀k,at_≤k→k<to→(op k↔op at_)) (hn:¬op at_):Swept op to out :=
 ⟨h.canon,fun s hs=>by have:=h.below s hs;omega,fun k=>by
  rw[h.holds k]
  constructor
  ·intro g;exact⟨g.1,by omega,g.2.2⟩
  ·intro g
   refine⟨g.1,Int.not_le.1 fun hk=>?_,g.2.2⟩
   exact hn ((hs k hk g.2.1).1 g.2.2)⟩
theorem XM {op:Int→Prop} {at_ to:Int} {out:List Sp} (h0:0≤at_) (h:Swept op at_ out) (hlt:at_<to) (hs:∀k,at_≤k→k<to→(op k↔op at_)) (hy:op at_):Swept op to (putL out at_ to):=by
 have hm:∀k,(0≤k∧k<to∧op k)↔mem out k∨(at_≤k∧k<to):=fun k=>by
  rw[h.holds k]
  constructor
  ·intro g
   by_cases hk:k<at_
   ·exact .inl ⟨g.1,hk,g.2.2⟩
   ·exact .inr ⟨by omega,g.2.1⟩
  ·rintro (g | g)
   ·exact⟨g.1,by omega,g.2.2⟩
   ·exact⟨by omega,g.2,(hs k g.1 g.2).2 hy⟩
 unfold putL
 split
 ·rename_i s hl
  obtain⟨l,rfl⟩:∃l,out=l++[s]:=by
   have:=List.getLast?_eq_some_iff.1 hl
   exact this
  have hc:=h.canon
  have hb:=h.below s (by simp)
  split
  ·rename_i he
   rw[List.dropLast_concat]
   refine⟨XL hc (by omega),fun x hx=>?_,fun k=>?_⟩
   ·rcases List.mem_append.1 hx with hx | hx
    ·have:=h.below x (by simp[hx]);omega
    ·simp at hx;subst hx;exact Int.le_refl _
   ·rw[hm k,mem_append,mem_append,Z5,or_assoc]
    have hsl:=canon_last.canon_tail hc
    have e:mem [s] k↔s.1≤k∧k<s.2:=Z5 s.1 s.2 k
    rw[e]
    constructor
    ·rintro (g | g)
     ·exact .inl g
     ·by_cases hk:k<s.2
      ·exact .inr (.inl ⟨g.1,hk⟩)
      ·exact .inr (.inr ⟨by omega,g.2⟩)
    ·rintro (g | g | g)
     ·exact .inl g
     ·exact .inr ⟨g.1,by omega⟩
     ·exact .inr ⟨by omega,g.2⟩
  ·rename_i he
   refine⟨KF hc (by omega) (fun x hx=>?_) hlt,fun x hx=>?_,fun k=>?_⟩
   ·rcases List.mem_append.1 hx with hx | hx
    ·have:=canon_last hc x hx;omega
    ·simp at hx;subst hx;omega
   ·rcases List.mem_append.1 hx with hx | hx
    ·have:=h.below x hx;omega
    ·simp at hx;subst hx;exact Int.le_refl _
   ·rw[hm k,mem_append,Z5]
 ·rename_i hl
  obtain rfl:out=[]:=List.getLast?_eq_none_iff.1 hl
  refine⟨⟨by show -1<at_;omega,hlt,trivial⟩,fun x hx=>?_,fun k=>?_⟩
  ·simp at hx;subst hx;exact Int.le_refl _
  ·rw[hm k,Z5]
   constructor
   ·exact .inr
   ·rintro (g | g)
    ·exact absurd g (Wu k)
    ·exact g
end Go.SpanLaw
namespace Go.Proofs.YtdkfdoeijcfbhaaGreatDoor
open Go.Proofs.Tryz
open Go.RowKit Go.AM Go.SpanLaw
abbrev encS (s:Sp):List PV:=[int s.1,int s.2]
theorem Ys {a b:Sp} (h:encS a=encS b):a=b:=by
 simp only[List.cons.injEq,and_true,PV.v.injEq,Value.int.injEq,true_and] at h
 exact Prod.ext h.1 h.2
theorem wP {a b:List Sp} (h:PV.sl 2 (a.map encS)=PV.sl 2 (b.map encS)):a=b:=by
 injection h with _ h
 exact qW (fun _ _=>Ys) h
def spR (s:Sp):Bool:=!inB s.1 0 99999||decide ((100000:Int)<s.2)
def spO (p:Option Int) (s:Sp):Bool:=decide (s.2≤s.1)||(match p with
 | none=>false
 | some q=>decide (s.1≤q))
def spF:Option Int→List Sp→Int
 | _,[]=>0
 | p,s::l=>if spR s then 1 else if spO p s then 8 else spF (some s.2) l
theorem zbz {l:List Sp} {k:Nat} (h:k<l.length) (p:Option Int):spF p (l.drop k)=if spR l[k] then 1 else if spO p l[k] then 8 else spF (some l[k].2) (l.drop (k+1)):=by
 rw[List.drop_eq_getElem_cons h,spF]
def QJ (l:List Sp) (k:Nat):Option Int:=if k=0 then none else (l[k - 1]?).map (·.2)
def qa (l:List Sp):Int:=if (100:Int)<l.length then 2 else spF none l
theorem yT:za prog 99 (zd false [] (F3 inB)) :=
 zI (fn:=f99) qA ⟨_,func99,by kernel_rfl,rfl,by kernel_rfl⟩ false [] _ fun args r h=>by
  obtain⟨a,b,c,rfl,rfl⟩:=Xj h
  exact⟨by simp[f99],_,zb rfl (by simp[f99,inB]),zG _⟩
noncomputable abbrev Cwl:Ctx:=zF prog [(99,zd false [] (F3 inB))]
theorem checkSpans_eval (l:List Sp):zi Cwl f281 [.sl 2 (l.map encS)]=some (int (qa l)):=by
 refine zb rfl ?_
 rw[qa]
 by_cases c2:(100:Int)<l.length
 ·simp[c2,f281]
 simp[c2]
 refine zq (fun k σ hp nx=>σ 0=.sl 2 (l.map encS)∧σ 8=.sl 2 (l.map encS)∧σ 9=int l.length∧σ 10=int k∧spF none l=spF (QJ l k) (l.drop k)) l.length
  ⟨by simp,by simp,by simp,by simp,by simp[QJ]⟩ ?_
 rintro k σ hp nx hk ⟨h0,h8,h9,h10,hf⟩
 by_cases hlt:k<l.length
 ·have hw:IntKind.i64.wrap ((k:Int)+1)=(k:Int)+1:=zc (by omega) (by omega)
  have en:(!inB l[k].1 0 99999||decide ((100000:Int)<l[k].2))=spR l[k]:=rfl
  rw[zbz hlt] at hf
  cases d1:spR l[k]
  case true =>
   rw[d1] at en hf
   simp[h0,h8,h9,h10,hlt,en,hf,f281]
  rw[d1] at en
  simp only[d1,Bool.false_eq_true,if_false] at hf
  have hpv:QJ l (k+1)=some l[k].2:=by simp[QJ,hlt]
  by_cases k0:k=0
  ·subst k0
   simp only[QJ,if_true,spO,Bool.or_false] at hf
   by_cases d2:l[0].2≤l[0].1
   ·simp only[d2,decide_true,if_true] at hf
    simp[h0,h8,h9,h10,hlt,en,d2,hf,f281]
   ·simp only[d2,decide_false,Bool.false_eq_true,if_false] at hf
    have w1:IntKind.i64.wrap 1=1:=zc (by omega) (by omega)
    simp[h0,h8,h9,h10,hlt,en,d2,w1]
    and_intros<;>first | omega | (rw[hf];rw[hpv];done) | (rw[hf];rw[hpv];simp)
  ·obtain⟨j,rfl⟩:∃j,k=j+1:=⟨k - 1,by omega⟩
   have hj:j<l.length:=by omega
   have wj:IntKind.i64.wrap ((j:Int)+1 - 1)=(j:Int):=by rw[zc (by omega) (by omega)];omega
   have wj':IntKind.i64.wrap (j:Int)=(j:Int):=zc (by omega) (by omega)
   have j1:((j:Int)+1).toNat=j+1:=by omega
   have j2:0<(j:Int)+1:=by omega
   have j3:0≤(j:Int)+1:=by omega
   have j4:(j:Int)+1<l.length:=by omega
   have wk:IntKind.i64.wrap ((j:Int)+1+1)=(j:Int)+1+1:=zc (by omega) (by omega)
   have hpj:QJ l (j+1)=some l[j].2:=by simp[QJ,hj]
   have eo:(decide (l[j+1].2≤l[j+1].1)||decide (l[j+1].1≤l[j].2))=spO (some l[j].2) l[j+1]:=rfl
   rw[hpj] at hf
   cases d2:spO (some l[j].2) l[j+1]
   ·rw[d2] at eo
    simp only[d2,Bool.false_eq_true,if_false] at hf
    simp[h0,h8,h9,h10,hlt,hj,en,wj,wj',j1,j2,j3,j4,eo,wk]
    and_intros<;>first | omega | (rw[hf];rw[hpv])
   ·rw[d2] at eo
    simp only[d2,if_true] at hf
    simp[h0,h8,h9,h10,hlt,hj,en,wj,wj',j1,j2,j3,j4,eo,hf,f281]
 ·obtain rfl:k=l.length:=by omega
  rw[List.drop_length] at hf
  have hf:spF none l=0:=by rw[hf];rfl
  simp[h0,h8,h9,h10,hf,f281]
theorem rspR (s:Sp):(decide (s.1<0)||decide ((100000:Int)≤s.1)||decide ((100000:Int)<s.2))=spR s:=by
 unfold spR inB
 by_cases h1:s.1<0<;>by_cases h2:(100000:Int)≤s.1<;>simp[h1,h2]<;>omega
theorem rcheckSpans_eval (l:List Sp):zi C0 f227 [.sl 2 (l.map encS)]=some (int (qa l)):=by
 refine zb rfl ?_
 rw[qa]
 by_cases c2:(100:Int)<l.length
 ·simp[c2,f227]
 simp[c2]
 refine zq (fun k σ hp nx=>σ 0=.sl 2 (l.map encS)∧σ 8=.sl 2 (l.map encS)∧σ 9=int l.length∧σ 10=int k∧spF none l=spF (QJ l k) (l.drop k)) l.length
  ⟨by simp,by simp,by simp,by simp,by simp[QJ]⟩ ?_
 rintro k σ hp nx hk ⟨h0,h8,h9,h10,hf⟩
 by_cases hlt:k<l.length
 ·have hw:IntKind.i64.wrap ((k:Int)+1)=(k:Int)+1:=zc (by omega) (by omega)
  have en:(decide (l[k].1<0)||decide ((100000:Int)≤l[k].1)||decide ((100000:Int)<l[k].2))=spR l[k]:=rspR l[k]
  rw[zbz hlt] at hf
  cases d1:spR l[k]
  case true =>
   rw[d1] at en hf
   simp[h0,h8,h9,h10,hlt,en,hf,f227]
  rw[d1] at en
  simp only[d1,Bool.false_eq_true,if_false] at hf
  have hpv:QJ l (k+1)=some l[k].2:=by simp[QJ,hlt]
  by_cases k0:k=0
  ·subst k0
   simp only[QJ,if_true,spO,Bool.or_false] at hf
   by_cases d2:l[0].2≤l[0].1
   ·simp only[d2,decide_true,if_true] at hf
    simp[h0,h8,h9,h10,hlt,en,d2,hf,f227]
   ·simp only[d2,decide_false,Bool.false_eq_true,if_false] at hf
    have w1:IntKind.i64.wrap 1=1:=zc (by omega) (by omega)
    simp[h0,h8,h9,h10,hlt,en,d2,w1]
    and_intros<;>first | omega | (rw[hf];rw[hpv];done) | (rw[hf];rw[hpv];simp)
  ·obtain⟨j,rfl⟩:∃j,k=j+1:=⟨k - 1,by omega⟩
   have hj:j<l.length:=by omega
   have wj:IntKind.i64.wrap ((j:Int)+1 - 1)=(j:Int):=by rw[zc (by omega) (by omega)];omega
   have wj':IntKind.i64.wrap (j:Int)=(j:Int):=zc (by omega) (by omega)
   have j1:((j:Int)+1).toNat=j+1:=by omega
   have j2:0<(j:Int)+1:=by omega
   have j3:0≤(j:Int)+1:=by omega
   have j4:(j:Int)+1<l.length:=by omega
   have wk:IntKind.i64.wrap ((j:Int)+1+1)=(j:Int)+1+1:=zc (by omega) (by omega)
   have hpj:QJ l (j+1)=some l[j].2:=by simp[QJ,hj]
   have eo:(decide (l[j+1].2≤l[j+1].1)||decide (l[j+1].1≤l[j].2))=spO (some l[j].2) l[j+1]:=rfl
   rw[hpj] at hf
   cases d2:spO (some l[j].2) l[j+1]
   ·rw[d2] at eo
    simp only[d2,Bool.false_eq_true,if_false] at hf
    simp[h0,h8,h9,h10,hlt,hj,en,wj,wj',j1,j2,j3,j4,eo,wk]
    and_intros<;>first | omega | (rw[hf];rw[hpv])
   ·rw[d2] at eo
    simp only[d2,if_true] at hf
    simp[h0,h8,h9,h10,hlt,hj,en,wj,wj',j1,j2,j3,j4,eo,hf,f227]
 ·obtain rfl:k=l.length:=by omega
  rw[List.drop_length] at hf
  have hf:spF none l=0:=by rw[hf];rfl
  simp[h0,h8,h9,h10,hf,f227]
noncomputable def FP (out:List Sp→PV) (pre:List Sp→Prop):List PV→Option PV:=zH (α:=List Sp) (fun l=>[.sl 2 (l.map encS)]) pre out
theorem Wv (out:List Sp→PV) (pre:List Sp→Prop) (l:List Sp) (hp:Hp) (nx:Nat) (h:pre l):zd false [] (FP out pre) [.sl 2 (l.map encS)] hp nx=some (out l,hp,nx) :=
 zy rfl (zm (enc:=fun l:List Sp=>[PV.sl 2 (l.map encS)]) (a:=l) (fun a b e=>by simp only[List.cons.injEq,and_true] at e;exact wP e) h) (.inr rfl)
theorem checkSpans_sound:za prog 281 (zd false [] (FP (fun l=>int (qa l)) fun _=>True)) :=
 zI (fn:=f281) (zk (q:=[99]) mixed ⟨yT,fun _=>zh _ _,trivial⟩:AM.Good Cwl _) ⟨_,func281,by kernel_rfl,rfl,by kernel_rfl⟩ false [] _ fun args r h=>by
  obtain⟨l,rfl,_,rfl⟩:=ze h
  exact⟨Nat.le_trans (Nat.le_refl 1) (by decide),_,checkSpans_eval l,zG _⟩
theorem rcheckSpans_sound:za prog 227 (zd false [] (FP (fun l=>int (qa l)) fun _=>True)) :=
 zI (fn:=f227) qA ⟨_,func227,by kernel_rfl,rfl,by kernel_rfl⟩ false [] _ fun args r h=>by
  obtain⟨l,rfl,_,rfl⟩:=ze h
  exact⟨Nat.le_trans (Nat.le_refl 1) (by decide),_,rcheckSpans_eval l,zG _⟩
theorem XN:∀{l:List Sp} {p:Option Int},spF p l=0→qY (p.getD (-1)) l∧Below 100000 l∧∀s∈l,0≤s.1
 | [],_,_=>⟨trivial,fun s hs=>absurd hs (by simp),fun s hs=>absurd hs (by simp)⟩
 | s::l,p,h=>by
   simp only[spF] at h
   split at h
   ·cases h
   split at h
   ·cases h
   rename_i h1 h2
   obtain⟨g1,g2,g3⟩:=XN h
   simp only[spR,inB,Bool.or_eq_true,Bool.not_eq_true',Bool.and_eq_false_iff,decide_eq_false_iff_not,decide_eq_true_eq,not_or] at h1
   simp only[spO,Bool.or_eq_true,decide_eq_true_eq,not_or] at h2
   refine⟨⟨?_,by omega,g1⟩,fun x hx=>?_,fun x hx=>?_⟩
   ·cases p with
    | none=>show -1<s.1;omega
    | some q=>have:=h2.2;simp at this;exact this
   ·rcases List.mem_cons.1 hx with rfl | hx
    ·omega
    ·exact g2 x hx
   ·rcases List.mem_cons.1 hx with rfl | hx
    ·omega
    ·exact g3 x hx
theorem wN {l:List Sp} (h:qa l=0):qY (-1) l∧Below 100000 l∧(∀s∈l,0≤s.1)∧l.length≤100:=by
 unfold qa at h
 split at h
 ·cases h
 ·obtain⟨g1,g2,g3⟩:=XN h
  exact⟨g1,g2,g3,by omega⟩
def okS (b:List Sp):Prop:=qY (-1) b∧Below 100000 b∧(∀s∈b,0≤s.1)∧b.length≤100000
theorem zbA {b:List Sp} (h:qa b=0):okS b:=by
 obtain⟨h1,h2,h3,h4⟩:=wN h
 exact⟨h1,h2,h3,by omega⟩
theorem yU:∀{lo:Int} {l:List Sp},qY lo l→∀s∈l,s.1<s.2
 | _,r::l,h,s,hs=>by
   rcases List.mem_cons.1 hs with rfl | hs
   ·exact h.2.1
   ·exact yU h.2.2 s hs
noncomputable def FPN (out:List Sp→Int→PV) (pre:List Sp→Int→Prop):List PV→Option PV:=zH (α:=List Sp×Int) (fun a=>[.sl 2 (a.1.map encS),int a.2]) (fun a=>pre a.1 a.2) (fun a=>out a.1 a.2)
theorem Yt (out:List Sp→Int→PV) (pre:List Sp→Int→Prop) (l:List Sp) (n:Int) (hp:Hp) (nx:Nat) (h:pre l n):zd false [] (FPN out pre) [.sl 2 (l.map encS),int n] hp nx=some (out l n,hp,nx) :=
 zy rfl (zm (enc:=fun a:List Sp×Int=>[PV.sl 2 (a.1.map encS),int a.2]) (a:=(l,n)) (fun a b e=>by
  obtain⟨a1,a2⟩:=a;obtain⟨b1,b2⟩:=b
  simp only[List.cons.injEq,and_true] at e
  obtain⟨e1,e2⟩:=e
  injection e2 with e2
  injection e2 with _ e2
  rw[wP e1,e2]) h) (.inr rfl)
def wW (r:List Sp×Int):PV:=.tup [.sl 2 (r.1.map encS),int r.2]
theorem yf (k:Int):Stands (.tup [.nil,int k]) (wW ([],k)) :=
 StandsL.tup (.cons (.nilOr (.inl ⟨rfl,rfl⟩)) (.cons (.refl _) .nil))
def hasB (l:List Sp) (k:Int):Bool:=match l with
 | []=>false
 | s::l=>(decide (s.1≤k)&&decide (k<s.2))||hasB l k
theorem QK:∀(l:List Sp) (k:Int),hasB l k=true↔mem l k
 | [],k=>by simp[hasB,mem]
 | s::l,k=>by rw[hasB,Bool.or_eq_true,mem_cons,QK l k];simp
theorem hasB_drop {l:List Sp} {k:Nat} (h:k<l.length) (x:Int):hasB (l.drop k) x=((decide (l[k].1≤x)&&decide (x<l[k].2))||hasB (l.drop (k+1)) x):=by
 rw[List.drop_eq_getElem_cons h,hasB]
theorem nextF_drop {l:List Sp} {k:Nat} (h:k<l.length) (a o:Int):yS a o (l.drop k)=yS a (if a<l[k].2 then min (if a<l[k].1 then min o l[k].1 else o) l[k].2 else (if a<l[k].1 then min o l[k].1 else o)) (l.drop (k+1)):=by
 rw[List.drop_eq_getElem_cons h,yS]
theorem has_eval (l:List Sp) (x:Int) (h:l.length≤100000):zi C0 f109 [.sl 2 (l.map encS),int x]=some (boo (hasB l x)):=by
 refine zb rfl ?_
 simp
 refine zq (fun k σ hp nx=>σ 1=int x∧σ 7=.sl 2 (l.map encS)∧σ 8=int l.length∧σ 9=int k∧hasB l x=hasB (l.drop k) x) l.length
  ⟨by simp,by simp,by simp,by simp,by simp⟩ ?_
 rintro k σ hp nx hk ⟨h1,h7,h8,h9,hf⟩
 by_cases hlt:k<l.length
 ·have hw:IntKind.i64.wrap ((k:Int)+1)=(k:Int)+1:=zc (by omega) (by omega)
  rw[hasB_drop hlt] at hf
  cases d1:(decide (l[k].1≤x)&&decide (x<l[k].2))
  ·rw[d1,Bool.false_or] at hf
   simp[h1,h7,h8,h9,hlt,d1,hw]
   exact⟨hlt,hf⟩
  ·rw[d1,Bool.true_or] at hf
   simp[h1,h7,h8,h9,hlt,d1,hf,f109]
 ·obtain rfl:k=l.length:=by omega
  rw[List.drop_length,hasB] at hf
  simp[h1,h7,h8,h9,hf,f109]
theorem next_eval (l:List Sp) (x:Int) (h:l.length≤100000):zi C0 f108 [.sl 2 (l.map encS),int x]=some (int (yS x 100000 l)):=by
 refine zb rfl ?_
 simp
 refine zq (fun k σ hp nx=>σ 1=int x∧σ 8=.sl 2 (l.map encS)∧σ 9=int l.length∧σ 10=int k∧∃o:Int,σ 5=int o∧yS x 100000 l=yS x o (l.drop k)) l.length
  ⟨by simp,by simp,by simp,by simp,100000,by simp,by simp⟩ ?_
 rintro k σ hp nx hk ⟨h1,h8,h9,h10,o,h5,hf⟩
 by_cases hlt:k<l.length
 ·have hw:IntKind.i64.wrap ((k:Int)+1)=(k:Int)+1:=zc (by omega) (by omega)
  rw[nextF_drop hlt] at hf
  have m1:∀a b:Int,(if b<a then b else a)=min a b:=fun a b=>by split<;>omega
  by_cases d1:x<l[k].1<;>by_cases d2:x<l[k].2<;>simp only[d1,d2,if_true,if_false] at hf<;>simp[h1,h5,h8,h9,h10,hlt,d1,d2,m1,hw]<;>first | exact⟨hlt,hf⟩ | exact⟨hlt,by rw[hf];congr 1;omega⟩
 ·obtain rfl:k=l.length:=by omega
  rw[List.drop_length,yS] at hf
  simp[h1,h5,h8,h9,h10,hf,f108]
theorem XO:za prog 109 (zd false [] (FPN (fun l x=>boo (hasB l x)) fun l _=>l.length≤100000)) :=
 zI (fn:=f109) qA ⟨_,func109,by kernel_rfl,rfl,by kernel_rfl⟩ false [] _ fun args r h=>by
  obtain⟨⟨l,x⟩,rfl,hl,rfl⟩:=ze h
  exact⟨Nat.le_trans (Nat.le_refl 2) (by decide),_,has_eval l x hl,zG _⟩
theorem KI:za prog 108 (zd false [] (FPN (fun l x=>int (yS x 100000 l)) fun l _=>l.length≤100000)) :=
 zI (fn:=f108) qA ⟨_,func108,by kernel_rfl,rfl,by kernel_rfl⟩ false [] _ fun args r h=>by
  obtain⟨⟨l,x⟩,rfl,hl,rfl⟩:=ze h
  exact⟨Nat.le_trans (Nat.le_refl 2) (by decide),_,next_eval l x hl,zG _⟩
noncomputable def FPP (out:List Sp→List Sp→PV) (pre:List Sp→List Sp→Prop):List PV→Option PV:=zH (α:=List Sp×List Sp) (fun a=>[.sl 2 (a.1.map encS),.sl 2 (a.2.map encS)]) (fun a=>pre a.1 a.2) (fun a=>out a.1 a.2)
theorem Zq (out:List Sp→List Sp→PV) (pre:List Sp→List Sp→Prop) (a b:List Sp) (hp:Hp) (nx:Nat) (h:pre a b):zd false [] (FPP out pre) [.sl 2 (a.map encS),.sl 2 (b.map encS)] hp nx=some (out a b,hp,nx) :=
 zy rfl (zm (enc:=fun a:List Sp×List Sp=>[PV.sl 2 (a.1.map encS),.sl 2 (a.2.map encS)]) (a:=(a,b)) (fun a b e=>by
  obtain⟨a1,a2⟩:=a;obtain⟨b1,b2⟩:=b
  simp only[List.cons.injEq,and_true] at e
  rw[wP e.1,wP e.2]) h) (.inr rfl)
def limR (l:List Sp):List Sp×Int:=if (100:Int)<l.length then ([],2) else (l,0)
theorem limited_eval (l:List Sp):∃r0,zi C0 f33 [.sl 2 (l.map encS)]=some r0∧Stands r0 (wW (limR l)):=by
 refine qz rfl ?_
 unfold limR
 by_cases hf:(100:Int)<l.length
 ·rw[if_pos hf]
  simp[hf,f33]
  exact⟨_,by simp,yf 2⟩
 ·rw[if_neg hf]
  simp[hf,f33]
  exact⟨wW (l,0),by simp[wW],.refl _⟩
theorem few_eval (l:List Sp):∃r0,zi C0 f36 [.sl 2 (l.map encS)]=some r0∧Stands r0 (wW (limR l)):=by
 refine qz rfl ?_
 unfold limR
 by_cases hf:(100:Int)<l.length
 ·rw[if_pos hf]
  simp[hf,f36]
  exact⟨_,by simp,yf 2⟩
 ·rw[if_neg hf]
  simp[hf,f36]
  exact⟨wW (l,0),by simp[wW],.refl _⟩
theorem limited_sound:za prog 33 (zd false [] (FP (fun l=>wW (limR l)) fun _=>True)) :=
 yw (fn:=f33) qA ⟨_,func33,by kernel_rfl,rfl,by kernel_rfl⟩ false [] _ fun args r h w S vs hz=>by
  obtain⟨l,rfl,_,rfl⟩:=ze h
  obtain⟨r0,h1,h2⟩:=limited_eval l
  exact⟨_,r0,hz,Nat.le_trans (Nat.le_refl 1) (by decide),h1,h2⟩
theorem few_sound:za prog 36 (zd false [] (FP (fun l=>wW (limR l)) fun _=>True)) :=
 yw (fn:=f36) qA ⟨_,func36,by kernel_rfl,rfl,by kernel_rfl⟩ false [] _ fun args r h w S vs hz=>by
  obtain⟨l,rfl,_,rfl⟩:=ze h
  obtain⟨r0,h1,h2⟩:=few_eval l
  exact⟨_,r0,hz,Nat.le_trans (Nat.le_refl 1) (by decide),h1,h2⟩
theorem mins_drop {a:List Sp} {j:Nat} (h:j<a.length) (b:List Sp):mins (a.drop j) b=jR a[j].1 a[j].2 (skip a[j].1 b)++mins (a.drop (j+1)) (skip a[j].1 b):=by
 rw[List.drop_eq_getElem_cons h,mins]
theorem XP {b:List Sp} {k:Nat} (h:k<b.length) (x:Int):skip x (b.drop k)=if b[k].2≤x then skip x (b.drop (k+1)) else b.drop k:=by
 rw[List.drop_eq_getElem_cons h,skip]
theorem Zr {b:List Sp} {k:Nat} (h:k<b.length) (f t:Int):jR f t (b.drop k)=if b[k].1<t then (if f<b[k].1 then (f,b[k].1)::jR (max f b[k].2) t (b.drop (k+1)) else jR (max f b[k].2) t (b.drop (k+1))) else if f<t then [(f,t)] else []:=by
 rw[List.drop_eq_getElem_cons h,jR]
theorem zc6 {hp:Hp} {nx e s id:Nat} {v:PV} {xs:List (List PV)} (h:OwnS hp nx e s v xs) (hi:nx≤id) (m:Nat):v≠.own id 0 m:=by
 rcases h with⟨rfl,rfl⟩ | ⟨i,h1,rfl,h2⟩
 ·simp
 ·intro h;injection h with h;omega
theorem minus_eval2 (a b:List Sp) (ha:okS a) (hb:okS b):∃r0,zi C0 f66 [.sl 2 (a.map encS),.sl 2 (b.map encS)]=some r0∧Stands r0 (.sl 2 ((mins a b).map encS)):=by
 obtain⟨hc,hbl,hp0,hl⟩:=ha
 obtain⟨hc',hbl',hp0',hl'⟩:=hb
 have hfin:∀{code},f66.body=some code→EvC C0 code ⟨yE [.sl 2 (a.map encS),.sl 2 (b.map encS)],fun _=>none,0⟩ (retK C0.P f66 (J1 (.sl 2 ((mins a b).map encS))))→∃r0,zi C0 f66 [.sl 2 (a.map encS),.sl 2 (b.map encS)]=some r0∧Stands r0 (.sl 2 ((mins a b).map encS)):=by
  intro code hb h
  obtain⟨r0,h1,h2⟩:=kE hb h
  exact⟨r0,h1,fun w S u hr=>Qn hr h2⟩
 refine hfin rfl ?_
 simp
 refine zq (fun j σ hp nx=>σ 1=.sl 2 (b.map encS)∧σ 11=.sl 2 (a.map encS)∧σ 12=int a.length∧σ 13=int j∧∃(k:Nat) (d:List Sp),σ 6=int k∧k≤b.length∧OwnS hp nx 41 2 (σ 5) (d.map encS)∧d++mins (a.drop j) (b.drop k)=mins a b∧d.length≤100001*j) a.length
  ⟨by simp,by simp,by simp,by simp,0,[],by simp,by simp,.inl (by simp),by simp,by simp⟩ ?_
 rintro j σ hp nx hj ⟨h1,h11,h12,h13,k0,d,h6,hk0,hO,hd,hdl⟩
 by_cases hlt:j<a.length
 ·have hw:IntKind.i64.wrap ((j:Int)+1)=(j:Int)+1:=zc (by omega) (by omega)
  have hmm:=List.getElem_mem hlt
  have b1:=hbl _ hmm
  have b2:=hp0 _ hmm
  have b3:=yU hc _ hmm
  rw[mins_drop hlt] at hd
  have hO1:=hO.more (some ⟨41,2,false,[encS a[j]]⟩)
  simp[h1,h11,h12,h13,hlt]
  refine yM (fun st=>st.σ 1=.sl 2 (b.map encS)∧st.σ 11=.sl 2 (a.map encS)∧st.σ 12=int a.length∧st.σ 13=int j∧st.σ 8=.ref nx 0 0∧st.σ 5=σ 5∧st.hp=upd hp nx (some ⟨41,2,false,[encS a[j]]⟩)∧st.nx=nx+1∧∃k:Nat,st.σ 6=int k∧k≤b.length∧skip a[j].1 (b.drop k)=skip a[j].1 (b.drop k0))
   (fun st=>b.length - (Yj (st.σ 6)).toNat) ⟨by simp[h1],by simp[h11],by simp[h12],by simp[h13],by simp,by simp,by simp,by simp,k0,by simp[h6],hk0,rfl⟩ ?_
  rintro⟨σ1,hp1,nx1⟩ ⟨g1,g11,g12,g13,g8,g5,ghp,gnx,k,g6,hk,hs⟩
  simp only at g1 g11 g12 g13 g8 g5 ghp gnx g6
  subst ghp;subst gnx
  by_cases hgo:∃hkl:k<b.length,b[k].2≤a[j].1
  ·obtain⟨hkl,hto⟩:=hgo
   have hwk:IntKind.i64.wrap ((k:Int)+1)=(k:Int)+1:=zc (by omega) (by omega)
   rw[XP hkl,if_pos hto] at hs
   simp[g1,g5,g6,g8,g11,g12,g13,hkl,hto,hwk]
   exact⟨⟨k+1,by simp,hkl,hs⟩,by omega⟩
  have hsk:b.drop k=skip a[j].1 (b.drop k0):=by
   rw[←hs]
   by_cases hkl:k<b.length
   ·rw[XP hkl,if_neg fun h=>hgo ⟨hkl,h⟩]
   ·rw[List.drop_eq_nil_of_le (by omega)];rfl
  rw[←hsk] at hd
  by_cases hkl:k<b.length
  ·have hto:¬b[k].2≤a[j].1:=fun h=>hgo ⟨hkl,h⟩
   simp[g1,g5,g6,g8,g11,g12,g13,hkl,hto]
   refine yM (fun st=>st.σ 1=.sl 2 (b.map encS)∧st.σ 11=.sl 2 (a.map encS)∧st.σ 12=int a.length∧st.σ 13=int j∧st.σ 8=.ref nx 0 0∧st.σ 6=int k∧st.hp nx=some ⟨41,2,false,[encS a[j]]⟩∧nx<st.nx∧∃(i:Nat) (f:Int) (d':List Sp),st.σ 10=int i∧st.σ 9=int f∧k≤i∧i≤b.length∧OwnS st.hp st.nx 41 2 (st.σ 5) (d'.map encS)∧(∀m,st.σ 5≠.own nx 0 m)∧d'++jR f a[j].2 (b.drop i)=d++jR a[j].1 a[j].2 (b.drop k)∧d'.length≤d.length+(i - k)∧0≤f∧f≤100000)
    (fun st=>b.length - (Yj (st.σ 10)).toNat) ⟨by simp[g1],by simp[g11],by simp[g12],by simp[g13],by simp[g8],by simp[g6],by simp,by simp,k,a[j].1,d,by simp[g6],by simp,by omega,by omega,by simpa[g5] using hO1,by simp only[zl _ _ _ _ (by decide:(5:Nat)≠10),ne_eq];simp[g5];exact fun m=>zc6 hO (Nat.le_refl _) m,rfl,by omega,b2,by omega⟩ ?_
   rintro⟨σ2,hp2,nx2⟩ ⟨q1,q11,q12,q13,q8,q6,qhp,qnx,i,f,d',q10,q9,hki,hil,hO2,hne,hp',hdl',hf0,hf1⟩
   simp only at q1 q11 q12 q13 q8 q6 qhp qnx q10 q9 hO2 hne
   by_cases hgo2:∃hib:i<b.length,b[i].1<a[j].2
   ·obtain⟨hib,hbt⟩:=hgo2
    have hwi:IntKind.i64.wrap ((i:Int)+1)=(i:Int)+1:=zc (by omega) (by omega)
    rw[Zr hib,if_pos hbt] at hp'
    have hbi:=hbl' _ (List.getElem_mem hib)
    have hbp:=hp0' _ (List.getElem_mem hib)
    obtain⟨mx,hmx,hmx0,hmx1⟩:∃mx,(if f<b[i].2 then b[i].2 else f)=mx∧0≤mx∧mx≤100000:=⟨_,rfl,by split<;>omega,by split<;>omega⟩
    have hmx2:max f b[i].2=mx:=by rw[←hmx];split<;>omega
    rw[hmx2] at hp'
    by_cases hfb:f<b[i].1
    ·rw[if_pos hfb] at hp'
     have hap:=hO2.append1 (P:=prog) (t:=36) (c:=encS (f,b[i].1)) el36 sz41 by41 ze41 rfl (by omega) (by rw[List.length_map];unfold maxLen;omega) (by rw[List.length_map];omega)
     have hbs:∀hp nx,zf prog hp nx 36 1 [(0,.agg (encS (f,b[i].1)))]=some (.own nx 0 1,upd hp nx (some ⟨41,2,true,[encS (f,b[i].1)]⟩),nx+1):=fun hp nx=>by
      simp[zf,zn,zg]
     simp only[encS] at hap hbs
     simp[q1,q6,q8,q9,q10,q11,q12,q13,qhp,hib,hbt,hfb,hwi,hmx,zt,zM,hbs,hap]
     refine⟨⟨?_,by omega,i+1,by simp,by omega,hib,d'++[(f,b[i].1)],?_,by omega,by rw[List.append_assoc];exact hp',by simp;omega,hmx0,hmx1⟩,by omega⟩
     ·rw[zl _ _ _ _ (by omega),zU hO2 _ _ hne,zl _ _ _ _ (by omega)]
      exact qhp
     ·rw[List.map_append,List.map_singleton]
      exact .inr ⟨nx2+1,by omega,by simp,by simp⟩
    ·rw[if_neg hfb] at hp'
     simp[q1,q6,q8,q9,q10,q11,q12,q13,qhp,hib,hbt,hfb,hwi,hmx]
     exact⟨⟨qnx,i+1,by simp,by omega,hib,d',hO2,hne,hp',by omega,hmx0,hmx1⟩,by omega⟩
   ·have hpe:jR f a[j].2 (b.drop i)=if f<a[j].2 then [(f,a[j].2)] else []:=by
     by_cases hib:i<b.length
     ·rw[Zr hib,if_neg fun h=>hgo2 ⟨hib,h⟩]
     ·rw[List.drop_eq_nil_of_le (by omega),jR]
    rw[hpe] at hp'
    have hcond:(∃hib:i<b.length,¬b[i].1<a[j].2)∨¬i<b.length:=by
     by_cases hib:i<b.length
     ·exact .inl ⟨hib,fun h=>hgo2 ⟨hib,h⟩⟩
     ·exact .inr hib
    by_cases hft:f<a[j].2
    ·rw[if_pos hft] at hp'
     have hap:=hO2.append1 (P:=prog) (t:=36) (c:=encS (f,a[j].2)) el36 sz41 by41 ze41 rfl (by omega) (by rw[List.length_map];unfold maxLen;omega) (by rw[List.length_map];omega)
     have hbs:∀hp nx,zf prog hp nx 36 1 [(0,.agg (encS (f,a[j].2)))]=some (.own nx 0 1,upd hp nx (some ⟨41,2,true,[encS (f,a[j].2)]⟩),nx+1):=fun hp nx=>by
      simp[zf,zn,zg]
     simp only[encS] at hap hbs
     rcases hcond with⟨hib,hbt⟩ | hib
     all_goals simp[q1,q6,q8,q9,q10,q11,q12,q13,qhp,hib,hft,hw,zt,zM,hbs,hap]
     all_goals try simp[hbt,q1,q6,q8,q9,q10,q11,q12,q13,qhp,hib,hft,hw,zt,zM,hbs,hap]
     all_goals refine⟨hlt,k,rfl,hk,d'++[(f,a[j].2)],?_,by rw[hp',List.append_assoc];exact hd,by simp;omega⟩
     all_goals rw[List.map_append,List.map_singleton]
     all_goals exact .inr ⟨nx2+1,by omega,by simp,by simp⟩
    ·rw[if_neg hft,List.append_nil] at hp'
     rcases hcond with⟨hib,hbt⟩ | hib
     all_goals simp[q1,q6,q8,q9,q10,q11,q12,q13,qhp,hib,hft,hw]
     all_goals try simp[hbt,q1,q6,q8,q9,q10,q11,q12,q13,qhp,hib,hft,hw]
     all_goals exact⟨hlt,k,rfl,hk,d',hO2,by rw[hp',List.append_assoc];exact hd,by omega⟩
  ·simp[g1,g5,g6,g8,g11,g12,g13,hkl]
   refine yM (fun st=>st.σ 1=.sl 2 (b.map encS)∧st.σ 11=.sl 2 (a.map encS)∧st.σ 12=int a.length∧st.σ 13=int j∧st.σ 8=.ref nx 0 0∧st.σ 6=int k∧st.hp nx=some ⟨41,2,false,[encS a[j]]⟩∧nx<st.nx∧∃(i:Nat) (f:Int) (d':List Sp),st.σ 10=int i∧st.σ 9=int f∧k≤i∧i≤b.length∧OwnS st.hp st.nx 41 2 (st.σ 5) (d'.map encS)∧(∀m,st.σ 5≠.own nx 0 m)∧d'++jR f a[j].2 (b.drop i)=d++jR a[j].1 a[j].2 (b.drop k)∧d'.length≤d.length+(i - k)∧0≤f∧f≤100000)
    (fun st=>b.length - (Yj (st.σ 10)).toNat) ⟨by simp[g1],by simp[g11],by simp[g12],by simp[g13],by simp[g8],by simp[g6],by simp,by simp,k,a[j].1,d,by simp[g6],by simp,by omega,by omega,by simpa[g5] using hO1,by simp only[zl _ _ _ _ (by decide:(5:Nat)≠10),ne_eq];simp[g5];exact fun m=>zc6 hO (Nat.le_refl _) m,rfl,by omega,b2,by omega⟩ ?_
   rintro⟨σ2,hp2,nx2⟩ ⟨q1,q11,q12,q13,q8,q6,qhp,qnx,i,f,d',q10,q9,hki,hil,hO2,hne,hp',hdl',hf0,hf1⟩
   simp only at q1 q11 q12 q13 q8 q6 qhp qnx q10 q9 hO2 hne
   by_cases hgo2:∃hib:i<b.length,b[i].1<a[j].2
   ·obtain⟨hib,hbt⟩:=hgo2
    have hwi:IntKind.i64.wrap ((i:Int)+1)=(i:Int)+1:=zc (by omega) (by omega)
    rw[Zr hib,if_pos hbt] at hp'
    have hbi:=hbl' _ (List.getElem_mem hib)
    have hbp:=hp0' _ (List.getElem_mem hib)
    obtain⟨mx,hmx,hmx0,hmx1⟩:∃mx,(if f<b[i].2 then b[i].2 else f)=mx∧0≤mx∧mx≤100000:=⟨_,rfl,by split<;>omega,by split<;>omega⟩
    have hmx2:max f b[i].2=mx:=by rw[←hmx];split<;>omega
    rw[hmx2] at hp'
    by_cases hfb:f<b[i].1
    ·rw[if_pos hfb] at hp'
     have hap:=hO2.append1 (P:=prog) (t:=36) (c:=encS (f,b[i].1)) el36 sz41 by41 ze41 rfl (by omega) (by rw[List.length_map];unfold maxLen;omega) (by rw[List.length_map];omega)
     have hbs:∀hp nx,zf prog hp nx 36 1 [(0,.agg (encS (f,b[i].1)))]=some (.own nx 0 1,upd hp nx (some ⟨41,2,true,[encS (f,b[i].1)]⟩),nx+1):=fun hp nx=>by
      simp[zf,zn,zg]
     simp only[encS] at hap hbs
     simp[q1,q6,q8,q9,q10,q11,q12,q13,qhp,hib,hbt,hfb,hwi,hmx,zt,zM,hbs,hap]
     refine⟨⟨?_,by omega,i+1,by simp,by omega,hib,d'++[(f,b[i].1)],?_,by omega,by rw[List.append_assoc];exact hp',by simp;omega,hmx0,hmx1⟩,by omega⟩
     ·rw[zl _ _ _ _ (by omega),zU hO2 _ _ hne,zl _ _ _ _ (by omega)]
      exact qhp
     ·rw[List.map_append,List.map_singleton]
      exact .inr ⟨nx2+1,by omega,by simp,by simp⟩
    ·rw[if_neg hfb] at hp'
     simp[q1,q6,q8,q9,q10,q11,q12,q13,qhp,hib,hbt,hfb,hwi,hmx]
     exact⟨⟨qnx,i+1,by simp,by omega,hib,d',hO2,hne,hp',by omega,hmx0,hmx1⟩,by omega⟩
   ·have hpe:jR f a[j].2 (b.drop i)=if f<a[j].2 then [(f,a[j].2)] else []:=by
     by_cases hib:i<b.length
     ·rw[Zr hib,if_neg fun h=>hgo2 ⟨hib,h⟩]
     ·rw[List.drop_eq_nil_of_le (by omega),jR]
    rw[hpe] at hp'
    have hcond:(∃hib:i<b.length,¬b[i].1<a[j].2)∨¬i<b.length:=by
     by_cases hib:i<b.length
     ·exact .inl ⟨hib,fun h=>hgo2 ⟨hib,h⟩⟩
     ·exact .inr hib
    by_cases hft:f<a[j].2
    ·rw[if_pos hft] at hp'
     have hap:=hO2.append1 (P:=prog) (t:=36) (c:=encS (f,a[j].2)) el36 sz41 by41 ze41 rfl (by omega) (by rw[List.length_map];unfold maxLen;omega) (by rw[List.length_map];omega)
     have hbs:∀hp nx,zf prog hp nx 36 1 [(0,.agg (encS (f,a[j].2)))]=some (.own nx 0 1,upd hp nx (some ⟨41,2,true,[encS (f,a[j].2)]⟩),nx+1):=fun hp nx=>by
      simp[zf,zn,zg]
     simp only[encS] at hap hbs
     rcases hcond with⟨hib,hbt⟩ | hib
     all_goals simp[q1,q6,q8,q9,q10,q11,q12,q13,qhp,hib,hft,hw,zt,zM,hbs,hap]
     all_goals try simp[hbt,q1,q6,q8,q9,q10,q11,q12,q13,qhp,hib,hft,hw,zt,zM,hbs,hap]
     all_goals refine⟨hlt,k,rfl,hk,d'++[(f,a[j].2)],?_,by rw[hp',List.append_assoc];exact hd,by simp;omega⟩
     all_goals rw[List.map_append,List.map_singleton]
     all_goals exact .inr ⟨nx2+1,by omega,by simp,by simp⟩
    ·rw[if_neg hft,List.append_nil] at hp'
     rcases hcond with⟨hib,hbt⟩ | hib
     all_goals simp[q1,q6,q8,q9,q10,q11,q12,q13,qhp,hib,hft,hw]
     all_goals try simp[hbt,q1,q6,q8,q9,q10,q11,q12,q13,qhp,hib,hft,hw]
     all_goals exact⟨hlt,k,rfl,hk,d',hO2,by rw[hp',List.append_assoc];exact hd,by omega⟩
 ·obtain rfl:j=a.length:=by omega
  rw[List.drop_length,mins,List.append_nil] at hd
  rw[hd] at hO
  have:=hO.freeze nx
  simp[h1,h11,h12,h13,f66]
  exact this
theorem minus2_sound:za prog 66 (zd false [] (FPP (fun a b=>.sl 2 ((mins a b).map encS)) fun a b=>okS a∧okS b)) :=
 yw (fn:=f66) qA ⟨_,func66,by kernel_rfl,rfl,by kernel_rfl⟩ false [] _ fun args r h w S vs hz=>by
  obtain⟨⟨a,b⟩,rfl,hx,rfl⟩:=ze h
  obtain⟨r0,h1,h2⟩:=minus_eval2 a b hx.1 hx.2
  exact⟨_,r0,hz,Nat.le_trans (Nat.le_refl 2) (by decide),h1,h2⟩
def blkS (l:List Sp):Option Blk:=if l.isEmpty then none else some ⟨41,2,true,l.map encS⟩
theorem Jo (l:List Sp) (s:Sp):blkS (l++[s])=some ⟨41,2,true,(l++[s]).map encS⟩:=by simp[blkS]
open Classical in
noncomputable def putM (b:Option Blk) (args:List PV):Option (Option Blk) :=
 if h:∃a:List Sp×Int×Int,b=blkS a.1∧args=[int a.2.1,int a.2.2]∧a.1.length≤100000 then some (blkS (putL h.choose.1 h.choose.2.1 h.choose.2.2)) else none
theorem zbB {a b:List Sp} (h:blkS a=blkS b):a=b:=by
 unfold blkS at h
 cases a with
 | nil=>cases b with
   | nil=>rfl
   | cons s l=>simp at h
 | cons s l=>cases b with
   | nil=>simp at h
   | cons r m =>
     simp only[List.isEmpty_cons,Bool.false_eq_true,if_false,Option.some.injEq,Blk.mk.injEq,true_and] at h
     exact qW (fun _ _=>Ys) h
theorem putM_eq (l:List Sp) (f t:Int) (h:l.length≤100000):putM (blkS l) [int f,int t]=some (blkS (putL l f t)):=by
 have hx:∃a:List Sp×Int×Int,blkS l=blkS a.1∧[int f,int t]=[int a.2.1,int a.2.2]∧a.1.length≤100000:=⟨(l,f,t),rfl,rfl,h⟩
 unfold putM
 rw[dif_pos hx]
 obtain⟨h1,h2,_⟩:=hx.choose_spec
 generalize hx.choose=c at h1 h2
 have e1:=zbB h1
 injection h2 with h2 h3
 injection h3 with h3 _
 injection h2 with h2
 injection h2 with _ h2
 injection h3 with h3
 injection h3 with _ h3
 rw[←e1,←h2,←h3]
theorem zbC {b:Option Blk} {args:List PV} {r:Option Blk} (h:putM b args=some r):∃(l:List Sp) (f t:Int),b=blkS l∧args=[int f,int t]∧l.length≤100000∧r=blkS (putL l f t):=by
 unfold putM at h
 split at h
 ·rename_i hx
  obtain⟨h1,h2,h3⟩:=hx.choose_spec
  injection h with h
  exact⟨_,_,_,h1,h2,h3,h.symm⟩
 ·cases h
theorem put_nil (f t:Int):∃x hp nx,qH C0 f110 [.nil,int f,int t] (fun _=>none) 0=some (x,hp,nx)∧OwnR (blkS [(f,t)]) x hp nx:=by
 refine zD rfl ?_
 simp[f110,OwnR,zf,qK,AM.view,maxLen,zn,zg,zt,zM,blkS]
theorem put_own (l:List Sp) (s:Sp) (f t:Int) (hl:l.length<100000):∃x hp nx,qH C0 f110 [.own 0 0 (l.length+1),int f,int t] (upd (fun _=>none) 0 (some ⟨41,2,true,(l++[s]).map encS⟩)) 1=some (x,hp,nx)∧OwnR (blkS (putL (l++[s]) f t)) x hp nx:=by
 refine zD rfl ?_
 have w1:IntKind.i64.wrap (l.length:Int)=l.length:=zc (by omega) (by omega)
 have w2:(l.length:Int)<l.length+1:=by omega
 unfold putL
 by_cases he:s.2=f
 ·have he':(s.2==f)=true:=by simpa using he
  simp[w1,w2,he,f110]
  rw[Jo]
  exact⟨0,by simp,by simp,rfl⟩
 ·have he':(s.2==f)=false:=by simpa using he
  have hO:OwnS (upd (fun _=>none) 0 (some ⟨41,2,true,l.map encS++[encS s]⟩)) 1 41 2 (.own 0 0 (l.length+1)) (l.map encS++[encS s]):=.inr ⟨0,by omega,by simp,by simp⟩
  have hap:=hO.append1 (P:=prog) (t:=36) (c:=encS (f,t)) el36 sz41 by41 ze41 rfl (by omega) (by simp[maxLen];omega) (by simp;omega)
  have hbs:∀hp nx,zf prog hp nx 36 1 [(0,.agg (encS (f,t)))]=some (.own nx 0 1,upd hp nx (some ⟨41,2,true,[encS (f,t)]⟩),nx+1):=fun hp nx=>by
   simp[zf,zn,zg]
  simp only[encS] at hap hbs
  simp[w1,w2,he,he',zt,zM,hbs,hap,f110]
  rw[show l++[s,(f,t)]=(l++[s])++[(f,t)] by simp,Jo]
  exact⟨2,by simp,by simp,rfl⟩
theorem putL_nil (f t:Int):putL [] f t=[(f,t)]:=rfl
theorem XQ:za prog 110 (zap [] putM) :=
 hMove_sound (fn:=f110) (code:=_) qA ⟨func110,by kernel_rfl,rfl,by kernel_rfl⟩ [] _
  (fun args r h=>by
   obtain⟨l,f,t,h1,rfl,_,rfl⟩:=zbC h
   obtain rfl:l=[]:=zbB (h1.symm.trans (by rfl))
   exact⟨Nat.le_trans (Nat.le_refl 3) (by decide),by rw[putL_nil];exact put_nil f t⟩)
  (fun b args r h=>by
   obtain⟨l,f,t,h1,rfl,hl,rfl⟩:=zbC h
   refine⟨Nat.le_trans (Nat.le_refl 3) (by decide),fun _=>?_⟩
   rcases List.eq_nil_or_concat l with rfl | ⟨m,s,rfl⟩
   ·cases h1
   ·rw[List.concat_eq_append] at h1 hl ⊢
    rw[Jo] at h1
    injection h1 with h1
    subst h1
    have:=put_own m s f t (by simp at hl;omega)
    simpa using this)
end Go.Proofs.YtdkfdoeijcfbhaaGreatDoor
namespace Go.AM
open Go.RowKit Go.Proofs
def GrowOk (P:Program) (f e s by_:Nat):Prop :=
 (∀w,Calls P f #[.slice none 0 0,.int .i64 0] w fun r w'=>r=.returned (.slice none 0 0)∧w'=w) ∧
 ∀(n:Nat) (w:World),0<n→n*by_≤140737488355328→n≤4611686018427387904→Calls P f #[.slice none 0 0,.int .i64 n] w fun r w' =>
  ∃cap cur,cap≤maxLen∧cur.size=cap*s∧r=.returned (.slice (some ⟨w.heap.size,0,none⟩) 0 cap)∧w'=w.drew.alloc (.cells cur e)
theorem GrowOk.of {P:Program} {ρ:Go.Shelf.Ren} (L:Lays8.n4 P ρ) {s by_:Nat} {z:List PV} (hs:zR P (ρ.t 25)=some s) (hb:yD P (ρ.t 25)=some by_) (hz:wF P (ρ.t 25)=some z) (hl:z.length=s) (h0:0<s):GrowOk P (ρ.f 4) (ρ.t 25) s by_:=by
 obtain⟨i,v,hi,hv,hc⟩:=vH hz
 obtain⟨i',hi',his⟩:=kC hs
 rw[hi] at hi'
 injection hi' with hi'
 subst hi'
 have hib:i.bytes=by_:=by
  unfold yD at hb
  rw[hi] at hb
  simpa using hb
 have hzc:v.cells.size=s:=by
  have:=(qV (w:=default) (S:=fun _=>False) hc).1
  rw[hl] at this
  simpa using this.symm
 refine⟨fun w=>Any8.slices_Grow_room L none 0 0 0 w (by omega) (by omega) (by omega) (by omega),fun n w hn hb hm=>?_⟩
 refine (Any8.slices_Grow_grow L i v hi hv (by omega) none 0 0 n [] w (by omega) (by omega) (by rw[hib];simpa using hb) (by omega) (by simp) (fun _=>rfl) (fun a h=>(nomatch h))).mono fun r w' hh=>?_
 obtain⟨rfl,rfl⟩:=hh
 rw[Nat.zero_add] at *
 have hge:n≤grownCap w n 0 (ρ.t 25):=grownCap_ge _ _ _ _
 refine⟨_,_,grownCap_le_maxLen w n 0 (ρ.t 25) (by unfold maxLen;omega),?_,rfl,rfl⟩
 rw[Array.size_append,Array.size_append,size_zeroCells,size_zeroCells,hzc]
 simp only[List.size_toArray,List.length_nil,Nat.zero_add,Nat.sub_zero]
 rw[←Nat.add_mul]
 congr 1
 omega
def zcu (e s by_:Nat):AM.Spec:=fun args hp nx=>match args with
 | [.nil,.v (.int .i64 n)]=>if n=0 then some (.nil,hp,nx) else if 0<n∧n*by_≤140737488355328∧n≤4611686018427387904 then some (.own nx 0 0,upd hp nx (some ⟨e,s,true,[]⟩),nx+1) else none
 | _=>none
theorem hGrow_sound {P:Program} {f e s by_:Nat} (hfn:∃fn,P.funcs[f]?=some fn∧(fn.name== "runtime.NumGoroutine")=false∧fn.body.isNone=false) (hsz:zR P e=some s) (hs0:0<s) (h:GrowOk P f e s by_):za P f (zcu e s by_):=by
 refine⟨hfn,?_⟩
 intro args hp nx r hp' nx' hh w S G vs hi hz
 unfold zcu at hh
 split at hh
 ·rename_i n
  obtain⟨u,us,rfl,hu,hz'⟩:=hz.uncons
  obtain⟨v,us,rfl,hv,hz'⟩:=hz'.uncons
  obtain rfl:=hz'.unnil
  obtain rfl:=hu.nil_inv
  obtain⟨rfl,_⟩:=hv.v_inv
  split at hh
  ·rename_i hn
   subst hn
   injection hh with hh
   injection hh with e1 hh
   injection hh with e2 e3
   subst e1;subst e2;subst e3
   refine (h.1 w).mono fun r w' hr=>?_
   obtain⟨rfl,rfl⟩:=hr
   exact⟨_,_,_,rfl,.refl hi,.c .nil⟩
  ·split at hh
   ·rename_i hn0 hc
    injection hh with hh
    injection hh with e1 hh
    injection hh with e2 e3
    subst e1;subst e2;subst e3
    obtain⟨m,rfl⟩:∃m:Nat,n=m:=⟨n.toNat,by omega⟩
    refine (h.2 m w (by omega) (Int.ofNat_le.1 (by rw[Int.natCast_mul];exact hc.2.1)) (by have:=hc.2.2;omega)).mono fun r w' hr=>?_
    obtain⟨cap,cur,h1,h2,rfl,rfl⟩:=hr
    have k1:=Stp.drew hi
    obtain⟨i,hii,hisz⟩:=kC hsz
    have k2:=Stp.alloc k1.inv cur e true [] s hs0 (by rw[hii];simp[hisz]) (by simp) (by simp) (by simp)
    refine⟨_,_,_,rfl,k1.trans k2,?_⟩
    have:=RepO.own (w:=w.drew.alloc (.cells cur e)) (S:=S) (G:=upd G nx ⟨w.drew.heap.size,cur.size,s⟩) (nx:=nx+1) (id:=nx) (off:=0) (n:=0) (cap:=cap) (by omega) (by omega) h1 (by rw[qb];show (0+cap)*s=cur.size;rw[h2,Nat.zero_add]) (by rw[qb];exact hs0)
    rw[qb] at this
    have e0:0*s=0:=Nat.zero_mul s
    simp only[e0] at this
    exact this
   ·cases hh
 ·cases hh
theorem OwnS.appendL {P:Program} {hp:Hp} {nx e s by_:Nat} {v:PV} {xs:List (List PV)} {ys:List (List PV)} {z:List PV} {t:TypeId} (h:OwnS hp nx e s v xs) (ht:qJ P t=some e) (hs:zR P e=some s) (hb:yD P e=some by_) (hz:wF P e=some z)
  (hzl:z.length=s) (h0:0<s) (h1:xs.length+ys.length≤maxLen) (h2:(xs.length+ys.length)*by_≤140737488355328) :
  ∃v' hp' nx',qK P hp nx t t v (.sl s ys)=some (v',hp',nx')∧OwnS hp' nx' e s v' (xs++ys)∧nx≤nx':=by
 rcases h with⟨rfl,rfl⟩ | ⟨id,hid,rfl,hh⟩
 ·simp at h1 h2
  by_cases hy:ys=[]
  ·subst hy
   exact⟨.nil,hp,nx,by simp[qK,ht,hs,hb,hz,hzl,h0,AM.view,maxLen],.inl ⟨rfl,rfl⟩,Nat.le_refl _⟩
  ·exact⟨.own nx 0 ys.length,_,nx+1,by simp[qK,ht,hs,hb,hz,hzl,h0,h1,h2,AM.view,hy];rfl,.inr ⟨nx,by omega,by simp,by simp⟩,by omega⟩
 ·exact⟨.own nx 0 (xs.length+ys.length),_,nx+1,by simp[qK,ht,hs,hb,hz,hzl,h0,h1,h2,AM.view,hh];rfl,.inr ⟨nx,by omega,by simp,by simp⟩,by omega⟩
end Go.AM
