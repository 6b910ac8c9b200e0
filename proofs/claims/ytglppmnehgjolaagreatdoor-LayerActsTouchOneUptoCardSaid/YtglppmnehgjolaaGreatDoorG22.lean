/-
What is free.
What an experiment has at a time (the program's Has).
slices.SortFunc at pieces off the kit's shelf, at this program (turned from the text for spans).
What is busy.
The law: pieces are apart and not free.
Plain law: names of a right book in order; sets within the buckets.
slices.SortFunc at experiments off the kit's shelf, at this program (turned from the text for spans).
The sort of experiments by their names.
Plain law: experiments that start and grow.
The abstract machine, part 33: texts that are built in a strings.Builder of one's own.
-/
import Derived.Test.YtglppmnehgjolaaGreatDoorG21
import Derived.Shelf.SlSortCmp.WholeK
import Derived.Shelf.SlSortCmp.NoneTotal
import Derived.Test.YtglppmnehgjolaaGreatDoorProg
import Derived.Test.YtglppmnehgjolaaGreatDoorG16
import Derived.Test.YtglppmnehgjolaaGreatDoorG20
import Derived.Test.YtglppmnehgjolaaGreatDoorG15
import Derived.Test.YtglppmnehgjolaaGreatDoorG19
import Derived.Test.YtglppmnehgjolaaGreatDoorG9
set_option maxRecDepth 8000
namespace Go.Proofs.YtglppmnehgjolaaGreatDoor
open Go.Proofs.Tryz
open Go.RowKit Go.AM Go.SpanLaw
theorem chk_ok {b:Bk} (h:qe b=0):(∀y∈b.layers,0≤y.rest∧y.rest≤100000000)∧(∀x∈b.exps,wO x.phases=0∧(bsN (b.layers.map Lyr.name) x.layer).2=true)∧clsF b.layers b.exps 0 b.exps=false:=by
 unfold qe at h
 split at h
 ·exact absurd h (by simp)
 split at h
 ·rename_i c1
  split at h
  ·split at h
   ·rename_i c3
    split at h
    ·exact absurd h (by simp)
    ·rename_i c4
     exact⟨layers_ok c1,exps_ok c3,by simpa using c4⟩
   ·rename_i c;exact absurd h c
  ·rename_i c;exact absurd h c
 ·rename_i c;exact absurd h c
theorem phF_spans:∀{xs:List Phs} {p:Option Int} {b:List Sp},phF p b xs=0→∀y∈xs,zL y.spans=0
 | [],_,_,_,y,hy=>by simp at hy
 | x::xs,p,b,h,y,hy=>by
   simp only[phF] at h
   split at h
   ·split at h
    ·exact absurd h (by simp)
    ·split at h
     ·rename_i c
      split at h
      ·exact absurd h (by simp)
      ·rcases List.mem_cons.1 hy with rfl | hy
       ·exact c
       ·exact phF_spans h y hy
     ·rename_i c;exact absurd h c
   ·exact absurd h (by simp)
theorem qV {l:List Phs} (h:wO l=0):∀y∈l,zL y.spans=0:=by
 unfold wO at h
 split at h
 ·exact absurd h (by simp)
 ·exact phF_spans h
def unfG (rest n:Int) (all:List Phs):Nat→List Phs→List Sp
 | _,[]=>[]
 | k,p::l=>(if n<endF all k+rest then p.spans else [])++unfG rest n all (k+1) l
def unf (layer but:List UInt8) (rest n:Int):List Xp→List Sp
 | []=>[]
 | x::l=>(if x.layer=layer then (if x.name=but then [] else unfG rest n x.phases 0 x.phases) else [])++unf layer but rest n l
theorem unfG_len (rest n:Int) (all:List Phs):∀(l:List Phs) (k:Nat),(unfG rest n all k l).length≤sumB Phs.cb l
 | [],k=>by simp[unfG]
 | p::l,k=>by
   have:=unfG_len rest n all l (k+1)
   have hp:p.cb=1+p.spans.length:=rfl
   simp only[unfG,List.length_append,sumB,List.map_cons,List.sum_cons] at *
   split<;>simp<;>omega
theorem unf_len (layer but:List UInt8) (rest n:Int):∀l:List Xp,(unf layer but rest n l).length≤sumB Xp.cb l
 | []=>by simp[unf]
 | x::l=>by
   have:=unf_len layer but rest n l
   have h2:=unfG_len rest n x.phases x.phases 0
   have hx:x.cb=x.name.length+x.layer.length+x.flag.length+x.cond.cb+x.salt.length+x.arms.length+sumB Phs.cb x.phases:=rfl
   simp only[unf,List.length_append,sumB,List.map_cons,List.sum_cons] at *
   split
   ·split<;>simp<;>omega
   ·simp;omega
theorem unfG_mem (rest n:Int) (all:List Phs):∀(l:List Phs) (k:Nat) (s:Sp),s∈unfG rest n all k l→∃p∈l,s∈p.spans
 | [],k,s,h=>by simp[unfG] at h
 | p::l,k,s,h=>by
   simp only[unfG,List.mem_append] at h
   rcases h with h | h
   ·split at h
    ·exact⟨p,by simp,h⟩
    ·simp at h
   ·obtain⟨q,hq,hs⟩:=unfG_mem rest n all l (k+1) s h
    exact⟨q,by simp[hq],hs⟩
theorem unf_mem (layer but:List UInt8) (rest n:Int):∀(l:List Xp) (s:Sp),s∈unf layer but rest n l→∃x∈l,∃p∈x.phases,s∈p.spans
 | [],s,h=>by simp[unf] at h
 | x::l,s,h=>by
   simp only[unf,List.mem_append] at h
   rcases h with h | h
   ·split at h
    ·split at h
     ·simp at h
     ·obtain⟨p,hp,hs⟩:=unfG_mem rest n x.phases x.phases 0 s h
      exact⟨x,by simp,p,hp,hs⟩
    ·simp at h
   ·obtain⟨q,hq,hs⟩:=unf_mem layer but rest n l s h
    exact⟨q,by simp[hq],hs⟩
def okU (l:List Sp):Prop:=∀s∈l,0≤s.1∧s.1<s.2∧s.2≤100000
theorem span_ok {a:List Sp} (ha:zL a=0):okU a:=by
 obtain⟨c1,b1,p1,_⟩:=qu ha
 exact fun s hs=>⟨p1 s hs,wN c1 s hs,b1 s hs⟩
theorem unf_ok {b:Bk} (h:qe b=0) (layer but:List UInt8) (rest n:Int):okU (unf layer but rest n b.exps):=fun s hs=>by
 obtain⟨x,hx,p,hp,hs⟩:=unf_mem layer but rest n b.exps s hs
 exact span_ok (qV ((chk_ok h).2.1 x hx).1 p hp) s hs
theorem okU_small {l:List Sp} (h:okU l):Small l:=fun s hs=>by have:=h s hs;omega
theorem canon_len:∀{lo hi:Int} {l:List Sp},wy lo l→Below hi l→lo≤hi→(l.length:Int)≤hi - lo
 | lo,hi,[],_,_,h=>by simp;omega
 | lo,hi,s::l,hc,hb,h=>by
   have hs:=hb s (by simp)
   have:=canon_len hc.2.2 (fun x hx=>hb x (by simp[hx])) hs
   have:=hc.1
   have:=hc.2.1
   simp only[List.length_cons]
   omega
theorem tog_okS {l:List Sp} (h:okU l):okS (togL (wq l))∧∀k,mem (togL (wq l)) k↔mem l k:=by
 obtain⟨_,s2,s3⟩:=kB (okU_small h)
 have hs:xp 0 (wq l):=sorted_of (fun s hs=>by have:=h s (s2.mem_iff.1 hs);exact⟨this.1,this.2.1⟩) s3
 have hc:wy (-1) (togL (wq l)):=togL_canon (lo:=-1) (by simpa using hs)
 have hm:∀k,mem (togL (wq l)) k↔mem l k:=fun k=>by rw[togL_mem hs,mem_perm s2]
 have hpos:=wN hc
 have hb:Below 100000 (togL (wq l)):=fun s hs=>by
  have hp:=hpos s hs
  obtain⟨t,ht,g1,g2⟩:=(hm (s.2 - 1)).1 ⟨s,hs,by omega,by omega⟩
  have:=h t ht
  omega
 refine⟨⟨hc,hb,fun s hs=>?_,?_⟩,hm⟩
 ·have:=yG hc ⟨s,hs,Int.le_refl _,hpos s hs⟩
  omega
 ·have:=canon_len hc hb (by omega)
  have h2:¬(togL (wq l)).length=100001:=fun e=>by
   rcases hL:togL (wq l) with _ | ⟨s,m⟩
   ·rw[hL] at e;simp at e
   ·rw[hL] at hc hb e
    have h1:=canon_len hc.2.2 (fun x hx=>hb x (by simp[hx])) (hb s (by simp))
    have h3:=hc.1
    have h4:=hc.2.1
    simp only[List.length_cons] at e
    omega
  omega
noncomputable def yl (b:Bk) (layer but:List UInt8) (n:Int):List Sp:=mins [(0,100000)] (togL (wq (unf layer but (restOf b.layers layer) n b.exps)))
def okB (b:Bk) (layer:List UInt8):Prop:=b.cb≤lim∧qe b=0∧(bsN (b.layers.map Lyr.name) layer).2=true
noncomputable def FBut (out:Bk→List UInt8→List UInt8→Int→PV):List PV→Option PV:=zM (α:=Bk×List UInt8×List UInt8×Int) (fun a=>[.agg a.1.enc,str a.2.1,str a.2.2.1,int a.2.2.2]) (fun a=>okB a.1 a.2.1) (fun a=>out a.1 a.2.1 a.2.2.1 a.2.2.2)
theorem FBut_call (out:Bk→List UInt8→List UInt8→Int→PV) (b:Bk) (s t:List UInt8) (n:Int) (hp:Hp) (nx:Nat) (h:okB b s):zd false [] (FBut out) [.agg b.enc,str s,str t,int n] hp nx=some (out b s t n,hp,nx) :=
 zJ (hp1:=hp) (show zk hp [.agg b.enc,str s,str t,int n]=some ([.agg b.enc,str s,str t,int n],hp) by simp only[zk,kj];rfl) (zq (enc:=fun a:Bk×List UInt8×List UInt8×Int=>[.agg a.1.enc,str a.2.1,str a.2.2.1,int a.2.2.2]) (a:=(b,s,t,n)) (fun x y e=>by
  obtain⟨x1,x2,x3,x4⟩:=x;obtain⟨y1,y2,y3,y4⟩:=y
  simp only[List.cons.injEq,and_true,PV.agg.injEq] at e
  rw[xq e.1,qa e.2.1,qa e.2.2.1,zG e.2.2.2]) h) (.inr (by simp only[List.all_cons,noOwn_bk];rfl))
noncomputable abbrev Cfb:Ctx:=zN prog [(12,zd false [] FOfL),(44,zd false [] (FPi2 fun l i=>int (endF l i))),(45,zd false [] allS),(34,zd true [2] togF),(32,zd false [] (FPP (fun a b=>.sl 2 ((mins a b).map encS)) fun a b=>okS a∧okS b))]
theorem goodfb:AM.Good Cfb (fun g=>([]:List Nat).contains g):=zr mixed ⟨vF,by simp,end_sound,by simp,everythingL_sound,by simp,togK_sound,by simp,minus2_sound,by simp,trivial⟩
theorem unfG_drop {rest n:Int} {l:List Phs} {k:Nat} (h:k<l.length):unfG rest n l k (l.drop k)=(if n<endF l k+rest then l[k].spans else [])++unfG rest n l (k+1) (l.drop (k+1)):=by
 rw[List.drop_eq_getElem_cons h,unfG]
theorem unf_drop {layer but:List UInt8} {rest n:Int} {l:List Xp} {k:Nat} (h:k<l.length):unf layer but rest n (l.drop k)=(if l[k].layer=layer then (if l[k].name=but then [] else unfG rest n l[k].phases 0 l[k].phases) else [])++unf layer but rest n (l.drop (k+1)):=by
 rw[List.drop_eq_getElem_cons h,unf]
set_option maxHeartbeats 4000000 in
theorem freeBut_eval (b:Bk) (layer but:List UInt8) (n:Int) (h:okB b layer):zl Cfb f15 [.agg b.enc,str layer,str but,int n]=some (.sl 2 ((yl b layer but n).map encS)):=by
 obtain⟨hb,hchk,hfl⟩:=h
 obtain⟨hyr,hex,_⟩:=chk_ok hchk
 refine ze rfl ?_
 have hlen:=qb xp_pos b.exps
 have hleL:=qb vA b.layers
 have hbc:b.cb=sumB Lyr.cb b.layers+sumB Hld.cb b.holds+sumB Xp.cb b.exps:=rfl
 unfold lim at hb
 have hof:=fun hp nx=>vE b.layers layer hp nx (by unfold lim;omega)
 obtain⟨q,hq⟩:∃q,(bsN (b.layers.map Lyr.name) layer).1=q:=⟨_,rfl⟩
 have hql:q<b.layers.length:=by have:=bsN_lt hfl;rw[hq] at this;simpa using this
 obtain⟨y,hy⟩:∃y,b.layers[q]=y:=⟨_,rfl⟩
 have hyr:=hyr y (by rw[←hy];exact List.getElem_mem hql)
 have hrest:restOf b.layers layer=y.rest:=by unfold restOf;rw[hq,List.getElem?_eq_getElem hql,hy]
 obtain⟨T,hT⟩:∃T,unf layer but y.rest n b.exps=T:=⟨_,rfl⟩
 have hTl:T.length≤2097152:=by have:=unf_len layer but y.rest n b.exps;rw[hT] at this;omega
 have hTok:okU T:=by rw[←hT];exact unf_ok hchk layer but y.rest n
 have hfv:yl b layer but n=mins [(0,100000)] (togL (wq T)):=by unfold yl;rw[hrest,hT]
 rw[hfv]
 simp[Bk.enc,hof,hq,hql,hy,Lyr.enc]
 refine zD (fun k σ hp nx=>σ 1=str layer∧σ 2=str but∧σ 3=int n∧σ 11=int y.rest∧σ 31=.sl 13 (b.exps.map Xp.enc)∧σ 32=int b.exps.length∧σ 33=int k∧∃d,OwnS hp nx 67 2 (σ 12) (d.map encS)∧d++unf layer but y.rest n (b.exps.drop k)=T) b.exps.length
  ⟨by simp,by simp,by simp,by simp,by simp,by simp,by simp,[],.inl (by simp),by simpa using hT⟩ ?_
 rintro k σ hp nx hk ⟨h1,h2,h3,h11,h31,h32,h33,d,hO,hd⟩
 by_cases hlt:k<b.exps.length
 ·obtain⟨x,hx⟩:∃x,b.exps[k]=x:=⟨_,rfl⟩
  have hxm:x∈b.exps:=by rw[←hx];exact List.getElem_mem hlt
  have hmx:=qL (f:=Xp.cb) hxm
  have hxc:x.cb=x.name.length+x.layer.length+x.flag.length+x.cond.cb+x.salt.length+x.arms.length+sumB Phs.cb x.phases:=rfl
  have hxpl:=qb kC x.phases
  have hto:=phasesF_ok (hex x hxm).1
  rw[unf_drop hlt,hx] at hd
  have hw:IntKind.i64.wrap ((k:Int)+1)=(k:Int)+1:=zi (by omega) (by omega)
  have hO1:=hO.more (some (boxX x))
  by_cases c1:x.layer=layer
  case neg =>
   have c1':(x.layer==layer)=false:=by simpa using c1
   rw[if_neg c1,List.nil_append] at hd
   simp[h1,h2,h3,h11,h31,h32,h33,hlt,hx,zF,c1',hw]
   rw[boxX,zF] at hO1
   exact⟨by omega,d,hO1,hd⟩
  have c1':(x.layer==layer)=true:=by simpa using c1
  rw[if_pos c1] at hd
  by_cases c2:x.name=but
  ·have c2':(x.name==but)=true:=by simpa using c2
   rw[if_pos c2,List.nil_append] at hd
   simp[h1,h2,h3,h11,h31,h32,h33,hlt,hx,zF,c1',c2',hw]
   rw[boxX,zF] at hO1
   exact⟨by omega,d,hO1,hd⟩
  have c2':(x.name==but)=false:=by simpa using c2
  rw[if_neg c2] at hd
  simp[h1,h2,h3,h11,h31,h32,h33,hlt,hx,zF,c1',c2']
  obtain⟨P,hP⟩:∃P,nx=P:=⟨_,rfl⟩
  rw[hP] at hO1 ⊢
  rw[boxX,zF] at hO1
  refine zD (fun i σ hp nx=>σ 1=str layer∧σ 2=str but∧σ 3=int n∧σ 11=int y.rest∧σ 31=.sl 13 (b.exps.map Xp.enc)∧σ 32=int b.exps.length∧σ 33=int k∧σ 14=.ref P 0 0∧σ 48=.sl 2 (x.phases.map Phs.enc)∧σ 49=int x.phases.length∧σ 50=int i∧P<nx∧hp P=some ⟨34,13,false,[x.enc]⟩∧∃d,OwnS hp nx 67 2 (σ 12) (d.map encS)∧d++(unfG y.rest n x.phases i (x.phases.drop i)++unf layer but y.rest n (b.exps.drop (k+1)))=T) x.phases.length
   ⟨by simp[h1],by simp[h2],by simp[h3],by simp[h11],by simp[h31],by simp[h32],by simp[h33],by simp,by simp,by simp,by simp,(by show P<P+1;omega),by simp[zF],d,by simpa using hO1,by simpa using hd⟩ ?_
  clear h1 h2 h3 h11 h31 h32 h33 hO hd hO1 hP d hk σ hp nx
  rintro i σ hp nx hi ⟨h1,h2,h3,h11,h31,h32,h33,h14,h48,h49,h50,hPn,hbP,d,hO,hd⟩
  by_cases hlti:i<x.phases.length
  ·obtain⟨p,hpd⟩:∃p,x.phases[i]=p:=⟨_,rfl⟩
   rw[unfG_drop hlti,hpd] at hd
   have hwi:IntKind.i64.wrap ((i:Int)+1)=(i:Int)+1:=zi (by omega) (by omega)
   have hea:=end_range hto i
   have wa:IntKind.i64.wrap (endF x.phases i+y.rest)=endF x.phases i+y.rest:=zi (by omega) (by omega)
   have hce:=fun hp nx=>FPi2_call (fun l i=>int (endF l i)) x.phases i hp nx ⟨by unfold lim;omega,by unfold lim;omega⟩
   have nP:¬P=nx:=by omega
   have hO1:=hO.more (some ⟨58,2,false,[p.enc]⟩)
   have hbP':=hbP
   rw[zF] at hbP'
   by_cases hc:n<endF x.phases i+y.rest
   case neg =>
    rw[if_neg hc,List.nil_append] at hd
    rw[Phs.enc] at hO1
    simp[h1,h2,h3,h11,h31,h32,h33,h14,h48,h49,h50,hlti,hpd,Phs.enc,hbP',nP,hce,wa,hc,hwi]
    exact⟨by omega,by omega,(zF x).symm,d,hO1,hd⟩
   rw[if_pos hc] at hd
   have hdl:d.length+p.spans.length≤2097152:=by
    have:=congrArg List.length hd
    simp only[List.length_append] at this
    omega
   obtain⟨v',hp',nx',ha1,hO',hnx',hfr⟩:=hO1.appendF (P:=prog) (t:=38) (ys:=p.spans.map encS) el38 sz67 by67 ze67 rfl (by omega) (by simp[maxLen];omega) (by simp;omega)
   have hbP2:hp' P=some ⟨34,13,false,[x.enc]⟩:=by
    rw[hfr P (by omega) (ownS_box hO hbP rfl),zc _ _ _ _ nP];exact hbP
   rw[Phs.enc] at ha1
   simp[h1,h2,h3,h11,h31,h32,h33,h14,h48,h49,h50,hlti,hpd,Phs.enc,hbP',nP,hce,wa,hc,hwi,ha1]
   exact⟨by omega,by omega,hbP2,d++p.spans,by rw[List.map_append];exact hO',by rw[List.append_assoc,←List.append_assoc p.spans];exact hd⟩
  ·obtain rfl:i=x.phases.length:=by omega
   rw[List.drop_length,unfG,List.nil_append] at hd
   simp[h1,h2,h3,h11,h31,h32,h33,h14,h48,h49,h50,hw]
   exact⟨by omega,d,hO,hd⟩
 ·obtain rfl:k=b.exps.length:=by omega
  rw[List.drop_length,unf,List.append_nil] at hd
  subst hd
  obtain⟨hp',htc⟩:=togK_call hO (okU_small hTok) hTl
  have hmc:=fun hp nx=>jM (fun a b=>.sl 2 ((mins a b).map encS)) (fun a b=>okS a∧okS b) [(0,100000)] (togL (wq d)) hp nx ⟨okS_of (by decide),(tog_okS hTok).1⟩
  have hec:=fun hp nx=>everythingL_call hp nx
  simp only[List.map_cons,List.map_nil,encS] at hmc
  simp[h1,h2,h3,h11,h31,h32,h33,hec,htc,hmc,qC,f15]
set_option maxRecDepth 100000 in
theorem freeBut_sound:za prog 15 (zd false [] (FBut fun b s t n=>.sl 2 ((yl b s t n).map encS))) :=
 zZ (fn:=f15) goodfb ⟨_,func15,by kernel_rfl,rfl,by kernel_rfl⟩ false [] _ fun args r h=>by
  obtain⟨⟨b,s,t,n⟩,rfl,hx,rfl⟩:=zg h
  exact⟨by simp[f15],_,freeBut_eval b s t n hx,zY _⟩
noncomputable def chkX (b:Bk) (s:List UInt8) (n:Int):Int:=if qe b=0 then (if (bsN (b.exps.map Xp.name) s).2=true then (if timeB n=true then 0 else 1) else 5) else qe b
noncomputable def kJ (b:Bk) (s:List UInt8) (n:Int):Nat:=if chkX b s n=0 then (bsN (b.exps.map Xp.name) s).1 else 0
noncomputable abbrev Ccx:Ctx:=zN prog [(10,zd false [] (FBk fun b=>int (qe b))),(11,zd false [] FOfX),(14,zd false [] (FIb timeB))]
theorem goodcx:AM.Good Ccx (fun g=>([]:List Nat).contains g):=zr mixed ⟨xcb_sound,by simp,ofX_sound,by simp,vC,by simp,trivial⟩
theorem cx_eval (b:Bk) (s:List UInt8) (n:Int) (h:b.cb≤lim):zl Ccx f24 [.agg b.enc,str s,int n]=some (.tup [int (kJ b s n),int (chkX b s n)]):=by
 refine ze rfl ?_
 have hlen:=qb xp_pos b.exps
 have hbc:b.cb=sumB Lyr.cb b.layers+sumB Hld.cb b.holds+sumB Xp.cb b.exps:=rfl
 have hk:=fun hp nx=>FBk_call (fun b=>int (qe b)) b hp nx h
 unfold lim at h
 have hof:=fun hp nx=>FOfX_call b.exps s hp nx (by unfold lim;omega)
 simp only[Bk.enc] at hk
 by_cases c1:qe b=0
 case neg =>
  have hv:chkX b s n=qe b:=by unfold chkX;rw[if_neg c1]
  have hi:kJ b s n=0:=by unfold kJ;rw[hv,if_neg c1]
  have c1':(qe b != 0)=true:=by simpa using c1
  simp[Bk.enc,hk,c1',hv,hi,qC,f24]
 cases c2:(bsN (b.exps.map Xp.name) s).2
 ·have hv:chkX b s n=5:=by unfold chkX;rw[if_pos c1,c2,if_neg (by simp)]
  have hi:kJ b s n=0:=by unfold kJ;rw[hv,if_neg (by decide)]
  simp[Bk.enc,hk,c1,hof,c2,hv,hi,qC,f24]
 cases c3:timeB n
 ·have hv:chkX b s n=1:=by unfold chkX;rw[if_pos c1,c2,if_pos rfl,c3,if_neg (by simp)]
  have hi:kJ b s n=0:=by unfold kJ;rw[hv,if_neg (by decide)]
  simp[Bk.enc,hk,c1,hof,c2,c3,hv,hi,qC,f24]
 ·have hv:chkX b s n=0:=by unfold chkX;rw[if_pos c1,c2,if_pos rfl,c3,if_pos rfl]
  have hi:kJ b s n=(bsN (b.exps.map Xp.name) s).1:=by unfold kJ;rw[hv,if_pos rfl]
  simp[Bk.enc,hk,c1,hof,c2,c3,hv,hi,qC,f24]
set_option maxRecDepth 100000 in
theorem cx_sound:za prog 24 (zd false [] (FBNI fun b s n=>.tup [int (kJ b s n),int (chkX b s n)])) :=
 zZ (fn:=f24) goodcx ⟨_,func24,by kernel_rfl,rfl,by kernel_rfl⟩ false [] _ fun args r h=>by
  obtain⟨⟨b,s,n⟩,rfl,hx,rfl⟩:=zg h
  exact⟨by simp[f24],_,cx_eval b s n hx,zY _⟩
theorem cloneP_eval (es:List (List PV)) (hl:es.length≤lim) (y:PV) (hy:SlOf 2 es y):∃r0,zl C0 f25 [y]=some r0∧Stands r0 (.sl 2 es):=by
 refine qF rfl ?_
 cases hy with
 | nil =>
   simp[binA,qy,f25]
   exact⟨_,by simp,.nilOr (.inl ⟨rfl,rfl⟩)⟩
 | em =>
   simp[binA,qy,f25,zh,zV,AM.view,maxLen,zt,zj]
   exact⟨_,by simp,.refl _⟩
 | @sl c es =>
   unfold lim at hl
   simp at hl
   have m1:es.length+1≤maxLen:=by unfold maxLen;omega
   have m2:(es.length+1)*16≤140737488355328:=by omega
   simp[binA,qy,f25,zh,zV,AM.view,zt,zj,m1,m2]
   exact⟨_,by simp,.refl _⟩
theorem cloneP_sound:za prog 25 (zd false [] (FP (fun l=>.sl 2 (l.map encS)) fun l=>l.length≤lim)) :=
 yK (fn:=f25) q7 ⟨_,func25,by kernel_rfl,rfl,by kernel_rfl⟩ false [] _ fun args r h w S vs hz=>by
  obtain⟨l,rfl,hx,rfl⟩:=zg h
  obtain⟨u,rfl,hr⟩:=jk hz
  obtain⟨y,hy,hr2⟩:=rep_slOf hr
  obtain⟨r0,h1,h2⟩:=cloneP_eval (l.map encS) (by simpa using hx) y hy
  exact⟨_,r0,.cons hr2 .nil,Nat.le_trans (Nat.le_refl 1) (by decide),h1,h2⟩
noncomputable def hasR (b:Bk) (s:List UInt8) (n:Int):List Sp×Int:=if chkX b s n=0 then (match b.exps[(bsN (b.exps.map Xp.name) s).1]? with
 | some x=>(hasG [] n x.phases,0)
 | none=>([],0)) else ([],chkX b s n)
theorem chkX_ok {b:Bk} {s:List UInt8} {n:Int} (h:chkX b s n=0):qe b=0∧(bsN (b.exps.map Xp.name) s).2=true∧timeB n=true:=by
 unfold chkX at h
 split at h
 ·rename_i c1
  split at h
  ·rename_i c2
   split at h
   ·rename_i c3;exact⟨c1,c2,c3⟩
   ·exact absurd h (by simp)
  ·exact absurd h (by simp)
 ·rename_i c;exact absurd h c
noncomputable abbrev Chx:Ctx:=zN prog [(24,zd false [] (FBNI fun b s n=>.tup [int (kJ b s n),int (chkX b s n)])),(26,zd false [] (FXI (fun x n=>.sl 2 ((hasG [] n x.phases).map encS)) fun x _=>x.phases.length≤lim)),(25,zd false [] (FP (fun l=>.sl 2 (l.map encS)) fun l=>l.length≤lim))]
theorem goodhx:AM.Good Chx (fun g=>([]:List Nat).contains g):=zr mixed ⟨cx_sound,by simp,hasX_sound,by simp,cloneP_sound,by simp,trivial⟩
theorem Has_eval (b:Bk) (s:List UInt8) (n:Int) (hb:b.cb≤lim):∃r0,zl Chx Tryz.f5 [.agg b.enc,str s,int n]=some r0∧Stands r0 (yz (hasR b s n)):=by
 refine qF rfl ?_
 have hbc:b.cb=sumB Lyr.cb b.layers+sumB Hld.cb b.holds+sumB Xp.cb b.exps:=rfl
 have hcl:=fun hp nx=>km (fun b s n=>.tup [int (kJ b s n),int (chkX b s n)]) b s n hp nx hb
 simp only[Bk.enc] at hcl
 by_cases c1:chkX b s n=0
 case neg =>
  have hv:hasR b s n=([],chkX b s n):=by unfold hasR;rw[if_neg c1]
  have c1':(chkX b s n != 0)=true:=by simpa using c1
  rw[hv]
  simp[Bk.enc,hcl,c1',Tryz.f5]
  exact⟨_,by simp,xK _⟩
 obtain⟨_,hfl,_⟩:=chkX_ok c1
 have hci:kJ b s n=(bsN (b.exps.map Xp.name) s).1:=by unfold kJ;rw[if_pos c1]
 obtain⟨q,hq⟩:∃q,(bsN (b.exps.map Xp.name) s).1=q:=⟨_,rfl⟩
 have hql:q<b.exps.length:=by have:=bsN_lt hfl;rw[hq] at this;simpa using this
 obtain⟨x,hx⟩:∃x,b.exps[q]=x:=⟨_,rfl⟩
 have hxm:x∈b.exps:=by rw[←hx];exact List.getElem_mem hql
 have hmx:=qL (f:=Xp.cb) hxm
 have hxc:x.cb=x.name.length+x.layer.length+x.flag.length+x.cond.cb+x.salt.length+x.arms.length+sumB Phs.cb x.phases:=rfl
 have hxpl:=qb kC x.phases
 have hv:hasR b s n=(hasG [] n x.phases,0):=by unfold hasR;rw[if_pos c1,hq,List.getElem?_eq_getElem hql,hx]
 have hcl2:=hcl
 rw[c1,hci,hq] at hcl2
 have hhc:=fun hp nx=>FXI_call (fun x n=>.sl 2 ((hasG [] n x.phases).map encS)) (fun x _=>x.phases.length≤lim) x n hp nx (by unfold lim at hb ⊢;omega)
 have hlen:(hasG [] n x.phases).length≤lim:=by
  have:(hasG [] n x.phases).length≤sumB Phs.cb x.phases:=by
   have key:∀(l:List Phs) (acc:List Sp),(hasG acc n l).length≤acc.length+sumB Phs.cb l:=by
    intro l
    induction l with
    | nil=>intro acc;simp[hasG]
    | cons p l ih =>
      intro acc
      have h1:=ih (if p.at_≤n then p.spans else acc)
      have hpc:p.cb=1+p.spans.length:=rfl
      simp only[hasG,sumB,List.map_cons,List.sum_cons] at *
      split at h1<;>rename_i c<;>simp only[c,if_true,if_false]<;>omega
   simpa using key x.phases []
  unfold lim at hb ⊢
  omega
 have hcc:=fun hp nx=>yy (fun l=>.sl 2 (l.map encS)) (fun l=>l.length≤lim) (hasG [] n x.phases) hp nx hlen
 simp only[zF] at hhc
 rw[hv]
 simp[Bk.enc,hcl2,hql,hx,zF,hhc,hcc,Tryz.f5]
 exact⟨yz (hasG [] n x.phases,0),by simp[yz],.refl _⟩
set_option maxRecDepth 100000 in
theorem Has_sound:za prog 5 (zd false [] (FBNI fun b s n=>yz (hasR b s n))) :=
 yK (fn:=Tryz.f5) goodhx ⟨_,func5,by kernel_rfl,rfl,by kernel_rfl⟩ false [] _ fun args r h w S vs hz=>by
  obtain⟨⟨b,s,n⟩,rfl,hx,rfl⟩:=zg h
  obtain⟨r0,h1,h2⟩:=Has_eval b s n hx
  exact⟨_,r0,hz,by simp[Tryz.f5],h1,h2⟩
end Go.Proofs.YtglppmnehgjolaaGreatDoor
namespace Go.Proofs
open Go.Shelf
open Go.AM
end Go.Proofs
namespace Go.Proofs.YtglppmnehgjolaaGreatDoor
open Go.Proofs.Tryz
open Go.RowKit Go.AM Go.SpanLaw
theorem hasG_or (n:Int):∀(l:List Phs) (acc:List Sp),hasG acc n l=acc∨∃p∈l,hasG acc n l=p.spans
 | [],acc=>.inl rfl
 | p::l,acc=>by
   simp only[hasG]
   rcases hasG_or n l (if p.at_≤n then p.spans else acc) with h | ⟨q,hq,h⟩
   ·split at h
    ·rename_i c;rw[if_pos c];exact .inr ⟨p,by simp,h⟩
    ·rename_i c;rw[if_neg c];exact .inl h
   ·exact .inr ⟨q,by simp[hq],h⟩
theorem nameF_up {a b:List UInt8} (h:yH a b=0):wE a=true∧Op.bytesLess b a=true:=by
 unfold yH at h
 split at h
 ·rename_i c
  split at h
  ·exact absurd h (by simp)
  ·rename_i d;exact⟨c,xr (by simpa using d)⟩
 ·exact absurd h (by simp)
theorem layers_up:∀{xs:List Lyr} {before:List UInt8} {l:List (List UInt8)},(wh before l xs).1=0→(∀y∈xs,Op.bytesLess before y.name=true)∧UpN (xs.map Lyr.name)∧(wh before l xs).2=l++xs.map Lyr.salt
 | [],_,l,_=>⟨fun y hy=>by simp at hy,.nil,by simp[wh]⟩
 | x::xs,before,l,h=>by
   simp only[wh] at h ⊢
   split at h
   ·rename_i c1
    rw[if_pos c1]
    split at h
    ·rename_i c2
     rw[if_pos c2]
     split at h
     ·rename_i c3
      rw[if_pos c3]
      have hx:=(nameF_up c1).2
      obtain⟨h1,h2,h3⟩:=layers_up h
      refine⟨fun y hy=>?_,?_,?_⟩
      ·rcases List.mem_cons.1 hy with rfl | hy
       ·exact hx
       ·exact xc hx (h1 y hy)
      ·rw[List.map_cons]
       exact List.pairwise_cons.2 ⟨fun s hs=>by obtain⟨y,hy,rfl⟩:=List.mem_map.1 hs;exact h1 y hy,h2⟩
      ·rw[h3];unfold jC;rw[if_pos c2];simp
     ·exact absurd h (by simp)
    ·rename_i c;exact absurd h c
   ·rename_i c;exact absurd h c
theorem exps_up {L:List Lyr}:∀{xs:List Xp} {before:List UInt8} {l:List (List UInt8)},(expsF L before l xs).1=0→(∀y∈xs,Op.bytesLess before y.name=true)∧UpN (xs.map Xp.name)
 | [],_,_,_=>⟨fun y hy=>by simp at hy,.nil⟩
 | x::xs,before,l,h=>by
   simp only[expsF] at h
   split at h
   ·rename_i c
    have hx:=(nameF_up (expF_ok c).2.2.2.2).2
    obtain⟨h1,h2⟩:=exps_up h
    refine⟨fun y hy=>?_,?_⟩
    ·rcases List.mem_cons.1 hy with rfl | hy
     ·exact hx
     ·exact xc hx (h1 y hy)
    ·rw[List.map_cons]
     exact List.pairwise_cons.2 ⟨fun s hs=>by obtain⟨y,hy,rfl⟩:=List.mem_map.1 hs;exact h1 y hy,h2⟩
   ·rename_i c;exact absurd h c
theorem chk_up {b:Bk} (h:qe b=0):UpN (b.layers.map Lyr.name)∧UpN (b.exps.map Xp.name):=by
 unfold qe at h
 split at h
 ·exact absurd h (by simp)
 split at h
 ·rename_i c1
  split at h
  ·split at h
   ·rename_i c3;exact⟨(layers_up c1).2.1,(exps_up c3).2⟩
   ·rename_i c;exact absurd h c
  ·rename_i c;exact absurd h c
 ·rename_i c;exact absurd h c
theorem okS_of_mem {l:List Sp} (hc:wy (-1) l) (hm:∀k,mem l k→0≤k∧k<100000):okS l:=by
 have hpos:=wN hc
 have hb:Below 100000 l:=fun s hs=>by
  have hp:=hpos s hs
  have:=hm (s.2 - 1) ⟨s,hs,by omega,by omega⟩
  omega
 refine⟨hc,hb,fun s hs=>(hm s.1 ⟨s,hs,Int.le_refl _,hpos s hs⟩).1,?_⟩
 rcases hL:l with _ | ⟨s,m⟩
 ·simp
 ·rw[hL] at hc hb hm
  have h0:=(hm s.1 ⟨s,by simp,Int.le_refl _,by have:=hc.2.1;omega⟩).1
  have h1:=canon_len hc.2.2 (fun x hx=>hb x (by simp[hx])) (hb s (by simp))
  have h4:=hc.2.1
  simp only[List.length_cons]
  omega
theorem min_ok {a b:List Sp} (ha:okS a) (hb:okS b):okS (mins a b)∧∀k,mem (mins a b) k↔mem a k∧¬mem b k:=by
 have h2:∀k,mem (mins a b) k↔mem a k∧¬mem b k:=fun k=>mins_mem ha.1 hb.1
 exact⟨okS_of_mem (jf ha.1 hb.1) fun k hk=>mem_inK ha ((h2 k).1 hk).1,h2⟩
theorem okS_nil:okS []:=⟨trivial,(fun s hs=>by cases hs),(fun s hs=>by cases hs),by simp⟩
end Go.Proofs.YtglppmnehgjolaaGreatDoor
namespace Go.Proofs
open Go.Shelf
def Tryz.sortE_ren:Go.Shelf.Ren:=⟨fun | 6=>20 | 15=>54 | 14=>53 | 28=>82 | 29=>83 | 20=>74 | 21=>75 | 22=>76 | 23=>77 | 24=>78 | 25=>79 | 26=>80 | 27=>81 | 46=>101 | 47=>102 | 48=>103 | 49=>104 | 50=>105 | 57=>125 | n=>n,fun | 22=>24 | 24=>34 | 25=>62 | 3=>3 | 39=>108 | 0=>0 | 53=>139 | 55=>141 | 4=>4 | 46=>133 | 45=>132 | 50=>48 | 5=>5 | 9=>9 | 66=>159 | 70=>163 | 76=>176 | 77=>173 | n=>n,fun | n=>n⟩
theorem Tryz.sortE:Go.Proofs.SlLaysF0.n6 prog Tryz.sortE_ren:={
 mixed:=by kernel_rfl
 f6:=⟨f20.name,by decide,func20.trans (congrArg some (by kernel_rfl))⟩
 f14:=⟨f53.name,by decide,func53.trans (congrArg some (by kernel_rfl))⟩
 f15:=func54.trans (congrArg some (by kernel_rfl))
 f20:=⟨f74.name,by decide,func74.trans (congrArg some (by kernel_rfl))⟩
 f21:=⟨f75.name,by decide,func75.trans (congrArg some (by kernel_rfl))⟩
 f22:=⟨f76.name,by decide,func76.trans (congrArg some (by kernel_rfl))⟩
 f23:=⟨f77.name,by decide,func77.trans (congrArg some (by kernel_rfl))⟩
 f24:=⟨f78.name,by decide,func78.trans (congrArg some (by kernel_rfl))⟩
 f25:=⟨f79.name,by decide,func79.trans (congrArg some (by kernel_rfl))⟩
 f26:=⟨f80.name,by decide,func80.trans (congrArg some (by kernel_rfl))⟩
 f27:=⟨f81.name,by decide,func81.trans (congrArg some (by kernel_rfl))⟩
 f28:=func82.trans (congrArg some (by kernel_rfl))
 f29:=func83.trans (congrArg some (by kernel_rfl))
 f46:=⟨f101.name,by decide,func101.trans (congrArg some (by kernel_rfl))⟩
 f47:=func102.trans (congrArg some (by kernel_rfl))
 f48:=func103.trans (congrArg some (by kernel_rfl))
 f49:=⟨f104.name,by decide,func104.trans (congrArg some (by kernel_rfl))⟩
 f50:=⟨f105.name,by decide,func105.trans (congrArg some (by kernel_rfl))⟩
 f57:=⟨f125.name,by decide,func125.trans (congrArg some (by kernel_rfl))⟩
 t0:=underlying0
 a0:=isAgg0
 z0:=sizeOf0
 v0:=zeroValue0
 t3:=underlying3
 a3:=isAgg3
 z3:=sizeOf3
 v3:=zeroValue3
 t4:=underlying4
 a4:=isAgg4
 z4:=sizeOf4
 v4:=zeroValue4
 t5:=underlying5
 a5:=isAgg5
 z5:=sizeOf5
 v5:=zeroValue5
 t9:=underlying9
 a9:=isAgg9
 z9:=sizeOf9
 v9:=zeroValue9
 t22:=underlying24
 a22:=isAgg24
 z22:=sizeOf24
 v22:=zeroValue24
 t25:=underlying62
 a25:=isAgg62
 z25:=sizeOf62
 v25:=zeroValue62
 t39:=underlying108
 a39:=isAgg108
 z39:=sizeOf108
 v39:=zeroValue108
 t45:=underlying132
 a45:=isAgg132
 z45:=sizeOf132
 v45:=zeroValue132
 t46:=underlying133
 a46:=isAgg133
 z46:=sizeOf133
 v46:=zeroValue133
 t50:=underlying48
 a50:=isAgg48
 z50:=sizeOf48
 v50:=zeroValue48
 t53:=underlying139
 a53:=isAgg139
 z53:=sizeOf139
 v53:=zeroValue139
 t55:=underlying141
 a55:=isAgg141
 z55:=sizeOf141
 v55:=zeroValue141
 t66:=underlying159
 a66:=isAgg159
 z66:=sizeOf159
 v66:=zeroValue159
 t70:=underlying163
 a70:=isAgg163
 z70:=sizeOf163
 v70:=zeroValue163
 t76:=underlying176
 a76:=isAgg176
 z76:=sizeOf176
 v76:=zeroValue176
 t77:=underlying173
 a77:=isAgg173
 z77:=sizeOf173
 v77:=zeroValue173 }
open Go.AM
theorem Tryz.sortE_ok:SortOk prog 20 13:=⟨fun _ _ enc hk h1 cf hO g blk off cap d w eg hcmp hH hblk hsz=>AnyQ.slices_SortFunc_eq Tryz.sortE 13 isAgg34 sizeOf34 enc hk h1 cf hO g #[] blk off cap d w eg hcmp hH hblk hsz,
 fun p cap fv w=>AnyF.slices_SortFunc_none Tryz.sortE p cap fv w⟩
end Go.Proofs
namespace Go.Proofs.YtglppmnehgjolaaGreatDoor
open Go.Proofs.Tryz
open Go.RowKit Go.AM
noncomputable def FXX (out:Xp→Xp→PV) (pre:Xp→Xp→Prop):List PV→Option PV:=zM (α:=Xp×Xp) (fun a=>[.agg a.1.enc,.agg a.2.enc]) (fun a=>pre a.1 a.2) (fun a=>out a.1 a.2)
theorem FXX_call (out:Xp→Xp→PV) (pre:Xp→Xp→Prop) (a b:Xp) (hp:Hp) (nx:Nat) (h:pre a b):zd false [] (FXX out pre) [.agg a.enc,.agg b.enc] hp nx=some (out a b,hp,nx) :=
 zJ (hp1:=hp) (show zk hp [.agg a.enc,.agg b.enc]=some ([.agg a.enc,.agg b.enc],hp) by simp only[zk,freeze_xp]) (zq (enc:=fun a:Xp×Xp=>[PV.agg a.1.enc,.agg a.2.enc]) (a:=(a,b)) (fun x y e=>by
  obtain⟨x1,x2⟩:=x;obtain⟨y1,y2⟩:=y
  simp only[List.cons.injEq,and_true,PV.agg.injEq] at e
  rw[vy e.1,vy e.2]) h) (.inr (by simp only[List.all_cons,noOwn_xp,List.all_nil,Bool.and_self]))
noncomputable def cfX (x y:List PV):Int:=match (x[0]?:Option PV),(y[0]?:Option PV) with
 | some (PV.v (.string a)),some (PV.v (.string b))=>cmpB a.data.toList b.data.toList
 | _,_=>0
theorem cfX_enc (a b:Xp):cfX a.enc b.enc=cmpB a.name b.name:=by simp[cfX,zF]
noncomputable abbrev Ccx1:Ctx:=zN prog [(22,zd false [] (F2S cmpB))]
theorem goodcx1:AM.Good Ccx1 (fun g=>[22].contains g):=zr mixed ⟨qS,fun _=>zf _ _,trivial⟩
theorem cmpX_sound:za prog 21 (zd false [] (FXX (fun a b=>int (cmpB a.name b.name)) fun _ _=>True)) :=
 zZ (fn:=f21) goodcx1 ⟨_,func21,by kernel_rfl,rfl,by kernel_rfl⟩ false [] _ fun args r h=>by
  obtain⟨⟨a,b⟩,rfl,_,rfl⟩:=zg h
  exact⟨Nat.le_trans (Nat.le_refl 2) (by decide),_,ze rfl (by simp[zF,f21]),zY _⟩
def domX (x:List PV):Prop:=∃a:Xp,x=a.enc
theorem cmpX_ok:CmpOk prog 21 13 cfX domX :=
 ⟨fun args w=>enters_of func21 (by kernel_rfl) rfl args w,_,cmpX_sound,fun x y _ _ hx hy=>by
  obtain⟨a,rfl⟩:=hx
  obtain⟨b,rfl⟩:=hy
  rw[cfX_enc]
  exact FXX_call _ _ a b _ _ trivial⟩
theorem sortX_sound:za prog 20 (hSort 13 21 cfX domX) :=
 xG (by omega) ⟨_,func20,by decide,by kernel_rfl⟩ Tryz.sortE_ok cmpX_ok
theorem weakX (l:List Xp):WeakOn cfX (l.map Xp.enc) where
 irrefl x hx:=by
  obtain⟨s,hs,rfl⟩:=List.mem_map.1 hx
  rw[cfX_enc,cmpB_to.refl];omega
 trans x hx y hy z hz h1 h2:=by
  obtain⟨a,ha,rfl⟩:=List.mem_map.1 hx
  obtain⟨b,hb,rfl⟩:=List.mem_map.1 hy
  obtain⟨c,hc,rfl⟩:=List.mem_map.1 hz
  rw[cfX_enc] at h1 h2 ⊢
  exact cmpB_to.trans h1 h2
 ntrans x hx y hy z hz h1 h2:=by
  obtain⟨a,ha,rfl⟩:=List.mem_map.1 hx
  obtain⟨b,hb,rfl⟩:=List.mem_map.1 hy
  obtain⟨c,hc,rfl⟩:=List.mem_map.1 hz
  rw[cfX_enc] at h1 h2 ⊢
  exact cmpB_to.ntrans h1 h2
theorem sortL_xps (l:List Xp):∃m:List Xp,jt cfX (l.map Xp.enc)=m.map Xp.enc∧m.Perm l∧m.Pairwise (fun a b=>0≤cmpB b.name a.name):=by
 obtain⟨m,h1,h2⟩:=perm_map_inv (kg (weakX l))
 refine⟨m,h2,h1,?_⟩
 have h3:=vr (weakX l)
 rw[h2,List.pairwise_map] at h3
 refine h3.imp_of_mem fun {a b} ha hb hab=>?_
 rw[cfX_enc] at hab
 omega
noncomputable def wP (l:List Xp):List Xp:=(sortL_xps l).choose
theorem vG (l:List Xp):jt cfX (l.map Xp.enc)=(wP l).map Xp.enc∧(wP l).Perm l∧(wP l).Pairwise (fun a b=>0≤cmpB b.name a.name):=(sortL_xps l).choose_spec
theorem sortX_call {l:List Xp} (hl:l.length≤2097152) {hp:Hp} {nx:Nat} {v:PV} (hO:OwnS hp nx 34 13 v (l.map Xp.enc)) :
  ∃hp',hSort 13 21 cfX domX [v,.fn (.func 21) [] []] hp nx=some (.tup [],hp',nx)∧OwnS hp' nx 34 13 v ((wP l).map Xp.enc)∧∀id,(∀n,v≠.own id 0 n)→hp' id=hp id:=by
 have hm:=(vG l).1
 rcases hO with⟨rfl,h0⟩ | ⟨id,hid,rfl,hh⟩
 ·refine⟨hp,rfl,.inl ⟨rfl,?_⟩,fun _ _=>rfl⟩
  rw[←hm,h0]
  rfl
 ·by_cases hz:l=[]
  ·subst hz
   have:wP []=[]:=by
    have:((wP []).map Xp.enc)=[]:=by rw[←hm];rfl
    simpa using this
   rw[this]
   exact⟨hp,rfl,.inr ⟨id,hid,rfl,hh⟩,fun _ _=>rfl⟩
  ·have hne:¬(l.map Xp.enc).length=0:=by simpa using hz
   have hml:((wP l).map Xp.enc).length=(l.map Xp.enc).length:=by rw[←hm,jL (weakX l)]
   refine⟨upd hp id (some ⟨34,13,true,(wP l).map Xp.enc⟩),?_,.inr ⟨id,hid,by rw[hml],by simp⟩,fun j hj=>zH _ _ _ _ (by rintro rfl;exact hj _ rfl)⟩
   show (if (l.map Xp.enc).length=0 then _ else _)=_
   rw[if_neg hne,hh]
   simp only
   have e1:((l.map Xp.enc).drop 0).take (l.map Xp.enc).length=l.map Xp.enc:=by rw[List.drop_zero,List.take_length]
   have e2:(l.map Xp.enc).drop (0+(l.map Xp.enc).length)=[]:=by rw[Nat.zero_add,List.drop_length]
   rw[e1,e2,if_pos ⟨rfl,rfl,rfl,by simp,by simp;omega,weakX l,fun x hx=>by
    obtain⟨s,hs,rfl⟩:=List.mem_map.1 hx
    exact⟨s,rfl⟩⟩,hm]
   simp
end Go.Proofs.YtglppmnehgjolaaGreatDoor
namespace Go.Proofs.YtglppmnehgjolaaGreatDoor
open Go.Proofs.Tryz
open Go.RowKit Go.AM Go.SpanLaw
theorem firstL_spec:∀{lo:Int} {l:List Sp} {n:Int},wy lo l→0≤n→n≤wL l→wy lo (qp l n)∧wL (qp l n)=n∧∀k,mem (qp l n) k→mem l k
 | lo,[],n,_,h0,h1=>by
   simp only[wL] at h1
   obtain rfl:n=0:=by omega
   exact⟨trivial,rfl,fun k hk=>hk⟩
 | lo,s::l,n,hc,h0,h1=>by
   by_cases hn:n=0
   ·subst hn
    rw[firstL_zero]
    exact⟨trivial,rfl,fun k hk=>absurd hk (mem_nil k)⟩
   ·obtain⟨c1,c2,c3⟩:=hc
    simp only[wL] at h1
    rw[qp,if_neg hn]
    obtain⟨m,hm⟩:∃m,min n (s.2 - s.1)=m:=⟨_,rfl⟩
    rw[hm]
    have hm1:0<m∧m≤n∧m≤s.2 - s.1∧(m=n∨m=s.2 - s.1):=by omega
    have hsz:0≤wL l:=by
     have:∀{lo:Int} {l:List Sp},wy lo l→0≤wL l:=by
      intro lo l
      induction l generalizing lo with
      | nil=>intro _;simp[wL]
      | cons s l ih=>intro h;have:=ih h.2.2;have:=h.2.1;simp only[wL];omega
     exact this c3
    obtain⟨i1,i2,i3⟩:=firstL_spec c3 (n:=n - m) (by omega) (by omega)
    refine⟨⟨c1,by simp only;omega,canon_lo i1 (by simp only;omega)⟩,by simp only[wL];omega,fun k hk=>?_⟩
    rw[mem_cons] at hk ⊢
    rcases hk with hk | hk
    ·simp only at hk;left;omega
    ·exact .inr (i3 k hk)
theorem hasG_snoc (n:Int) (p:Phs):∀(l:List Phs) (acc:List Sp),p.at_≤n→hasG acc n (l++[p])=p.spans
 | [],acc,h=>by simp[hasG,h]
 | q::l,acc,h=>by rw[List.cons_append,hasG];exact hasG_snoc n p l _ h
theorem grow_sets {a f:List Sp} (ha:okS a) (hf:okS f) (hd:∀k,mem f k→¬mem a k):mins (uniL a f) a=f∧mins a (uniL a f)=[]:=by
 obtain⟨u1,u2⟩:=uniL_specK ha hf
 refine⟨canon_eq (lo:=-1) (jf u1 ha.1) hf.1 fun k=>?_,canon_eq (lo:=-1) (jf ha.1 u1) (by trivial) fun k=>?_⟩
 ·rw[mins_mem u1 ha.1,u2]
  constructor
  ·rintro⟨h | h,hn⟩
   ·exact (hn h).elim
   ·exact h
  ·exact fun h=>⟨.inr h,hd k h⟩
 ·rw[mins_mem ha.1 u1,u2]
  constructor
  ·rintro⟨h,hn⟩;exact (hn (.inl h)).elim
  ·exact fun h=>(mem_nil k h).elim
def emptyB:Bk:=⟨[],[],[]⟩
noncomputable def ym (b:Bk):Bk×Int:=if qe b=0 then (b,0) else (emptyB,qe b)
def Xp.begun (x:Xp) (n:Int) (l:List Sp):Xp:=⟨x.name,x.layer,x.flag,x.cond,x.salt,x.arms,[⟨n,l⟩]⟩
def Xp.more (x:Xp) (n:Int) (l:List Sp):Xp:=⟨x.name,x.layer,x.flag,x.cond,x.salt,x.arms,x.phases++[⟨n,l⟩]⟩
def Bk.put (b:Bk) (i:Nat) (n:Int) (l:List Sp):Bk:=⟨b.layers,b.holds,match b.exps[i]? with
 | some x=>b.exps.set i (x.more n l)
 | none=>b.exps⟩
theorem put_at {b:Bk} {i:Nat} {x:Xp} (h:b.exps[i]?=some x) (n:Int) (l:List Sp):(b.put i n l).exps=b.exps.set i (x.more n l):=by
 simp only[Bk.put,h]
theorem place_of {b:Bk} (h:qe b=0) {j:Nat} {x:Xp} (hj:b.exps[j]?=some x):bsN (b.exps.map Xp.name) x.name=(j,true) :=
 bsN_of (chk_up h).2 (by rw[List.getElem?_map,hj];rfl)
theorem has_of {b:Bk} (h:qe b=0) {j:Nat} {x:Xp} (hj:b.exps[j]?=some x) {n:Int} (hn:timeB n=true):hasR b x.name n=(hasG [] n x.phases,0):=by
 have hp:=place_of h hj
 have hc:chkX b x.name n=0:=by unfold chkX;rw[if_pos h,hp,if_pos rfl,if_pos hn]
 unfold hasR
 rw[if_pos hc,hp]
 simp only[hj]
theorem free_okS {b:Bk} (h:qe b=0) (layer but:List UInt8) (n:Int):okS (yl b layer but n):=by
 obtain⟨h1,_⟩:=tog_okS (unf_ok h layer but (restOf b.layers layer) n)
 have hw:okS [(0,100000)]:=⟨⟨by omega,by omega,trivial⟩,fun s hs=>by simp at hs;subst hs;simp,fun s hs=>by simp at hs;subst hs;simp,by simp⟩
 exact (min_ok hw h1).1
theorem first_ok {l:List Sp} {n:Int} (h:okS l) (h0:0≤n) (h1:n≤wL l):okS (qp l n)∧wL (qp l n)=n∧∀k,mem (qp l n) k→mem l k:=by
 obtain⟨a,b,c⟩:=firstL_spec h.1 h0 h1
 exact⟨okS_of_mem a fun k hk=>mem_inK h (c k hk),b,c⟩
noncomputable def qJ (b:Bk) (e:Xp) (n at_:Int):Bk×Int :=
 if qe b=0 then
  if e.phases=[] then
   if (bsN (b.exps.map Xp.name) e.name).2=true then (emptyB,7)
   else if inB n 1 100000=true then
    if (bsN (b.layers.map Lyr.name) e.layer).2=true then
     if timeB at_=true then
      if wL (yl b e.layer [] at_)<n then (emptyB,9)
      else ym ⟨b.layers,b.holds,wP (b.exps++[e.begun at_ (qp (yl b e.layer [] at_) n)])⟩
     else (emptyB,1)
    else (emptyB,5)
   else (emptyB,1)
  else (emptyB,3)
 else (emptyB,qe b)
theorem made_ok {b:Bk} (h:(ym b).2=0):qe b=0∧ym b=(b,0):=by
 unfold ym at h ⊢
 split at h
 ·rename_i hc;exact⟨hc,by rw[if_pos hc]⟩
 ·rename_i hc;exact (hc h).elim
theorem made_no {b:Bk} (h:(ym b).2≠0):(ym b).1=emptyB:=by
 unfold ym at h ⊢
 split at h
 ·simp at h
 ·rename_i hc;rw[if_neg hc]
theorem start_no {b:Bk} {e:Xp} {n at_:Int} (h:(qJ b e n at_).2≠0):(qJ b e n at_).1=emptyB:=by
 unfold qJ at h ⊢
 repeat' split at h
 all_goals first | (simp_all;done) | skip
 all_goals (repeat' split)<;>first | rfl | (simp_all;done) | skip
 all_goals exact made_no (by simp_all)
theorem start_ok {b:Bk} {e:Xp} {n at_:Int} (h:(qJ b e n at_).2=0):qe b=0∧timeB at_=true∧0≤n∧n≤wL (yl b e.layer [] at_) ∧
  qJ b e n at_=(⟨b.layers,b.holds,wP (b.exps++[e.begun at_ (qp (yl b e.layer [] at_) n)])⟩,0)∧qe ⟨b.layers,b.holds,wP (b.exps++[e.begun at_ (qp (yl b e.layer [] at_) n)])⟩=0:=by
 unfold qJ at h ⊢
 split at h
 case isFalse hc=>exact (hc h).elim
 rename_i hc
 split at h
 case isFalse=>simp at h
 rename_i hp
 split at h
 ·simp at h
 rename_i hs
 split at h
 case isFalse=>simp at h
 rename_i hn
 split at h
 case isFalse=>simp at h
 rename_i hl
 split at h
 case isFalse=>simp at h
 rename_i ht
 split at h
 ·simp at h
 rename_i hz
 obtain⟨m1,m2⟩:=made_ok h
 have hn':=(inB_iff n 1 100000).1 hn
 rw[if_pos hc,if_pos hp,if_neg hs,if_pos hn,if_pos hl,if_pos ht,if_neg hz]
 exact⟨hc,ht,by omega,by omega,m2,m1⟩
theorem start_law {b:Bk} {e:Xp} {n at_:Int} (h:(qJ b e n at_).2=0):∃l,hasR (qJ b e n at_).1 e.name at_=(l,0)∧sizeR l=(n,0)∧∀x∈b.exps,x∈(qJ b e n at_).1.exps:=by
 obtain⟨h1,h2,h3,h4,h5,h6⟩:=start_ok h
 rw[h5]
 have hp:=(vG (b.exps++[e.begun at_ (qp (yl b e.layer [] at_) n)])).2.1
 obtain⟨o1,o2,_⟩:=first_ok (free_okS h1 e.layer [] at_) h3 h4
 obtain⟨f,hf⟩:∃f,qp (yl b e.layer [] at_) n=f:=⟨_,rfl⟩
 rw[hf] at h6 hp o1 o2 ⊢
 have hm:e.begun at_ f∈wP (b.exps++[e.begun at_ f]):=hp.mem_iff.2 (by simp)
 obtain⟨j,hj⟩:=List.getElem?_of_mem hm
 have hh:=has_of h6 hj h2
 have hg:hasG [] at_ (e.begun at_ f).phases=f:=hasG_snoc at_ ⟨at_,f⟩ [] [] (Int.le_refl _)
 rw[hg] at hh
 have hsp:zL f=0:=qV ((chk_ok h6).2.1 _ hm).1 ⟨at_,f⟩ (by simp[Xp.begun])
 exact⟨f,hh,by unfold sizeR;rw[if_pos hsp,o2],fun x hx=>hp.mem_iff.2 (by simp[hx])⟩
def lateF (at_:Int) (l:List Phs):Bool:=l.any fun p=>decide (at_≤p.at_)
noncomputable def y8 (b:Bk) (s:List UInt8) (n at_:Int):Bk×Int :=
 if chkX b s at_=0 then
  match b.exps[(bsN (b.exps.map Xp.name) s).1]? with
  | none=>(emptyB,5)
  | some x =>
    if (lateF at_ x.phases||(hasG [] at_ x.phases).isEmpty)=true then (emptyB,11)
    else if inB n 1 100000=true then
     if wL (mins (yl b x.layer s at_) (hasG [] at_ x.phases))<n then (emptyB,9)
     else ym (b.put (bsN (b.exps.map Xp.name) s).1 at_ (uniL (hasG [] at_ x.phases) (qp (mins (yl b x.layer s at_) (hasG [] at_ x.phases)) n)))
    else (emptyB,1)
 else (emptyB,chkX b s at_)
theorem grow_ok {b:Bk} {s:List UInt8} {n at_:Int} (h:(y8 b s n at_).2=0):∃x,chkX b s at_=0∧b.exps[(bsN (b.exps.map Xp.name) s).1]?=some x∧0≤n∧n≤wL (mins (yl b x.layer s at_) (hasG [] at_ x.phases)) ∧
  y8 b s n at_=(b.put (bsN (b.exps.map Xp.name) s).1 at_ (uniL (hasG [] at_ x.phases) (qp (mins (yl b x.layer s at_) (hasG [] at_ x.phases)) n)),0) ∧
  qe (b.put (bsN (b.exps.map Xp.name) s).1 at_ (uniL (hasG [] at_ x.phases) (qp (mins (yl b x.layer s at_) (hasG [] at_ x.phases)) n)))=0:=by
 unfold y8 at h ⊢
 split at h
 case isFalse hc=>exact (hc h).elim
 rename_i hc
 rw[if_pos hc]
 cases hx:b.exps[(bsN (b.exps.map Xp.name) s).1]? with
 | none=>rw[hx] at h;simp at h
 | some x =>
   rw[hx] at h
   simp only at h ⊢
   split at h
   ·simp at h
   rename_i hl
   split at h
   case isFalse=>simp at h
   rename_i hn
   split at h
   ·simp at h
   rename_i hz
   obtain⟨m1,m2⟩:=made_ok h
   have hn':=(inB_iff n 1 100000).1 hn
   rw[if_neg hl,if_pos hn,if_neg hz]
   exact⟨x,hc,rfl,by omega,by omega,m2,m1⟩
theorem grow_law {b:Bk} {s:List UInt8} {n at_:Int} (h:(y8 b s n at_).2=0):∃before after,hasR b s at_=(before,0)∧hasR (y8 b s n at_).1 s at_=(after,0)∧zL before=0∧zL after=0∧wL (mins after before)=n∧mins before after=[] ∧
  (∀x∈b.exps,x.name≠s→x∈(y8 b s n at_).1.exps):=by
 obtain⟨x,h1,hx,h3,h4,h5,h6⟩:=grow_ok h
 rw[h5]
 obtain⟨c1,c2,c3⟩:=chkX_ok h1
 obtain⟨i,hi⟩:∃i,(bsN (b.exps.map Xp.name) s).1=i:=⟨_,rfl⟩
 have hname:x.name=s:=by
  have:=bsN_at c2
  rw[List.getElem?_map,hx] at this
  simpa using this
 rw[hi] at hx h6 ⊢
 have hxm:=List.mem_of_getElem? hx
 have hb:okS (hasG [] at_ x.phases):=by
  rcases hasG_or at_ x.phases [] with e | ⟨p,hp,e⟩
  ·rw[e];exact okS_nil
  ·rw[e];exact okS_of (qV ((chk_ok c1).2.1 x hxm).1 p hp)
 have hbF:zL (hasG [] at_ x.phases)=0:=by
  rcases hasG_or at_ x.phases [] with e | ⟨p,hp,e⟩
  ·rw[e];rfl
  ·rw[e];exact qV ((chk_ok c1).2.1 x hxm).1 p hp
 obtain⟨hm1,hm2⟩:=min_ok (free_okS c1 x.layer s at_) hb
 obtain⟨o1,o2,o3⟩:=first_ok hm1 h3 h4
 obtain⟨f,hf⟩:∃f,qp (mins (yl b x.layer s at_) (hasG [] at_ x.phases)) n=f:=⟨_,rfl⟩
 rw[hf] at h6 o1 o2 o3 ⊢
 obtain⟨A,hA⟩:∃A,hasG [] at_ x.phases=A:=⟨_,rfl⟩
 rw[hA] at h6 hb hbF hm2 o3 ⊢
 obtain⟨g1,g2⟩:=grow_sets hb o1 fun k hk hk2=>((hm2 k).1 (o3 k hk)).2 hk2
 have hil:i<b.exps.length:=(List.getElem?_eq_some_iff.1 hx).1
 have hput:=put_at hx at_ (uniL A f)
 have hj:(b.put i at_ (uniL A f)).exps[i]?=some (x.more at_ (uniL A f)):=by rw[hput];simp[hil]
 have hh:=has_of h6 hj c3
 have hmn:(x.more at_ (uniL A f)).name=s:=hname
 have hg:hasG [] at_ (x.more at_ (uniL A f)).phases=uniL A f:=hasG_snoc at_ ⟨at_,uniL A f⟩ x.phases [] (Int.le_refl _)
 rw[hmn,hg] at hh
 have hbef:=has_of c1 hx c3
 rw[hname,hA] at hbef
 have hmem:x.more at_ (uniL A f)∈(b.put i at_ (uniL A f)).exps:=List.mem_of_getElem? hj
 have hsp:zL (uniL A f)=0:=qV ((chk_ok h6).2.1 _ hmem).1 ⟨at_,uniL A f⟩ (by simp[Xp.more])
 refine⟨A,uniL A f,hbef,hh,hbF,hsp,by rw[g1,o2],g2,fun y hy hyn=>?_⟩
 rw[hput]
 obtain⟨j,hjy⟩:=List.getElem?_of_mem hy
 have hij:i≠j:=by
  rintro rfl
  rw[hx] at hjy
  injection hjy with hjy
  exact hyn (by rw[←hjy,hname])
 exact List.mem_of_getElem? (i:=j) (by rw[List.getElem?_set_ne hij];exact hjy)
end Go.Proofs.YtglppmnehgjolaaGreatDoor
namespace Go.AM
open Go.RowKit
variable {dr:Prop}
def unBy:List (List PV)→Option (List UInt8)
 | []=>some []
 | [.v (.int .u8 z)]::l=>if z=(UInt8.ofNat z.toNat).toNat then (unBy l).map (UInt8.ofNat z.toNat::·) else none
 | _=>none
def bldBuf (U:TypeId) (hp:Hp) (m n:Nat) (c:Blk):Option (List UInt8×Hp) :=
 if c.e=U∧c.s=1∧c.arr=true then (unBy c.es).bind fun l=>if n=l.length then some (l,upd hp m none) else none else none
def bldOf (T U:TypeId) (hp:Hp) (id:Nat) (b:Blk):Option (List UInt8×Hp) :=
 if b.e=T∧b.s=2∧b.arr=false then match b.es with
  | [[.v (.pointer none),.nil]]=>some ([],hp)
  | [[.ref i 0 0,.own m 0 n]]=>if i=id∧m≠id then (hp m).bind (bldBuf U hp m n) else none
  | _=>none
 else none
section
variable {P:Program} {w w':World} {S S':Nat→Prop} {G G':Nat→GI} {hp hp':Hp} {nx nx':Nat}
theorem Stp.revive {w2:World} {S2:Nat→Prop} {G2:Nat→GI} {hp2:Hp} {nx2:Nat} (h:Stp dr P hp nx S G w hp2 nx2 S2 G2 w2) {id:Nat} {b0 b:Blk} (h0:hp id=some b0) (hid:id<nx) (hb:BlkRep P w2 S2 G2 nx2 (G2 id) b) (ha:¬S2 (G2 id).g)
  (hd:∀k c,hp2 k=some c→k≠id→(G2 k).g≠(G2 id).g):Stp dr P hp nx S G w (upd hp2 id (some b)) nx2 S2 G2 w2:=by
 have hx:∀k c,upd hp2 id (some b) k=some c→(k=id∧c=b)∨(k≠id∧hp2 k=some c):=by
  intro k c hk
  by_cases hki:k=id
  ·subst hki;simp at hk;exact .inl ⟨rfl,hk.symm⟩
  ·rw[zH _ _ _ _ hki] at hk;exact .inr ⟨hki,hk⟩
 have hup:=h.up
 refine⟨⟨h.inv.st,fun k c hk=>?_,fun k c hk=>?_,fun k c hk=>?_,fun k k' c c' hk hk' he=>?_,h.inv.glo⟩,h.up,h.loc,h.keep,h.from_,fun k c hk=>?_,h.fr⟩
 ·rcases hx k c hk with⟨rfl,_⟩ | ⟨_,hk⟩
  ·omega
  ·exact h.inv.top k c hk
 ·rcases hx k c hk with⟨rfl,rfl⟩ | ⟨_,hk⟩
  ·exact hb
  ·exact h.inv.live k c hk
 ·rcases hx k c hk with⟨rfl,rfl⟩ | ⟨_,hk⟩
  ·exact ha
  ·exact h.inv.apart k c hk
 ·rcases hx k c hk with⟨a1,_⟩ | ⟨a1,b1⟩<;>rcases hx k' c' hk' with⟨a2,_⟩ | ⟨a2,b2⟩
  ·rw[a1,a2]
  ·exact (hd k' c' b2 a2 (by rw[←he,a1])).elim
  ·exact (hd k c b1 a1 (by rw[he,a2])).elim
  ·exact h.inv.inj k k' c c' b1 b2 he
 ·rcases hx k c hk with⟨rfl,rfl⟩ | ⟨_,hk⟩
  ·exact .inl ⟨k,b0,h0,by rw[h.loc k hid]⟩
  ·exact h.own k c hk
end
structure BStart (T U:TypeId) (hp:Hp) (nx:Nat) (l:List UInt8) (b0:Blk) (K:Hp→Hp):Prop where
 pos:0<nx
 top:∀j b,hp j=some b→j<nx
 at0:hp 0=some b0
 ok:∀h:Hp,(∀j,j<nx→h j=hp j)→bldOf T U h 0 b0=some (l,K h)
 keep:∀(h:Hp) (j:Nat),nx≤j→K h j=h j
section
variable {C:Ctx} {pf:FuncId→Bool} {f:FuncId} {fn:Func} {code:Code}
end
end Go.AM
