/-
What is free.
slices.SortFunc at pieces off the kit's shelf, at this program (turned from the text for spans).
What is busy.
The law: pieces are apart and not free.
The reference's books: meets, end, clash, phases.
-/
import Derived.Test.YtdkfdoeijcfbhaaGreatDoorG23
import Derived.Shelf.SlSortCmp.WholeK
import Derived.Shelf.SlSortCmp.NoneTotal
import Derived.Test.YtdkfdoeijcfbhaaGreatDoorProg
import Derived.Test.YtdkfdoeijcfbhaaGreatDoorG17
set_option maxRecDepth 8000
namespace Go.Proofs.YtdkfdoeijcfbhaaGreatDoor
open Go.Proofs.Tryz
open Go.RowKit Go.AM Go.SpanLaw
theorem ZQ {b:Bk} (h:zP b=0):(∀y∈b.layers,0≤y.rest∧y.rest≤100000000)∧(∀x∈b.exps,qQ x.phases=0∧(bsN (b.layers.map Lyr.name) x.layer).2=true)∧clsF b.layers b.exps 0 b.exps=false:=by
 unfold zP at h
 split at h
 ·exact absurd h (by simp)
 split at h
 ·rename_i c1
  split at h
  ·split at h
   ·rename_i c3
    split at h
    ·exact absurd h (by simp)
    ·rename_i c4
     exact⟨xR c1,VE c3,by simpa using c4⟩
   ·rename_i c;exact absurd h c
  ·rename_i c;exact absurd h c
 ·rename_i c;exact absurd h c
theorem XX:∀{xs:List Phs} {p:Option Int} {b:List Sp},phF p b xs=0→∀y∈xs,qa y.spans=0
 | [],_,_,_,y,hy=>by simp at hy
 | x::xs,p,b,h,y,hy=>by
   simp only[phF] at h
   split at h
   ·split at h
    ·exact absurd h (by simp)
    ·split at h
     ·rename_i c
      split at h
      ·exact absurd h (by simp)
      ·rcases List.mem_cons.1 hy with rfl | hy
       ·exact c
       ·exact XX h y hy
     ·rename_i c;exact absurd h c
   ·exact absurd h (by simp)
theorem qR {l:List Phs} (h:qQ l=0):∀y∈l,qa y.spans=0:=by
 unfold qQ at h
 split at h
 ·exact absurd h (by simp)
 ·exact XX h
def unfG (rest n:Int) (all:List Phs):Nat→List Phs→List Sp
 | _,[]=>[]
 | k,p::l=>(if n<endF all k+rest then p.spans else [])++unfG rest n all (k+1) l
def unf (layer but:List UInt8) (rest n:Int):List Xp→List Sp
 | []=>[]
 | x::l=>(if x.layer=layer then (if x.name=but then [] else unfG rest n x.phases 0 x.phases) else [])++unf layer but rest n l
theorem zbR (rest n:Int) (all:List Phs):∀(l:List Phs) (k:Nat),(unfG rest n all k l).length≤sumB Phs.cb l
 | [],k=>by simp[unfG]
 | p::l,k=>by
   have:=zbR rest n all l (k+1)
   have hp:p.cb=1+p.spans.length:=rfl
   simp only[unfG,List.length_append,sumB,List.map_cons,List.sum_cons] at *
   split<;>simp<;>omega
theorem zdc (layer but:List UInt8) (rest n:Int):∀l:List Xp,(unf layer but rest n l).length≤sumB Xp.cb l
 | []=>by simp[unf]
 | x::l=>by
   have:=zdc layer but rest n l
   have h2:=zbR rest n x.phases x.phases 0
   have hx:x.cb=x.name.length+x.layer.length+x.flag.length+x.cond.cb+x.salt.length+x.arms.length+sumB Phs.cb x.phases:=rfl
   simp only[unf,List.length_append,sumB,List.map_cons,List.sum_cons] at *
   split
   ·split<;>simp<;>omega
   ·simp;omega
theorem zbS (rest n:Int) (all:List Phs):∀(l:List Phs) (k:Nat) (s:Sp),s∈unfG rest n all k l→∃p∈l,s∈p.spans
 | [],k,s,h=>by simp[unfG] at h
 | p::l,k,s,h=>by
   simp only[unfG,List.mem_append] at h
   rcases h with h | h
   ·split at h
    ·exact⟨p,by simp,h⟩
    ·simp at h
   ·obtain⟨q,hq,hs⟩:=zbS rest n all l (k+1) s h
    exact⟨q,by simp[hq],hs⟩
theorem zdd (layer but:List UInt8) (rest n:Int):∀(l:List Xp) (s:Sp),s∈unf layer but rest n l→∃x∈l,∃p∈x.phases,s∈p.spans
 | [],s,h=>by simp[unf] at h
 | x::l,s,h=>by
   simp only[unf,List.mem_append] at h
   rcases h with h | h
   ·split at h
    ·split at h
     ·simp at h
     ·obtain⟨p,hp,hs⟩:=zbS rest n x.phases x.phases 0 s h
      exact⟨x,by simp,p,hp,hs⟩
    ·simp at h
   ·obtain⟨q,hq,hs⟩:=zdd layer but rest n l s h
    exact⟨q,by simp[hq],hs⟩
def okU (l:List Sp):Prop:=∀s∈l,0≤s.1∧s.1<s.2∧s.2≤100000
theorem zde {a:List Sp} (ha:qa a=0):okU a:=by
 obtain⟨c1,b1,p1,_⟩:=wN ha
 exact fun s hs=>⟨p1 s hs,yU c1 s hs,b1 s hs⟩
theorem zdU {b:Bk} (h:zP b=0) (layer but:List UInt8) (rest n:Int):okU (unf layer but rest n b.exps):=fun s hs=>by
 obtain⟨x,hx,p,hp,hs⟩:=zdd layer but rest n b.exps s hs
 exact zde (qR ((ZQ h).2.1 x hx).1 p hp) s hs
theorem XY {l:List Sp} (h:okU l):Small l:=fun s hs=>by have:=h s hs;omega
theorem QP:∀{lo hi:Int} {l:List Sp},qY lo l→Below hi l→lo≤hi→(l.length:Int)≤hi - lo
 | lo,hi,[],_,_,h=>by simp;omega
 | lo,hi,s::l,hc,hb,h=>by
   have hs:=hb s (by simp)
   have:=QP hc.2.2 (fun x hx=>hb x (by simp[hx])) hs
   have:=hc.1
   have:=hc.2.1
   simp only[List.length_cons]
   omega
theorem zdf {l:List Sp} (h:okU l):okS (togL (yy l))∧∀k,mem (togL (yy l)) k↔mem l k:=by
 obtain⟨_,s2,s3⟩:=Z7 (XY h)
 have hs:ZP 0 (yy l):=Jr (fun s hs=>by have:=h s (s2.mem_iff.1 hs);exact⟨this.1,this.2.1⟩) s3
 have hc:qY (-1) (togL (yy l)):=KE (lo:=-1) (by simpa using hs)
 have hm:∀k,mem (togL (yy l)) k↔mem l k:=fun k=>by rw[zbx hs,zbE s2]
 have hpos:=yU hc
 have hb:Below 100000 (togL (yy l)):=fun s hs=>by
  have hp:=hpos s hs
  obtain⟨t,ht,g1,g2⟩:=(hm (s.2 - 1)).1 ⟨s,hs,by omega,by omega⟩
  have:=h t ht
  omega
 refine⟨⟨hc,hb,fun s hs=>?_,?_⟩,hm⟩
 ·have:=yR hc ⟨s,hs,Int.le_refl _,hpos s hs⟩
  omega
 ·have:=QP hc hb (by omega)
  have h2:¬(togL (yy l)).length=100001:=fun e=>by
   rcases hL:togL (yy l) with _ | ⟨s,m⟩
   ·rw[hL] at e;simp at e
   ·rw[hL] at hc hb e
    have h1:=QP hc.2.2 (fun x hx=>hb x (by simp[hx])) (hb s (by simp))
    have h3:=hc.1
    have h4:=hc.2.1
    simp only[List.length_cons] at e
    omega
  omega
noncomputable def yI (b:Bk) (layer but:List UInt8) (n:Int):List Sp:=mins [(0,100000)] (togL (yy (unf layer but (w8 b.layers layer) n b.exps)))
def okB (b:Bk) (layer:List UInt8):Prop:=b.cb≤lim∧zP b=0∧(bsN (b.layers.map Lyr.name) layer).2=true
noncomputable def FBut (out:Bk→List UInt8→List UInt8→Int→PV):List PV→Option PV:=zH (α:=Bk×List UInt8×List UInt8×Int) (fun a=>[.agg a.1.enc,str a.2.1,str a.2.2.1,int a.2.2.2]) (fun a=>okB a.1 a.2.1) (fun a=>out a.1 a.2.1 a.2.2.1 a.2.2.2)
theorem FBut_call (out:Bk→List UInt8→List UInt8→Int→PV) (b:Bk) (s t:List UInt8) (n:Int) (hp:Hp) (nx:Nat) (h:okB b s):zd false [] (FBut out) [.agg b.enc,str s,str t,int n] hp nx=some (out b s t n,hp,nx) :=
 zy (hp1:=hp) (show zj hp [.agg b.enc,str s,str t,int n]=some ([.agg b.enc,str s,str t,int n],hp) by simp only[zj,jw];rfl) (zm (enc:=fun a:Bk×List UInt8×List UInt8×Int=>[.agg a.1.enc,str a.2.1,str a.2.2.1,int a.2.2.2]) (a:=(b,s,t,n)) (fun x y e=>by
  obtain⟨x1,x2,x3,x4⟩:=x;obtain⟨y1,y2,y3,y4⟩:=y
  simp only[List.cons.injEq,and_true,PV.agg.injEq] at e
  rw[QM e.1,zV e.2.1,zV e.2.2.1,zB e.2.2.2]) h) (.inr (by simp only[List.all_cons,Zs];rfl))
noncomputable abbrev Cfb:Ctx:=zF prog [(64,zd false [] FOfL),(65,zd false [] (FPi2 fun l i=>int (endF l i))),(67,zd false [] allS),(68,zd true [2] togF),(66,zd false [] (FPP (fun a b=>.sl 2 ((mins a b).map encS)) fun a b=>okS a∧okS b))]
theorem goodfb:AM.Good Cfb (fun g=>([]:List Nat).contains g):=zk mixed ⟨xP,by simp,XT,by simp,everythingL_sound,by simp,togK_sound,by simp,minus2_sound,by simp,trivial⟩
theorem unfG_drop {rest n:Int} {l:List Phs} {k:Nat} (h:k<l.length):unfG rest n l k (l.drop k)=(if n<endF l k+rest then l[k].spans else [])++unfG rest n l (k+1) (l.drop (k+1)):=by
 rw[List.drop_eq_getElem_cons h,unfG]
theorem unf_drop {layer but:List UInt8} {rest n:Int} {l:List Xp} {k:Nat} (h:k<l.length):unf layer but rest n (l.drop k)=(if l[k].layer=layer then (if l[k].name=but then [] else unfG rest n l[k].phases 0 l[k].phases) else [])++unf layer but rest n (l.drop (k+1)):=by
 rw[List.drop_eq_getElem_cons h,unf]
set_option maxHeartbeats 4000000 in
theorem freeBut_eval (b:Bk) (layer but:List UInt8) (n:Int) (h:okB b layer):zi Cfb f34 [.agg b.enc,str layer,str but,int n]=some (.sl 2 ((yI b layer but n).map encS)):=by
 obtain⟨hb,hchk,hfl⟩:=h
 obtain⟨hyr,hex,_⟩:=ZQ hchk
 refine zb rfl ?_
 have hlen:=zN xM b.exps
 have hleL:=zN jh b.layers
 have hbc:b.cb=sumB Lyr.cb b.layers+sumB Hld.cb b.holds+sumB Xp.cb b.exps:=rfl
 unfold lim at hb
 have hof:=fun hp nx=>xO b.layers layer hp nx (by unfold lim;omega)
 obtain⟨q,hq⟩:∃q,(bsN (b.layers.map Lyr.name) layer).1=q:=⟨_,rfl⟩
 have hql:q<b.layers.length:=by have:=zbK hfl;rw[hq] at this;simpa using this
 obtain⟨y,hy⟩:∃y,b.layers[q]=y:=⟨_,rfl⟩
 have hyr:=hyr y (by rw[←hy];exact List.getElem_mem hql)
 have hrest:w8 b.layers layer=y.rest:=by unfold w8;rw[hq,List.getElem?_eq_getElem hql,hy]
 obtain⟨T,hT⟩:∃T,unf layer but y.rest n b.exps=T:=⟨_,rfl⟩
 have hTl:T.length≤1048576:=by have:=zdc layer but y.rest n b.exps;rw[hT] at this;omega
 have hTok:okU T:=by rw[←hT];exact zdU hchk layer but y.rest n
 have hfv:yI b layer but n=mins [(0,100000)] (togL (yy T)):=by unfold yI;rw[hrest,hT]
 rw[hfv]
 simp[Bk.enc,hof,hq,hql,hy,Lyr.enc]
 refine zq (fun k σ hp nx=>σ 1=str layer∧σ 2=str but∧σ 3=int n∧σ 11=int y.rest∧σ 31=.sl 13 (b.exps.map Xp.enc)∧σ 32=int b.exps.length∧σ 33=int k∧∃d,OwnS hp nx 41 2 (σ 12) (d.map encS)∧d++unf layer but y.rest n (b.exps.drop k)=T) b.exps.length
  ⟨by simp,by simp,by simp,by simp,by simp,by simp,by simp,[],.inl (by simp),by simpa using hT⟩ ?_
 rintro k σ hp nx hk ⟨h1,h2,h3,h11,h31,h32,h33,d,hO,hd⟩
 by_cases hlt:k<b.exps.length
 ·obtain⟨x,hx⟩:∃x,b.exps[k]=x:=⟨_,rfl⟩
  have hxm:x∈b.exps:=by rw[←hx];exact List.getElem_mem hlt
  have hmx:=qt (f:=Xp.cb) hxm
  have hxc:x.cb=x.name.length+x.layer.length+x.flag.length+x.cond.cb+x.salt.length+x.arms.length+sumB Phs.cb x.phases:=rfl
  have hxpl:=zN jC x.phases
  have hto:=jY (hex x hxm).1
  rw[unf_drop hlt,hx] at hd
  have hw:IntKind.i64.wrap ((k:Int)+1)=(k:Int)+1:=zc (by omega) (by omega)
  have hO1:=hO.more (some (boxX x))
  by_cases c1:x.layer=layer
  case neg =>
   have c1':(x.layer==layer)=false:=by simpa using c1
   rw[if_neg c1,List.nil_append] at hd
   simp[h1,h2,h3,h11,h31,h32,h33,hlt,hx,zw,c1',hw]
   rw[boxX,zw] at hO1
   exact⟨by omega,d,hO1,hd⟩
  have c1':(x.layer==layer)=true:=by simpa using c1
  rw[if_pos c1] at hd
  by_cases c2:x.name=but
  ·have c2':(x.name==but)=true:=by simpa using c2
   rw[if_pos c2,List.nil_append] at hd
   simp[h1,h2,h3,h11,h31,h32,h33,hlt,hx,zw,c1',c2',hw]
   rw[boxX,zw] at hO1
   exact⟨by omega,d,hO1,hd⟩
  have c2':(x.name==but)=false:=by simpa using c2
  rw[if_neg c2] at hd
  simp[h1,h2,h3,h11,h31,h32,h33,hlt,hx,zw,c1',c2']
  obtain⟨P,hP⟩:∃P,nx=P:=⟨_,rfl⟩
  rw[hP] at hO1 ⊢
  rw[boxX,zw] at hO1
  refine zq (fun i σ hp nx=>σ 1=str layer∧σ 2=str but∧σ 3=int n∧σ 11=int y.rest∧σ 31=.sl 13 (b.exps.map Xp.enc)∧σ 32=int b.exps.length∧σ 33=int k∧σ 14=.ref P 0 0∧σ 48=.sl 2 (x.phases.map Phs.enc)∧σ 49=int x.phases.length∧σ 50=int i∧P<nx∧hp P=some ⟨66,13,false,[x.enc]⟩∧∃d,OwnS hp nx 41 2 (σ 12) (d.map encS)∧d++(unfG y.rest n x.phases i (x.phases.drop i)++unf layer but y.rest n (b.exps.drop (k+1)))=T) x.phases.length
   ⟨by simp[h1],by simp[h2],by simp[h3],by simp[h11],by simp[h31],by simp[h32],by simp[h33],by simp,by simp,by simp,by simp,(by show P<P+1;omega),by simp[zw],d,by simpa using hO1,by simpa using hd⟩ ?_
  clear h1 h2 h3 h11 h31 h32 h33 hO hd hO1 hP d hk σ hp nx
  rintro i σ hp nx hi ⟨h1,h2,h3,h11,h31,h32,h33,h14,h48,h49,h50,hPn,hbP,d,hO,hd⟩
  by_cases hlti:i<x.phases.length
  ·obtain⟨p,hpd⟩:∃p,x.phases[i]=p:=⟨_,rfl⟩
   rw[unfG_drop hlti,hpd] at hd
   have hwi:IntKind.i64.wrap ((i:Int)+1)=(i:Int)+1:=zc (by omega) (by omega)
   have hea:=Jz hto i
   have wa:IntKind.i64.wrap (endF x.phases i+y.rest)=endF x.phases i+y.rest:=zc (by omega) (by omega)
   have hce:=fun hp nx=>Jv (fun l i=>int (endF l i)) x.phases i hp nx ⟨by unfold lim;omega,by unfold lim;omega⟩
   have nP:¬P=nx:=by omega
   have hO1:=hO.more (some ⟨100,2,false,[p.enc]⟩)
   have hbP':=hbP
   rw[zw] at hbP'
   by_cases hc:n<endF x.phases i+y.rest
   case neg =>
    rw[if_neg hc,List.nil_append] at hd
    rw[Phs.enc] at hO1
    simp[h1,h2,h3,h11,h31,h32,h33,h14,h48,h49,h50,hlti,hpd,Phs.enc,hbP',nP,hce,wa,hc,hwi]
    exact⟨by omega,by omega,(zw x).symm,d,hO1,hd⟩
   rw[if_pos hc] at hd
   have hdl:d.length+p.spans.length≤1048576:=by
    have:=congrArg List.length hd
    simp only[List.length_append] at this
    omega
   obtain⟨v',hp',nx',ha1,hO',hnx',hfr⟩:=hO1.appendF (P:=prog) (t:=36) (ys:=p.spans.map encS) el36 sz41 by41 ze41 rfl (by omega) (by simp[maxLen];omega) (by simp;omega)
   have hbP2:hp' P=some ⟨66,13,false,[x.enc]⟩:=by
    rw[hfr P (by omega) (jl hO hbP rfl),zl _ _ _ _ nP];exact hbP
   rw[Phs.enc] at ha1
   simp[h1,h2,h3,h11,h31,h32,h33,h14,h48,h49,h50,hlti,hpd,Phs.enc,hbP',nP,hce,wa,hc,hwi,ha1]
   exact⟨by omega,by omega,hbP2,d++p.spans,by rw[List.map_append];exact hO',by rw[List.append_assoc,←List.append_assoc p.spans];exact hd⟩
  ·obtain rfl:i=x.phases.length:=by omega
   rw[List.drop_length,unfG,List.nil_append] at hd
   simp[h1,h2,h3,h11,h31,h32,h33,h14,h48,h49,h50,hw]
   exact⟨by omega,d,hO,hd⟩
 ·obtain rfl:k=b.exps.length:=by omega
  rw[List.drop_length,unf,List.append_nil] at hd
  subst hd
  obtain⟨hp',htc⟩:=togK_call hO (XY hTok) hTl
  have hmc:=fun hp nx=>Zq (fun a b=>.sl 2 ((mins a b).map encS)) (fun a b=>okS a∧okS b) [(0,100000)] (togL (yy d)) hp nx ⟨zbA (by decide),(zdf hTok).1⟩
  have hec:=fun hp nx=>everythingL_call hp nx
  simp only[List.map_cons,List.map_nil,encS] at hmc
  simp[h1,h2,h3,h11,h31,h32,h33,hec,htc,hmc,qi,f34]
set_option maxRecDepth 100000 in
theorem freeBut_sound:za prog 34 (zd false [] (FBut fun b s t n=>.sl 2 ((yI b s t n).map encS))) :=
 zI (fn:=f34) goodfb ⟨_,func34,by kernel_rfl,rfl,by kernel_rfl⟩ false [] _ fun args r h=>by
  obtain⟨⟨b,s,t,n⟩,rfl,hx,rfl⟩:=ze h
  exact⟨by simp[f34],_,freeBut_eval b s t n hx,zG _⟩
noncomputable def xd (b:Bk) (s:List UInt8) (n:Int):List Sp×Int:=if chkL b s n=0 then limR (yI b s [] n) else ([],chkL b s n)
theorem WB {b:Bk} {s:List UInt8} {n:Int} (hb:b.cb≤lim) (h:chkL b s n=0):okB b s∧ji n=true:=by
 unfold chkL at h
 split at h
 ·rename_i c1
  split at h
  ·rename_i c2
   split at h
   ·rename_i c3;exact⟨⟨hb,c1,c2⟩,c3⟩
   ·exact absurd h (by simp)
  ·exact absurd h (by simp)
 ·rename_i c;exact absurd h c
noncomputable abbrev Cfr:Ctx:=zF prog [(32,zd false [] (FBNI fun b s n=>int (chkL b s n))),(34,zd false [] (FBut fun b s t n=>.sl 2 ((yI b s t n).map encS))),(33,zd false [] (FP (fun l=>wW (limR l)) fun _=>True))]
theorem goodfr:AM.Good Cfr (fun g=>([]:List Nat).contains g):=zk mixed ⟨XW,by simp,freeBut_sound,by simp,limited_sound,by simp,trivial⟩
theorem Free_eval (b:Bk) (s:List UInt8) (n:Int) (hb:b.cb≤lim):∃r0,zi Cfr f12 [.agg b.enc,str s,int n]=some r0∧Stands r0 (wW (xd b s n)):=by
 refine qz rfl ?_
 have hcl:=fun hp nx=>jx (fun b s n=>int (chkL b s n)) b s n hp nx hb
 simp only[Bk.enc] at hcl
 by_cases c1:chkL b s n=0
 case neg =>
  have hv:xd b s n=([],chkL b s n):=by unfold xd;rw[if_neg c1]
  have c1':(chkL b s n != 0)=true:=by simpa using c1
  rw[hv]
  simp[Bk.enc,hcl,c1',f12]
  exact⟨_,by simp,yf _⟩
 ·have hv:xd b s n=limR (yI b s [] n):=by unfold xd;rw[if_pos c1]
  have hfb:∀hp nx,zd false [] (FBut fun b s t n=>.sl 2 ((yI b s t n).map encS)) [.agg b.enc,str s,.v (.string ⟨#[]⟩),int n] hp nx=some (.sl 2 ((yI b s [] n).map encS),hp,nx):=fun hp nx=>FBut_call (fun b s t n=>.sl 2 ((yI b s t n).map encS)) b s [] n hp nx (WB hb c1).1
  have hli:∀hp nx,zd false [] (FP (fun l=>wW (limR l)) fun _=>True) [.sl 2 ((yI b s [] n).map encS)] hp nx=some (.tup [.sl 2 ((limR (yI b s [] n)).1.map encS),int (limR (yI b s [] n)).2],hp,nx):=fun hp nx=>Wv (fun l=>wW (limR l)) (fun _=>True) (yI b s [] n) hp nx trivial
  simp only[Bk.enc] at hfb
  rw[hv]
  simp[Bk.enc,hcl,c1,hfb,hli,f12]
  exact⟨wW (limR (yI b s [] n)),by simp[wW],.refl _⟩
set_option maxRecDepth 100000 in
theorem Free_sound:za prog 12 (zd false [] (FBNI fun b s n=>wW (xd b s n))) :=
 yw (fn:=f12) goodfr ⟨_,func12,by kernel_rfl,rfl,by kernel_rfl⟩ false [] _ fun args r h w S vs hz=>by
  obtain⟨⟨b,s,n⟩,rfl,hx,rfl⟩:=ze h
  obtain⟨r0,h1,h2⟩:=Free_eval b s n hx
  exact⟨_,r0,hz,by simp[f12],h1,h2⟩
end Go.Proofs.YtdkfdoeijcfbhaaGreatDoor
namespace Go.Proofs
open Go.Shelf
def Tryz.sortP_ren:Go.Shelf.Ren:=⟨fun | 6=>38 | 15=>73 | 14=>72 | 28=>121 | 29=>122 | 20=>113 | 21=>114 | 22=>115 | 23=>116 | 24=>117 | 25=>118 | 26=>119 | 27=>120 | 46=>164 | 47=>165 | 48=>166 | 49=>167 | 50=>168 | 57=>236 | n=>n,fun | 22=>42 | 24=>47 | 25=>79 | 3=>3 | 39=>111 | 0=>0 | 53=>155 | 55=>157 | 4=>4 | 46=>149 | 45=>148 | 50=>96 | 5=>5 | 9=>9 | 66=>209 | 70=>213 | 76=>272 | 77=>57 | n=>n,fun | n=>n⟩
theorem Tryz.sortP:Go.Proofs.SlLaysF0.n6 prog Tryz.sortP_ren:={
 mixed:=by kernel_rfl
 f6:=⟨f38.name,by decide,func38.trans (congrArg some (by kernel_rfl))⟩
 f14:=⟨f72.name,by decide,func72.trans (congrArg some (by kernel_rfl))⟩
 f15:=func73.trans (congrArg some (by kernel_rfl))
 f20:=⟨f113.name,by decide,func113.trans (congrArg some (by kernel_rfl))⟩
 f21:=⟨f114.name,by decide,func114.trans (congrArg some (by kernel_rfl))⟩
 f22:=⟨f115.name,by decide,func115.trans (congrArg some (by kernel_rfl))⟩
 f23:=⟨f116.name,by decide,func116.trans (congrArg some (by kernel_rfl))⟩
 f24:=⟨f117.name,by decide,func117.trans (congrArg some (by kernel_rfl))⟩
 f25:=⟨f118.name,by decide,func118.trans (congrArg some (by kernel_rfl))⟩
 f26:=⟨f119.name,by decide,func119.trans (congrArg some (by kernel_rfl))⟩
 f27:=⟨f120.name,by decide,func120.trans (congrArg some (by kernel_rfl))⟩
 f28:=func121.trans (congrArg some (by kernel_rfl))
 f29:=func122.trans (congrArg some (by kernel_rfl))
 f46:=⟨f164.name,by decide,func164.trans (congrArg some (by kernel_rfl))⟩
 f47:=func165.trans (congrArg some (by kernel_rfl))
 f48:=func166.trans (congrArg some (by kernel_rfl))
 f49:=⟨f167.name,by decide,func167.trans (congrArg some (by kernel_rfl))⟩
 f50:=⟨f168.name,by decide,func168.trans (congrArg some (by kernel_rfl))⟩
 f57:=⟨f236.name,by decide,func236.trans (congrArg some (by kernel_rfl))⟩
 t0:=underlying0
 a0:=isAgg0
 z0:=sizeOf0
 v0:=zeroValue0
 t3:=underlying3
 a3:=isAgg3
 z3:=sizeOf3
 v3:=zeroValue3
 t4:=underlying4
 a4:=isAgg4
 z4:=sizeOf4
 v4:=zeroValue4
 t5:=underlying5
 a5:=isAgg5
 z5:=sizeOf5
 v5:=zeroValue5
 t9:=underlying9
 a9:=isAgg9
 z9:=sizeOf9
 v9:=zeroValue9
 t22:=underlying42
 a22:=isAgg42
 z22:=sizeOf42
 v22:=zeroValue42
 t25:=underlying79
 a25:=isAgg79
 z25:=sizeOf79
 v25:=zeroValue79
 t39:=underlying111
 a39:=isAgg111
 z39:=sizeOf111
 v39:=zeroValue111
 t45:=underlying148
 a45:=isAgg148
 z45:=sizeOf148
 v45:=zeroValue148
 t46:=underlying149
 a46:=isAgg149
 z46:=sizeOf149
 v46:=zeroValue149
 t50:=underlying96
 a50:=isAgg96
 z50:=sizeOf96
 v50:=zeroValue96
 t53:=underlying155
 a53:=isAgg155
 z53:=sizeOf155
 v53:=zeroValue155
 t55:=underlying157
 a55:=isAgg157
 z55:=sizeOf157
 v55:=zeroValue157
 t66:=underlying209
 a66:=isAgg209
 z66:=sizeOf209
 v66:=zeroValue209
 t70:=underlying213
 a70:=isAgg213
 z70:=sizeOf213
 v70:=zeroValue213
 t76:=underlying272
 a76:=isAgg272
 z76:=sizeOf272
 v76:=zeroValue272
 t77:=underlying57
 a77:=isAgg57
 z77:=sizeOf57
 v77:=zeroValue57 }
open Go.AM
theorem Tryz.sortP_ok:zbn prog 38 3:=⟨fun _ _ enc hk h1 cf hO g blk off cap d w eg hcmp hH hblk hsz=>AnyQ.slices_SortFunc_eq Tryz.sortP 3 isAgg47 sizeOf47 enc hk h1 cf hO g #[] blk off cap d w eg hcmp hH hblk hsz,
 fun p cap fv w=>AnyF.slices_SortFunc_none Tryz.sortP p cap fv w⟩
end Go.Proofs
namespace Go.Proofs.YtdkfdoeijcfbhaaGreatDoor
open Go.Proofs.Tryz
open Go.RowKit Go.AM Go.SpanLaw
abbrev Pce:=Sp×List UInt8
def qd (p:Pce):List PV:=[int p.1.1,int p.1.2,str p.2]
theorem QQ {a b:Pce} (h:qd a=qd b):a=b:=by
 obtain⟨⟨a1,a2⟩,a3⟩:=a;obtain⟨⟨b1,b2⟩,b3⟩:=b
 simp only[qd,List.cons.injEq,and_true] at h
 rw[zB h.1,zB h.2.1,zV h.2.2]
noncomputable def FPcc (out:Pce→Pce→PV):List PV→Option PV:=zH (α:=Pce×Pce) (fun a=>[.agg (qd a.1),.agg (qd a.2)]) (fun _=>True) (fun a=>out a.1 a.2)
theorem FPcc_call (out:Pce→Pce→PV) (a b:Pce) (hp:Hp) (nx:Nat):zd false [] (FPcc out) [.agg (qd a),.agg (qd b)] hp nx=some (out a b,hp,nx) :=
 zy (hp1:=hp) (show zj hp [.agg (qd a),.agg (qd b)]=some ([.agg (qd a),.agg (qd b)],hp) by simp[qd]) (zm (enc:=fun a:Pce×Pce=>[PV.agg (qd a.1),.agg (qd a.2)]) (a:=(a,b)) (fun a b e=>by
  obtain⟨a1,a2⟩:=a;obtain⟨b1,b2⟩:=b
  simp only[List.cons.injEq,and_true,PV.agg.injEq] at e
  rw[QQ e.1,QQ e.2]) trivial) (.inr rfl)
theorem cmpPc_sound:za prog 39 (zd false [] (FPcc fun a b=>int (IntKind.i64.wrap (a.1.1 - b.1.1)))) :=
 zI (fn:=f39) qA ⟨_,func39,by kernel_rfl,rfl,by kernel_rfl⟩ false [] _ fun args r h=>by
  obtain⟨⟨a,b⟩,rfl,_,rfl⟩:=ze h
  exact⟨Nat.le_trans (Nat.le_refl 2) (by decide),_,zb rfl (by simp[qd,f39]),zG _⟩
def domP (x:List PV):Prop:=∃s:Pce,x=qd s∧0≤s.1.1∧s.1.1≤100000
theorem cmpPc_ok:zdB prog 39 3 cfS domP :=
 ⟨fun args w=>enters_of func39 (by kernel_rfl) rfl args w,_,cmpPc_sound,fun x y _ _ hx hy=>by
  obtain⟨a,rfl,_⟩:=hx
  obtain⟨b,rfl,_⟩:=hy
  exact FPcc_call _ a b _ _⟩
theorem sortP_sound:za prog 38 (Wt 3 39 cfS domP) :=
 Z1 (by omega) ⟨_,func38,by decide,by kernel_rfl⟩ Tryz.sortP_ok cmpPc_ok
def JB (l:List Pce):Prop:=∀s∈l,0≤s.1.1∧s.1.1≤100000
theorem Ya {a b:Pce} (ha:0≤a.1.1∧a.1.1≤100000) (hb:0≤b.1.1∧b.1.1≤100000):cfS (qd a) (qd b)=a.1.1 - b.1.1:=by
 show IntKind.i64.wrap (a.1.1 - b.1.1)=_
 exact zc (by omega) (by omega)
theorem zdC {l:List Pce} (h:JB l):WeakOn cfS (l.map qd) where
 irrefl x hx:=by
  obtain⟨s,hs,rfl⟩:=List.mem_map.1 hx
  rw[Ya (h s hs) (h s hs)];omega
 trans x hx y hy z hz h1 h2:=by
  obtain⟨a,ha,rfl⟩:=List.mem_map.1 hx
  obtain⟨b,hb,rfl⟩:=List.mem_map.1 hy
  obtain⟨c,hc,rfl⟩:=List.mem_map.1 hz
  rw[Ya (h _ ha) (h _ hb)] at h1
  rw[Ya (h _ hb) (h _ hc)] at h2
  rw[Ya (h _ ha) (h _ hc)]
  omega
 ntrans x hx y hy z hz h1 h2:=by
  obtain⟨a,ha,rfl⟩:=List.mem_map.1 hx
  obtain⟨b,hb,rfl⟩:=List.mem_map.1 hy
  obtain⟨c,hc,rfl⟩:=List.mem_map.1 hz
  rw[Ya (h _ ha) (h _ hb)] at h1
  rw[Ya (h _ hb) (h _ hc)] at h2
  rw[Ya (h _ ha) (h _ hc)]
  omega
theorem XZ {l:List Pce} (h:JB l):∃m:List Pce,jO cfS (l.map qd)=m.map qd∧m.Perm l∧m.Pairwise (fun a b=>a.1.1≤b.1.1):=by
 obtain⟨m,h1,h2⟩:=W8 (vu (zdC h))
 refine⟨m,h2,h1,?_⟩
 have h3:=xF (zdC h)
 rw[h2,List.pairwise_map] at h3
 refine h3.imp_of_mem fun {a b} ha hb hab=>?_
 rw[Ya (h _ (h1.mem_iff.1 hb)) (h _ (h1.mem_iff.1 ha))] at hab
 omega
noncomputable def vX (l:List Pce):List Pce:=by
 classical exact if h:JB l then (XZ h).choose else []
theorem jy {l:List Pce} (h:JB l):jO cfS (l.map qd)=(vX l).map qd∧(vX l).Perm l∧(vX l).Pairwise (fun a b=>a.1.1≤b.1.1):=by
 unfold vX
 rw[dif_pos h]
 exact (XZ h).choose_spec
theorem sortP_call {l m:List Pce} (h:JB l) (hl:l.length≤1048576) (hm:jO cfS (l.map qd)=m.map qd) {hp:Hp} {nx:Nat} {v:PV} (hO:OwnS hp nx 47 3 v (l.map qd)) :
  ∃hp',Wt 3 39 cfS domP [v,.fn (.func 39) [] []] hp nx=some (.tup [],hp',nx)∧OwnS hp' nx 47 3 v (m.map qd):=by
 rcases hO with⟨rfl,h0⟩ | ⟨id,hid,rfl,hh⟩
 ·refine⟨hp,rfl,.inl ⟨rfl,?_⟩⟩
  rw[←hm,h0]
  rfl
 ·by_cases hz:l=[]
  ·subst hz
   have:m=[]:=by
    have:(m.map qd)=[]:=by rw[←hm];rfl
    simpa using this
   subst this
   exact⟨hp,rfl,.inr ⟨id,hid,rfl,hh⟩⟩
  ·have hne:¬(l.map qd).length=0:=by simpa using hz
   have hml:(m.map qd).length=(l.map qd).length:=by rw[←hm,kI (zdC h)]
   refine⟨upd hp id (some ⟨47,3,true,m.map qd⟩),?_,.inr ⟨id,hid,by rw[hml],by simp⟩⟩
   show (if (l.map qd).length=0 then _ else _)=_
   rw[if_neg hne,hh]
   simp only
   have e1:((l.map qd).drop 0).take (l.map qd).length=l.map qd:=by rw[List.drop_zero,List.take_length]
   have e2:(l.map qd).drop (0+(l.map qd).length)=[]:=by rw[Nat.zero_add,List.drop_length]
   rw[e1,e2,if_pos ⟨rfl,rfl,rfl,by simp,by simp;omega,zdC h,fun x hx=>by
    obtain⟨s,hs,rfl⟩:=List.mem_map.1 hx
    exact⟨s,rfl,h s hs⟩⟩,hm]
   simp
def JC (name:List UInt8) (l:List Sp):List Pce:=l.map fun s=>(s,name)
def busL (layer:List UInt8) (n:Int):List Xp→List Pce
 | []=>[]
 | x::l=>(if x.layer=layer then JC x.name (hasG [] n x.phases) else [])++busL layer n l
theorem VG (n:Int):∀(l:List Phs) (acc:List Sp),hasG acc n l=acc∨∃p∈l,hasG acc n l=p.spans
 | [],acc=>.inl rfl
 | p::l,acc=>by
   simp only[hasG]
   rcases VG n l (if p.at_≤n then p.spans else acc) with h | ⟨q,hq,h⟩
   ·split at h
    ·rename_i c;rw[if_pos c];exact .inr ⟨p,by simp,h⟩
    ·rename_i c;rw[if_neg c];exact .inl h
   ·exact .inr ⟨q,by simp[hq],h⟩
theorem QR (n:Int) (l:List Phs):(hasG [] n l).length≤sumB Phs.cb l:=by
 rcases VG n l [] with h | ⟨p,hp,h⟩
 ·rw[h];simp
 ·rw[h]
  have:=qt (f:=Phs.cb) hp
  have hpc:p.cb=1+p.spans.length:=rfl
  omega
theorem VH (layer:List UInt8) (n:Int):∀l:List Xp,(busL layer n l).length≤sumB Xp.cb l
 | []=>by simp[busL]
 | x::l=>by
   have:=VH layer n l
   have h2:=QR n x.phases
   have hx:x.cb=x.name.length+x.layer.length+x.flag.length+x.cond.cb+x.salt.length+x.arms.length+sumB Phs.cb x.phases:=rfl
   simp only[busL,List.length_append,sumB,List.map_cons,List.sum_cons,JC] at *
   split<;>simp<;>omega
theorem hasG_ok {b:Bk} (h:zP b=0) {x:Xp} (hx:x∈b.exps) (n:Int):okU (hasG [] n x.phases):=by
 rcases VG n x.phases [] with e | ⟨p,hp,e⟩
 ·rw[e];intro s hs;simp at hs
 ·rw[e];exact zde (qR ((ZQ h).2.1 x hx).1 p hp)
theorem VI (layer:List UInt8) (n:Int):∀(l:List Xp) (s:Pce),s∈busL layer n l→∃x∈l,x.layer=layer∧s.1∈hasG [] n x.phases
 | [],s,h=>by simp[busL] at h
 | x::l,s,h=>by
   simp only[busL,List.mem_append] at h
   rcases h with h | h
   ·split at h
    ·rename_i c
     obtain⟨t,ht,rfl⟩:=List.mem_map.1 h
     exact⟨x,by simp,c,ht⟩
    ·simp at h
   ·obtain⟨q,hq,hs⟩:=VI layer n l s h
    exact⟨q,by simp[hq],hs⟩
theorem zaA {b:Bk} (h:zP b=0) (layer:List UInt8) (n:Int):∀s∈busL layer n b.exps,0≤s.1.1∧s.1.1<s.1.2∧s.1.2≤100000:=fun s hs=>by
 obtain⟨x,hx,_,hs⟩:=VI layer n b.exps s hs
 exact hasG_ok h hx n s.1 hs
theorem Zt {b:Bk} (h:zP b=0) (layer:List UInt8) (n:Int):JB (busL layer n b.exps):=fun s hs=>by
 have:=zaA h layer n s hs;omega
noncomputable def xe (b:Bk) (s:List UInt8) (n:Int):List Pce×Int:=if chkL b s n=0 then (if (100:Int)<(busL s n b.exps).length then ([],2) else (vX (busL s n b.exps),0)) else ([],chkL b s n)
def X0 (r:List Pce×Int):PV:=.tup [.sl 3 (r.1.map qd),int r.2]
theorem vY (k:Int):Stands (.tup [.nil,int k]) (X0 ([],k)):=StandsL.tup (.cons (.nilOr (.inl ⟨rfl,rfl⟩)) (.cons (.refl _) .nil))
noncomputable abbrev Cbz:Ctx:=zF prog [(32,zd false [] (FBNI fun b s n=>int (chkL b s n))),(27,zd false [] (FXI (fun x n=>.sl 2 ((hasG [] n x.phases).map encS)) fun x _=>x.phases.length≤lim)),(38,Wt 3 39 cfS domP)]
theorem goodbz:AM.Good Cbz (fun g=>([]:List Nat).contains g):=zk mixed ⟨XW,by simp,KO,by simp,sortP_sound,by simp,trivial⟩
theorem X1 {layer:List UInt8} {n:Int} {l:List Xp} {k:Nat} (h:k<l.length):busL layer n (l.drop k)=(if l[k].layer=layer then JC l[k].name (hasG [] n l[k].phases) else [])++busL layer n (l.drop (k+1)):=by
 rw[List.drop_eq_getElem_cons h,busL]
theorem zbT {name:List UInt8} {l:List Sp} {i:Nat} (h:i<l.length):JC name (l.drop i)=(l[i],name)::JC name (l.drop (i+1)):=by
 rw[List.drop_eq_getElem_cons h];rfl
set_option maxHeartbeats 4000000 in
theorem Busy_eval (b:Bk) (s:List UInt8) (n:Int) (hb:b.cb≤lim):∃r0,zi Cbz f14 [.agg b.enc,str s,int n]=some r0∧Stands r0 (X0 (xe b s n)):=by
 refine qz rfl ?_
 have hlen:=zN xM b.exps
 have hbc:b.cb=sumB Lyr.cb b.layers+sumB Hld.cb b.holds+sumB Xp.cb b.exps:=rfl
 have hcl:=fun hp nx=>jx (fun b s n=>int (chkL b s n)) b s n hp nx hb
 simp only[Bk.enc] at hcl
 by_cases c1:chkL b s n=0
 case neg =>
  have hv:xe b s n=([],chkL b s n):=by unfold xe;rw[if_neg c1]
  have c1':(chkL b s n != 0)=true:=by simpa using c1
  rw[hv]
  simp[Bk.enc,hcl,c1',f14]
  exact⟨_,by simp,vY _⟩
 obtain⟨⟨_,hchk,_⟩,_⟩:=WB hb c1
 unfold lim at hb
 obtain⟨T,hT⟩:∃T,busL s n b.exps=T:=⟨_,rfl⟩
 have hTl:T.length≤1048576:=by have:=VH s n b.exps;rw[hT] at this;omega
 have hTok:JB T:=by rw[←hT];exact Zt hchk s n
 have hv:xe b s n=if (100:Int)<T.length then ([],2) else (vX T,0):=by unfold xe;rw[if_pos c1,hT]
 rw[hv]
 simp[Bk.enc,hcl,c1]
 refine zq (fun k σ hp nx=>σ 1=str s∧σ 2=int n∧σ 22=.sl 13 (b.exps.map Xp.enc)∧σ 23=int b.exps.length∧σ 24=int k∧∃d,OwnS hp nx 47 3 (σ 9) (d.map qd)∧d++busL s n (b.exps.drop k)=T) b.exps.length
  ⟨by simp,by simp,by simp,by simp,by simp,[],.inl (by simp),by simpa using hT⟩ ?_
 rintro k σ hp nx hk ⟨h1,h2,h22,h23,h24,d,hO,hd⟩
 by_cases hlt:k<b.exps.length
 ·obtain⟨x,hx⟩:∃x,b.exps[k]=x:=⟨_,rfl⟩
  have hxm:x∈b.exps:=by rw[←hx];exact List.getElem_mem hlt
  have hmx:=qt (f:=Xp.cb) hxm
  have hxc:x.cb=x.name.length+x.layer.length+x.flag.length+x.cond.cb+x.salt.length+x.arms.length+sumB Phs.cb x.phases:=rfl
  have hxpl:=zN jC x.phases
  rw[X1 hlt,hx] at hd
  have hw:IntKind.i64.wrap ((k:Int)+1)=(k:Int)+1:=zc (by omega) (by omega)
  have hO1:=hO.more (some (boxX x))
  by_cases c2:x.layer=s
  case neg =>
   have c2':(x.layer==s)=false:=by simpa using c2
   rw[if_neg c2,List.nil_append] at hd
   simp[h1,h2,h22,h23,h24,hlt,hx,zw,c2',hw]
   rw[boxX,zw] at hO1
   exact⟨by omega,d,hO1,hd⟩
  have c2':(x.layer==s)=true:=by simpa using c2
  rw[if_pos c2] at hd
  have hhc:=fun hp nx=>Yv (fun x n=>.sl 2 ((hasG [] n x.phases).map encS)) (fun x _=>x.phases.length≤lim) x n hp nx (by unfold lim;omega)
  obtain⟨L,hL⟩:∃L,hasG [] n x.phases=L:=⟨_,rfl⟩
  have hLl:L.length≤1048576:=by have:=QR n x.phases;rw[hL] at this;omega
  rw[hL] at hhc hd
  simp only[zw] at hhc
  simp[h1,h2,h22,h23,h24,hlt,hx,zw,c2',hhc]
  obtain⟨P,hP⟩:∃P,nx=P:=⟨_,rfl⟩
  rw[hP] at hO1 ⊢
  rw[boxX,zw] at hO1
  refine zq (fun i σ hp nx=>σ 1=str s∧σ 2=int n∧σ 22=.sl 13 (b.exps.map Xp.enc)∧σ 23=int b.exps.length∧σ 24=int k∧σ 11=.ref P 0 0∧σ 34=.sl 2 (L.map encS)∧σ 35=int L.length∧σ 36=int i∧P<nx∧hp P=some ⟨66,13,false,[x.enc]⟩∧∃d,OwnS hp nx 47 3 (σ 9) (d.map qd)∧d++(JC x.name (L.drop i)++busL s n (b.exps.drop (k+1)))=T) L.length
   ⟨by simp[h1],by simp[h2],by simp[h22],by simp[h23],by simp[h24],by simp,by simp,by simp,by simp,(by show P<P+1;omega),by simp[zw],d,by simpa using hO1,by simpa using hd⟩ ?_
  clear h1 h2 h22 h23 h24 hO hd hO1 hP d hk σ hp nx
  rintro i σ hp nx hi ⟨h1,h2,h22,h23,h24,h11,h34,h35,h36,hPn,hbP,d,hO,hd⟩
  by_cases hlti:i<L.length
  ·obtain⟨p,hpd⟩:∃p,L[i]=p:=⟨_,rfl⟩
   rw[zbT hlti,hpd] at hd
   have hwi:IntKind.i64.wrap ((i:Int)+1)=(i:Int)+1:=zc (by omega) (by omega)
   have nP:¬P=nx:=by omega
   have hdl:d.length+1≤1048576:=by
    have:=congrArg List.length hd
    simp only[List.length_append,List.length_cons] at this
    omega
   have hO1:=hO.more (some ⟨41,2,false,[encS p]⟩)
   have hap:=hO1.append1 (P:=prog) (t:=42) (c:=qd (p,x.name)) el42 sz47 by47 ze47 rfl (by omega) (by rw[List.length_map];unfold maxLen;omega) (by rw[List.length_map];omega)
   have hbs:∀hp nx,zf prog hp nx 42 1 [(0,.agg (qd (p,x.name)))]=some (.own nx 0 1,upd hp nx (some ⟨47,3,true,[qd (p,x.name)]⟩),nx+1):=fun hp nx=>by
    simp[zf,zn,zg,qd]
   have hke:=zU hO1 (upd (upd hp nx (some ⟨41,2,false,[encS p]⟩)) (nx+1) (some ⟨47,3,true,[qd (p,x.name)]⟩)) P (jl hO hbP rfl)
   have hbP':=hbP
   rw[zw] at hbP'
   rw[zl _ _ _ _ (show ¬P=nx+1 by omega),zl _ _ _ _ nP,hbP] at hke
   simp only[qd,encS,List.length_map] at hap hbs hke
   simp[h1,h2,h22,h23,h24,h11,h34,h35,h36,hlti,hpd,encS,hbP',nP,zt,zM,hbs,hap,hwi]
   refine⟨by omega,by omega,?_,d++[(p,x.name)],.inr ⟨nx+1+1,by omega,by simp,by simp[qd]⟩,by rw[List.append_assoc];exact hd⟩
   rw[zl _ _ _ _ (by omega)]
   exact hke
  ·obtain rfl:i=L.length:=by omega
   rw[List.drop_length,show JC x.name []=[] from rfl,List.nil_append] at hd
   simp[h1,h2,h22,h23,h24,h11,h34,h35,h36,hw]
   exact⟨by omega,d,hO,hd⟩
 ·obtain rfl:k=b.exps.length:=by omega
  rw[List.drop_length,busL,List.append_nil] at hd
  subst hd
  obtain⟨hp',hsc,hO'⟩:=sortP_call hTok hTl (jy hTok).1 hO
  have hlen2:=hO'.len (P:=prog) (t:=42) el42
  have hsl:(vX d).length=d.length:=(jy hTok).2.1.length_eq
  rw[List.length_map,hsl] at hlen2
  by_cases c3:(100:Int)<d.length
  ·rw[if_pos c3]
   simp[h1,h2,h22,h23,h24,hsc,hlen2,c3,f14]
   exact⟨_,by simp,vY _⟩
  ·rw[if_neg c3]
   simp[h1,h2,h22,h23,h24,hsc,hlen2,c3,f14]
   obtain⟨r0,g1,g2⟩:=hO'.freeze2 (.int .i64 0) nx
   exact⟨r0,g1,fun w S u hr=>Qn hr g2⟩
set_option maxRecDepth 100000 in
theorem Busy_sound:za prog 14 (zd false [] (FBNI fun b s n=>X0 (xe b s n))) :=
 yw (fn:=f14) goodbz ⟨_,func14,by kernel_rfl,rfl,by kernel_rfl⟩ false [] _ fun args r h w S vs hz=>by
  obtain⟨⟨b,s,n⟩,rfl,hx,rfl⟩:=ze h
  obtain⟨r0,h1,h2⟩:=Busy_eval b s n hx
  exact⟨_,r0,hz,by simp[f14],h1,h2⟩
theorem zdg (n:Int):∀(l:List Phs) (acc:List Sp),(hasG acc n l=acc∧∀p∈l,n<p.at_)∨∃(k:Nat) (p:Phs),l[k]?=some p∧p.at_≤n∧hasG acc n l=p.spans∧∀q,l[k+1]?=some q→n<q.at_
 | [],acc=>.inl ⟨rfl,fun p hp=>by simp at hp⟩
 | p0::l,acc=>by
   simp only[hasG]
   rcases zdg n l (if p0.at_≤n then p0.spans else acc) with⟨h1,h2⟩ | ⟨k,p,h1,h2,h3,h4⟩
   ·by_cases hc:p0.at_≤n
    ·rw[if_pos hc] at h1 ⊢
     refine .inr ⟨0,p0,rfl,hc,h1,fun q hq=>?_⟩
     exact h2 q (List.mem_of_getElem? (by simpa using hq))
    ·rw[if_neg hc] at h1 ⊢
     refine .inl ⟨h1,fun p hp=>?_⟩
     rcases List.mem_cons.1 hp with rfl | hp
     ·omega
     ·exact h2 p hp
   ·exact .inr ⟨k+1,p,by simpa using h1,h2,h3,fun q hq=>h4 q (by simpa using hq)⟩
theorem zbU {n:Int} {l:List Phs} (hn:n≤4000000000):hasG [] n l=[]∨∃(k:Nat) (p:Phs),l[k]?=some p∧p.at_≤n∧hasG [] n l=p.spans∧n<endF l k:=by
 rcases zdg n l [] with⟨h,_⟩ | ⟨k,p,h1,h2,h3,h4⟩
 ·exact .inl h
 ·refine .inr ⟨k,p,h1,h2,h3,?_⟩
  unfold endF
  split
  ·rename_i q hq;exact h4 q hq
  ·omega
theorem name_ne {s:List UInt8} (h:qj s=true):s≠[]:=fun e=>by
 rw[e] at h
 exact absurd h (by decide)
theorem KP {b:Bk} (h:zP b=0) (s:List UInt8):0≤w8 b.layers s∧w8 b.layers s≤100000000:=by
 unfold w8
 split
 ·rename_i y hy;exact (ZQ h).1 y (List.mem_of_getElem? hy)
 ·omega
theorem free_right {b:Bk} (h:zP b=0) (s t:List UInt8) (n:Int):qY (-1) (yI b s t n)∧Below 100000 (yI b s t n)∧(∀x∈yI b s t n,0≤x.1)∧∀k,mem (yI b s t n) k↔mem [(0,100000)] k∧¬mem (unf s t (w8 b.layers s) n b.exps) k:=by
 obtain⟨⟨c1,_⟩,hm⟩:=zdf (zdU h s t (w8 b.layers s) n)
 have c0:qY (-1) [((0:Int),(100000:Int))]:=⟨by omega,by omega,trivial⟩
 have hc:qY (-1) (yI b s t n):=Zn c0 c1
 have hmm:∀k,mem (yI b s t n) k↔mem [(0,100000)] k∧¬mem (unf s t (w8 b.layers s) n b.exps) k:=fun k=>by
  unfold yI
  rw[Yr c0 c1,hm]
 refine⟨hc,fun x hx=>?_,fun x hx=>?_,hmm⟩
 ·have:=yU hc x hx
  have:=((hmm (x.2 - 1)).1 ⟨x,hx,by omega,by omega⟩).1
  rw[Z5] at this
  omega
 ·have:=yU hc x hx
  have:=((hmm x.1).1 ⟨x,hx,by omega,by omega⟩).1
  rw[Z5] at this
  omega
def zdh (a b:Sp):Prop:=a.2≤b.1∨b.2≤a.1
theorem Yw:∀{lo:Int} {l:List Sp},qY lo l→∀s∈l,lo<s.1
 | _,[],_,s,h=>by simp at h
 | lo,x::l,hc,s,h=>by
   rcases List.mem_cons.1 h with rfl | h
   ·exact hc.1
   ·have:=Yw hc.2.2 s h
    have:=hc.1;have:=hc.2.1
    omega
theorem Zu:∀(l m:List Sp) {lo lo':Int},qY lo l→qY lo' m→w7 l m=false→∀a∈l,∀c∈m,zdh a c
 | [],m,_,_,_,_,_,a,ha,c,hc=>by simp at ha
 | x::l,[],_,_,_,_,_,a,ha,c,hc=>by simp at hc
 | x::l,y::m,lo,lo',h1,h2,h,a,ha,c,hc=>by
   rw[w7] at h
   split at h
   ·rename_i g
    have ih:=Zu l (y::m) h1.2.2 h2 h
    rcases List.mem_cons.1 ha with rfl | ha
    ·left
     rcases List.mem_cons.1 hc with rfl | hc
     ·exact g
     ·have:=Yw h2.2.2 c hc
      have:=h2.2.1
      omega
    ·exact ih a ha c hc
   ·split at h
    ·rename_i g
     have ih:=Zu (x::l) m h1 h2.2.2 h
     rcases List.mem_cons.1 hc with rfl | hc
     ·right
      rcases List.mem_cons.1 ha with rfl | ha
      ·exact g
      ·have:=Yw h1.2.2 a ha
       have:=h1.2.1
       omega
     ·exact ih a ha c hc
    ·exact absurd h (by simp)
termination_by l m=>l.length+m.length
theorem Yb {a b:List Phs} {i:Nat} {p:Phs} {rest:Int}:∀{l:List Phs} {k:Nat},kw a b i p rest k l=false→∀(m:Nat) (q:Phs),l[m]?=some q→hitB a b i (k+m) p q rest=false
 | [],k,_,m,q,hq=>by simp at hq
 | y::l,k,h,m,q,hq=>by
   simp only[kw,Bool.or_eq_false_iff] at h
   cases m with
   | zero=>simp at hq;subst hq;exact h.1
   | succ m =>
     have:=Yb h.2 m q (by simpa using hq)
     rw[show k+1+m=k+(m+1) by omega] at this
     exact this
theorem Yc {a b:List Phs} {rest:Int}:∀{l:List Phs} {i:Nat},kL a b rest i l=false→∀(m:Nat) (p:Phs),l[m]?=some p→kw a b (i+m) p rest 0 b=false
 | [],i,_,m,q,hq=>by simp at hq
 | y::l,i,h,m,q,hq=>by
   simp only[kL,Bool.or_eq_false_iff] at h
   cases m with
   | zero=>simp at hq;subst hq;exact h.1
   | succ m =>
     have:=Yc h.2 m q (by simpa using hq)
     rw[show i+1+m=i+(m+1) by omega] at this
     exact this
theorem clash_disj {x y:Xp} {rest n:Int} (hr:0≤rest) (hn:n≤4000000000) (h:xa x y rest=false) (hx:∀p∈x.phases,qa p.spans=0) (hy:∀p∈y.phases,qa p.spans=0):∀a∈hasG [] n x.phases,∀c∈hasG [] n y.phases,zdh a c:=by
 rcases zbU (l:=x.phases) hn with e | ⟨i,p,h1,h2,h3,h4⟩
 ·rw[e];intro a ha;simp at ha
 rcases zbU (l:=y.phases) hn with e | ⟨k,q,g1,g2,g3,g4⟩
 ·rw[e];intro a ha c hc;simp at hc
 rw[h3,g3]
 have hh:=Yb (Yc h i p h1) k q g1
 rw[Nat.zero_add,Nat.zero_add] at hh
 have hnear:XU x.phases y.phases i k p q rest=true:=by
  unfold XU
  rcases Int.le_total p.at_ q.at_ with hle | hle
  ·rw[decide_eq_true hle,decide_eq_true (show q.at_<endF x.phases i+rest by omega)];rfl
  ·rw[decide_eq_true hle,decide_eq_true (show p.at_<endF y.phases k+rest by omega)];simp
 unfold hitB at hh
 rw[hnear,Bool.true_and] at hh
 exact Zu p.spans q.spans (wN (hx p (List.mem_of_getElem? h1))).1 (wN (hy q (List.mem_of_getElem? g1))).1 hh
theorem zbV {L:List Lyr} {all:List Xp}:∀{l:List Xp} {k:Nat},l=all.drop k→clsF L all k l=false→∀j (hj:j<all.length),k≤j→(all.take j).any (cls1 all[j] (w8 L all[j].layer))=false
 | [],k,hl,_,j,hj,hkj=>by
   have:=congrArg List.length hl
   simp at this
   omega
 | x::l,k,hl,h,j,hj,hkj=>by
   simp only[clsF,Bool.or_eq_false_iff] at h
   have hk:k<all.length:=by omega
   rw[List.drop_eq_getElem_cons hk] at hl
   injection hl with e1 e2
   rcases Nat.eq_or_lt_of_le hkj with rfl | hlt
   ·rw[←e1];exact h.1
   ·exact zbV e2 h.2 j hj hlt
def zez (s:List UInt8) (n:Int) (x y:Xp):Prop:=x.layer=s→y.layer=s→∀a∈hasG [] n x.phases,∀c∈hasG [] n y.phases,zdh a c
theorem exps_apart {b:Bk} (h:zP b=0) (s:List UInt8) {n:Int} (hn:n≤4000000000):b.exps.Pairwise (zez s n):=by
 rw[List.pairwise_iff_getElem]
 intro i j hi hj hij hx hy
 obtain⟨_,hex,hcl⟩:=ZQ h
 have hc:=zbV (all:=b.exps) (k:=0) rfl hcl j hj (Nat.zero_le _)
 rw[List.any_eq_false] at hc
 have hm:b.exps[i]∈b.exps.take j:=by rw[List.mem_take_iff_getElem];exact⟨i,by omega,rfl⟩
 have hc:=hc _ hm
 have hcl:xa b.exps[j] b.exps[i] (w8 b.layers b.exps[j].layer)=false:=by
  simpa[cls1,hx,hy] using hc
 have:=clash_disj (KP h _).1 hn hcl (qR (hex _ (List.getElem_mem hj)).1) (qR (hex _ (List.getElem_mem hi)).1)
 exact fun a ha c hc=>(this c hc a ha).elim .inr .inl
def zeA (a b:Pce):Prop:=zdh a.1 b.1
theorem KQ:∀{lo:Int} {l:List Sp},qY lo l→l.Pairwise zdh
 | _,[],_=>.nil
 | lo,x::l,hc=>by
   refine .cons (fun y hy=>.inl ?_) (KQ hc.2.2)
   have:=Yw hc.2.2 y hy
   omega
theorem X2 (s:List UInt8) (n:Int):∀{l:List Xp},l.Pairwise (zez s n)→(∀x∈l,∃lo,qY lo (hasG [] n x.phases))→(busL s n l).Pairwise zeA
 | [],_,_=>.nil
 | x::l,hp,hc=>by
   rw[List.pairwise_cons] at hp
   simp only[busL]
   rw[List.pairwise_append]
   refine⟨?_,X2 s n hp.2 (fun y hy=>hc y (by simp[hy])),fun a ha c hcm=>?_⟩
   ·split
    ·obtain⟨lo,hlo⟩:=hc x (by simp)
     unfold JC
     rw[List.pairwise_map]
     exact KQ hlo
    ·exact .nil
   ·split at ha
    ·rename_i g
     obtain⟨t,ht,rfl⟩:=List.mem_map.1 ha
     obtain⟨y,hy,hl,hs⟩:=VI s n l c hcm
     exact hp.1 y hy g hl t ht c.1 hs
    ·simp at ha
theorem busy_apart {b:Bk} (h:zP b=0) (s:List UInt8) {n:Int} (hn:n≤4000000000):(vX (busL s n b.exps)).Pairwise fun a c=>a.1.2≤c.1.1:=by
 obtain⟨_,hperm,hsort⟩:=jy (Zt h s n)
 have hcan:∀x∈b.exps,∃lo,qY lo (hasG [] n x.phases):=fun x hx=>by
  rcases VG n x.phases [] with e | ⟨p,hp,e⟩
  ·exact⟨0,by rw[e];trivial⟩
  ·exact⟨-1,by rw[e];exact (wN (qR ((ZQ h).2.1 x hx).1 p hp)).1⟩
 have hd:=(hperm.pairwise_iff (R:=zeA) (fun h=>h.elim .inr .inl)).2 (X2 s n (exps_apart h s hn) hcan)
 rw[List.pairwise_iff_getElem] at hd hsort ⊢
 intro i j hi hj hij
 have h1:=hd i j hi hj hij
 have h2:=hsort i j hi hj hij
 have h3:=zaA h s n _ (hperm.mem_iff.1 (List.getElem_mem hj))
 rcases h1 with h1 | h1
 ·exact h1
 ·omega
def J8 (a c:Sp):Bool:=decide (a.1<c.2)&&decide (c.1<a.2)
def wo (a b:List Sp):Bool:=a.any fun s=>b.any (J8 s)
set_option maxHeartbeats 2000000 in
theorem rMeets_eval (a b:List Sp) (ha:a.length≤lim) (hb:b.length≤lim):zi C0 f162 [.sl 2 (a.map encS),.sl 2 (b.map encS)]=some (boo (wo a b)):=by
 unfold lim at ha hb
 refine zb rfl ?_
 simp
 refine zq (fun i σ hp nx=>σ 1=.sl 2 (b.map encS)∧σ 9=.sl 2 (a.map encS)∧σ 10=int a.length∧σ 11=int i∧wo a b=wo (a.drop i) b) a.length
  ⟨by simp,by simp,by simp,by simp,by simp⟩ ?_
 rintro i σ hp nx hi ⟨h1,h9,h10,h11,he⟩
 by_cases hlt:i<a.length
 ·obtain⟨s,hs⟩:∃s,a[i]=s:=⟨_,rfl⟩
  have hw:IntKind.i64.wrap ((i:Int)+1)=(i:Int)+1:=zc (by omega) (by omega)
  rw[List.drop_eq_getElem_cons hlt,hs] at he
  have he:wo a b=(b.any (J8 s)||wo (a.drop (i+1)) b):=by rw[he];simp[wo]
  simp[h1,h9,h10,h11,hlt,hs,encS]
  obtain⟨P,hP⟩:∃P,nx=P:=⟨_,rfl⟩
  rw[hP]
  refine zq (fun k σ hp nx=>σ 1=.sl 2 (b.map encS)∧σ 9=.sl 2 (a.map encS)∧σ 10=int a.length∧σ 11=int i∧σ 6=.ref P 0 0∧σ 15=.sl 2 (b.map encS)∧σ 16=int b.length∧σ 17=int k∧P<nx∧hp P=some ⟨41,2,false,[[int s.1,int s.2]]⟩∧wo a b=((b.drop k).any (J8 s)||wo (a.drop (i+1)) b)) b.length
   ⟨by simp[h1],by simp[h9],by simp[h10],by simp[h11],by simp,by simp,by simp,by simp,(by show P<P+1;omega),by simp,by simpa using he⟩ ?_
  clear h1 h9 h10 h11 he hi hP σ hp nx
  rintro k σ hp nx hk ⟨h1,h9,h10,h11,h6,h15,h16,h17,hPn,bP,he⟩
  by_cases hltk:k<b.length
  ·obtain⟨t,ht⟩:∃t,b[k]=t:=⟨_,rfl⟩
   have hwk:IntKind.i64.wrap ((k:Int)+1)=(k:Int)+1:=zc (by omega) (by omega)
   have nP:¬P=nx:=by omega
   rw[List.drop_eq_getElem_cons hltk,ht,List.any_cons] at he
   have hov:(decide (s.1<t.2)&&decide (t.1<s.2))=J8 s t:=rfl
   cases hh:J8 s t
   ·rw[hh,Bool.false_or] at he
    simp[h1,h6,h9,h10,h11,h15,h16,h17,hltk,ht,encS,bP,nP,hov,hh,hwk]
    exact⟨by omega,by omega,he⟩
   ·rw[hh,Bool.true_or,Bool.true_or] at he
    simp[h1,h6,h9,h10,h11,h15,h16,h17,hltk,ht,encS,bP,nP,hov,hh,he,f162]
  ·obtain rfl:k=b.length:=by omega
   rw[List.drop_length,List.any_nil,Bool.false_or] at he
   simp[h1,h6,h9,h10,h11,h15,h16,h17,hw]
   exact⟨by omega,he⟩
 ·obtain rfl:i=a.length:=by omega
  rw[List.drop_length] at he
  have he:wo a b=false:=by rw[he];rfl
  simp[h1,h9,h10,h11,he,f162]
theorem rMeets_sound:za prog 162 (zd false [] (FPP (fun a b=>boo (wo a b)) fun a b=>a.length≤lim∧b.length≤lim)) :=
 zI (fn:=f162) qA ⟨_,func162,by kernel_rfl,rfl,by kernel_rfl⟩ false [] _ fun args r h=>by
  obtain⟨⟨a,b⟩,rfl,hx,rfl⟩:=ze h
  exact⟨by simp[f162],_,rMeets_eval a b hx.1 hx.2,zG _⟩
theorem WC:∀(l m:List Sp),w7 l m=true→∃a∈l,∃c∈m,J8 a c=true
 | [],m,h=>by rw[Jw] at h;cases h
 | x::l,[],h=>by rw[Jy] at h;cases h
 | x::l,y::m,h=>by
   rw[w7] at h
   split at h
   ·obtain⟨a,ha,c,hc,e⟩:=WC l (y::m) h
    exact⟨a,by simp[ha],c,hc,e⟩
   ·split at h
    ·obtain⟨a,ha,c,hc,e⟩:=WC (x::l) m h
     exact⟨a,ha,c,by simp[hc],e⟩
    ·exact⟨x,by simp,y,by simp,by simp[J8];omega⟩
termination_by l m=>l.length+m.length
theorem WD {a b:List Sp} (ha:qa a=0) (hb:qa b=0):wo a b=w7 a b:=by
 have key:wo a b=true↔∃x∈a,∃y∈b,J8 x y=true:=by simp[wo]
 cases h:w7 a b
 ·rw[Bool.eq_false_iff]
  intro hr
  obtain⟨x,hx,y,hy,e⟩:=key.1 hr
  have:=Zu a b (wN ha).1 (wN hb).1 h x hx y hy
  simp[J8] at e
  rcases this with g | g<;>omega
 ·exact key.2 (WC a b h)
def endR (l:List Phs) (i:Nat):Int:=match l[i+1]? with
 | some p=>p.at_
 | none=>8200000000
noncomputable def FXn (out:Xp→Nat→PV):List PV→Option PV:=zH (α:=Xp×Nat) (fun a=>[.agg a.1.enc,int a.2]) (fun a=>a.1.phases.length≤lim∧a.2≤lim) (fun a=>out a.1 a.2)
theorem zbW (out:Xp→Nat→PV) (x:Xp) (n:Nat) (hp:Hp) (nx:Nat) (h:x.phases.length≤lim∧n≤lim):zd false [] (FXn out) [.agg x.enc,int n] hp nx=some (out x n,hp,nx) :=
 zy (hp1:=hp) (show zj hp [.agg x.enc,int n]=some ([.agg x.enc,int n],hp) by simp only[zj,xQ];rfl) (zm (enc:=fun a:Xp×Nat=>[.agg a.1.enc,int a.2]) (a:=(x,n)) (fun x y e=>by
  obtain⟨x1,x2⟩:=x;obtain⟨y1,y2⟩:=y
  simp only[List.cons.injEq,and_true,PV.agg.injEq] at e
  have:=zB e.2
  rw[xL e.1,show x2=y2 by omega]) h) (.inr (by simp only[List.all_cons,VB];rfl))
theorem KR:za prog 111 (zd false [] (FXn fun x i=>int (endR x.phases i))) :=
 zI (fn:=f111) qA ⟨_,func111,by kernel_rfl,rfl,by kernel_rfl⟩ false [] _ fun args r h=>by
  obtain⟨⟨x,i⟩,rfl,⟨h1,h2⟩,rfl⟩:=ze h
  unfold lim at h1 h2
  simp only at h1 h2
  refine⟨by simp[f111],_,zb rfl ?_,zG _⟩
  have w1:IntKind.i64.wrap ((i:Int)+1)=(i:Int)+1:=zc (by omega) (by omega)
  by_cases hlt:i+1<x.phases.length
  ·have hlt':(i:Int)+1<x.phases.length:=by omega
   have i1:((i:Int)+1).toNat=i+1:=by omega
   have i2:0≤(i:Int)+1:=by omega
   simp[zw,w1,hlt,hlt',i1,i2,endR,Phs.enc,f111]
  ·have hlt':¬(i:Int)+1<x.phases.length:=by omega
   have hno:x.phases[i+1]?=none:=List.getElem?_eq_none (by omega)
   simp[zw,w1,hlt',endR,hno,f111]
end Go.Proofs.YtdkfdoeijcfbhaaGreatDoor
